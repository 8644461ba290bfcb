/- It is proved that the law FnExactCrewCancel returns true for every input and leaves its input as it was; no condition. -/
import Derived.Test.YtlajnafcfngkaaaKC4
set_option linter.unusedSimpArgs false
namespace Go.V
open Go.Proofs
abbrev bI (v : Nat) (xs : List Int) : Blk := .arr v true 1 3 (en eI xs)
abbrev bH (v : Nat) (xs : List Hd) : Blk := .arr v true 2 70 (en eH xs)
/-- A world whose rows are arrays of its own. -/
abbrev oC (c1 c2 c3 c4 c5 c6 c7 v1 v2 v3 v4 v5 v6 v7 : Nat) (w : CW) : List C := [iC w.jobs, iC w.workers, iC w.window, iC w.next, iC w.reader, .own c1 v1 w.queue.length, .own c2 v2 w.hands.length, iC w.closer, .own c3 v3 w.results.length, iC w.keeper, .own c4 v4 w.ring.length, iC w.due, .own c5 v5 w.out.length, iC w.user, .own c6 v6 w.got.length, iC w.room, .own c7 v7 w.shut.length, iC w.ops]
/-- A world's seven arrays, new. -/
abbrev wnH (c1 c2 c3 c4 c5 c6 c7 m : Nat) (w : CW) : List Hand := [newH c1 (m + 1) 1 3 (en eI w.queue), newH c2 (m + 2) 2 70 (en eH w.hands), newH c3 (m + 3) 1 3 (en eI w.results), newH c4 (m + 4) 1 3 (en eI w.ring), newH c5 (m + 5) 1 3 (en eI w.out), newH c6 (m + 6) 1 3 (en eI w.got), newH c7 (m + 7) 1 3 (en eI w.shut)]
/-- What the caller gets. -/
abbrev wO (m n : Nat) (w : CW) : List (Nat × Blk) := [(m + 1, bI n w.queue), (m + 2, bH n w.hands), (m + 3, bI n w.results), (m + 4, bI n w.ring), (m + 5, bI n w.out), (m + 6, bI n w.got), (m + 7, bI n w.shut)]
abbrev wN (m : Nat) : List Nat := [m + 1, m + 2, m + 3, m + 4, m + 5, m + 6, m + 7]
section
variable {P : Program} {t : Nat → T} {H : HMap} {c : Nat} {f : Opd} {args : List Opd} {fid : FuncId} {k : Nat} {d : Option Nat} {un : List Nat} {l : List AOper} {prev : List (Nat × List Nat × List Nat)} {K : St → Prop} {ws : List (Nat × Blk)} {ns : List Nat} {argsC : List T}
theorem wn_ren (c1 c2 c3 c4 c5 c6 c7 m nv : Nat) (w : CW) (hc : [c1, c2, c3, c4, c5, c6, c7].Nodup) (hs : List Hand) (h0 : ∀ i, i ∈ [c1, c2, c3, c4, c5, c6, c7] → renN hs i = renN (wnH c1 c2 c3 c4 c5 c6 c7 m w) i) : renOs hs nv (oC c1 c2 c3 c4 c5 c6 c7 0 0 0 0 0 0 0 w) = some (oC (m + 1) (m + 2) (m + 3) (m + 4) (m + 5) (m + 6) (m + 7) nv nv nv nv nv nv nv w) := by
  simp only [List.nodup_cons, List.mem_cons, List.not_mem_nil, or_false, not_or, not_false_eq_true, List.nodup_nil, and_true] at hc
  obtain ⟨⟨h12, h13, h14, h15, h16, h17⟩, ⟨h23, h24, h25, h26, h27⟩, ⟨h34, h35, h36, h37⟩, ⟨h45, h46, h47⟩, ⟨h56, h57⟩, h67⟩ := hc
  have N1 : renN hs c1 = some (newH c1 (m + 1) 1 3 (en eI w.queue)) := by rw [h0 _ (by simp)]; simp [renN]
  have N2 : renN hs c2 = some (newH c2 (m + 2) 2 70 (en eH w.hands)) := by rw [h0 _ (by simp)]; simp [renN, h12]
  have N3 : renN hs c3 = some (newH c3 (m + 3) 1 3 (en eI w.results)) := by rw [h0 _ (by simp)]; simp [renN, h13, h23]
  have N4 : renN hs c4 = some (newH c4 (m + 4) 1 3 (en eI w.ring)) := by rw [h0 _ (by simp)]; simp [renN, h14, h24, h34]
  have N5 : renN hs c5 = some (newH c5 (m + 5) 1 3 (en eI w.out)) := by rw [h0 _ (by simp)]; simp [renN, h15, h25, h35, h45]
  have N6 : renN hs c6 = some (newH c6 (m + 6) 1 3 (en eI w.got)) := by rw [h0 _ (by simp)]; simp [renN, h16, h26, h36, h46, h56]
  have N7 : renN hs c7 = some (newH c7 (m + 7) 1 3 (en eI w.shut)) := by rw [h0 _ (by simp)]; simp [renN, h17, h27, h37, h47, h57, h67]
  simp only [renOs, renO, N1, N2, N3, N4, N5, N6, N7, Option.map_some, verOf]; rfl
theorem wn_bs (c1 c2 c3 c4 c5 c6 c7 m nv : Nat) (w : CW) (hs : List Hand) : renOBs hs nv (wnH c1 c2 c3 c4 c5 c6 c7 m w) = some (wO m nv w) := by
  simp only [renOBs, renOB, verOf]; rfl
theorem wn_flat (c1 c2 c3 c4 c5 c6 c7 m : Nat) (w : CW) : ((wnH c1 c2 c3 c4 c5 c6 c7 m w).all fun h => h.b.isNone && flatB h.b') = true := by
  simp only [List.all_cons, List.all_nil, flatB, en_flat eI eI_flat, en_flat eH eH_flat]; rfl
theorem wn_m (c1 c2 c3 c4 c5 c6 c7 m : Nat) (w : CW) : ((wnH c1 c2 c3 c4 c5 c6 c7 m w).map (·.m)).Nodup := by simp
/-- A call that makes a world. -/
theorem callW7 {c1 c2 c3 c4 c5 c6 c7 m : Nat} {w : CW} (hC : ACallsF P fid argsC (wnH c1 c2 c3 c4 c5 c6 c7 m w) (.pt (.agg (oC c1 c2 c3 c4 c5 c6 c7 0 0 0 0 0 0 0 w)))) (hf : ev t f = .pt (.one (.fn fid []))) (hl : lendTs H argsC (args.map (ev t)) = some (argsC, ws, ns)) (ha : argsC.all closedA = true) (hc : [c1, c2, c3, c4, c5, c6, c7].Nodup)
    (hk : chk prev un ⟨.pt (.agg (oC (m + 1) (m + 2) (m + 3) (m + 4) (m + 5) (m + 6) (m + 7) (c + k) (c + k) (c + k) (c + k) (c + k) (c + k) (c + k) w)), wO m (c + k) w, ns ++ wN m, wN m⟩ = true ∧ DRun P l ((k, ns ++ wN m, wN m) :: prev) K ⟨updD t d (.pt (.agg (oC (m + 1) (m + 2) (m + 3) (m + 4) (m + 5) (m + 6) (m + 7) (c + k) (c + k) (c + k) (c + k) (c + k) (c + k) (c + k) w))), updH H (wO m (c + k) w), c⟩) :
    step P k d un (.call f args) l prev K t H c := by
  refine callF (r' := .pt (.agg (oC (m + 1) (m + 2) (m + 3) (m + 4) (m + 5) (m + 6) (m + 7) (c + k) (c + k) (c + k) (c + k) (c + k) (c + k) (c + k) w))) (ob := wO m (c + k) w) _ hC hf hl ha (by simp) (wn_m _ _ _ _ _ _ _ _ _) (by simpa using hc) ?_ ?_ (wn_bs _ _ _ _ _ _ _ _ _ _ _) hk
  · simp only [quiet, wn_flat]; rfl
  · simp only [renOT, renOP, wn_ren _ _ _ _ _ _ _ m (c + k) w hc (wnH c1 c2 c3 c4 c5 c6 c7 m w) (fun _ _ => rfl), Option.map_some]
/-- A call that makes a world and says yes. -/
theorem callW7b {c1 c2 c3 c4 c5 c6 c7 m : Nat} {w : CW} {b : Bool} (hC : ACallsF P fid argsC (wnH c1 c2 c3 c4 c5 c6 c7 m w) (.tup [.agg (oC c1 c2 c3 c4 c5 c6 c7 0 0 0 0 0 0 0 w), .one (.v (.s (.bool b)))])) (hf : ev t f = .pt (.one (.fn fid []))) (hl : lendTs H argsC (args.map (ev t)) = some (argsC, ws, ns)) (ha : argsC.all closedA = true) (hc : [c1, c2, c3, c4, c5, c6, c7].Nodup)
    (hk : chk prev un ⟨.tup [.agg (oC (m + 1) (m + 2) (m + 3) (m + 4) (m + 5) (m + 6) (m + 7) (c + k) (c + k) (c + k) (c + k) (c + k) (c + k) (c + k) w), .one (.v (.s (.bool b)))], wO m (c + k) w, ns ++ wN m, wN m⟩ = true ∧ DRun P l ((k, ns ++ wN m, wN m) :: prev) K ⟨updD t d (.tup [.agg (oC (m + 1) (m + 2) (m + 3) (m + 4) (m + 5) (m + 6) (m + 7) (c + k) (c + k) (c + k) (c + k) (c + k) (c + k) (c + k) w), .one (.v (.s (.bool b)))]), updH H (wO m (c + k) w), c⟩) :
    step P k d un (.call f args) l prev K t H c := by
  refine callF (r' := .tup [.agg (oC (m + 1) (m + 2) (m + 3) (m + 4) (m + 5) (m + 6) (m + 7) (c + k) (c + k) (c + k) (c + k) (c + k) (c + k) (c + k) w), .one (.v (.s (.bool b)))]) (ob := wO m (c + k) w) _ hC hf hl ha (by simp) (wn_m _ _ _ _ _ _ _ _ _) (by simpa using hc) ?_ ?_ (wn_bs _ _ _ _ _ _ _ _ _ _ _) hk
  · simp only [quiet, wn_flat]; rfl
  · simp only [renOT, renOPs, renOP, wn_ren _ _ _ _ _ _ _ m (c + k) w hc (wnH c1 c2 c3 c4 c5 c6 c7 m w) (fun _ _ => rfl), Option.map_some, renO]
/-- A call of a method that looks at a world and makes one. -/
theorem callP7 {c1 c2 c3 c4 c5 c6 c7 m m0 v : Nat} {w w' : CW} (hC : ∀ m0 v m, ACallsF P fid [wP 1000 v] (wHd m0 v w :: wnH c1 c2 c3 c4 c5 c6 c7 m w') (.pt (.agg (oC c1 c2 c3 c4 c5 c6 c7 0 0 0 0 0 0 0 w')))) (hf : ev t f = .pt (.one (.fn fid []))) (hl : args.map (ev t) = [wP m0 v]) (hH : H m0 = some (cwB v w)) (hc : [c1, c2, c3, c4, c5, c6, c7].Nodup) (hc2 : 1000 ∉ [c1, c2, c3, c4, c5, c6, c7]) (hm : m0 ∉ wN m)
    (hk : chk prev un ⟨.pt (.agg (oC (m + 1) (m + 2) (m + 3) (m + 4) (m + 5) (m + 6) (m + 7) (c + k) (c + k) (c + k) (c + k) (c + k) (c + k) (c + k) w')), (m0, cwB v w) :: wO m (c + k) w', m0 :: wN m, m0 :: wN m⟩ = true ∧ DRun P l ((k, m0 :: wN m, m0 :: wN m) :: prev) K ⟨updD t d (.pt (.agg (oC (m + 1) (m + 2) (m + 3) (m + 4) (m + 5) (m + 6) (m + 7) (c + k) (c + k) (c + k) (c + k) (c + k) (c + k) (c + k) w'))), updH H (wO m (c + k) w'), c⟩) :
    step P k d un (.call f args) l prev K t H c := by
  have hN : ∀ hs : List Hand, renN (wHd m0 v w :: hs) 1000 = some (wHd m0 v w) := fun hs => by simp [renN]
  have hcl : (cwC w).all closedC = true := rfl
  have hb : ∀ hs, renIB hs (cwB v w) = some (cwB v w) := fun hs => by simp only [renIB, (closed_Cs hs H (cwC w) hcl).2.1, Option.map_some]
  refine callW (caps := []) («as» := [wP m0 v]) (ws := []) (ns := []) (r' := .pt (.agg (oC (m + 1) (m + 2) (m + 3) (m + 4) (m + 5) (m + 6) (m + 7) (c + k) (c + k) (c + k) (c + k) (c + k) (c + k) (c + k) w'))) (ob := (m0, cwB v w) :: wO m (c + k) w') (wHd m0 v w :: wnH c1 c2 c3 c4 c5 c6 c7 m w') (hC m0 v m) hf ?_ ?_ ⟨?_, trivial, trivial, trivial, trivial, trivial, trivial, trivial, trivial⟩ ?_ ?_ ?_ ?_ ?_
  · rw [hl]; rfl
  · simp only [renITs, wP, T.c, renIT, renI, inN, hN, Option.bind_some, Option.map_some]
  · show (match renIB (wHd m0 v w :: wnH c1 c2 c3 c4 c5 c6 c7 m w') (cwB v w) with | some B => (updH H []) m0 = some B | none => False)
    rw [hb]; exact hH
  · rw [List.map_cons, List.nodup_cons]
    exact ⟨by simpa using hm, wn_m _ _ _ _ _ _ _ _ _⟩
  · rw [List.map_cons, List.nodup_cons]
    exact ⟨by simpa using hc2, by simpa using hc⟩
  · simp only [renOT, renOP]
    have hr := wn_ren _ _ _ _ _ _ _ m (c + k) w' hc (wHd m0 v w :: wnH c1 c2 c3 c4 c5 c6 c7 m w') fun i hi => by
      have : (1000 == i) = false := beq_eq_false_iff_ne.2 fun e => hc2 (e ▸ hi)
      simp only [renN, List.find?, this]
    rw [hr]; rfl
  · have h1 : renOB (wHd m0 v w :: wnH c1 c2 c3 c4 c5 c6 c7 m w') (c + k) (verOf (c + k) (wHd m0 v w)) (cwB v w) = some (cwB v w) := by
      simp only [renOB, verOf, Blk.ver, if_true]
      rw [(closed_Cs _ H (cwC w) hcl).2.2]
      rfl
    simp only [renOBs]
    rw [h1]
    have := wn_bs c1 c2 c3 c4 c5 c6 c7 m (c + k) w' (wHd m0 v w :: wnH c1 c2 c3 c4 c5 c6 c7 m w')
    simp only [renOBs] at this
    rw [this]
  · have e1 : (if quiet (.pt (.agg (oC c1 c2 c3 c4 c5 c6 c7 0 0 0 0 0 0 0 w'))) (wHd m0 v w :: wnH c1 c2 c3 c4 c5 c6 c7 m w') = true then ([] : List (Nat × Blk)) else []) = [] := by split <;> rfl
    have e2 : (if quiet (.pt (.agg (oC c1 c2 c3 c4 c5 c6 c7 0 0 0 0 0 0 0 w'))) (wHd m0 v w :: wnH c1 c2 c3 c4 c5 c6 c7 m w') = true then ([] : List Nat) else []) = [] := by split <;> rfl
    rw [e1, e2]
    have e3 : updH H ([] ++ ((m0, cwB v w) :: wO m (c + k) w')) = updH H (wO m (c + k) w') := by
      show updH (updH H [(m0, cwB v w)]) _ = _
      rw [updH_same hH]
    rw [e3]
    exact hk
end
end Go.V
set_option linter.unusedSimpArgs false
namespace Go.V
open Go.Proofs
/- slices.Clone[[]int,int] -/
def r55_0 : List AOper := [ao 0 2 (.mv (.k (.c .nil0)))]
def r55_1 : List AOper := [ao 0 3 (.mv (.t 0)),
  ao 1 4 (.isnil false (.t 3))]
def r55_2 : List AOper := [ao 0 2 (.mv (.k (.c .nil0)))]
def c55_3 : ACode := .seq (.reg r55_2) .ret
def c55_4 : ACode := .cond (.t 4) c55_3 .skip
def c55_5 : ACode := .seq (.reg r55_1) c55_4
def r55_6 : List AOper := [ao 0 5 (.bsl 1 3 []),
  ao 1 6 (.mv (.t 0)),
  ao 2 7 (.app 1 3 8 (.t 5) (.t 6)),
  ao 3 2 (.mv (.t 7))]
def c55 : ACode := .seq (.reg r55_0) (.seq c55_5 (.seq (.reg r55_6) .ret))
def s55 : List ARes := [.tmp 2]
theorem ok55 : okF Try.prog 55 8 c55 s55 := ⟨Try.f55, Try.func55, Try.ntmps55, by kernel_rfl, by kernel_rfl, by kernel_rfl⟩
def UCv_1 := Bx.mk <|
  aN (uA c55.eq_1) <| aN (uR r55_0.eq_1) <| aN (uA c55_5.eq_1) <| aN (uR r55_1.eq_1) <| aN (uA c55_4.eq_1) <| aN (uA c55_3.eq_1) <| aN (uR r55_2.eq_1) <| aN (uR r55_6.eq_1) <| s55.eq_1
theorem cloneI_ok (xs : List Int) (hl : xs.length ≤ 2000000) (m : Nat) : ACallsF Try.prog 55 [tL (en eI xs)] [newH 5 m 1 3 (en eI xs)] (.c (.own 5 0 xs.length)) := by
  have q1 : xs.length * 8 ≤ 140737488355328 := by omega
  have q2 : xs.length ≤ 9223372036854775807 := by omega
  have hb1 : (true != false) = true := rfl
  have hb2 : (false != false) = false := rfl
  cases xs with
  | nil =>
    refine nilArgH fun ad c => ?_
    cases ad with
    | none =>
      refine ownNil (by decide) (ACallsF.intro ok55 follows fun X c0 => ?_)
      simp only [RUX, Nat.reduceAdd, reduceIte, Nat.reduceEqDiff, Nat.reduceLT, Nat.reduceLeDiff, reduceCtorEq, eq_self, FIX, forall_const, endE_n, endE_r, CHT, disj, Nat.reduceBEq, beq_self_eq_true, APT, APX, forall_eq, ALT, KI, UCv_1.d, Option.isNone_none, hb1]
    | some a =>
      refine ACallsF.intro ok55 follows fun X c0 => ?_
      simp only [RUX, Nat.reduceAdd, reduceIte, Nat.reduceEqDiff, Nat.reduceLT, Nat.reduceLeDiff, reduceCtorEq, eq_self, FIX, forall_const, endE_n, endE_r, CHT, disj, Nat.reduceBEq, beq_self_eq_true, APT, APX, forall_eq, ALT, KI, UCv_1.d, Option.isNone_some, hb2, Nat.zero_mul, Nat.zero_le, List.not_mem_nil, false_implies, implies_true, imp_self]
  | cons y ys =>
    refine ACallsF.intro ok55 follows fun X c0 => ?_
    obtain ⟨x, es, he⟩ : ∃ x es, en eI (y :: ys) = x :: es := ⟨_, _, rfl⟩
    have hall := en_all eI eI_len (y :: ys)
    have hlen := en_len eI (y :: ys)
    rw [he] at hall hlen ⊢
    simp only [List.length_cons] at hlen q1 q2
    have hlen' : es.length = ys.length := by omega
    simp only [RUX, Nat.reduceAdd, reduceIte, Nat.reduceEqDiff, Nat.reduceLT, Nat.reduceLeDiff, reduceCtorEq, eq_self, FIX, forall_const, endE_n, endE_r, CHT, disj, Nat.reduceBEq, beq_self_eq_true, APT, srcOf, sealPs, sealCs, sealC, UCv_1.d, hall, hlen', q1, q2, Nat.zero_add, imp_self]
/- slices.Clone[[]loop.example/teagle/impl.CrewHand,loop.example/teagle/impl.CrewHand] -/
def r56_0 : List AOper := [ao 0 2 (.mv (.k (.c .nil0)))]
def r56_1 : List AOper := [ao 0 3 (.mv (.t 0)),
  ao 1 4 (.isnil false (.t 3))]
def r56_2 : List AOper := [ao 0 2 (.mv (.k (.c .nil0)))]
def c56_3 : ACode := .seq (.reg r56_2) .ret
def c56_4 : ACode := .cond (.t 4) c56_3 .skip
def c56_5 : ACode := .seq (.reg r56_1) c56_4
def r56_6 : List AOper := [ao 0 5 (.bsl 2 70 []),
  ao 1 6 (.mv (.t 0)),
  ao 2 7 (.app 2 70 16 (.t 5) (.t 6)),
  ao 3 2 (.mv (.t 7))]
def c56 : ACode := .seq (.reg r56_0) (.seq c56_5 (.seq (.reg r56_6) .ret))
def s56 : List ARes := [.tmp 2]
theorem ok56 : okF Try.prog 56 8 c56 s56 := ⟨Try.f56, Try.func56, Try.ntmps56, by kernel_rfl, by kernel_rfl, by kernel_rfl⟩
def UCv_2 := Bx.mk <|
  aN (uA c56.eq_1) <| aN (uR r56_0.eq_1) <| aN (uA c56_5.eq_1) <| aN (uR r56_1.eq_1) <| aN (uA c56_4.eq_1) <| aN (uA c56_3.eq_1) <| aN (uR r56_2.eq_1) <| aN (uR r56_6.eq_1) <| s56.eq_1
theorem cloneH_ok (xs : List Hd) (hl : xs.length ≤ 2000000) (m : Nat) : ACallsF Try.prog 56 [tL (en eH xs)] [newH 5 m 2 70 (en eH xs)] (.c (.own 5 0 xs.length)) := by
  have q1 : xs.length * 16 ≤ 140737488355328 := by omega
  have q2 : xs.length ≤ 9223372036854775807 := by omega
  have hb1 : (true != false) = true := rfl
  have hb2 : (false != false) = false := rfl
  cases xs with
  | nil =>
    refine nilArgH fun ad c => ?_
    cases ad with
    | none =>
      refine ownNil (by decide) (ACallsF.intro ok56 follows fun X c0 => ?_)
      simp only [RUX, Nat.reduceAdd, reduceIte, Nat.reduceEqDiff, Nat.reduceLT, Nat.reduceLeDiff, reduceCtorEq, eq_self, FIX, forall_const, endE_n, endE_r, CHT, disj, Nat.reduceBEq, beq_self_eq_true, APT, APX, forall_eq, ALT, KI, UCv_2.d, Option.isNone_none, hb1]
    | some a =>
      refine ACallsF.intro ok56 follows fun X c0 => ?_
      simp only [RUX, Nat.reduceAdd, reduceIte, Nat.reduceEqDiff, Nat.reduceLT, Nat.reduceLeDiff, reduceCtorEq, eq_self, FIX, forall_const, endE_n, endE_r, CHT, disj, Nat.reduceBEq, beq_self_eq_true, APT, APX, forall_eq, ALT, KI, UCv_2.d, Option.isNone_some, hb2, Nat.zero_mul, Nat.zero_le, List.not_mem_nil, false_implies, implies_true, imp_self]
  | cons y ys =>
    refine ACallsF.intro ok56 follows fun X c0 => ?_
    obtain ⟨x, es, he⟩ : ∃ x es, en eH (y :: ys) = x :: es := ⟨_, _, rfl⟩
    have hall := en_all eH eH_len (y :: ys)
    have hlen := en_len eH (y :: ys)
    rw [he] at hall hlen ⊢
    simp only [List.length_cons] at hlen q1 q2
    have hlen' : es.length = ys.length := by omega
    simp only [RUX, Nat.reduceAdd, reduceIte, Nat.reduceEqDiff, Nat.reduceLT, Nat.reduceLeDiff, reduceCtorEq, eq_self, FIX, forall_const, endE_n, endE_r, CHT, disj, Nat.reduceBEq, beq_self_eq_true, APT, srcOf, sealPs, sealCs, sealC, UCv_2.d, hall, hlen', q1, q2, Nat.zero_add, imp_self]
def zI : Int := 0
def zH : Hd := ⟨0, 0⟩
/- loop.example/teagle/laws.toCrewHand -/
def r49_0 : List AOper := [ao 0 1 (.box 73 (.t 0)),
  ao 1 2 (.alloc 70 [(.v (.s (.int .i64 0))), (.v (.s (.int .i64 0)))])]
def r49_1 : List AOper := [ao 0 3 (.alloc 70 [(.v (.s (.int .i64 0))), (.v (.s (.int .i64 0)))])]
def r49_2 : List AOper := [ao 0 4 (.fa 0 (.t 1)),
  ao 1 5 (.ld 1 false (.t 4)),
  ao 2 6 (.fa 0 (.t 3)),
  an 3 (.st 1 (.t 6) (.t 5))]
def r49_3 : List AOper := [ao 0 7 (.fa 1 (.t 1)),
  ao 1 8 (.ld 1 false (.t 7)),
  ao 2 9 (.fa 1 (.t 3)),
  an 3 (.st 1 (.t 9) (.t 8))]
def r49_4 : List AOper := [ao 0 10 (.ld 2 true (.t 3)),
  an 1 (.st 2 (.t 2) (.t 10))]
def c49 : ACode := .seq (.reg r49_0) (.seq (.reg r49_1) (.seq (.reg r49_2) (.seq (.reg r49_3) (.seq (.reg r49_4) .ret))))
def s49 : List ARes := [.cell 2 2 true]
theorem ok49 : okF Try.prog 49 11 c49 s49 := ⟨Try.f49, Try.func49, Try.ntmps49, by kernel_rfl, by kernel_rfl, by kernel_rfl⟩
def UCv_3 := Bx.mk <|
  aN (uA c49.eq_1) <| aN (uR r49_0.eq_1) <| aN (uR r49_1.eq_1) <| aN (uR r49_2.eq_1) <| aN (uR r49_3.eq_1) <| aN (uR r49_4.eq_1) <| s49.eq_1
theorem toHd_ok (x : Hd) : ACallsF Try.prog 49 [tH x] [] (tH x) := by
  refine ACallsF.intro ok49 follows fun X c0 => ?_
  simp only [RUX, Nat.reduceAdd, reduceIte, Nat.reduceEqDiff, Nat.reduceLT, Nat.reduceLeDiff, reduceCtorEq, eq_self, FIX, forall_const, endE_n, endE_r, CHT, disj, Nat.reduceBEq, beq_self_eq_true, APT, APX, forall_eq, ALT, KI, UCv_3.d]
/- loop.example/teagle/laws.toIntS -/
def r21_0 : List AOper := [ao 0 2 (.mv (.k (.c .nil0)))]
def r21_1 : List AOper := [ao 0 5 (.mv (.t 0)),
  ao 1 6 (.len (.t 5)),
  ao 2 7 (.mks 1 3 8 [(.s (.int .i64 0))] (.t 6) (.t 6)),
  ao 3 3 (.mv (.t 7))]
def r21_2 : List AOper := [ao 0 4 (.mv (.k (.i 0)))]
def r21_3 : List AOper := [ao 0 8 (.mv (.t 4)),
  ao 1 9 (.mv (.t 0)),
  ao 2 10 (.len (.t 9)),
  ao 3 11 (.bin .lss (.t 8) (.t 10))]
def c21_4 : ACode := .cond (.t 11) .skip (.exit 0)
def c21_5 : ACode := .seq (.reg r21_3) c21_4
def r21_6 : List AOper := [ao 0 14 (.mv (.t 3)),
  ao 1 15 (.mv (.t 4)),
  ao 2 16 (.mv (.t 0)),
  ao 3 17 (.mv (.t 4)),
  ao 4 18 (.ia 1 (.t 16) (.t 17)),
  ao 5 19 (.ld 1 false (.t 18)),
  ao 6 20 (.ia 1 (.t 14) (.t 15)),
  an 7 (.st 1 (.t 20) (.t 19))]
def c21_7 : ACode := .block 1 (.reg r21_6)
def r21_8 : List AOper := [ao 0 12 (.mv (.t 4)),
  ao 1 13 (.bin .add (.t 12) (.k (.i 1))),
  ao 2 4 (.mv (.t 13))]
def c21_9 : ACode := .seq c21_5 (.seq c21_7 (.reg r21_8))
def c21_10 : ACode := .loop c21_9
def c21_11 : ACode := .block 0 c21_10
def c21_12 : ACode := .seq (.reg r21_2) c21_11
def r21_13 : List AOper := [ao 0 21 (.mv (.t 3)),
  ao 1 2 (.mv (.t 21))]
def c21 : ACode := .seq (.reg r21_0) (.seq (.reg r21_1) (.seq c21_12 (.seq (.reg r21_13) .ret)))
def s21 : List ARes := [.tmp 2]
theorem ok21 : okF Try.prog 21 22 c21 s21 := ⟨Try.f21, Try.func21, Try.ntmps21, by kernel_rfl, by kernel_rfl, by kernel_rfl⟩
def inv21 (xs : List Int) (i : Nat) (σ : St) : Prop := σ.t 0 = tL (en eI xs) ∧ (∃ v, σ.t 3 = .c (.own 7 v xs.length) ∧ σ.H 7 = some (.arr v true 1 3 (en eI (part xs zI i)))) ∧ σ.t 4 = .i i
def UCv_4 := Bx.mk <|
  aN (uA c21.eq_1) <| aN (uR r21_0.eq_1) <| aN (uR r21_1.eq_1) <| aN (uA c21_12.eq_1) <| aN (uR r21_2.eq_1) <| aN (uA c21_11.eq_1) <| aN (uA c21_10.eq_1) <| aN (uR r21_13.eq_1) <| s21.eq_1
def UCv_9 := Bx.mk <|
  aN (uA c21_9.eq_1) <| aN (uA c21_5.eq_1) <| aN (uR r21_3.eq_1) <| aN (uA c21_4.eq_1) <| aN (uA c21_7.eq_1) <| aN (uR r21_6.eq_1) <| aN (uR r21_8.eq_1) <| aN (uA c21.eq_1) <| aN (uR r21_0.eq_1) <| aN (uR r21_1.eq_1) <| aN (uA c21_12.eq_1) <| aN (uR r21_2.eq_1) <| aN (uA c21_11.eq_1) <| aN (uA c21_10.eq_1) <| aN (uR r21_13.eq_1) <| s21.eq_1
theorem toIs_ok (xs : List Int) (hl : xs.length ≤ 2000000) (m : Nat) : ACallsF Try.prog 21 [tL (en eI xs)] [newH 7 m 1 3 (en eI xs)] (.c (.own 7 0 xs.length)) := by
  refine ACallsF.intro ok21 follows fun X c0 => ?_
  have q0 : (0 : Int) ≤ xs.length := by omega
  have q1 : ((8 : Nat) : Int) * (xs.length : Int) ≤ 281474976710656 := by omega
  have q2 : (xs.length : Int) ≤ 9223372036854775807 := by omega
  simp only [RUX, Nat.reduceAdd, reduceIte, Nat.reduceEqDiff, Nat.reduceLT, Nat.reduceLeDiff, reduceCtorEq, eq_self, FIX, forall_const, endE_n, endE_r, CHT, disj, Nat.reduceBEq, beq_self_eq_true, APT, APX, forall_eq, ALT, KI, UCv_4.d, q0, q1, q2, Int.le_refl]
  refine AW.upto xs.length (inv21 xs) ?_ fun i t H c hi h => ?_
  · unfold inv21
    rw [part_zero, ← en_rep]
    exact ⟨rfl, ⟨_, rfl, rfl⟩, rfl⟩
  obtain ⟨e0, ⟨v, e3, hB⟩, e4⟩ := h
  simp only [T.c, T.i, tL] at e0 e3 hB e4
  have hpl : (part xs zI i).length = xs.length := part_len xs zI hi
  by_cases hlt : i < xs.length
  · obtain ⟨x, hx⟩ : ∃ x, xs[i]? = some x := ⟨_, List.getElem?_eq_getElem hlt⟩
    have ex := en_at eI hx
    have ez := en_at eI (part_at xs zI hlt)
    have k1 : (i : Int) < xs.length := by omega
    have gz : (0 : Int) ≤ i := by omega
    have gw := w1_ok (i := i) (by omega)
    have hn : (en eI (part xs zI i)).set i (eI x) = en eI (part xs zI (i + 1)) := by rw [en_set, part_set xs zI hx]
    simp only [RUX, Nat.reduceAdd, reduceIte, Nat.reduceEqDiff, Nat.reduceLT, Nat.reduceLeDiff, reduceCtorEq, eq_self, FIX, forall_const, endE_n, endE_r, CHT, disj, Nat.reduceBEq, beq_self_eq_true, APT, APX, forall_eq, ALT, KI, UCv_9.d, e0, e3, hB, e4, en_len, k1, gz, ex, ez, eI, Int.toNat_natCast, hpl, gw]
    exact ⟨hlt, e0, ⟨v, e3, congrArg (fun q => some (Blk.arr v true 1 3 q)) hn⟩, rfl⟩
  · have k1 : ¬ (i : Int) < xs.length := by omega
    have hi2 : i = xs.length := by omega
    subst hi2
    rw [part_end] at hB
    simp only [RUX, Nat.reduceAdd, reduceIte, Nat.reduceEqDiff, Nat.reduceLT, Nat.reduceLeDiff, reduceCtorEq, eq_self, FIX, forall_const, endE_n, endE_r, CHT, disj, Nat.reduceBEq, beq_self_eq_true, APT, APX, forall_eq, ALT, KI, UCv_9.d, UCv_4.d, e0, e3, hB, e4, en_len, k1, imp_self]
/- loop.example/teagle/laws.toCrewHandS -/
def r22_0 : List AOper := [ao 0 2 (.mv (.k (.c .nil0)))]
def r22_1 : List AOper := [ao 0 5 (.mv (.t 0)),
  ao 1 6 (.len (.t 5)),
  ao 2 7 (.mks 2 70 16 [(.s (.int .i64 0)), (.s (.int .i64 0))] (.t 6) (.t 6)),
  ao 3 3 (.mv (.t 7))]
def r22_2 : List AOper := [ao 0 4 (.mv (.k (.i 0)))]
def r22_3 : List AOper := [ao 0 8 (.mv (.t 4)),
  ao 1 9 (.mv (.t 0)),
  ao 2 10 (.len (.t 9)),
  ao 3 11 (.bin .lss (.t 8) (.t 10))]
def c22_4 : ACode := .cond (.t 11) .skip (.exit 0)
def c22_5 : ACode := .seq (.reg r22_3) c22_4
def r22_6 : List AOper := [ao 0 14 (.mv (.t 3)),
  ao 1 15 (.mv (.t 4)),
  ao 2 16 (.mv (.t 0)),
  ao 3 17 (.mv (.t 4)),
  ao 4 18 (.ia 2 (.t 16) (.t 17)),
  ao 5 19 (.ld 2 true (.t 18)),
  ao 6 20 (.call (.k (.c (.fn 49 []))) [(.t 19)]),
  ao 7 21 (.ia 2 (.t 14) (.t 15)),
  an 8 (.st 2 (.t 21) (.t 20))]
def c22_7 : ACode := .block 1 (.reg r22_6)
def r22_8 : List AOper := [ao 0 12 (.mv (.t 4)),
  ao 1 13 (.bin .add (.t 12) (.k (.i 1))),
  ao 2 4 (.mv (.t 13))]
def c22_9 : ACode := .seq c22_5 (.seq c22_7 (.reg r22_8))
def c22_10 : ACode := .loop c22_9
def c22_11 : ACode := .block 0 c22_10
def c22_12 : ACode := .seq (.reg r22_2) c22_11
def r22_13 : List AOper := [ao 0 22 (.mv (.t 3)),
  ao 1 2 (.mv (.t 22))]
def c22 : ACode := .seq (.reg r22_0) (.seq (.reg r22_1) (.seq c22_12 (.seq (.reg r22_13) .ret)))
def s22 : List ARes := [.tmp 2]
theorem ok22 : okF Try.prog 22 23 c22 s22 := ⟨Try.f22, Try.func22, Try.ntmps22, by kernel_rfl, by kernel_rfl, by kernel_rfl⟩
def inv22 (xs : List Hd) (i : Nat) (σ : St) : Prop := σ.t 0 = tL (en eH xs) ∧ (∃ v, σ.t 3 = .c (.own 7 v xs.length) ∧ σ.H 7 = some (.arr v true 2 70 (en eH (part xs zH i)))) ∧ σ.t 4 = .i i
def UCv_5 := Bx.mk <|
  aN (uA c22.eq_1) <| aN (uR r22_0.eq_1) <| aN (uR r22_1.eq_1) <| aN (uA c22_12.eq_1) <| aN (uR r22_2.eq_1) <| aN (uA c22_11.eq_1) <| aN (uA c22_10.eq_1) <| aN (uR r22_13.eq_1) <| s22.eq_1
def UCv_10 := Bx.mk <|
  aN (uA c22_9.eq_1) <| aN (uA c22_5.eq_1) <| aN (uR r22_3.eq_1) <| aN (uA c22_4.eq_1) <| aN (uA c22_7.eq_1) <| aN (uR r22_6.eq_1) <| aN (uR r22_8.eq_1) <| aN (uA c22.eq_1) <| aN (uR r22_0.eq_1) <| aN (uR r22_1.eq_1) <| aN (uA c22_12.eq_1) <| aN (uR r22_2.eq_1) <| aN (uA c22_11.eq_1) <| aN (uA c22_10.eq_1) <| aN (uR r22_13.eq_1) <| s22.eq_1
theorem toHs_ok (xs : List Hd) (hl : xs.length ≤ 2000000) (m : Nat) : ACallsF Try.prog 22 [tL (en eH xs)] [newH 7 m 2 70 (en eH xs)] (.c (.own 7 0 xs.length)) := by
  refine ACallsF.intro ok22 follows fun X c0 => ?_
  have q0 : (0 : Int) ≤ xs.length := by omega
  have q1 : ((16 : Nat) : Int) * (xs.length : Int) ≤ 281474976710656 := by omega
  have q2 : (xs.length : Int) ≤ 9223372036854775807 := by omega
  simp only [RUX, Nat.reduceAdd, reduceIte, Nat.reduceEqDiff, Nat.reduceLT, Nat.reduceLeDiff, reduceCtorEq, eq_self, FIX, forall_const, endE_n, endE_r, CHT, disj, Nat.reduceBEq, beq_self_eq_true, APT, APX, forall_eq, ALT, KI, UCv_5.d, q0, q1, q2, Int.le_refl]
  refine AW.upto xs.length (inv22 xs) ?_ fun i t H c hi h => ?_
  · unfold inv22
    rw [part_zero, ← en_rep]
    exact ⟨rfl, ⟨_, rfl, rfl⟩, rfl⟩
  obtain ⟨e0, ⟨v, e3, hB⟩, e4⟩ := h
  simp only [T.c, T.i, tL] at e0 e3 hB e4
  have hpl : (part xs zH i).length = xs.length := part_len xs zH hi
  by_cases hlt : i < xs.length
  · obtain ⟨x, hx⟩ : ∃ x, xs[i]? = some x := ⟨_, List.getElem?_eq_getElem hlt⟩
    have ex := en_at eH hx
    have ez := en_at eH (part_at xs zH hlt)
    have k1 : (i : Int) < xs.length := by omega
    have gz : (0 : Int) ≤ i := by omega
    have gw := w1_ok (i := i) (by omega)
    have hn : (en eH (part xs zH i)).set i (eH x) = en eH (part xs zH (i + 1)) := by rw [en_set, part_set xs zH hx]
    simp only [RUX, Nat.reduceAdd, reduceIte, Nat.reduceEqDiff, Nat.reduceLT, Nat.reduceLeDiff, reduceCtorEq, eq_self, FIX, forall_const, endE_n, endE_r, CHT, disj, Nat.reduceBEq, beq_self_eq_true, APT, APX, forall_eq, ALT, KI, UCv_10.d, e0, e3, hB, e4, en_len, k1, gz, ex, ez, eH, Int.toNat_natCast, hpl, gw]
    refine callC (toHd_ok x) rfl rfl rfl rfl ?_
    simp only [RUX, Nat.reduceAdd, reduceIte, Nat.reduceEqDiff, Nat.reduceLT, Nat.reduceLeDiff, reduceCtorEq, eq_self, FIX, forall_const, endE_n, endE_r, CHT, disj, Nat.reduceBEq, beq_self_eq_true, APT, APX, forall_eq, ALT, KI, UCv_10.d, e0, e3, hB, e4, en_len, k1, gz, ex, ez, eH, Int.toNat_natCast, hpl, gw]
    exact ⟨hlt, e0, ⟨v, e3, congrArg (fun q => some (Blk.arr v true 2 70 q)) hn⟩, rfl⟩
  · have k1 : ¬ (i : Int) < xs.length := by omega
    have hi2 : i = xs.length := by omega
    subst hi2
    rw [part_end] at hB
    simp only [RUX, Nat.reduceAdd, reduceIte, Nat.reduceEqDiff, Nat.reduceLT, Nat.reduceLeDiff, reduceCtorEq, eq_self, FIX, forall_const, endE_n, endE_r, CHT, disj, Nat.reduceBEq, beq_self_eq_true, APT, APX, forall_eq, ALT, KI, UCv_10.d, UCv_5.d, e0, e3, hB, e4, en_len, k1, imp_self]
theorem Form.small {w : CW} (h : Form w) : Small w := by
  have h1 := h.lq
  have h2 := h.lh
  have h3 := h.le
  have h4 := h.lr
  have h5 := h.lo
  have h6 := h.lg
  have h7 := h.ls
  have h8 := h.st.k
  have h9 := h.st.n
  have h10 := h.st.j
  exact ⟨by omega, by omega, by omega, by omega, by omega, by omega, by omega⟩
/- loop.example/teagle/laws.toCrewWorld -/
def r7_0 : List AOper := [ao 0 1 (.box 25 (.t 0)),
  ao 1 2 (.alloc 29 [(.v (.s (.int .i64 0))), (.v (.s (.int .i64 0))), (.v (.s (.int .i64 0))), (.v (.s (.int .i64 0))), (.v (.s (.int .i64 0))), .nil0, .nil0, (.v (.s (.int .i64 0))), .nil0, (.v (.s (.int .i64 0))), .nil0, (.v (.s (.int .i64 0))), .nil0, (.v (.s (.int .i64 0))), .nil0, (.v (.s (.int .i64 0))), .nil0, (.v (.s (.int .i64 0)))])]
def r7_1 : List AOper := [ao 0 3 (.alloc 29 [(.v (.s (.int .i64 0))), (.v (.s (.int .i64 0))), (.v (.s (.int .i64 0))), (.v (.s (.int .i64 0))), (.v (.s (.int .i64 0))), .nil0, .nil0, (.v (.s (.int .i64 0))), .nil0, (.v (.s (.int .i64 0))), .nil0, (.v (.s (.int .i64 0))), .nil0, (.v (.s (.int .i64 0))), .nil0, (.v (.s (.int .i64 0))), .nil0, (.v (.s (.int .i64 0)))])]
def r7_2 : List AOper := [ao 0 4 (.fa 0 (.t 1)),
  ao 1 5 (.ld 1 false (.t 4)),
  ao 2 6 (.fa 0 (.t 3)),
  an 3 (.st 1 (.t 6) (.t 5))]
def r7_3 : List AOper := [ao 0 7 (.fa 1 (.t 1)),
  ao 1 8 (.ld 1 false (.t 7)),
  ao 2 9 (.fa 1 (.t 3)),
  an 3 (.st 1 (.t 9) (.t 8))]
def r7_4 : List AOper := [ao 0 10 (.fa 2 (.t 1)),
  ao 1 11 (.ld 1 false (.t 10)),
  ao 2 12 (.fa 2 (.t 3)),
  an 3 (.st 1 (.t 12) (.t 11))]
def r7_5 : List AOper := [ao 0 13 (.fa 3 (.t 1)),
  ao 1 14 (.ld 1 false (.t 13)),
  ao 2 15 (.fa 3 (.t 3)),
  an 3 (.st 1 (.t 15) (.t 14))]
def r7_6 : List AOper := [ao 0 16 (.fa 4 (.t 1)),
  ao 1 17 (.ld 1 false (.t 16)),
  ao 2 18 (.fa 4 (.t 3)),
  an 3 (.st 1 (.t 18) (.t 17))]
def r7_7 : List AOper := [ao 0 19 (.fa 5 (.t 1)),
  ao 1 20 (.ld 1 false (.t 19)),
  ao 2 21 (.call (.k (.c (.fn 21 []))) [(.t 20)]),
  ao 3 22 (.fa 5 (.t 3)),
  an 4 (.st 1 (.t 22) (.t 21))]
def r7_8 : List AOper := [ao 0 23 (.fa 6 (.t 1)),
  ao 1 24 (.ld 1 false (.t 23)),
  ao 2 25 (.call (.k (.c (.fn 22 []))) [(.t 24)]),
  ao 3 26 (.fa 6 (.t 3)),
  an 4 (.st 1 (.t 26) (.t 25))]
def r7_9 : List AOper := [ao 0 27 (.fa 7 (.t 1)),
  ao 1 28 (.ld 1 false (.t 27)),
  ao 2 29 (.fa 7 (.t 3)),
  an 3 (.st 1 (.t 29) (.t 28))]
def r7_10 : List AOper := [ao 0 30 (.fa 8 (.t 1)),
  ao 1 31 (.ld 1 false (.t 30)),
  ao 2 32 (.call (.k (.c (.fn 21 []))) [(.t 31)]),
  ao 3 33 (.fa 8 (.t 3)),
  an 4 (.st 1 (.t 33) (.t 32))]
def r7_11 : List AOper := [ao 0 34 (.fa 9 (.t 1)),
  ao 1 35 (.ld 1 false (.t 34)),
  ao 2 36 (.fa 9 (.t 3)),
  an 3 (.st 1 (.t 36) (.t 35))]
def r7_12 : List AOper := [ao 0 37 (.fa 10 (.t 1)),
  ao 1 38 (.ld 1 false (.t 37)),
  ao 2 39 (.call (.k (.c (.fn 21 []))) [(.t 38)]),
  ao 3 40 (.fa 10 (.t 3)),
  an 4 (.st 1 (.t 40) (.t 39))]
def r7_13 : List AOper := [ao 0 41 (.fa 11 (.t 1)),
  ao 1 42 (.ld 1 false (.t 41)),
  ao 2 43 (.fa 11 (.t 3)),
  an 3 (.st 1 (.t 43) (.t 42))]
def r7_14 : List AOper := [ao 0 44 (.fa 12 (.t 1)),
  ao 1 45 (.ld 1 false (.t 44)),
  ao 2 46 (.call (.k (.c (.fn 21 []))) [(.t 45)]),
  ao 3 47 (.fa 12 (.t 3)),
  an 4 (.st 1 (.t 47) (.t 46))]
def r7_15 : List AOper := [ao 0 48 (.fa 13 (.t 1)),
  ao 1 49 (.ld 1 false (.t 48)),
  ao 2 50 (.fa 13 (.t 3)),
  an 3 (.st 1 (.t 50) (.t 49))]
def r7_16 : List AOper := [ao 0 51 (.fa 14 (.t 1)),
  ao 1 52 (.ld 1 false (.t 51)),
  ao 2 53 (.call (.k (.c (.fn 21 []))) [(.t 52)]),
  ao 3 54 (.fa 14 (.t 3)),
  an 4 (.st 1 (.t 54) (.t 53))]
def r7_17 : List AOper := [ao 0 55 (.fa 15 (.t 1)),
  ao 1 56 (.ld 1 false (.t 55)),
  ao 2 57 (.fa 15 (.t 3)),
  an 3 (.st 1 (.t 57) (.t 56))]
def r7_18 : List AOper := [ao 0 58 (.fa 16 (.t 1)),
  ao 1 59 (.ld 1 false (.t 58)),
  ao 2 60 (.call (.k (.c (.fn 21 []))) [(.t 59)]),
  ao 3 61 (.fa 16 (.t 3)),
  an 4 (.st 1 (.t 61) (.t 60))]
def r7_19 : List AOper := [ao 0 62 (.fa 17 (.t 1)),
  ao 1 63 (.ld 1 false (.t 62)),
  ao 2 64 (.fa 17 (.t 3)),
  an 3 (.st 1 (.t 64) (.t 63))]
def r7_20 : List AOper := [ao 0 65 (.ld 18 true (.t 3)),
  an 1 (.st 18 (.t 2) (.t 65))]
def c7 : ACode := .seq (.reg r7_0) (.seq (.reg r7_1) (.seq (.reg r7_2) (.seq (.reg r7_3) (.seq (.reg r7_4) (.seq (.reg r7_5) (.seq (.reg r7_6) (.seq (.reg r7_7) (.seq (.reg r7_8) (.seq (.reg r7_9) (.seq (.reg r7_10) (.seq (.reg r7_11) (.seq (.reg r7_12) (.seq (.reg r7_13) (.seq (.reg r7_14) (.seq (.reg r7_15) (.seq (.reg r7_16) (.seq (.reg r7_17) (.seq (.reg r7_18) (.seq (.reg r7_19) (.seq (.reg r7_20) .ret))))))))))))))))))))
def s7 : List ARes := [.cell 2 18 true]
theorem ok7 : okF Try.prog 7 66 c7 s7 := ⟨Try.f7, Try.func7, Try.ntmps7, by kernel_rfl, by kernel_rfl, by kernel_rfl⟩
def UCv_6 := Bx.mk <|
  aN (uA c7.eq_1) <| aN (uR r7_0.eq_1) <| aN (uR r7_1.eq_1) <| aN (uR r7_2.eq_1) <| aN (uR r7_3.eq_1) <| aN (uR r7_4.eq_1) <| aN (uR r7_5.eq_1) <| aN (uR r7_6.eq_1) <| aN (uR r7_7.eq_1) <| aN (uR r7_8.eq_1) <| aN (uR r7_9.eq_1) <| aN (uR r7_10.eq_1) <| aN (uR r7_11.eq_1) <| aN (uR r7_12.eq_1) <| aN (uR r7_13.eq_1) <| aN (uR r7_14.eq_1) <| aN (uR r7_15.eq_1) <| aN (uR r7_16.eq_1) <| aN (uR r7_17.eq_1) <| aN (uR r7_18.eq_1) <| aN (uR r7_19.eq_1) <| aN (uR r7_20.eq_1) <| s7.eq_1
set_option maxHeartbeats 1000000 in
theorem toCW_ok (w : CW) (h : Small w) (m : Nat) : ACallsF Try.prog 7 [tCW w] (wnH 1001 1002 1003 1004 1005 1006 1007 m w) (.pt (.agg (oC 1001 1002 1003 1004 1005 1006 1007 0 0 0 0 0 0 0 w))) := by
  refine ACallsF.intro ok7 follows fun X c0 => ?_
  simp only [RUX, Nat.reduceAdd, reduceIte, Nat.reduceEqDiff, Nat.reduceLT, Nat.reduceLeDiff, reduceCtorEq, eq_self, wnH, FIX, forall_const, endE_n, endE_r, CHT, disj, Nat.reduceBEq, beq_self_eq_true, APT, APX, forall_eq, ALT, KI, UCv_6.d]
  refine callA1 (m := 1001) (ws := []) (ns := []) (toIs_ok w.queue h.q 1001) rfl rfl rfl (en_flat eI eI_flat _) ⟨rfl, ?_⟩
  simp only [RUX, Nat.reduceAdd, reduceIte, Nat.reduceEqDiff, Nat.reduceLT, Nat.reduceLeDiff, reduceCtorEq, eq_self, wnH, FIX, forall_const, endE_n, endE_r, CHT, disj, Nat.reduceBEq, beq_self_eq_true, APT, APX, forall_eq, ALT, KI, UCv_6.d]
  refine callA1 (m := 1002) (ws := []) (ns := []) (toHs_ok w.hands h.h 1002) rfl rfl rfl (en_flat eH eH_flat _) ⟨rfl, ?_⟩
  simp only [RUX, Nat.reduceAdd, reduceIte, Nat.reduceEqDiff, Nat.reduceLT, Nat.reduceLeDiff, reduceCtorEq, eq_self, wnH, FIX, forall_const, endE_n, endE_r, CHT, disj, Nat.reduceBEq, beq_self_eq_true, APT, APX, forall_eq, ALT, KI, UCv_6.d]
  refine callA1 (m := 1003) (ws := []) (ns := []) (toIs_ok w.results h.r 1003) rfl rfl rfl (en_flat eI eI_flat _) ⟨rfl, ?_⟩
  simp only [RUX, Nat.reduceAdd, reduceIte, Nat.reduceEqDiff, Nat.reduceLT, Nat.reduceLeDiff, reduceCtorEq, eq_self, wnH, FIX, forall_const, endE_n, endE_r, CHT, disj, Nat.reduceBEq, beq_self_eq_true, APT, APX, forall_eq, ALT, KI, UCv_6.d]
  refine callA1 (m := 1004) (ws := []) (ns := []) (toIs_ok w.ring h.g 1004) rfl rfl rfl (en_flat eI eI_flat _) ⟨rfl, ?_⟩
  simp only [RUX, Nat.reduceAdd, reduceIte, Nat.reduceEqDiff, Nat.reduceLT, Nat.reduceLeDiff, reduceCtorEq, eq_self, wnH, FIX, forall_const, endE_n, endE_r, CHT, disj, Nat.reduceBEq, beq_self_eq_true, APT, APX, forall_eq, ALT, KI, UCv_6.d]
  refine callA1 (m := 1005) (ws := []) (ns := []) (toIs_ok w.out h.o 1005) rfl rfl rfl (en_flat eI eI_flat _) ⟨rfl, ?_⟩
  simp only [RUX, Nat.reduceAdd, reduceIte, Nat.reduceEqDiff, Nat.reduceLT, Nat.reduceLeDiff, reduceCtorEq, eq_self, wnH, FIX, forall_const, endE_n, endE_r, CHT, disj, Nat.reduceBEq, beq_self_eq_true, APT, APX, forall_eq, ALT, KI, UCv_6.d]
  refine callA1 (m := 1006) (ws := []) (ns := []) (toIs_ok w.got h.t 1006) rfl rfl rfl (en_flat eI eI_flat _) ⟨rfl, ?_⟩
  simp only [RUX, Nat.reduceAdd, reduceIte, Nat.reduceEqDiff, Nat.reduceLT, Nat.reduceLeDiff, reduceCtorEq, eq_self, wnH, FIX, forall_const, endE_n, endE_r, CHT, disj, Nat.reduceBEq, beq_self_eq_true, APT, APX, forall_eq, ALT, KI, UCv_6.d]
  refine callA1 (m := 1007) (ws := []) (ns := []) (toIs_ok w.shut h.s 1007) rfl rfl rfl (en_flat eI eI_flat _) ⟨rfl, ?_⟩
  simp only [RUX, Nat.reduceAdd, reduceIte, Nat.reduceEqDiff, Nat.reduceLT, Nat.reduceLeDiff, reduceCtorEq, eq_self, wnH, FIX, forall_const, endE_n, endE_r, CHT, disj, Nat.reduceBEq, beq_self_eq_true, APT, APX, forall_eq, ALT, KI, UCv_6.d, imp_self]
/- (*loop.example/teagle/impl.CrewWorld).clone -/
def r24_0 : List AOper := [ao 0 2 (.alloc 29 [(.v (.s (.int .i64 0))), (.v (.s (.int .i64 0))), (.v (.s (.int .i64 0))), (.v (.s (.int .i64 0))), (.v (.s (.int .i64 0))), .nil0, .nil0, (.v (.s (.int .i64 0))), .nil0, (.v (.s (.int .i64 0))), .nil0, (.v (.s (.int .i64 0))), .nil0, (.v (.s (.int .i64 0))), .nil0, (.v (.s (.int .i64 0))), .nil0, (.v (.s (.int .i64 0)))])]
def r24_1 : List AOper := [ao 0 4 (.mv (.t 0)),
  ao 1 5 (.nck (.t 4)),
  ao 2 6 (.ld 18 true (.t 5)),
  ao 3 3 (.alloc 29 [(.v (.s (.int .i64 0))), (.v (.s (.int .i64 0))), (.v (.s (.int .i64 0))), (.v (.s (.int .i64 0))), (.v (.s (.int .i64 0))), .nil0, .nil0, (.v (.s (.int .i64 0))), .nil0, (.v (.s (.int .i64 0))), .nil0, (.v (.s (.int .i64 0))), .nil0, (.v (.s (.int .i64 0))), .nil0, (.v (.s (.int .i64 0))), .nil0, (.v (.s (.int .i64 0)))]),
  an 4 (.st 18 (.t 3) (.t 6))]
def r24_2 : List AOper := [ao 0 7 (.mv (.t 0)),
  ao 1 8 (.nck (.t 7)),
  ao 2 9 (.fa 5 (.t 8)),
  ao 3 10 (.ld 1 false (.t 9)),
  ao 4 11 (.call (.k (.c (.fn 55 []))) [(.t 10)]),
  au 5 12 (ru 5) (.mv (.t 0)),
  au 6 13 (ru 5) (.nck (.t 12)),
  au 7 14 (ru 5) (.fa 6 (.t 13)),
  au 8 15 (ru 5) (.ld 1 false (.t 14)),
  ao 9 16 (.call (.k (.c (.fn 56 []))) [(.t 15)]),
  au 10 17 (ru 10) (.mv (.t 0)),
  au 11 18 (ru 10) (.nck (.t 17)),
  au 12 19 (ru 10) (.fa 8 (.t 18)),
  au 13 20 (ru 10) (.ld 1 false (.t 19)),
  ao 14 21 (.call (.k (.c (.fn 55 []))) [(.t 20)]),
  au 15 22 (ru 15) (.mv (.t 0)),
  au 16 23 (ru 15) (.nck (.t 22)),
  au 17 24 (ru 15) (.fa 10 (.t 23)),
  au 18 25 (ru 15) (.ld 1 false (.t 24)),
  ao 19 26 (.call (.k (.c (.fn 55 []))) [(.t 25)]),
  au 20 27 [5, 6, 7, 8, 9, 10, 11, 12, 13, 14, 15, 16, 17, 18, 19] (.fa 5 (.t 3)),
  an 21 (.st 1 (.t 27) (.t 11)),
  ao 22 28 (.fa 6 (.t 3)),
  an 23 (.st 1 (.t 28) (.t 16)),
  ao 24 29 (.fa 8 (.t 3)),
  an 25 (.st 1 (.t 29) (.t 21)),
  ao 26 30 (.fa 10 (.t 3)),
  an 27 (.st 1 (.t 30) (.t 26))]
def r24_3 : List AOper := [ao 0 31 (.mv (.t 0)),
  ao 1 32 (.nck (.t 31)),
  ao 2 33 (.fa 12 (.t 32)),
  ao 3 34 (.ld 1 false (.t 33)),
  ao 4 35 (.call (.k (.c (.fn 55 []))) [(.t 34)]),
  au 5 36 (ru 5) (.mv (.t 0)),
  au 6 37 (ru 5) (.nck (.t 36)),
  au 7 38 (ru 5) (.fa 14 (.t 37)),
  au 8 39 (ru 5) (.ld 1 false (.t 38)),
  ao 9 40 (.call (.k (.c (.fn 55 []))) [(.t 39)]),
  au 10 41 (ru 10) (.mv (.t 0)),
  au 11 42 (ru 10) (.nck (.t 41)),
  au 12 43 (ru 10) (.fa 16 (.t 42)),
  au 13 44 (ru 10) (.ld 1 false (.t 43)),
  ao 14 45 (.call (.k (.c (.fn 55 []))) [(.t 44)]),
  au 15 46 [5, 6, 7, 8, 9, 10, 11, 12, 13, 14] (.fa 12 (.t 3)),
  an 16 (.st 1 (.t 46) (.t 35)),
  ao 17 47 (.fa 14 (.t 3)),
  an 18 (.st 1 (.t 47) (.t 40)),
  ao 19 48 (.fa 16 (.t 3)),
  an 20 (.st 1 (.t 48) (.t 45))]
def r24_4 : List AOper := [ao 0 49 (.ld 18 true (.t 3)),
  an 1 (.st 18 (.t 2) (.t 49))]
def c24 : ACode := .seq (.reg r24_0) (.seq (.reg r24_1) (.seq (.reg r24_2) (.seq (.reg r24_3) (.seq (.reg r24_4) .ret))))
def s24 : List ARes := [.cell 2 18 true]
theorem ok24 : okF Try.prog 24 50 c24 s24 := ⟨Try.f24, Try.func24, Try.ntmps24, by kernel_rfl, by kernel_rfl, by kernel_rfl⟩
def UCv_7 := Bx.mk <|
  aN (uA c24.eq_1) <| aN (uR r24_0.eq_1) <| aN (uR r24_1.eq_1) <| aN (uR r24_2.eq_1) <| aN (uR r24_3.eq_1) <| aN (uR r24_4.eq_1) <| s24.eq_1
set_option maxHeartbeats 1000000 in
theorem clone_ok {w : CW} (h : Small w) (m0 v m : Nat) : ACallsF Try.prog 24 [wP 1000 v] (wHd m0 v w :: wnH 1001 1002 1003 1004 1005 1006 1007 m w) (.pt (.agg (oC 1001 1002 1003 1004 1005 1006 1007 0 0 0 0 0 0 0 w))) := by
  refine ACallsF.intro ok24 follows fun X c0 => ?_
  simp only [RUX, Nat.reduceAdd, reduceIte, Nat.reduceEqDiff, Nat.reduceLT, Nat.reduceLeDiff, reduceCtorEq, eq_self, wnH, wHd, wP, FIX, forall_const, endE_n, endE_r, CHT, disj, Nat.reduceBEq, beq_self_eq_true, APT, APX, forall_eq, ALT, KI, UCv_7.d]
  refine callA1 (m := 1001) (ws := []) (ns := []) (cloneI_ok w.queue h.q 1001) rfl rfl rfl (en_flat eI eI_flat _) ⟨rfl, ?_⟩
  simp only [RUX, Nat.reduceAdd, reduceIte, Nat.reduceEqDiff, Nat.reduceLT, Nat.reduceLeDiff, reduceCtorEq, eq_self, wnH, wHd, wP, FIX, forall_const, endE_n, endE_r, CHT, disj, Nat.reduceBEq, beq_self_eq_true, APT, APX, forall_eq, ALT, KI, UCv_7.d]
  refine callA1 (m := 1002) (ws := []) (ns := []) (cloneH_ok w.hands h.h 1002) rfl rfl rfl (en_flat eH eH_flat _) ⟨rfl, ?_⟩
  simp only [RUX, Nat.reduceAdd, reduceIte, Nat.reduceEqDiff, Nat.reduceLT, Nat.reduceLeDiff, reduceCtorEq, eq_self, wnH, wHd, wP, FIX, forall_const, endE_n, endE_r, CHT, disj, Nat.reduceBEq, beq_self_eq_true, APT, APX, forall_eq, ALT, KI, UCv_7.d]
  refine callA1 (m := 1003) (ws := []) (ns := []) (cloneI_ok w.results h.r 1003) rfl rfl rfl (en_flat eI eI_flat _) ⟨rfl, ?_⟩
  simp only [RUX, Nat.reduceAdd, reduceIte, Nat.reduceEqDiff, Nat.reduceLT, Nat.reduceLeDiff, reduceCtorEq, eq_self, wnH, wHd, wP, FIX, forall_const, endE_n, endE_r, CHT, disj, Nat.reduceBEq, beq_self_eq_true, APT, APX, forall_eq, ALT, KI, UCv_7.d]
  refine callA1 (m := 1004) (ws := []) (ns := []) (cloneI_ok w.ring h.g 1004) rfl rfl rfl (en_flat eI eI_flat _) ⟨rfl, ?_⟩
  simp only [RUX, Nat.reduceAdd, reduceIte, Nat.reduceEqDiff, Nat.reduceLT, Nat.reduceLeDiff, reduceCtorEq, eq_self, wnH, wHd, wP, FIX, forall_const, endE_n, endE_r, CHT, disj, Nat.reduceBEq, beq_self_eq_true, APT, APX, forall_eq, ALT, KI, UCv_7.d]
  refine callA1 (m := 1005) (ws := []) (ns := []) (cloneI_ok w.out h.o 1005) rfl rfl rfl (en_flat eI eI_flat _) ⟨rfl, ?_⟩
  simp only [RUX, Nat.reduceAdd, reduceIte, Nat.reduceEqDiff, Nat.reduceLT, Nat.reduceLeDiff, reduceCtorEq, eq_self, wnH, wHd, wP, FIX, forall_const, endE_n, endE_r, CHT, disj, Nat.reduceBEq, beq_self_eq_true, APT, APX, forall_eq, ALT, KI, UCv_7.d]
  refine callA1 (m := 1006) (ws := []) (ns := []) (cloneI_ok w.got h.t 1006) rfl rfl rfl (en_flat eI eI_flat _) ⟨rfl, ?_⟩
  simp only [RUX, Nat.reduceAdd, reduceIte, Nat.reduceEqDiff, Nat.reduceLT, Nat.reduceLeDiff, reduceCtorEq, eq_self, wnH, wHd, wP, FIX, forall_const, endE_n, endE_r, CHT, disj, Nat.reduceBEq, beq_self_eq_true, APT, APX, forall_eq, ALT, KI, UCv_7.d]
  refine callA1 (m := 1007) (ws := []) (ns := []) (cloneI_ok w.shut h.s 1007) rfl rfl rfl (en_flat eI eI_flat _) ⟨rfl, ?_⟩
  simp only [RUX, Nat.reduceAdd, reduceIte, Nat.reduceEqDiff, Nat.reduceLT, Nat.reduceLeDiff, reduceCtorEq, eq_self, wnH, wHd, wP, FIX, forall_const, endE_n, endE_r, CHT, disj, Nat.reduceBEq, beq_self_eq_true, APT, APX, forall_eq, ALT, KI, UCv_7.d, imp_self]
/- loop.example/teagle/spec.l52Copy -/
def r20_0 : List AOper := [ao 0 1 (.box 29 (.t 0)),
  ao 1 2 (.alloc 29 [(.v (.s (.int .i64 0))), (.v (.s (.int .i64 0))), (.v (.s (.int .i64 0))), (.v (.s (.int .i64 0))), (.v (.s (.int .i64 0))), .nil0, .nil0, (.v (.s (.int .i64 0))), .nil0, (.v (.s (.int .i64 0))), .nil0, (.v (.s (.int .i64 0))), .nil0, (.v (.s (.int .i64 0))), .nil0, (.v (.s (.int .i64 0))), .nil0, (.v (.s (.int .i64 0)))])]
def r20_1 : List AOper := [ao 0 3 (.bsl 1 3 []),
  ao 1 4 (.fa 5 (.t 1)),
  ao 2 5 (.ld 1 false (.t 4)),
  ao 3 6 (.app 1 3 8 (.t 3) (.t 5)),
  ao 4 7 (.fa 5 (.t 1)),
  an 5 (.st 1 (.t 7) (.t 6))]
def r20_2 : List AOper := [ao 0 8 (.bsl 2 70 []),
  ao 1 9 (.fa 6 (.t 1)),
  ao 2 10 (.ld 1 false (.t 9)),
  ao 3 11 (.app 2 70 16 (.t 8) (.t 10)),
  ao 4 12 (.fa 6 (.t 1)),
  an 5 (.st 1 (.t 12) (.t 11))]
def r20_3 : List AOper := [ao 0 13 (.bsl 1 3 []),
  ao 1 14 (.fa 8 (.t 1)),
  ao 2 15 (.ld 1 false (.t 14)),
  ao 3 16 (.app 1 3 8 (.t 13) (.t 15)),
  ao 4 17 (.fa 8 (.t 1)),
  an 5 (.st 1 (.t 17) (.t 16))]
def r20_4 : List AOper := [ao 0 18 (.bsl 1 3 []),
  ao 1 19 (.fa 10 (.t 1)),
  ao 2 20 (.ld 1 false (.t 19)),
  ao 3 21 (.app 1 3 8 (.t 18) (.t 20)),
  ao 4 22 (.fa 10 (.t 1)),
  an 5 (.st 1 (.t 22) (.t 21))]
def r20_5 : List AOper := [ao 0 23 (.bsl 1 3 []),
  ao 1 24 (.fa 12 (.t 1)),
  ao 2 25 (.ld 1 false (.t 24)),
  ao 3 26 (.app 1 3 8 (.t 23) (.t 25)),
  ao 4 27 (.fa 12 (.t 1)),
  an 5 (.st 1 (.t 27) (.t 26))]
def r20_6 : List AOper := [ao 0 28 (.bsl 1 3 []),
  ao 1 29 (.fa 14 (.t 1)),
  ao 2 30 (.ld 1 false (.t 29)),
  ao 3 31 (.app 1 3 8 (.t 28) (.t 30)),
  ao 4 32 (.fa 14 (.t 1)),
  an 5 (.st 1 (.t 32) (.t 31))]
def r20_7 : List AOper := [ao 0 33 (.bsl 1 3 []),
  ao 1 34 (.fa 16 (.t 1)),
  ao 2 35 (.ld 1 false (.t 34)),
  ao 3 36 (.app 1 3 8 (.t 33) (.t 35)),
  ao 4 37 (.fa 16 (.t 1)),
  an 5 (.st 1 (.t 37) (.t 36))]
def r20_8 : List AOper := [ao 0 38 (.ld 18 true (.t 1)),
  an 1 (.st 18 (.t 2) (.t 38))]
def c20 : ACode := .seq (.reg r20_0) (.seq (.reg r20_1) (.seq (.reg r20_2) (.seq (.reg r20_3) (.seq (.reg r20_4) (.seq (.reg r20_5) (.seq (.reg r20_6) (.seq (.reg r20_7) (.seq (.reg r20_8) .ret))))))))
def s20 : List ARes := [.cell 2 18 true]
theorem ok20 : okF Try.prog 20 39 c20 s20 := ⟨Try.f20, Try.func20, Try.ntmps20, by kernel_rfl, by kernel_rfl, by kernel_rfl⟩
def UCv_8 := Bx.mk <|
  aN (uA c20.eq_1) <| aN (uR r20_0.eq_1) <| aN (uR r20_1.eq_1) <| aN (uR r20_2.eq_1) <| aN (uR r20_3.eq_1) <| aN (uR r20_4.eq_1) <| aN (uR r20_5.eq_1) <| aN (uR r20_6.eq_1) <| aN (uR r20_7.eq_1) <| aN (uR r20_8.eq_1) <| s20.eq_1
set_option maxHeartbeats 1000000 in
theorem copy_ok {w : CW} (h : Small w) (m : Nat) : ACallsF Try.prog 20 [tCW w] (wnH 3 8 13 18 23 28 33 m w) (.pt (.agg (oC 3 8 13 18 23 28 33 0 0 0 0 0 0 0 w))) := by
  have p1 := h.q
  have p2 := h.h
  have p3 := h.r
  have p4 := h.g
  have p5 := h.o
  have p6 := h.t
  have p7 := h.s
  have q1 : w.queue.length * 8 ≤ 140737488355328 := by omega
  have r1 : w.queue.length ≤ 9223372036854775807 := by omega
  have q2 : w.hands.length * 16 ≤ 140737488355328 := by omega
  have r2 : w.hands.length ≤ 9223372036854775807 := by omega
  have q3 : w.results.length * 8 ≤ 140737488355328 := by omega
  have r3 : w.results.length ≤ 9223372036854775807 := by omega
  have q4 : w.ring.length * 8 ≤ 140737488355328 := by omega
  have r4 : w.ring.length ≤ 9223372036854775807 := by omega
  have q5 : w.out.length * 8 ≤ 140737488355328 := by omega
  have r5 : w.out.length ≤ 9223372036854775807 := by omega
  have q6 : w.got.length * 8 ≤ 140737488355328 := by omega
  have r6 : w.got.length ≤ 9223372036854775807 := by omega
  have q7 : w.shut.length * 8 ≤ 140737488355328 := by omega
  have r7 : w.shut.length ≤ 9223372036854775807 := by omega
  refine ACallsF.intro ok20 follows fun X c0 => ?_
  simp only [RUX, Nat.reduceAdd, reduceIte, Nat.reduceEqDiff, Nat.reduceLT, Nat.reduceLeDiff, reduceCtorEq, eq_self, wnH, FIX, forall_const, endE_n, endE_r, CHT, disj, Nat.reduceBEq, beq_self_eq_true, APT, APX, forall_eq, ALT, KI, UCv_8.d, q1, r1, q2, r2, q3, r3, q4, r4, q5, r5, q6, r6, q7, r7, Nat.zero_add, imp_self]
end Go.V
set_option linter.unusedSimpArgs false
namespace Go.V
open Go.Proofs
/-- A world of own arrays behind a pointer, worked on in place. -/
abbrev iH (v a1 a2 a3 a4 a5 a6 a7 m0 m : Nat) (w w' : CW) : List Hand := [⟨1000, m0, some (.var v 29 (oC 1001 1002 1003 1004 1005 1006 1007 a1 a2 a3 a4 a5 a6 a7 w)), .var v 29 (oC 1001 1002 1003 1004 1005 1006 1007 0 0 0 0 0 0 0 w'), true⟩, ⟨1001, m + 1, some (bI a1 w.queue), bI 0 w'.queue, false⟩, ⟨1002, m + 2, some (bH a2 w.hands), bH 0 w'.hands, false⟩, ⟨1003, m + 3, some (bI a3 w.results), bI 0 w'.results, false⟩, ⟨1004, m + 4, some (bI a4 w.ring), bI 0 w'.ring, false⟩, ⟨1005, m + 5, some (bI a5 w.out), bI 0 w'.out, false⟩, ⟨1006, m + 6, some (bI a6 w.got), bI 0 w'.got, false⟩, ⟨1007, m + 7, some (bI a7 w.shut), bI 0 w'.shut, false⟩]
abbrev iO (v m0 m n : Nat) (w : CW) : List (Nat × Blk) := (m0, .var v 29 (oC (m + 1) (m + 2) (m + 3) (m + 4) (m + 5) (m + 6) (m + 7) n n n n n n n w)) :: wO m n w
section
variable {P : Program} {t : Nat → T} {H : HMap} {c : Nat} {f : Opd} {args : List Opd} {fid : FuncId} {k : Nat} {d : Option Nat} {un : List Nat} {l : List AOper} {prev : List (Nat × List Nat × List Nat)} {K : St → Prop}
/-- A call of a method that works on a world in place. -/
theorem callIn {v a1 a2 a3 a4 a5 a6 a7 m0 m : Nat} {w w' : CW} {al : List T} {r : T} (hC : ∀ v a1 a2 a3 a4 a5 a6 a7 m0 m, ACallsF P fid (wP 1000 v :: al) (iH v a1 a2 a3 a4 a5 a6 a7 m0 m w w') r) (hf : ev t f = .pt (.one (.fn fid []))) (hl : args.map (ev t) = wP m0 v :: al) (ha : al.all closedA = true) (hr : ∀ hs nv, renOT hs nv r = some r)
    (hH : H m0 = some (.var v 29 (oC (m + 1) (m + 2) (m + 3) (m + 4) (m + 5) (m + 6) (m + 7) a1 a2 a3 a4 a5 a6 a7 w))) (h1 : H (m + 1) = some (bI a1 w.queue)) (h2 : H (m + 2) = some (bH a2 w.hands)) (h3 : H (m + 3) = some (bI a3 w.results)) (h4 : H (m + 4) = some (bI a4 w.ring)) (h5 : H (m + 5) = some (bI a5 w.out)) (h6 : H (m + 6) = some (bI a6 w.got)) (h7 : H (m + 7) = some (bI a7 w.shut)) (hm : m0 ∉ wN m)
    (hk : chk prev un ⟨r, iO v m0 m (c + k) w', m0 :: wN m, m0 :: wN m⟩ = true ∧ DRun P l ((k, m0 :: wN m, m0 :: wN m) :: prev) K ⟨updD t d r, updH H (iO v m0 m (c + k) w'), c⟩) :
    step P k d un (.call f args) l prev K t H c := by
  obtain ⟨hs, hhs⟩ : ∃ hs, iH v a1 a2 a3 a4 a5 a6 a7 m0 m w w' = hs := ⟨_, rfl⟩
  have N0 : renN hs 1000 = some (⟨1000, m0, some (.var v 29 (oC 1001 1002 1003 1004 1005 1006 1007 a1 a2 a3 a4 a5 a6 a7 w)), .var v 29 (oC 1001 1002 1003 1004 1005 1006 1007 0 0 0 0 0 0 0 w'), true⟩) := by rw [← hhs]; simp [renN]
  have N1 : renN hs 1001 = some (⟨1001, m + 1, some (bI a1 w.queue), bI 0 w'.queue, false⟩) := by rw [← hhs]; simp [renN]
  have N2 : renN hs 1002 = some (⟨1002, m + 2, some (bH a2 w.hands), bH 0 w'.hands, false⟩) := by rw [← hhs]; simp [renN]
  have N3 : renN hs 1003 = some (⟨1003, m + 3, some (bI a3 w.results), bI 0 w'.results, false⟩) := by rw [← hhs]; simp [renN]
  have N4 : renN hs 1004 = some (⟨1004, m + 4, some (bI a4 w.ring), bI 0 w'.ring, false⟩) := by rw [← hhs]; simp [renN]
  have N5 : renN hs 1005 = some (⟨1005, m + 5, some (bI a5 w.out), bI 0 w'.out, false⟩) := by rw [← hhs]; simp [renN]
  have N6 : renN hs 1006 = some (⟨1006, m + 6, some (bI a6 w.got), bI 0 w'.got, false⟩) := by rw [← hhs]; simp [renN]
  have N7 : renN hs 1007 = some (⟨1007, m + 7, some (bI a7 w.shut), bI 0 w'.shut, false⟩) := by rw [← hhs]; simp [renN]
  have hnd : (hs.map (·.m)).Nodup := by
    rw [← hhs]
    simp only [List.map_cons, List.map_nil]
    rw [List.nodup_cons]
    exact ⟨by simpa using hm, by simp⟩
  have hcd : (hs.map (·.c)).Nodup := by rw [← hhs]; simp
  obtain ⟨x1, x2⟩ := closed_As hs H al ha
  refine callW (caps := []) («as» := wP m0 v :: al) (ws := []) (ns := []) (r' := r) (ob := iO v m0 m (c + k) w') hs (by rw [← hhs]; exact hC v a1 a2 a3 a4 a5 a6 a7 m0 m) hf ?_ ?_ ?_ hnd hcd (hr _ _) ?_ ?_
  · have a1 : lendT H (wP 1000 v) (wP m0 v) = some (wP m0 v, [], []) := rfl
    rw [hl]
    simp only [List.map_nil, List.append_nil, lendTs, a1, x1]
  · have a1 : renIT hs (wP 1000 v) = some (wP m0 v) := by simp only [wP, T.c, renIT, renI, inN, N0, Option.bind_some, Option.map_some]
    simp only [renITs, x2, a1]
  · have hb : renIB hs (.var v 29 (oC 1001 1002 1003 1004 1005 1006 1007 a1 a2 a3 a4 a5 a6 a7 w)) = some (.var v 29 (oC (m + 1) (m + 2) (m + 3) (m + 4) (m + 5) (m + 6) (m + 7) a1 a2 a3 a4 a5 a6 a7 w)) := by simp only [renIB, renIs, renI, inN, N0, N1, N2, N3, N4, N5, N6, N7, Option.bind_some, Option.map_some]
    show handsIn H hs hs
    conv => arg 3; rw [← hhs]
    refine ⟨?_, h1, h2, h3, h4, h5, h6, h7, trivial⟩
    · show (match renIB hs (.var v 29 (oC 1001 1002 1003 1004 1005 1006 1007 a1 a2 a3 a4 a5 a6 a7 w)) with | some B => H m0 = some B | none => False)
      rw [hb]; exact hH
  · conv => lhs; arg 3; rw [← hhs]
    simp only [renOBs, renOB, renOs, renO, N0, N1, N2, N3, N4, N5, N6, N7, Option.map_some, verOf, Blk.ver, if_true]; rfl
  · have hq : quiet r hs = false := by rw [← hhs]; simp [quiet]
    have e4 : hs.map (·.m) = m0 :: wN m := by rw [← hhs]; rfl
    rw [hq, e4]
    exact hk
end
def shutW (w : CW) (p : Nat) : CW := { w with shut := w.shut.set p 1, ops := w.ops + 1 }
def cancelW (w : CW) : CW := { shutW w 3 with user := 1 }
/- (*loop.example/teagle/impl.CrewWorld).shut -/
def r57_0 : List AOper := [ao 0 4 (.mv (.t 0)),
  ao 1 5 (.nck (.t 4)),
  ao 2 6 (.fa 16 (.t 5)),
  ao 3 7 (.ld 1 false (.t 6)),
  ao 4 8 (.mv (.t 1)),
  ao 5 9 (.ia 1 (.t 7) (.t 8)),
  an 6 (.st 1 (.t 9) (.k (.i 1)))]
def r57_1 : List AOper := [ao 0 10 (.mv (.t 0)),
  ao 1 11 (.nck (.t 10)),
  ao 2 12 (.fa 17 (.t 11)),
  ao 3 13 (.ld 1 false (.t 12)),
  ao 4 14 (.bin .add (.t 13) (.k (.i 1))),
  ao 5 15 (.nck (.t 10)),
  ao 6 16 (.fa 17 (.t 15)),
  an 7 (.st 1 (.t 16) (.t 14))]
def c57 : ACode := .seq (.reg r57_0) (.reg r57_1)
def s57 : List ARes := []
theorem ok57 : okF Try.prog 57 17 c57 s57 := ⟨Try.f57, Try.func57, Try.ntmps57, by kernel_rfl, by kernel_rfl, by kernel_rfl⟩
def UCw_1 := Bx.mk <|
  aN (uA c57.eq_1) <| aN (uR r57_0.eq_1) <| aN (uR r57_1.eq_1) <| s57.eq_1
theorem shut_ok {w : CW} (hl : w.shut.length = 4) (ho : 0 ≤ w.ops ∧ w.ops ≤ 10000) (p : Nat) (hp : p < 4) (v a1 a2 a3 a4 a5 a6 a7 m0 m : Nat) : ACallsF Try.prog 57 [wP 1000 v, .i p] (iH v a1 a2 a3 a4 a5 a6 a7 m0 m w (shutW w p)) (.tup []) := by
  obtain ⟨s, hs⟩ : ∃ s, w.shut[p]? = some s := ⟨_, List.getElem?_eq_getElem (by omega)⟩
  have es := en_at eI hs
  have gz : (0 : Int) ≤ p := by omega
  have k1 : (p : Int) < ((4 : Nat) : Int) := by omega
  have gm : p < 4 := hp
  have w1 : IntKind.i64.wrap (w.ops + 1) = w.ops + 1 := wrap64 ⟨by omega, by omega⟩
  have hn : (en eI w.shut).set p [.s (.int .i64 1)] = en eI (w.shut.set p 1) := en_set eI w.shut p 1
  have e1 : (shutW w p).shut = w.shut.set p 1 := rfl
  have e2 : (shutW w p).ops = w.ops + 1 := rfl
  have e3 : (w.shut.set p 1).length = w.shut.length := List.length_set
  refine ACallsF.intro ok57 follows fun X c0 => ?_
  simp only [RUX, Nat.reduceAdd, reduceIte, Nat.reduceEqDiff, Nat.reduceLT, Nat.reduceLeDiff, reduceCtorEq, eq_self, iH, wP, FIX, forall_const, endE_n, endE_r, CHT, disj, Nat.reduceBEq, beq_self_eq_true, APT, APX, forall_eq, ALT, KI, UCw_1.d, en_len, hl, es, gz, k1, gm, w1, eI, Int.toNat_natCast, hn, shutW, e3, imp_self, false_implies, and_self]
/- (*loop.example/teagle/impl.CrewWorld).cancel -/
def r25_0 : List AOper := [ao 0 2 (.mv (.t 0)),
  ao 1 3 (.call (.k (.c (.fn 57 []))) [(.t 2), (.k (.i 3))])]
def r25_1 : List AOper := [ao 0 4 (.mv (.t 0)),
  ao 1 5 (.nck (.t 4)),
  ao 2 6 (.fa 13 (.t 5)),
  an 3 (.st 1 (.t 6) (.k (.i 1)))]
def c25 : ACode := .seq (.reg r25_0) (.reg r25_1)
def s25 : List ARes := []
theorem ok25 : okF Try.prog 25 7 c25 s25 := ⟨Try.f25, Try.func25, Try.ntmps25, by kernel_rfl, by kernel_rfl, by kernel_rfl⟩
def UCw_2 := Bx.mk <|
  aN (uA c25.eq_1) <| aN (uR r25_0.eq_1) <| aN (uR r25_1.eq_1) <| s25.eq_1
theorem cancel_ok {w : CW} (hl : w.shut.length = 4) (ho : 0 ≤ w.ops ∧ w.ops ≤ 10000) (v a1 a2 a3 a4 a5 a6 a7 m0 m : Nat) : ACallsF Try.prog 25 [wP 1000 v] (iH v a1 a2 a3 a4 a5 a6 a7 m0 m w (cancelW w)) (.tup []) := by
  refine ACallsF.intro ok25 follows fun X c0 => ?_
  simp only [RUX, Nat.reduceAdd, reduceIte, Nat.reduceEqDiff, Nat.reduceLT, Nat.reduceLeDiff, reduceCtorEq, eq_self, iH, wP, FIX, forall_const, endE_n, endE_r, CHT, disj, Nat.reduceBEq, beq_self_eq_true, APT, APX, forall_eq, ALT, KI, UCw_2.d]
  refine callIn (m := 1000) (shut_ok hl ho 3 (by decide)) rfl rfl rfl (fun _ _ => rfl) rfl rfl rfl rfl rfl rfl rfl rfl (by decide) ⟨rfl, ?_⟩
  simp only [RUX, Nat.reduceAdd, reduceIte, Nat.reduceEqDiff, Nat.reduceLT, Nat.reduceLeDiff, reduceCtorEq, eq_self, iH, wP, FIX, forall_const, endE_n, endE_r, CHT, disj, Nat.reduceBEq, beq_self_eq_true, APT, APX, forall_eq, ALT, KI, UCw_2.d, cancelW, imp_self, false_implies, and_self]
end Go.V
set_option linter.unusedSimpArgs false
namespace Go.V
open Go.Proofs
/- loop.example/teagle/spec.CrewCancel -/
def r6_0 : List AOper := [ao 0 1 (.box 29 (.t 0)),
  ao 1 2 (.alloc 29 [(.v (.s (.int .i64 0))), (.v (.s (.int .i64 0))), (.v (.s (.int .i64 0))), (.v (.s (.int .i64 0))), (.v (.s (.int .i64 0))), .nil0, .nil0, (.v (.s (.int .i64 0))), .nil0, (.v (.s (.int .i64 0))), .nil0, (.v (.s (.int .i64 0))), .nil0, (.v (.s (.int .i64 0))), .nil0, (.v (.s (.int .i64 0))), .nil0, (.v (.s (.int .i64 0)))]),
  ao 2 3 (.mv (.k (.b false)))]
def r6_1 : List AOper := [ao 0 4 (.ld 18 true (.t 1)),
  ao 1 5 (.call (.k (.c (.fn 19 []))) [(.t 4)]),
  ao 2 6 (.un .not (.t 5)),
  ao 3 7 (.mv (.t 6)),
  ag 4 8 7 false [] (.fa 13 (.t 1)),
  ag 5 9 7 false [] (.ld 1 false (.t 8)),
  ag 6 10 7 false [] (.bin .eql (.t 9) (.k (.i 1))),
  ao 7 11 (.pick (.t 7) (.k (.b true)) (.t 10))]
def r6_2 : List AOper := [ao 0 12 (.build [(.v (.s (.int .i64 0))), (.v (.s (.int .i64 0))), (.v (.s (.int .i64 0))), (.v (.s (.int .i64 0))), (.v (.s (.int .i64 0))), .nil0, .nil0, (.v (.s (.int .i64 0))), .nil0, (.v (.s (.int .i64 0))), .nil0, (.v (.s (.int .i64 0))), .nil0, (.v (.s (.int .i64 0))), .nil0, (.v (.s (.int .i64 0))), .nil0, (.v (.s (.int .i64 0)))] []),
  an 1 (.st 18 (.t 2) (.t 12)),
  ao 2 3 (.mv (.k (.b false)))]
def c6_3 : ACode := .seq (.reg r6_2) .ret
def c6_4 : ACode := .cond (.t 11) c6_3 .skip
def c6_5 : ACode := .seq (.reg r6_1) c6_4
def r6_6 : List AOper := [ao 0 13 (.ld 18 true (.t 1)),
  ao 1 14 (.call (.k (.c (.fn 20 []))) [(.t 13)]),
  an 2 (.st 18 (.t 1) (.t 14))]
def r6_7 : List AOper := [ao 0 15 (.fa 13 (.t 1)),
  an 1 (.st 1 (.t 15) (.k (.i 1)))]
def r6_8 : List AOper := [ao 0 16 (.fa 16 (.t 1)),
  ao 1 17 (.ld 1 false (.t 16)),
  ao 2 18 (.ia 1 (.t 17) (.k (.i 3))),
  an 3 (.st 1 (.t 18) (.k (.i 1)))]
def r6_9 : List AOper := [ao 0 19 (.fa 17 (.t 1)),
  ao 1 20 (.ld 1 false (.t 19)),
  ao 2 21 (.bin .add (.t 20) (.k (.i 1))),
  ao 3 22 (.fa 17 (.t 1)),
  an 4 (.st 1 (.t 22) (.t 21))]
def r6_10 : List AOper := [ao 0 23 (.ld 18 true (.t 1)),
  an 1 (.st 18 (.t 2) (.t 23)),
  ao 2 3 (.mv (.k (.b true)))]
def c6 : ACode := .seq (.reg r6_0) (.seq c6_5 (.seq (.reg r6_6) (.seq (.reg r6_7) (.seq (.reg r6_8) (.seq (.reg r6_9) (.seq (.reg r6_10) .ret))))))
def s6 : List ARes := [.cell 2 18 true, .tmp 3]
theorem ok6 : okF Try.prog 6 24 c6 s6 := ⟨Try.f6, Try.func6, Try.ntmps6, by kernel_rfl, by kernel_rfl, by kernel_rfl⟩
def UCx_1 := Bx.mk <|
  aN (uA c6.eq_1) <| aN (uR r6_0.eq_1) <| aN (uA c6_5.eq_1) <| aN (uR r6_1.eq_1) <| aN (uA c6_4.eq_1) <| aN (uA c6_3.eq_1) <| aN (uR r6_2.eq_1) <| aN (uR r6_6.eq_1) <| aN (uR r6_7.eq_1) <| aN (uR r6_8.eq_1) <| aN (uR r6_9.eq_1) <| aN (uR r6_10.eq_1) <| s6.eq_1
set_option maxHeartbeats 1000000 in
theorem cancelS_no {w : CW} (h : ¬ (WOk w ∧ w.user ≠ 1)) : ACallsF Try.prog 6 [tCW w] [] (.tup [.agg (cwC cw0), .one (.v (.s (.bool false)))]) := by
  obtain ⟨b, hb, C⟩ := crewOk_ok w
  refine ACallsF.intro ok6 follows fun X c0 => ?_
  simp only [RUX, Nat.reduceAdd, reduceIte, Nat.reduceEqDiff, Nat.reduceLT, Nat.reduceLeDiff, reduceCtorEq, eq_self, FIX, forall_const, endE_n, endE_r, CHT, disj, Nat.reduceBEq, beq_self_eq_true, APT, APX, forall_eq, ALT, KI, UCx_1.d]
  refine callC C rfl rfl rfl rfl ?_
  cases b with
  | false =>
    simp only [RUX, Nat.reduceAdd, reduceIte, Nat.reduceEqDiff, Nat.reduceLT, Nat.reduceLeDiff, reduceCtorEq, eq_self, FIX, forall_const, endE_n, endE_r, CHT, disj, Nat.reduceBEq, beq_self_eq_true, APT, APX, forall_eq, ALT, KI, UCx_1.d]
    rfl
  | true =>
    have hu : w.user = 1 := Decidable.not_not.1 fun g => h ⟨hb.1 rfl, g⟩
    have k1 := eqb hu
    simp only [RUX, Nat.reduceAdd, reduceIte, Nat.reduceEqDiff, Nat.reduceLT, Nat.reduceLeDiff, reduceCtorEq, eq_self, FIX, forall_const, endE_n, endE_r, CHT, disj, Nat.reduceBEq, beq_self_eq_true, APT, APX, forall_eq, ALT, KI, UCx_1.d, k1]
    rfl
set_option maxHeartbeats 1000000 in
theorem cancelS_yes {w : CW} (h : WOk w) (hu : w.user ≠ 1) : ACallsF Try.prog 6 [tCW w] [] (.tup [.agg (cwC (cancelW w)), .one (.v (.s (.bool true)))]) := by
  obtain ⟨b, hb, C⟩ := crewOk_ok w
  have k1 := neqb hu
  have f := h.form
  have hls : w.shut.length = 4 := by have := f.ls; omega
  have ho := f.ops0
  have ho2 := f.ops1
  have w1 : IntKind.i64.wrap (w.ops + 1) = w.ops + 1 := wrap64 ⟨by omega, by omega⟩
  obtain ⟨s, hs⟩ : ∃ s, w.shut[3]? = some s := ⟨_, List.getElem?_eq_getElem (by omega)⟩
  have es := en_at eI hs
  have gz : (0 : Int) ≤ 3 := by decide
  have g3 : (3 : Int) < ((4 : Nat) : Int) := by decide
  have g4 : Int.toNat 3 = 3 := rfl
  have hn : (en eI w.shut).set 3 [.s (.int .i64 1)] = en eI (w.shut.set 3 1) := en_set eI w.shut 3 1
  have e3 : (w.shut.set 3 1).length = 4 := by rw [List.length_set]; exact hls
  have tk : (en eI (w.shut.set 3 1)).take 4 = en eI (w.shut.set 3 1) := by rw [← e3, en_take]
  refine ACallsF.intro ok6 follows fun X c0 => ?_
  simp only [RUX, Nat.reduceAdd, reduceIte, Nat.reduceEqDiff, Nat.reduceLT, Nat.reduceLeDiff, reduceCtorEq, eq_self, FIX, forall_const, endE_n, endE_r, CHT, disj, Nat.reduceBEq, beq_self_eq_true, APT, APX, forall_eq, ALT, KI, UCx_1.d]
  refine callC C rfl rfl rfl rfl ?_
  cases b with
  | false => cases hb.2 h
  | true =>
  simp only [RUX, Nat.reduceAdd, reduceIte, Nat.reduceEqDiff, Nat.reduceLT, Nat.reduceLeDiff, reduceCtorEq, eq_self, FIX, forall_const, endE_n, endE_r, CHT, disj, Nat.reduceBEq, beq_self_eq_true, APT, APX, forall_eq, ALT, KI, UCx_1.d, k1]
  refine callW7 (m := 2000) (ws := []) (ns := []) (copy_ok f.small 2000) rfl rfl rfl (by decide) ⟨rfl, ?_⟩
  simp only [RUX, Nat.reduceAdd, reduceIte, Nat.reduceEqDiff, Nat.reduceLT, Nat.reduceLeDiff, reduceCtorEq, eq_self, FIX, forall_const, endE_n, endE_r, CHT, disj, Nat.reduceBEq, beq_self_eq_true, APT, APX, forall_eq, ALT, KI, UCx_1.d, en_len, hls, es, gz, g3, g4, w1, eI, hn, e3, tk, KI]
  rfl
/- loop.example/teagle/impl.CrewCancel -/
def r8_0 : List AOper := [ao 0 1 (.box 29 (.t 0)),
  ao 1 2 (.alloc 29 [(.v (.s (.int .i64 0))), (.v (.s (.int .i64 0))), (.v (.s (.int .i64 0))), (.v (.s (.int .i64 0))), (.v (.s (.int .i64 0))), .nil0, .nil0, (.v (.s (.int .i64 0))), .nil0, (.v (.s (.int .i64 0))), .nil0, (.v (.s (.int .i64 0))), .nil0, (.v (.s (.int .i64 0))), .nil0, (.v (.s (.int .i64 0))), .nil0, (.v (.s (.int .i64 0)))]),
  ao 2 3 (.mv (.k (.b false)))]
def r8_1 : List AOper := [ao 0 5 (.call (.k (.c (.fn 23 []))) [(.t 1)]),
  ao 1 6 (.un .not (.t 5)),
  ao 2 7 (.mv (.t 6)),
  ag 3 8 7 false [] (.fa 13 (.t 1)),
  ag 4 9 7 false [] (.ld 1 false (.t 8)),
  ag 5 10 7 false [] (.bin .eql (.t 9) (.k (.i 1))),
  ao 6 11 (.pick (.t 7) (.k (.b true)) (.t 10))]
def r8_2 : List AOper := [ao 0 12 (.build [(.v (.s (.int .i64 0))), (.v (.s (.int .i64 0))), (.v (.s (.int .i64 0))), (.v (.s (.int .i64 0))), (.v (.s (.int .i64 0))), .nil0, .nil0, (.v (.s (.int .i64 0))), .nil0, (.v (.s (.int .i64 0))), .nil0, (.v (.s (.int .i64 0))), .nil0, (.v (.s (.int .i64 0))), .nil0, (.v (.s (.int .i64 0))), .nil0, (.v (.s (.int .i64 0)))] []),
  an 1 (.st 18 (.t 2) (.t 12)),
  ao 2 3 (.mv (.k (.b false)))]
def c8_3 : ACode := .seq (.reg r8_2) .ret
def c8_4 : ACode := .cond (.t 11) c8_3 .skip
def c8_5 : ACode := .seq (.reg r8_1) c8_4
def r8_6 : List AOper := [ao 0 13 (.call (.k (.c (.fn 24 []))) [(.t 1)]),
  ao 1 4 (.alloc 29 [(.v (.s (.int .i64 0))), (.v (.s (.int .i64 0))), (.v (.s (.int .i64 0))), (.v (.s (.int .i64 0))), (.v (.s (.int .i64 0))), .nil0, .nil0, (.v (.s (.int .i64 0))), .nil0, (.v (.s (.int .i64 0))), .nil0, (.v (.s (.int .i64 0))), .nil0, (.v (.s (.int .i64 0))), .nil0, (.v (.s (.int .i64 0))), .nil0, (.v (.s (.int .i64 0)))]),
  an 2 (.st 18 (.t 4) (.t 13))]
def r8_7 : List AOper := [ao 0 14 (.call (.k (.c (.fn 25 []))) [(.t 4)])]
def r8_8 : List AOper := [ao 0 15 (.ld 18 true (.t 4)),
  an 1 (.st 18 (.t 2) (.t 15)),
  ao 2 3 (.mv (.k (.b true)))]
def c8 : ACode := .seq (.reg r8_0) (.seq c8_5 (.seq (.reg r8_6) (.seq (.reg r8_7) (.seq (.reg r8_8) .ret))))
def s8 : List ARes := [.cell 2 18 true, .tmp 3]
theorem ok8 : okF Try.prog 8 16 c8 s8 := ⟨Try.f8, Try.func8, Try.ntmps8, by kernel_rfl, by kernel_rfl, by kernel_rfl⟩
def UCx_2 := Bx.mk <|
  aN (uA c8.eq_1) <| aN (uR r8_0.eq_1) <| aN (uA c8_5.eq_1) <| aN (uR r8_1.eq_1) <| aN (uA c8_4.eq_1) <| aN (uA c8_3.eq_1) <| aN (uR r8_2.eq_1) <| aN (uR r8_6.eq_1) <| aN (uR r8_7.eq_1) <| aN (uR r8_8.eq_1) <| s8.eq_1
set_option maxHeartbeats 1000000 in
theorem cancelI_no {w : CW} (hs : Small w) (h : ¬ (WOk w ∧ w.user ≠ 1)) : ACallsF Try.prog 8 [tCW w] [] (.tup [.agg czC, .one (.v (.s (.bool false)))]) := by
  obtain ⟨b, hb, C⟩ := isOk_ok w hs.t
  refine ACallsF.intro ok8 follows fun X c0 => ?_
  simp only [RUX, Nat.reduceAdd, reduceIte, Nat.reduceEqDiff, Nat.reduceLT, Nat.reduceLeDiff, reduceCtorEq, eq_self, FIX, forall_const, endE_n, endE_r, CHT, disj, Nat.reduceBEq, beq_self_eq_true, APT, APX, forall_eq, ALT, KI, UCx_2.d]
  refine callP (m := 1) (w := w) C rfl rfl rfl rfl rfl ⟨rfl, ?_⟩
  cases b with
  | false =>
    simp only [RUX, Nat.reduceAdd, reduceIte, Nat.reduceEqDiff, Nat.reduceLT, Nat.reduceLeDiff, reduceCtorEq, eq_self, FIX, forall_const, endE_n, endE_r, CHT, disj, Nat.reduceBEq, beq_self_eq_true, APT, APX, forall_eq, ALT, KI, UCx_2.d]
  | true =>
    have hu : w.user = 1 := Decidable.not_not.1 fun g => h ⟨hb.1 rfl, g⟩
    have k1 := eqb hu
    simp only [RUX, Nat.reduceAdd, reduceIte, Nat.reduceEqDiff, Nat.reduceLT, Nat.reduceLeDiff, reduceCtorEq, eq_self, FIX, forall_const, endE_n, endE_r, CHT, disj, Nat.reduceBEq, beq_self_eq_true, APT, APX, forall_eq, ALT, KI, UCx_2.d, k1]
set_option maxHeartbeats 1000000 in
theorem cancelI_yes {w : CW} (h : WOk w) (hu : w.user ≠ 1) (m : Nat) : ACallsF Try.prog 8 [tCW w] (wnH 2001 2002 2003 2004 2005 2006 2007 m (cancelW w)) (.tup [.agg (oC 2001 2002 2003 2004 2005 2006 2007 0 0 0 0 0 0 0 (cancelW w)), .one (.v (.s (.bool true)))]) := by
  have f := h.form
  obtain ⟨b, hb, C⟩ := isOk_ok w f.small.t
  have k1 := neqb hu
  have hls : w.shut.length = 4 := by have := f.ls; omega
  have ho := f.ops0
  have ho2 := f.ops1
  refine ACallsF.intro ok8 follows fun X c0 => ?_
  simp only [RUX, Nat.reduceAdd, reduceIte, Nat.reduceEqDiff, Nat.reduceLT, Nat.reduceLeDiff, reduceCtorEq, eq_self, wnH, FIX, forall_const, endE_n, endE_r, CHT, disj, Nat.reduceBEq, beq_self_eq_true, APT, APX, forall_eq, ALT, KI, UCx_2.d]
  refine callP (m := 1) (w := w) C rfl rfl rfl rfl rfl ⟨rfl, ?_⟩
  cases b with
  | false => cases hb.2 h
  | true =>
  simp only [RUX, Nat.reduceAdd, reduceIte, Nat.reduceEqDiff, Nat.reduceLT, Nat.reduceLeDiff, reduceCtorEq, eq_self, wnH, FIX, forall_const, endE_n, endE_r, CHT, disj, Nat.reduceBEq, beq_self_eq_true, APT, APX, forall_eq, ALT, KI, UCx_2.d, k1]
  refine callP7 (m0 := 1) (m := 2000) (fun m0 v m => clone_ok f.small m0 v m) rfl rfl rfl (by decide) (by decide) (by decide) ⟨rfl, ?_⟩
  simp only [RUX, Nat.reduceAdd, reduceIte, Nat.reduceEqDiff, Nat.reduceLT, Nat.reduceLeDiff, reduceCtorEq, eq_self, wnH, FIX, forall_const, endE_n, endE_r, CHT, disj, Nat.reduceBEq, beq_self_eq_true, APT, APX, forall_eq, ALT, KI, UCx_2.d, k1]
  refine callIn (m0 := 4) (m := 2000) (fun v a1 a2 a3 a4 a5 a6 a7 m0 m => cancel_ok hls ⟨ho, ho2⟩ v a1 a2 a3 a4 a5 a6 a7 m0 m) rfl rfl rfl (fun _ _ => rfl) rfl rfl rfl rfl rfl rfl rfl rfl (by decide) ⟨rfl, ?_⟩
  simp only [RUX, Nat.reduceAdd, reduceIte, Nat.reduceEqDiff, Nat.reduceLT, Nat.reduceLeDiff, reduceCtorEq, eq_self, wnH, FIX, forall_const, endE_n, endE_r, CHT, disj, Nat.reduceBEq, beq_self_eq_true, APT, APX, forall_eq, ALT, KI, UCx_2.d, imp_self, false_implies, and_self]
end Go.V

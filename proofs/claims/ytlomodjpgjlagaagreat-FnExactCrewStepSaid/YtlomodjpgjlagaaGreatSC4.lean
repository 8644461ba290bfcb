/- It is proved that the law FnExactCrewStep returns true for all arguments and leaves its arguments as they were; no condition. -/
import Derived.Test.YtlomodjpgjlagaaGreatSC3
set_option linter.unusedSimpArgs false
namespace Go.V
open Go.Proofs
abbrev bI (v : Nat) (xs : List Int) : Blk := .arr v true 1 3 (en eI xs)
abbrev bH (v : Nat) (xs : List Hd) : Blk := .arr v true 2 68 (en eH xs)
/-- A world whose rows are arrays of its own. -/
abbrev oC (c1 c2 c3 c4 c5 c6 c7 v1 v2 v3 v4 v5 v6 v7 : Nat) (w : CW) : List C := [iC w.jobs, iC w.workers, iC w.window, iC w.next, iC w.reader, .own c1 v1 w.queue.length, .own c2 v2 w.hands.length, iC w.closer, .own c3 v3 w.results.length, iC w.keeper, .own c4 v4 w.ring.length, iC w.due, .own c5 v5 w.out.length, iC w.user, .own c6 v6 w.got.length, iC w.room, .own c7 v7 w.shut.length, iC w.ops]
/-- A world's seven arrays, new. -/
abbrev wnH (c1 c2 c3 c4 c5 c6 c7 m : Nat) (w : CW) : List Hand := [newH c1 (m + 1) 1 3 (en eI w.queue), newH c2 (m + 2) 2 68 (en eH w.hands), newH c3 (m + 3) 1 3 (en eI w.results), newH c4 (m + 4) 1 3 (en eI w.ring), newH c5 (m + 5) 1 3 (en eI w.out), newH c6 (m + 6) 1 3 (en eI w.got), newH c7 (m + 7) 1 3 (en eI w.shut)]
/-- What the caller gets. -/
abbrev wO (m n : Nat) (w : CW) : List (Nat × Blk) := [(m + 1, bI n w.queue), (m + 2, bH n w.hands), (m + 3, bI n w.results), (m + 4, bI n w.ring), (m + 5, bI n w.out), (m + 6, bI n w.got), (m + 7, bI n w.shut)]
abbrev wN (m : Nat) : List Nat := [m + 1, m + 2, m + 3, m + 4, m + 5, m + 6, m + 7]
section
variable {P : Program} {t : Nat → T} {H : HMap} {c : Nat} {f : Opd} {args : List Opd} {fid : FuncId} {k : Nat} {d : Option Nat} {un : List Nat} {l : List AOper} {prev : List (Nat × List Nat × List Nat)} {K : St → Prop} {ws : List (Nat × Blk)} {ns : List Nat} {argsC : List T}
theorem wn_ren (c1 c2 c3 c4 c5 c6 c7 m nv : Nat) (w : CW) (hc : [c1, c2, c3, c4, c5, c6, c7].Nodup) (hs : List Hand) (h0 : ∀ i, i ∈ [c1, c2, c3, c4, c5, c6, c7] → renN hs i = renN (wnH c1 c2 c3 c4 c5 c6 c7 m w) i) : renOs hs nv (oC c1 c2 c3 c4 c5 c6 c7 0 0 0 0 0 0 0 w) = some (oC (m + 1) (m + 2) (m + 3) (m + 4) (m + 5) (m + 6) (m + 7) nv nv nv nv nv nv nv w) := by
  simp only [List.nodup_cons, List.mem_cons, List.not_mem_nil, or_false, not_or, not_false_eq_true, List.nodup_nil, and_true] at hc
  obtain ⟨⟨h12, h13, h14, h15, h16, h17⟩, ⟨h23, h24, h25, h26, h27⟩, ⟨h34, h35, h36, h37⟩, ⟨h45, h46, h47⟩, ⟨h56, h57⟩, h67⟩ := hc
  have N1 : renN hs c1 = some (newH c1 (m + 1) 1 3 (en eI w.queue)) := by rw [h0 _ (by simp)]; simp [renN]
  have N2 : renN hs c2 = some (newH c2 (m + 2) 2 68 (en eH w.hands)) := by rw [h0 _ (by simp)]; simp [renN, h12]
  have N3 : renN hs c3 = some (newH c3 (m + 3) 1 3 (en eI w.results)) := by rw [h0 _ (by simp)]; simp [renN, h13, h23]
  have N4 : renN hs c4 = some (newH c4 (m + 4) 1 3 (en eI w.ring)) := by rw [h0 _ (by simp)]; simp [renN, h14, h24, h34]
  have N5 : renN hs c5 = some (newH c5 (m + 5) 1 3 (en eI w.out)) := by rw [h0 _ (by simp)]; simp [renN, h15, h25, h35, h45]
  have N6 : renN hs c6 = some (newH c6 (m + 6) 1 3 (en eI w.got)) := by rw [h0 _ (by simp)]; simp [renN, h16, h26, h36, h46, h56]
  have N7 : renN hs c7 = some (newH c7 (m + 7) 1 3 (en eI w.shut)) := by rw [h0 _ (by simp)]; simp [renN, h17, h27, h37, h47, h57, h67]
  simp only [renOs, renO, N1, N2, N3, N4, N5, N6, N7, Option.map_some, verOf]; rfl
theorem wn_bs (c1 c2 c3 c4 c5 c6 c7 m nv : Nat) (w : CW) (hs : List Hand) : renOBs hs nv (wnH c1 c2 c3 c4 c5 c6 c7 m w) = some (wO m nv w) := by
  simp only [renOBs, renOB, verOf]; rfl
theorem wn_flat (c1 c2 c3 c4 c5 c6 c7 m : Nat) (w : CW) : ((wnH c1 c2 c3 c4 c5 c6 c7 m w).all fun h => h.b.isNone && flatB h.b') = true := by
  simp only [List.all_cons, List.all_nil, flatB, en_flat eI eI_flat, en_flat eH eH_flat]; rfl
theorem wn_m (c1 c2 c3 c4 c5 c6 c7 m : Nat) (w : CW) : ((wnH c1 c2 c3 c4 c5 c6 c7 m w).map (·.m)).Nodup := by simp
/-- A call that makes a world. -/
theorem callW7 {c1 c2 c3 c4 c5 c6 c7 m : Nat} {w : CW} (hC : ACallsF P fid argsC (wnH c1 c2 c3 c4 c5 c6 c7 m w) (.pt (.agg (oC c1 c2 c3 c4 c5 c6 c7 0 0 0 0 0 0 0 w)))) (hf : ev t f = .pt (.one (.fn fid []))) (hl : lendTs H argsC (args.map (ev t)) = some (argsC, ws, ns)) (ha : argsC.all closedA = true) (hc : [c1, c2, c3, c4, c5, c6, c7].Nodup)
    (hk : chk prev un ⟨.pt (.agg (oC (m + 1) (m + 2) (m + 3) (m + 4) (m + 5) (m + 6) (m + 7) (c + k) (c + k) (c + k) (c + k) (c + k) (c + k) (c + k) w)), wO m (c + k) w, ns ++ wN m, wN m⟩ = true ∧ DRun P l ((k, ns ++ wN m, wN m) :: prev) K ⟨updD t d (.pt (.agg (oC (m + 1) (m + 2) (m + 3) (m + 4) (m + 5) (m + 6) (m + 7) (c + k) (c + k) (c + k) (c + k) (c + k) (c + k) (c + k) w))), updH H (wO m (c + k) w), c⟩) :
    step P k d un (.call f args) l prev K t H c := by
  refine callF (r' := .pt (.agg (oC (m + 1) (m + 2) (m + 3) (m + 4) (m + 5) (m + 6) (m + 7) (c + k) (c + k) (c + k) (c + k) (c + k) (c + k) (c + k) w))) (ob := wO m (c + k) w) _ hC hf hl ha (by simp) (wn_m _ _ _ _ _ _ _ _ _) (by simpa using hc) ?_ ?_ (wn_bs _ _ _ _ _ _ _ _ _ _ _) hk
  · simp only [quiet, wn_flat]; rfl
  · simp only [renOT, renOP, wn_ren _ _ _ _ _ _ _ m (c + k) w hc (wnH c1 c2 c3 c4 c5 c6 c7 m w) (fun _ _ => rfl), Option.map_some]
/-- A call that makes a world and says yes. -/
theorem callW7b {c1 c2 c3 c4 c5 c6 c7 m : Nat} {w : CW} {b : Bool} (hC : ACallsF P fid argsC (wnH c1 c2 c3 c4 c5 c6 c7 m w) (.tup [.agg (oC c1 c2 c3 c4 c5 c6 c7 0 0 0 0 0 0 0 w), .one (.v (.s (.bool b)))])) (hf : ev t f = .pt (.one (.fn fid []))) (hl : lendTs H argsC (args.map (ev t)) = some (argsC, ws, ns)) (ha : argsC.all closedA = true) (hc : [c1, c2, c3, c4, c5, c6, c7].Nodup)
    (hk : chk prev un ⟨.tup [.agg (oC (m + 1) (m + 2) (m + 3) (m + 4) (m + 5) (m + 6) (m + 7) (c + k) (c + k) (c + k) (c + k) (c + k) (c + k) (c + k) w), .one (.v (.s (.bool b)))], wO m (c + k) w, ns ++ wN m, wN m⟩ = true ∧ DRun P l ((k, ns ++ wN m, wN m) :: prev) K ⟨updD t d (.tup [.agg (oC (m + 1) (m + 2) (m + 3) (m + 4) (m + 5) (m + 6) (m + 7) (c + k) (c + k) (c + k) (c + k) (c + k) (c + k) (c + k) w), .one (.v (.s (.bool b)))]), updH H (wO m (c + k) w), c⟩) :
    step P k d un (.call f args) l prev K t H c := by
  refine callF (r' := .tup [.agg (oC (m + 1) (m + 2) (m + 3) (m + 4) (m + 5) (m + 6) (m + 7) (c + k) (c + k) (c + k) (c + k) (c + k) (c + k) (c + k) w), .one (.v (.s (.bool b)))]) (ob := wO m (c + k) w) _ hC hf hl ha (by simp) (wn_m _ _ _ _ _ _ _ _ _) (by simpa using hc) ?_ ?_ (wn_bs _ _ _ _ _ _ _ _ _ _ _) hk
  · simp only [quiet, wn_flat]; rfl
  · simp only [renOT, renOPs, renOP, wn_ren _ _ _ _ _ _ _ m (c + k) w hc (wnH c1 c2 c3 c4 c5 c6 c7 m w) (fun _ _ => rfl), Option.map_some, renO]
/-- A call of a method that looks at a world and makes one. -/
theorem callP7 {c1 c2 c3 c4 c5 c6 c7 m m0 v : Nat} {w w' : CW} (hC : ∀ m0 v m, ACallsF P fid [wP 1000 v] (wHd m0 v w :: wnH c1 c2 c3 c4 c5 c6 c7 m w') (.pt (.agg (oC c1 c2 c3 c4 c5 c6 c7 0 0 0 0 0 0 0 w')))) (hf : ev t f = .pt (.one (.fn fid []))) (hl : args.map (ev t) = [wP m0 v]) (hH : H m0 = some (cwB v w)) (hc : [c1, c2, c3, c4, c5, c6, c7].Nodup) (hc2 : 1000 ∉ [c1, c2, c3, c4, c5, c6, c7]) (hm : m0 ∉ wN m)
    (hk : chk prev un ⟨.pt (.agg (oC (m + 1) (m + 2) (m + 3) (m + 4) (m + 5) (m + 6) (m + 7) (c + k) (c + k) (c + k) (c + k) (c + k) (c + k) (c + k) w')), (m0, cwB v w) :: wO m (c + k) w', m0 :: wN m, m0 :: wN m⟩ = true ∧ DRun P l ((k, m0 :: wN m, m0 :: wN m) :: prev) K ⟨updD t d (.pt (.agg (oC (m + 1) (m + 2) (m + 3) (m + 4) (m + 5) (m + 6) (m + 7) (c + k) (c + k) (c + k) (c + k) (c + k) (c + k) (c + k) w'))), updH H (wO m (c + k) w'), c⟩) :
    step P k d un (.call f args) l prev K t H c := by
  have hN : ∀ hs : List Hand, renN (wHd m0 v w :: hs) 1000 = some (wHd m0 v w) := fun hs => by simp [renN]
  have hcl : (cwC w).all closedC = true := rfl
  have hb : ∀ hs, renIB hs (cwB v w) = some (cwB v w) := fun hs => by simp only [renIB, (closed_Cs hs H (cwC w) hcl).2.1, Option.map_some]
  refine callW (caps := []) («as» := [wP m0 v]) (ws := []) (ns := []) (r' := .pt (.agg (oC (m + 1) (m + 2) (m + 3) (m + 4) (m + 5) (m + 6) (m + 7) (c + k) (c + k) (c + k) (c + k) (c + k) (c + k) (c + k) w'))) (ob := (m0, cwB v w) :: wO m (c + k) w') (wHd m0 v w :: wnH c1 c2 c3 c4 c5 c6 c7 m w') (hC m0 v m) hf ?_ ?_ ⟨?_, trivial, trivial, trivial, trivial, trivial, trivial, trivial, trivial⟩ ?_ ?_ ?_ ?_ ?_
  · rw [hl]; rfl
  · simp only [renITs, wP, T.c, renIT, renI, inN, hN, Option.bind_some, Option.map_some]
  · show (match renIB (wHd m0 v w :: wnH c1 c2 c3 c4 c5 c6 c7 m w') (cwB v w) with | some B => (updH H []) m0 = some B | none => False)
    rw [hb]; exact hH
  · rw [List.map_cons, List.nodup_cons]
    exact ⟨by simpa using hm, wn_m _ _ _ _ _ _ _ _ _⟩
  · rw [List.map_cons, List.nodup_cons]
    exact ⟨by simpa using hc2, by simpa using hc⟩
  · simp only [renOT, renOP]
    have hr := wn_ren _ _ _ _ _ _ _ m (c + k) w' hc (wHd m0 v w :: wnH c1 c2 c3 c4 c5 c6 c7 m w') fun i hi => by
      have : (1000 == i) = false := beq_eq_false_iff_ne.2 fun e => hc2 (e ▸ hi)
      simp only [renN, List.find?, this]
    rw [hr]; rfl
  · have h1 : renOB (wHd m0 v w :: wnH c1 c2 c3 c4 c5 c6 c7 m w') (c + k) (verOf (c + k) (wHd m0 v w)) (cwB v w) = some (cwB v w) := by
      simp only [renOB, verOf, Blk.ver, if_true]
      rw [(closed_Cs _ H (cwC w) hcl).2.2]
      rfl
    simp only [renOBs]
    rw [h1]
    have := wn_bs c1 c2 c3 c4 c5 c6 c7 m (c + k) w' (wHd m0 v w :: wnH c1 c2 c3 c4 c5 c6 c7 m w')
    simp only [renOBs] at this
    rw [this]
  · have e1 : (if quiet (.pt (.agg (oC c1 c2 c3 c4 c5 c6 c7 0 0 0 0 0 0 0 w'))) (wHd m0 v w :: wnH c1 c2 c3 c4 c5 c6 c7 m w') = true then ([] : List (Nat × Blk)) else []) = [] := by split <;> rfl
    have e2 : (if quiet (.pt (.agg (oC c1 c2 c3 c4 c5 c6 c7 0 0 0 0 0 0 0 w'))) (wHd m0 v w :: wnH c1 c2 c3 c4 c5 c6 c7 m w') = true then ([] : List Nat) else []) = [] := by split <;> rfl
    rw [e1, e2]
    have e3 : updH H ([] ++ ((m0, cwB v w) :: wO m (c + k) w')) = updH H (wO m (c + k) w') := by
      show updH (updH H [(m0, cwB v w)]) _ = _
      rw [updH_same hH]
    rw [e3]
    exact hk
end
end Go.V
set_option linter.unusedSimpArgs false
namespace Go.V
open Go.Proofs
open Nat (reduceAdd reduceEqDiff reduceLT reduceLeDiff)
/- slices.Clone[[]int,int] -/
def r90_0 : List AOper := [ao 0 2 (.mv (.k (.c .nil0)))]
def r90_1 : List AOper := [ao 0 3 (.mv (.t 0)),
  ao 1 4 (.isnil false (.t 3))]
def r90_2 : List AOper := [ao 0 2 (.mv (.k (.c .nil0)))]
def c90_3 : ACode := .seq (.reg r90_2) .ret
def c90_4 : ACode := .cond (.t 4) c90_3 .skip
def c90_5 : ACode := .seq (.reg r90_1) c90_4
def r90_6 : List AOper := [ao 0 5 (.bsl 1 3 []),
  ao 1 6 (.mv (.t 0)),
  ao 2 7 (.app 1 3 8 (.t 5) (.t 6)),
  ao 3 2 (.mv (.t 7))]
def c90 : ACode := .seq (.reg r90_0) (.seq c90_5 (.seq (.reg r90_6) .ret))
def s90 : List ARes := [.tmp 2]
theorem ok90 : okF Tryz.prog 90 8 c90 s90 := ⟨Tryz.f90, Tryz.func90, Tryz.ntmps90, by kernel_rfl, by kernel_rfl, by kernel_rfl⟩
def UCv_1 := Bx.mk <|
  aN (uA c90.eq_1) <| aN (uR r90_0.eq_1) <| aN (uA c90_5.eq_1) <| aN (uR r90_1.eq_1) <| aN (uA c90_4.eq_1) <| aN (uA c90_3.eq_1) <| aN (uR r90_2.eq_1) <| aN (uR r90_6.eq_1) <| s90.eq_1
theorem cloneI_ok (xs : List Int) (hl : xs.length ≤ 2000000) (m : Nat) : ACallsF Tryz.prog 90 [tL (en eI xs)] [newH 5 m 1 3 (en eI xs)] (.c (.own 5 0 xs.length)) := by
  have q1 : xs.length * 8 ≤ 140737488355328 := by omega
  have q2 : xs.length ≤ 9223372036854775807 := by omega
  have hb1 : (true != false) = true := rfl
  have hb2 : (false != false) = false := rfl
  cases xs with
  | nil =>
    refine nilArgH fun ad c => ?_
    cases ad with
    | none =>
      refine ownNil (by decide) (ACallsF.intro ok90 follows fun X c0 => ?_)
      simp only [RZ, reduceAdd, reduceIte, reduceEqDiff, reduceLT, reduceLeDiff, reduceCtorEq, Nat.reduceBEq, UCv_1.d, Option.isNone_none, hb1]
    | some a =>
      refine ACallsF.intro ok90 follows fun X c0 => ?_
      simp only [RZ, reduceAdd, reduceIte, reduceEqDiff, reduceLT, reduceLeDiff, reduceCtorEq, Nat.reduceBEq, UCv_1.d, Option.isNone_some, hb2, Nat.zero_mul, Nat.zero_le, List.not_mem_nil, false_implies, implies_true, imp_self]
  | cons y ys =>
    refine ACallsF.intro ok90 follows fun X c0 => ?_
    obtain ⟨x, es, he⟩ : ∃ x es, en eI (y :: ys) = x :: es := ⟨_, _, rfl⟩
    have hall := en_all eI eI_len (y :: ys)
    have hlen := en_len eI (y :: ys)
    rw [he] at hall hlen ⊢
    simp only [List.length_cons] at hlen q1 q2
    have hlen' : es.length = ys.length := by omega
    simp only [RUX, Nat.reduceAdd, reduceIte, Nat.reduceEqDiff, Nat.reduceLT, Nat.reduceLeDiff, reduceCtorEq, eq_self, FIX, forall_const, endE_n, endE_r, CHT, disj, Nat.reduceBEq, beq_self_eq_true, APT, srcOf, sealPs, sealCs, sealC, UCv_1.d, hall, hlen', q1, q2, Nat.zero_add, imp_self]
/- slices.Clone[[]loop.example/teagle/impl.CrewHand,loop.example/teagle/impl.CrewHand] -/
def r91_0 : List AOper := [ao 0 2 (.mv (.k (.c .nil0)))]
def r91_1 : List AOper := [ao 0 3 (.mv (.t 0)),
  ao 1 4 (.isnil false (.t 3))]
def r91_2 : List AOper := [ao 0 2 (.mv (.k (.c .nil0)))]
def c91_3 : ACode := .seq (.reg r91_2) .ret
def c91_4 : ACode := .cond (.t 4) c91_3 .skip
def c91_5 : ACode := .seq (.reg r91_1) c91_4
def r91_6 : List AOper := [ao 0 5 (.bsl 2 68 []),
  ao 1 6 (.mv (.t 0)),
  ao 2 7 (.app 2 68 16 (.t 5) (.t 6)),
  ao 3 2 (.mv (.t 7))]
def c91 : ACode := .seq (.reg r91_0) (.seq c91_5 (.seq (.reg r91_6) .ret))
def s91 : List ARes := [.tmp 2]
theorem ok91 : okF Tryz.prog 91 8 c91 s91 := ⟨Tryz.f91, Tryz.func91, Tryz.ntmps91, by kernel_rfl, by kernel_rfl, by kernel_rfl⟩
def UCv_2 := Bx.mk <|
  aN (uA c91.eq_1) <| aN (uR r91_0.eq_1) <| aN (uA c91_5.eq_1) <| aN (uR r91_1.eq_1) <| aN (uA c91_4.eq_1) <| aN (uA c91_3.eq_1) <| aN (uR r91_2.eq_1) <| aN (uR r91_6.eq_1) <| s91.eq_1
theorem cloneH_ok (xs : List Hd) (hl : xs.length ≤ 2000000) (m : Nat) : ACallsF Tryz.prog 91 [tL (en eH xs)] [newH 5 m 2 68 (en eH xs)] (.c (.own 5 0 xs.length)) := by
  have q1 : xs.length * 16 ≤ 140737488355328 := by omega
  have q2 : xs.length ≤ 9223372036854775807 := by omega
  have hb1 : (true != false) = true := rfl
  have hb2 : (false != false) = false := rfl
  cases xs with
  | nil =>
    refine nilArgH fun ad c => ?_
    cases ad with
    | none =>
      refine ownNil (by decide) (ACallsF.intro ok91 follows fun X c0 => ?_)
      simp only [RZ, reduceAdd, reduceIte, reduceEqDiff, reduceLT, reduceLeDiff, reduceCtorEq, Nat.reduceBEq, UCv_2.d, Option.isNone_none, hb1]
    | some a =>
      refine ACallsF.intro ok91 follows fun X c0 => ?_
      simp only [RZ, reduceAdd, reduceIte, reduceEqDiff, reduceLT, reduceLeDiff, reduceCtorEq, Nat.reduceBEq, UCv_2.d, Option.isNone_some, hb2, Nat.zero_mul, Nat.zero_le, List.not_mem_nil, false_implies, implies_true, imp_self]
  | cons y ys =>
    refine ACallsF.intro ok91 follows fun X c0 => ?_
    obtain ⟨x, es, he⟩ : ∃ x es, en eH (y :: ys) = x :: es := ⟨_, _, rfl⟩
    have hall := en_all eH eH_len (y :: ys)
    have hlen := en_len eH (y :: ys)
    rw [he] at hall hlen ⊢
    simp only [List.length_cons] at hlen q1 q2
    have hlen' : es.length = ys.length := by omega
    simp only [RUX, Nat.reduceAdd, reduceIte, Nat.reduceEqDiff, Nat.reduceLT, Nat.reduceLeDiff, reduceCtorEq, eq_self, FIX, forall_const, endE_n, endE_r, CHT, disj, Nat.reduceBEq, beq_self_eq_true, APT, srcOf, sealPs, sealCs, sealC, UCv_2.d, hall, hlen', q1, q2, Nat.zero_add, imp_self]
def zI : Int := 0
def zH : Hd := ⟨0, 0⟩
/- loop.example/teagle/laws.toCrewHand -/
def r97_0 : List AOper := [ao 0 1 (.box 102 (.t 0)),
  ao 1 2 (.alloc 68 [(.v (.s (.int .i64 0))), (.v (.s (.int .i64 0)))])]
def r97_1 : List AOper := [ao 0 3 (.alloc 68 [(.v (.s (.int .i64 0))), (.v (.s (.int .i64 0)))])]
def r97_2 : List AOper := [ao 0 4 (.fa 0 (.t 1)),
  ao 1 5 (.ld 1 false (.t 4)),
  ao 2 6 (.fa 0 (.t 3)),
  an 3 (.st 1 (.t 6) (.t 5))]
def r97_3 : List AOper := [ao 0 7 (.fa 1 (.t 1)),
  ao 1 8 (.ld 1 false (.t 7)),
  ao 2 9 (.fa 1 (.t 3)),
  an 3 (.st 1 (.t 9) (.t 8))]
def r97_4 : List AOper := [ao 0 10 (.ld 2 true (.t 3)),
  an 1 (.st 2 (.t 2) (.t 10))]
def c97 : ACode := .seq (.reg r97_0) (.seq (.reg r97_1) (.seq (.reg r97_2) (.seq (.reg r97_3) (.seq (.reg r97_4) .ret))))
def s97 : List ARes := [.cell 2 2 true]
theorem ok97 : okF Tryz.prog 97 11 c97 s97 := ⟨Tryz.f97, Tryz.func97, Tryz.ntmps97, by kernel_rfl, by kernel_rfl, by kernel_rfl⟩
def UCv_3 := Bx.mk <|
  aN (uA c97.eq_1) <| aN (uR r97_0.eq_1) <| aN (uR r97_1.eq_1) <| aN (uR r97_2.eq_1) <| aN (uR r97_3.eq_1) <| aN (uR r97_4.eq_1) <| s97.eq_1
theorem toHd_ok (x : Hd) : ACallsF Tryz.prog 97 [tH x] [] (tH x) := by
  refine ACallsF.intro ok97 follows fun X c0 => ?_
  simp only [RZ, reduceAdd, reduceIte, reduceEqDiff, reduceLT, reduceLeDiff, reduceCtorEq, Nat.reduceBEq, UCv_3.d]
/- loop.example/teagle/laws.toIntS -/
def r56_0 : List AOper := [ao 0 2 (.mv (.k (.c .nil0)))]
def r56_1 : List AOper := [ao 0 5 (.mv (.t 0)),
  ao 1 6 (.len (.t 5)),
  ao 2 7 (.mks 1 3 8 [(.s (.int .i64 0))] (.t 6) (.t 6)),
  ao 3 3 (.mv (.t 7))]
def r56_2 : List AOper := [ao 0 4 (.mv (.k (.i 0)))]
def r56_3 : List AOper := [ao 0 8 (.mv (.t 4)),
  ao 1 9 (.mv (.t 0)),
  ao 2 10 (.len (.t 9)),
  ao 3 11 (.bin .lss (.t 8) (.t 10))]
def c56_4 : ACode := .cond (.t 11) .skip (.exit 0)
def c56_5 : ACode := .seq (.reg r56_3) c56_4
def r56_6 : List AOper := [ao 0 14 (.mv (.t 3)),
  ao 1 15 (.mv (.t 4)),
  ao 2 16 (.mv (.t 0)),
  ao 3 17 (.mv (.t 4)),
  ao 4 18 (.ia 1 (.t 16) (.t 17)),
  ao 5 19 (.ld 1 false (.t 18)),
  ao 6 20 (.ia 1 (.t 14) (.t 15)),
  an 7 (.st 1 (.t 20) (.t 19))]
def c56_7 : ACode := .block 1 (.reg r56_6)
def r56_8 : List AOper := [ao 0 12 (.mv (.t 4)),
  ao 1 13 (.bin .add (.t 12) (.k (.i 1))),
  ao 2 4 (.mv (.t 13))]
def c56_9 : ACode := .seq c56_5 (.seq c56_7 (.reg r56_8))
def c56_10 : ACode := .loop c56_9
def c56_11 : ACode := .block 0 c56_10
def c56_12 : ACode := .seq (.reg r56_2) c56_11
def r56_13 : List AOper := [ao 0 21 (.mv (.t 3)),
  ao 1 2 (.mv (.t 21))]
def c56 : ACode := .seq (.reg r56_0) (.seq (.reg r56_1) (.seq c56_12 (.seq (.reg r56_13) .ret)))
def s56 : List ARes := [.tmp 2]
theorem ok56 : okF Tryz.prog 56 22 c56 s56 := ⟨Tryz.f56, Tryz.func56, Tryz.ntmps56, by kernel_rfl, by kernel_rfl, by kernel_rfl⟩
def inv56 (xs : List Int) (i : Nat) (σ : St) : Prop := σ.t 0 = tL (en eI xs) ∧ (∃ v, σ.t 3 = .c (.own 7 v xs.length) ∧ σ.H 7 = some (.arr v true 1 3 (en eI (part xs zI i)))) ∧ σ.t 4 = .i i
def UCv_4 := Bx.mk <|
  aN (uA c56.eq_1) <| aN (uR r56_0.eq_1) <| aN (uR r56_1.eq_1) <| aN (uA c56_12.eq_1) <| aN (uR r56_2.eq_1) <| aN (uA c56_11.eq_1) <| aN (uA c56_10.eq_1) <| aN (uR r56_13.eq_1) <| s56.eq_1
def UCv_9 := Bx.mk <|
  aN (uA c56_9.eq_1) <| aN (uA c56_5.eq_1) <| aN (uR r56_3.eq_1) <| aN (uA c56_4.eq_1) <| aN (uA c56_7.eq_1) <| aN (uR r56_6.eq_1) <| aN (uR r56_8.eq_1) <| aN (uA c56.eq_1) <| aN (uR r56_0.eq_1) <| aN (uR r56_1.eq_1) <| aN (uA c56_12.eq_1) <| aN (uR r56_2.eq_1) <| aN (uA c56_11.eq_1) <| aN (uA c56_10.eq_1) <| aN (uR r56_13.eq_1) <| s56.eq_1
theorem toIs_ok (xs : List Int) (hl : xs.length ≤ 2000000) (m : Nat) : ACallsF Tryz.prog 56 [tL (en eI xs)] [newH 7 m 1 3 (en eI xs)] (.c (.own 7 0 xs.length)) := by
  refine ACallsF.intro ok56 follows fun X c0 => ?_
  have q0 : (0 : Int) ≤ xs.length := by omega
  have q1 : ((8 : Nat) : Int) * (xs.length : Int) ≤ 281474976710656 := by omega
  have q2 : (xs.length : Int) ≤ 9223372036854775807 := by omega
  simp only [RZ, reduceAdd, reduceIte, reduceEqDiff, reduceLT, reduceLeDiff, reduceCtorEq, Nat.reduceBEq, UCv_4.d, q0, q1, q2, Int.le_refl]
  refine AW.upto xs.length (inv56 xs) ?_ fun i t H c hi h => ?_
  · unfold inv56
    rw [part_zero, ← en_rep]
    exact ⟨rfl, ⟨_, rfl, rfl⟩, rfl⟩
  obtain ⟨e0, ⟨v, e3, hB⟩, e4⟩ := h
  simp only [T.c, T.i, tL] at e0 e3 hB e4
  have hpl : (part xs zI i).length = xs.length := part_len xs zI hi
  by_cases hlt : i < xs.length
  · obtain ⟨x, hx⟩ : ∃ x, xs[i]? = some x := ⟨_, List.getElem?_eq_getElem hlt⟩
    have ex := en_at eI hx
    have ez := en_at eI (part_at xs zI hlt)
    have k1 : (i : Int) < xs.length := by omega
    have gz : (0 : Int) ≤ i := by omega
    have gw := w1_ok (i := i) (by omega)
    have hn : (en eI (part xs zI i)).set i (eI x) = en eI (part xs zI (i + 1)) := by rw [en_set, part_set xs zI hx]
    simp only [RZ, reduceAdd, reduceIte, reduceEqDiff, reduceLT, reduceLeDiff, reduceCtorEq, Nat.reduceBEq, UCv_9.d, e0, e3, hB, e4, en_len, k1, gz, ex, ez, eI, Int.toNat_natCast, hpl, gw]
    exact ⟨hlt, e0, ⟨v, e3, congrArg (fun q => some (Blk.arr v true 1 3 q)) hn⟩, rfl⟩
  · have k1 : ¬ (i : Int) < xs.length := by omega
    have hi2 : i = xs.length := by omega
    subst hi2
    rw [part_end] at hB
    simp only [RZ, reduceAdd, reduceIte, reduceEqDiff, reduceLT, reduceLeDiff, reduceCtorEq, Nat.reduceBEq, UCv_9.d, UCv_4.d, e0, e3, hB, e4, en_len, k1, imp_self]
/- loop.example/teagle/laws.toCrewHandS -/
def r57_0 : List AOper := [ao 0 2 (.mv (.k (.c .nil0)))]
def r57_1 : List AOper := [ao 0 5 (.mv (.t 0)),
  ao 1 6 (.len (.t 5)),
  ao 2 7 (.mks 2 68 16 [(.s (.int .i64 0)), (.s (.int .i64 0))] (.t 6) (.t 6)),
  ao 3 3 (.mv (.t 7))]
def r57_2 : List AOper := [ao 0 4 (.mv (.k (.i 0)))]
def r57_3 : List AOper := [ao 0 8 (.mv (.t 4)),
  ao 1 9 (.mv (.t 0)),
  ao 2 10 (.len (.t 9)),
  ao 3 11 (.bin .lss (.t 8) (.t 10))]
def c57_4 : ACode := .cond (.t 11) .skip (.exit 0)
def c57_5 : ACode := .seq (.reg r57_3) c57_4
def r57_6 : List AOper := [ao 0 14 (.mv (.t 3)),
  ao 1 15 (.mv (.t 4)),
  ao 2 16 (.mv (.t 0)),
  ao 3 17 (.mv (.t 4)),
  ao 4 18 (.ia 2 (.t 16) (.t 17)),
  ao 5 19 (.ld 2 true (.t 18)),
  ao 6 20 (.call (.k (.c (.fn 97 []))) [(.t 19)]),
  ao 7 21 (.ia 2 (.t 14) (.t 15)),
  an 8 (.st 2 (.t 21) (.t 20))]
def c57_7 : ACode := .block 1 (.reg r57_6)
def r57_8 : List AOper := [ao 0 12 (.mv (.t 4)),
  ao 1 13 (.bin .add (.t 12) (.k (.i 1))),
  ao 2 4 (.mv (.t 13))]
def c57_9 : ACode := .seq c57_5 (.seq c57_7 (.reg r57_8))
def c57_10 : ACode := .loop c57_9
def c57_11 : ACode := .block 0 c57_10
def c57_12 : ACode := .seq (.reg r57_2) c57_11
def r57_13 : List AOper := [ao 0 22 (.mv (.t 3)),
  ao 1 2 (.mv (.t 22))]
def c57 : ACode := .seq (.reg r57_0) (.seq (.reg r57_1) (.seq c57_12 (.seq (.reg r57_13) .ret)))
def s57 : List ARes := [.tmp 2]
theorem ok57 : okF Tryz.prog 57 23 c57 s57 := ⟨Tryz.f57, Tryz.func57, Tryz.ntmps57, by kernel_rfl, by kernel_rfl, by kernel_rfl⟩
def inv57 (xs : List Hd) (i : Nat) (σ : St) : Prop := σ.t 0 = tL (en eH xs) ∧ (∃ v, σ.t 3 = .c (.own 7 v xs.length) ∧ σ.H 7 = some (.arr v true 2 68 (en eH (part xs zH i)))) ∧ σ.t 4 = .i i
def UCv_5 := Bx.mk <|
  aN (uA c57.eq_1) <| aN (uR r57_0.eq_1) <| aN (uR r57_1.eq_1) <| aN (uA c57_12.eq_1) <| aN (uR r57_2.eq_1) <| aN (uA c57_11.eq_1) <| aN (uA c57_10.eq_1) <| aN (uR r57_13.eq_1) <| s57.eq_1
def UCv_10 := Bx.mk <|
  aN (uA c57_9.eq_1) <| aN (uA c57_5.eq_1) <| aN (uR r57_3.eq_1) <| aN (uA c57_4.eq_1) <| aN (uA c57_7.eq_1) <| aN (uR r57_6.eq_1) <| aN (uR r57_8.eq_1) <| aN (uA c57.eq_1) <| aN (uR r57_0.eq_1) <| aN (uR r57_1.eq_1) <| aN (uA c57_12.eq_1) <| aN (uR r57_2.eq_1) <| aN (uA c57_11.eq_1) <| aN (uA c57_10.eq_1) <| aN (uR r57_13.eq_1) <| s57.eq_1
theorem toHs_ok (xs : List Hd) (hl : xs.length ≤ 2000000) (m : Nat) : ACallsF Tryz.prog 57 [tL (en eH xs)] [newH 7 m 2 68 (en eH xs)] (.c (.own 7 0 xs.length)) := by
  refine ACallsF.intro ok57 follows fun X c0 => ?_
  have q0 : (0 : Int) ≤ xs.length := by omega
  have q1 : ((16 : Nat) : Int) * (xs.length : Int) ≤ 281474976710656 := by omega
  have q2 : (xs.length : Int) ≤ 9223372036854775807 := by omega
  simp only [RZ, reduceAdd, reduceIte, reduceEqDiff, reduceLT, reduceLeDiff, reduceCtorEq, Nat.reduceBEq, UCv_5.d, q0, q1, q2, Int.le_refl]
  refine AW.upto xs.length (inv57 xs) ?_ fun i t H c hi h => ?_
  · unfold inv57
    rw [part_zero, ← en_rep]
    exact ⟨rfl, ⟨_, rfl, rfl⟩, rfl⟩
  obtain ⟨e0, ⟨v, e3, hB⟩, e4⟩ := h
  simp only [T.c, T.i, tL] at e0 e3 hB e4
  have hpl : (part xs zH i).length = xs.length := part_len xs zH hi
  by_cases hlt : i < xs.length
  · obtain ⟨x, hx⟩ : ∃ x, xs[i]? = some x := ⟨_, List.getElem?_eq_getElem hlt⟩
    have ex := en_at eH hx
    have ez := en_at eH (part_at xs zH hlt)
    have k1 : (i : Int) < xs.length := by omega
    have gz : (0 : Int) ≤ i := by omega
    have gw := w1_ok (i := i) (by omega)
    have hn : (en eH (part xs zH i)).set i (eH x) = en eH (part xs zH (i + 1)) := by rw [en_set, part_set xs zH hx]
    simp only [RZ, reduceAdd, reduceIte, reduceEqDiff, reduceLT, reduceLeDiff, reduceCtorEq, Nat.reduceBEq, UCv_10.d, e0, e3, hB, e4, en_len, k1, gz, ex, ez, eH, Int.toNat_natCast, hpl, gw]
    refine callC (toHd_ok x) rfl rfl rfl rfl ?_
    simp only [RZ, reduceAdd, reduceIte, reduceEqDiff, reduceLT, reduceLeDiff, reduceCtorEq, Nat.reduceBEq, UCv_10.d, e0, e3, hB, e4, en_len, k1, gz, ex, ez, eH, Int.toNat_natCast, hpl, gw]
    exact ⟨hlt, e0, ⟨v, e3, congrArg (fun q => some (Blk.arr v true 2 68 q)) hn⟩, rfl⟩
  · have k1 : ¬ (i : Int) < xs.length := by omega
    have hi2 : i = xs.length := by omega
    subst hi2
    rw [part_end] at hB
    simp only [RZ, reduceAdd, reduceIte, reduceEqDiff, reduceLT, reduceLeDiff, reduceCtorEq, Nat.reduceBEq, UCv_10.d, UCv_5.d, e0, e3, hB, e4, en_len, k1, imp_self]
theorem Form.small {w : CW} (h : Form w) : Small w := by
  have h1 := h.lq
  have h2 := h.lh
  have h3 := h.le
  have h4 := h.lr
  have h5 := h.lo
  have h6 := h.lg
  have h7 := h.ls
  have h8 := h.st.k
  have h9 := h.st.n
  have h10 := h.st.j
  exact ⟨by omega, by omega, by omega, by omega, by omega, by omega, by omega⟩
/- loop.example/teagle/laws.toCrewWorld -/
def r26_0 : List AOper := [ao 0 1 (.box 45 (.t 0)),
  ao 1 2 (.alloc 26 [(.v (.s (.int .i64 0))), (.v (.s (.int .i64 0))), (.v (.s (.int .i64 0))), (.v (.s (.int .i64 0))), (.v (.s (.int .i64 0))), .nil0, .nil0, (.v (.s (.int .i64 0))), .nil0, (.v (.s (.int .i64 0))), .nil0, (.v (.s (.int .i64 0))), .nil0, (.v (.s (.int .i64 0))), .nil0, (.v (.s (.int .i64 0))), .nil0, (.v (.s (.int .i64 0)))])]
def r26_1 : List AOper := [ao 0 3 (.alloc 26 [(.v (.s (.int .i64 0))), (.v (.s (.int .i64 0))), (.v (.s (.int .i64 0))), (.v (.s (.int .i64 0))), (.v (.s (.int .i64 0))), .nil0, .nil0, (.v (.s (.int .i64 0))), .nil0, (.v (.s (.int .i64 0))), .nil0, (.v (.s (.int .i64 0))), .nil0, (.v (.s (.int .i64 0))), .nil0, (.v (.s (.int .i64 0))), .nil0, (.v (.s (.int .i64 0)))])]
def r26_2 : List AOper := [ao 0 4 (.fa 0 (.t 1)),
  ao 1 5 (.ld 1 false (.t 4)),
  ao 2 6 (.fa 0 (.t 3)),
  an 3 (.st 1 (.t 6) (.t 5))]
def r26_3 : List AOper := [ao 0 7 (.fa 1 (.t 1)),
  ao 1 8 (.ld 1 false (.t 7)),
  ao 2 9 (.fa 1 (.t 3)),
  an 3 (.st 1 (.t 9) (.t 8))]
def r26_4 : List AOper := [ao 0 10 (.fa 2 (.t 1)),
  ao 1 11 (.ld 1 false (.t 10)),
  ao 2 12 (.fa 2 (.t 3)),
  an 3 (.st 1 (.t 12) (.t 11))]
def r26_5 : List AOper := [ao 0 13 (.fa 3 (.t 1)),
  ao 1 14 (.ld 1 false (.t 13)),
  ao 2 15 (.fa 3 (.t 3)),
  an 3 (.st 1 (.t 15) (.t 14))]
def r26_6 : List AOper := [ao 0 16 (.fa 4 (.t 1)),
  ao 1 17 (.ld 1 false (.t 16)),
  ao 2 18 (.fa 4 (.t 3)),
  an 3 (.st 1 (.t 18) (.t 17))]
def r26_7 : List AOper := [ao 0 19 (.fa 5 (.t 1)),
  ao 1 20 (.ld 1 false (.t 19)),
  ao 2 21 (.call (.k (.c (.fn 56 []))) [(.t 20)]),
  ao 3 22 (.fa 5 (.t 3)),
  an 4 (.st 1 (.t 22) (.t 21))]
def r26_8 : List AOper := [ao 0 23 (.fa 6 (.t 1)),
  ao 1 24 (.ld 1 false (.t 23)),
  ao 2 25 (.call (.k (.c (.fn 57 []))) [(.t 24)]),
  ao 3 26 (.fa 6 (.t 3)),
  an 4 (.st 1 (.t 26) (.t 25))]
def r26_9 : List AOper := [ao 0 27 (.fa 7 (.t 1)),
  ao 1 28 (.ld 1 false (.t 27)),
  ao 2 29 (.fa 7 (.t 3)),
  an 3 (.st 1 (.t 29) (.t 28))]
def r26_10 : List AOper := [ao 0 30 (.fa 8 (.t 1)),
  ao 1 31 (.ld 1 false (.t 30)),
  ao 2 32 (.call (.k (.c (.fn 56 []))) [(.t 31)]),
  ao 3 33 (.fa 8 (.t 3)),
  an 4 (.st 1 (.t 33) (.t 32))]
def r26_11 : List AOper := [ao 0 34 (.fa 9 (.t 1)),
  ao 1 35 (.ld 1 false (.t 34)),
  ao 2 36 (.fa 9 (.t 3)),
  an 3 (.st 1 (.t 36) (.t 35))]
def r26_12 : List AOper := [ao 0 37 (.fa 10 (.t 1)),
  ao 1 38 (.ld 1 false (.t 37)),
  ao 2 39 (.call (.k (.c (.fn 56 []))) [(.t 38)]),
  ao 3 40 (.fa 10 (.t 3)),
  an 4 (.st 1 (.t 40) (.t 39))]
def r26_13 : List AOper := [ao 0 41 (.fa 11 (.t 1)),
  ao 1 42 (.ld 1 false (.t 41)),
  ao 2 43 (.fa 11 (.t 3)),
  an 3 (.st 1 (.t 43) (.t 42))]
def r26_14 : List AOper := [ao 0 44 (.fa 12 (.t 1)),
  ao 1 45 (.ld 1 false (.t 44)),
  ao 2 46 (.call (.k (.c (.fn 56 []))) [(.t 45)]),
  ao 3 47 (.fa 12 (.t 3)),
  an 4 (.st 1 (.t 47) (.t 46))]
def r26_15 : List AOper := [ao 0 48 (.fa 13 (.t 1)),
  ao 1 49 (.ld 1 false (.t 48)),
  ao 2 50 (.fa 13 (.t 3)),
  an 3 (.st 1 (.t 50) (.t 49))]
def r26_16 : List AOper := [ao 0 51 (.fa 14 (.t 1)),
  ao 1 52 (.ld 1 false (.t 51)),
  ao 2 53 (.call (.k (.c (.fn 56 []))) [(.t 52)]),
  ao 3 54 (.fa 14 (.t 3)),
  an 4 (.st 1 (.t 54) (.t 53))]
def r26_17 : List AOper := [ao 0 55 (.fa 15 (.t 1)),
  ao 1 56 (.ld 1 false (.t 55)),
  ao 2 57 (.fa 15 (.t 3)),
  an 3 (.st 1 (.t 57) (.t 56))]
def r26_18 : List AOper := [ao 0 58 (.fa 16 (.t 1)),
  ao 1 59 (.ld 1 false (.t 58)),
  ao 2 60 (.call (.k (.c (.fn 56 []))) [(.t 59)]),
  ao 3 61 (.fa 16 (.t 3)),
  an 4 (.st 1 (.t 61) (.t 60))]
def r26_19 : List AOper := [ao 0 62 (.fa 17 (.t 1)),
  ao 1 63 (.ld 1 false (.t 62)),
  ao 2 64 (.fa 17 (.t 3)),
  an 3 (.st 1 (.t 64) (.t 63))]
def r26_20 : List AOper := [ao 0 65 (.ld 18 true (.t 3)),
  an 1 (.st 18 (.t 2) (.t 65))]
def c26 : ACode := .seq (.reg r26_0) (.seq (.reg r26_1) (.seq (.reg r26_2) (.seq (.reg r26_3) (.seq (.reg r26_4) (.seq (.reg r26_5) (.seq (.reg r26_6) (.seq (.reg r26_7) (.seq (.reg r26_8) (.seq (.reg r26_9) (.seq (.reg r26_10) (.seq (.reg r26_11) (.seq (.reg r26_12) (.seq (.reg r26_13) (.seq (.reg r26_14) (.seq (.reg r26_15) (.seq (.reg r26_16) (.seq (.reg r26_17) (.seq (.reg r26_18) (.seq (.reg r26_19) (.seq (.reg r26_20) .ret))))))))))))))))))))
def s26 : List ARes := [.cell 2 18 true]
theorem ok26 : okF Tryz.prog 26 66 c26 s26 := ⟨Tryz.f26, Tryz.func26, Tryz.ntmps26, by kernel_rfl, by kernel_rfl, by kernel_rfl⟩
def UCv_6 := Bx.mk <|
  aN (uA c26.eq_1) <| aN (uR r26_0.eq_1) <| aN (uR r26_1.eq_1) <| aN (uR r26_2.eq_1) <| aN (uR r26_3.eq_1) <| aN (uR r26_4.eq_1) <| aN (uR r26_5.eq_1) <| aN (uR r26_6.eq_1) <| aN (uR r26_7.eq_1) <| aN (uR r26_8.eq_1) <| aN (uR r26_9.eq_1) <| aN (uR r26_10.eq_1) <| aN (uR r26_11.eq_1) <| aN (uR r26_12.eq_1) <| aN (uR r26_13.eq_1) <| aN (uR r26_14.eq_1) <| aN (uR r26_15.eq_1) <| aN (uR r26_16.eq_1) <| aN (uR r26_17.eq_1) <| aN (uR r26_18.eq_1) <| aN (uR r26_19.eq_1) <| aN (uR r26_20.eq_1) <| s26.eq_1
set_option maxHeartbeats 1000000 in
theorem toCW_ok (w : CW) (h : Small w) (m : Nat) : ACallsF Tryz.prog 26 [tCW w] (wnH 1001 1002 1003 1004 1005 1006 1007 m w) (.pt (.agg (oC 1001 1002 1003 1004 1005 1006 1007 0 0 0 0 0 0 0 w))) := by
  refine ACallsF.intro ok26 follows fun X c0 => ?_
  simp only [RZ, reduceAdd, reduceIte, reduceEqDiff, reduceLT, reduceLeDiff, reduceCtorEq, Nat.reduceBEq, wnH, UCv_6.d]
  refine callA1 (m := 1001) (ws := []) (ns := []) (toIs_ok w.queue h.q 1001) rfl rfl rfl (en_flat eI eI_flat _) ⟨rfl, ?_⟩
  simp only [RZ, reduceAdd, reduceIte, reduceEqDiff, reduceLT, reduceLeDiff, reduceCtorEq, Nat.reduceBEq, wnH, UCv_6.d]
  refine callA1 (m := 1002) (ws := []) (ns := []) (toHs_ok w.hands h.h 1002) rfl rfl rfl (en_flat eH eH_flat _) ⟨rfl, ?_⟩
  simp only [RZ, reduceAdd, reduceIte, reduceEqDiff, reduceLT, reduceLeDiff, reduceCtorEq, Nat.reduceBEq, wnH, UCv_6.d]
  refine callA1 (m := 1003) (ws := []) (ns := []) (toIs_ok w.results h.r 1003) rfl rfl rfl (en_flat eI eI_flat _) ⟨rfl, ?_⟩
  simp only [RZ, reduceAdd, reduceIte, reduceEqDiff, reduceLT, reduceLeDiff, reduceCtorEq, Nat.reduceBEq, wnH, UCv_6.d]
  refine callA1 (m := 1004) (ws := []) (ns := []) (toIs_ok w.ring h.g 1004) rfl rfl rfl (en_flat eI eI_flat _) ⟨rfl, ?_⟩
  simp only [RZ, reduceAdd, reduceIte, reduceEqDiff, reduceLT, reduceLeDiff, reduceCtorEq, Nat.reduceBEq, wnH, UCv_6.d]
  refine callA1 (m := 1005) (ws := []) (ns := []) (toIs_ok w.out h.o 1005) rfl rfl rfl (en_flat eI eI_flat _) ⟨rfl, ?_⟩
  simp only [RZ, reduceAdd, reduceIte, reduceEqDiff, reduceLT, reduceLeDiff, reduceCtorEq, Nat.reduceBEq, wnH, UCv_6.d]
  refine callA1 (m := 1006) (ws := []) (ns := []) (toIs_ok w.got h.t 1006) rfl rfl rfl (en_flat eI eI_flat _) ⟨rfl, ?_⟩
  simp only [RZ, reduceAdd, reduceIte, reduceEqDiff, reduceLT, reduceLeDiff, reduceCtorEq, Nat.reduceBEq, wnH, UCv_6.d]
  refine callA1 (m := 1007) (ws := []) (ns := []) (toIs_ok w.shut h.s 1007) rfl rfl rfl (en_flat eI eI_flat _) ⟨rfl, ?_⟩
  simp only [RZ, reduceAdd, reduceIte, reduceEqDiff, reduceLT, reduceLeDiff, reduceCtorEq, Nat.reduceBEq, wnH, UCv_6.d, imp_self]
/- (*loop.example/teagle/impl.CrewWorld).clone -/
def r45_0 : List AOper := [ao 0 2 (.alloc 26 [(.v (.s (.int .i64 0))), (.v (.s (.int .i64 0))), (.v (.s (.int .i64 0))), (.v (.s (.int .i64 0))), (.v (.s (.int .i64 0))), .nil0, .nil0, (.v (.s (.int .i64 0))), .nil0, (.v (.s (.int .i64 0))), .nil0, (.v (.s (.int .i64 0))), .nil0, (.v (.s (.int .i64 0))), .nil0, (.v (.s (.int .i64 0))), .nil0, (.v (.s (.int .i64 0)))])]
def r45_1 : List AOper := [ao 0 4 (.mv (.t 0)),
  ao 1 5 (.nck (.t 4)),
  ao 2 6 (.ld 18 true (.t 5)),
  ao 3 3 (.alloc 26 [(.v (.s (.int .i64 0))), (.v (.s (.int .i64 0))), (.v (.s (.int .i64 0))), (.v (.s (.int .i64 0))), (.v (.s (.int .i64 0))), .nil0, .nil0, (.v (.s (.int .i64 0))), .nil0, (.v (.s (.int .i64 0))), .nil0, (.v (.s (.int .i64 0))), .nil0, (.v (.s (.int .i64 0))), .nil0, (.v (.s (.int .i64 0))), .nil0, (.v (.s (.int .i64 0)))]),
  an 4 (.st 18 (.t 3) (.t 6))]
def r45_2 : List AOper := [ao 0 7 (.mv (.t 0)),
  ao 1 8 (.nck (.t 7)),
  ao 2 9 (.fa 5 (.t 8)),
  ao 3 10 (.ld 1 false (.t 9)),
  ao 4 11 (.call (.k (.c (.fn 90 []))) [(.t 10)]),
  au 5 12 (ru 5) (.mv (.t 0)),
  au 6 13 (ru 5) (.nck (.t 12)),
  au 7 14 (ru 5) (.fa 6 (.t 13)),
  au 8 15 (ru 5) (.ld 1 false (.t 14)),
  ao 9 16 (.call (.k (.c (.fn 91 []))) [(.t 15)]),
  au 10 17 (ru 10) (.mv (.t 0)),
  au 11 18 (ru 10) (.nck (.t 17)),
  au 12 19 (ru 10) (.fa 8 (.t 18)),
  au 13 20 (ru 10) (.ld 1 false (.t 19)),
  ao 14 21 (.call (.k (.c (.fn 90 []))) [(.t 20)]),
  au 15 22 (ru 15) (.mv (.t 0)),
  au 16 23 (ru 15) (.nck (.t 22)),
  au 17 24 (ru 15) (.fa 10 (.t 23)),
  au 18 25 (ru 15) (.ld 1 false (.t 24)),
  ao 19 26 (.call (.k (.c (.fn 90 []))) [(.t 25)]),
  au 20 27 [5, 6, 7, 8, 9, 10, 11, 12, 13, 14, 15, 16, 17, 18, 19] (.fa 5 (.t 3)),
  an 21 (.st 1 (.t 27) (.t 11)),
  ao 22 28 (.fa 6 (.t 3)),
  an 23 (.st 1 (.t 28) (.t 16)),
  ao 24 29 (.fa 8 (.t 3)),
  an 25 (.st 1 (.t 29) (.t 21)),
  ao 26 30 (.fa 10 (.t 3)),
  an 27 (.st 1 (.t 30) (.t 26))]
def r45_3 : List AOper := [ao 0 31 (.mv (.t 0)),
  ao 1 32 (.nck (.t 31)),
  ao 2 33 (.fa 12 (.t 32)),
  ao 3 34 (.ld 1 false (.t 33)),
  ao 4 35 (.call (.k (.c (.fn 90 []))) [(.t 34)]),
  au 5 36 (ru 5) (.mv (.t 0)),
  au 6 37 (ru 5) (.nck (.t 36)),
  au 7 38 (ru 5) (.fa 14 (.t 37)),
  au 8 39 (ru 5) (.ld 1 false (.t 38)),
  ao 9 40 (.call (.k (.c (.fn 90 []))) [(.t 39)]),
  au 10 41 (ru 10) (.mv (.t 0)),
  au 11 42 (ru 10) (.nck (.t 41)),
  au 12 43 (ru 10) (.fa 16 (.t 42)),
  au 13 44 (ru 10) (.ld 1 false (.t 43)),
  ao 14 45 (.call (.k (.c (.fn 90 []))) [(.t 44)]),
  au 15 46 [5, 6, 7, 8, 9, 10, 11, 12, 13, 14] (.fa 12 (.t 3)),
  an 16 (.st 1 (.t 46) (.t 35)),
  ao 17 47 (.fa 14 (.t 3)),
  an 18 (.st 1 (.t 47) (.t 40)),
  ao 19 48 (.fa 16 (.t 3)),
  an 20 (.st 1 (.t 48) (.t 45))]
def r45_4 : List AOper := [ao 0 49 (.ld 18 true (.t 3)),
  an 1 (.st 18 (.t 2) (.t 49))]
def c45 : ACode := .seq (.reg r45_0) (.seq (.reg r45_1) (.seq (.reg r45_2) (.seq (.reg r45_3) (.seq (.reg r45_4) .ret))))
def s45 : List ARes := [.cell 2 18 true]
theorem ok45 : okF Tryz.prog 45 50 c45 s45 := ⟨Tryz.f45, Tryz.func45, Tryz.ntmps45, by kernel_rfl, by kernel_rfl, by kernel_rfl⟩
def UCv_7 := Bx.mk <|
  aN (uA c45.eq_1) <| aN (uR r45_0.eq_1) <| aN (uR r45_1.eq_1) <| aN (uR r45_2.eq_1) <| aN (uR r45_3.eq_1) <| aN (uR r45_4.eq_1) <| s45.eq_1
set_option maxHeartbeats 1000000 in
theorem clone_ok {w : CW} (h : Small w) (m0 v m : Nat) : ACallsF Tryz.prog 45 [wP 1000 v] (wHd m0 v w :: wnH 1001 1002 1003 1004 1005 1006 1007 m w) (.pt (.agg (oC 1001 1002 1003 1004 1005 1006 1007 0 0 0 0 0 0 0 w))) := by
  refine ACallsF.intro ok45 follows fun X c0 => ?_
  simp only [RZ, reduceAdd, reduceIte, reduceEqDiff, reduceLT, reduceLeDiff, reduceCtorEq, Nat.reduceBEq, wnH, wHd, wP, UCv_7.d]
  refine callA1 (m := 1001) (ws := []) (ns := []) (cloneI_ok w.queue h.q 1001) rfl rfl rfl (en_flat eI eI_flat _) ⟨rfl, ?_⟩
  simp only [RZ, reduceAdd, reduceIte, reduceEqDiff, reduceLT, reduceLeDiff, reduceCtorEq, Nat.reduceBEq, wnH, wHd, wP, UCv_7.d]
  refine callA1 (m := 1002) (ws := []) (ns := []) (cloneH_ok w.hands h.h 1002) rfl rfl rfl (en_flat eH eH_flat _) ⟨rfl, ?_⟩
  simp only [RZ, reduceAdd, reduceIte, reduceEqDiff, reduceLT, reduceLeDiff, reduceCtorEq, Nat.reduceBEq, wnH, wHd, wP, UCv_7.d]
  refine callA1 (m := 1003) (ws := []) (ns := []) (cloneI_ok w.results h.r 1003) rfl rfl rfl (en_flat eI eI_flat _) ⟨rfl, ?_⟩
  simp only [RZ, reduceAdd, reduceIte, reduceEqDiff, reduceLT, reduceLeDiff, reduceCtorEq, Nat.reduceBEq, wnH, wHd, wP, UCv_7.d]
  refine callA1 (m := 1004) (ws := []) (ns := []) (cloneI_ok w.ring h.g 1004) rfl rfl rfl (en_flat eI eI_flat _) ⟨rfl, ?_⟩
  simp only [RZ, reduceAdd, reduceIte, reduceEqDiff, reduceLT, reduceLeDiff, reduceCtorEq, Nat.reduceBEq, wnH, wHd, wP, UCv_7.d]
  refine callA1 (m := 1005) (ws := []) (ns := []) (cloneI_ok w.out h.o 1005) rfl rfl rfl (en_flat eI eI_flat _) ⟨rfl, ?_⟩
  simp only [RZ, reduceAdd, reduceIte, reduceEqDiff, reduceLT, reduceLeDiff, reduceCtorEq, Nat.reduceBEq, wnH, wHd, wP, UCv_7.d]
  refine callA1 (m := 1006) (ws := []) (ns := []) (cloneI_ok w.got h.t 1006) rfl rfl rfl (en_flat eI eI_flat _) ⟨rfl, ?_⟩
  simp only [RZ, reduceAdd, reduceIte, reduceEqDiff, reduceLT, reduceLeDiff, reduceCtorEq, Nat.reduceBEq, wnH, wHd, wP, UCv_7.d]
  refine callA1 (m := 1007) (ws := []) (ns := []) (cloneI_ok w.shut h.s 1007) rfl rfl rfl (en_flat eI eI_flat _) ⟨rfl, ?_⟩
  simp only [RZ, reduceAdd, reduceIte, reduceEqDiff, reduceLT, reduceLeDiff, reduceCtorEq, Nat.reduceBEq, wnH, wHd, wP, UCv_7.d, imp_self]
/- loop.example/teagle/spec.l52Copy -/
def r48_0 : List AOper := [ao 0 1 (.box 26 (.t 0)),
  ao 1 2 (.alloc 26 [(.v (.s (.int .i64 0))), (.v (.s (.int .i64 0))), (.v (.s (.int .i64 0))), (.v (.s (.int .i64 0))), (.v (.s (.int .i64 0))), .nil0, .nil0, (.v (.s (.int .i64 0))), .nil0, (.v (.s (.int .i64 0))), .nil0, (.v (.s (.int .i64 0))), .nil0, (.v (.s (.int .i64 0))), .nil0, (.v (.s (.int .i64 0))), .nil0, (.v (.s (.int .i64 0)))])]
def r48_1 : List AOper := [ao 0 3 (.bsl 1 3 []),
  ao 1 4 (.fa 5 (.t 1)),
  ao 2 5 (.ld 1 false (.t 4)),
  ao 3 6 (.app 1 3 8 (.t 3) (.t 5)),
  ao 4 7 (.fa 5 (.t 1)),
  an 5 (.st 1 (.t 7) (.t 6))]
def r48_2 : List AOper := [ao 0 8 (.bsl 2 68 []),
  ao 1 9 (.fa 6 (.t 1)),
  ao 2 10 (.ld 1 false (.t 9)),
  ao 3 11 (.app 2 68 16 (.t 8) (.t 10)),
  ao 4 12 (.fa 6 (.t 1)),
  an 5 (.st 1 (.t 12) (.t 11))]
def r48_3 : List AOper := [ao 0 13 (.bsl 1 3 []),
  ao 1 14 (.fa 8 (.t 1)),
  ao 2 15 (.ld 1 false (.t 14)),
  ao 3 16 (.app 1 3 8 (.t 13) (.t 15)),
  ao 4 17 (.fa 8 (.t 1)),
  an 5 (.st 1 (.t 17) (.t 16))]
def r48_4 : List AOper := [ao 0 18 (.bsl 1 3 []),
  ao 1 19 (.fa 10 (.t 1)),
  ao 2 20 (.ld 1 false (.t 19)),
  ao 3 21 (.app 1 3 8 (.t 18) (.t 20)),
  ao 4 22 (.fa 10 (.t 1)),
  an 5 (.st 1 (.t 22) (.t 21))]
def r48_5 : List AOper := [ao 0 23 (.bsl 1 3 []),
  ao 1 24 (.fa 12 (.t 1)),
  ao 2 25 (.ld 1 false (.t 24)),
  ao 3 26 (.app 1 3 8 (.t 23) (.t 25)),
  ao 4 27 (.fa 12 (.t 1)),
  an 5 (.st 1 (.t 27) (.t 26))]
def r48_6 : List AOper := [ao 0 28 (.bsl 1 3 []),
  ao 1 29 (.fa 14 (.t 1)),
  ao 2 30 (.ld 1 false (.t 29)),
  ao 3 31 (.app 1 3 8 (.t 28) (.t 30)),
  ao 4 32 (.fa 14 (.t 1)),
  an 5 (.st 1 (.t 32) (.t 31))]
def r48_7 : List AOper := [ao 0 33 (.bsl 1 3 []),
  ao 1 34 (.fa 16 (.t 1)),
  ao 2 35 (.ld 1 false (.t 34)),
  ao 3 36 (.app 1 3 8 (.t 33) (.t 35)),
  ao 4 37 (.fa 16 (.t 1)),
  an 5 (.st 1 (.t 37) (.t 36))]
def r48_8 : List AOper := [ao 0 38 (.ld 18 true (.t 1)),
  an 1 (.st 18 (.t 2) (.t 38))]
def c48 : ACode := .seq (.reg r48_0) (.seq (.reg r48_1) (.seq (.reg r48_2) (.seq (.reg r48_3) (.seq (.reg r48_4) (.seq (.reg r48_5) (.seq (.reg r48_6) (.seq (.reg r48_7) (.seq (.reg r48_8) .ret))))))))
def s48 : List ARes := [.cell 2 18 true]
theorem ok48 : okF Tryz.prog 48 39 c48 s48 := ⟨Tryz.f48, Tryz.func48, Tryz.ntmps48, by kernel_rfl, by kernel_rfl, by kernel_rfl⟩
def UCv_8 := Bx.mk <|
  aN (uA c48.eq_1) <| aN (uR r48_0.eq_1) <| aN (uR r48_1.eq_1) <| aN (uR r48_2.eq_1) <| aN (uR r48_3.eq_1) <| aN (uR r48_4.eq_1) <| aN (uR r48_5.eq_1) <| aN (uR r48_6.eq_1) <| aN (uR r48_7.eq_1) <| aN (uR r48_8.eq_1) <| s48.eq_1
set_option maxHeartbeats 1000000 in
theorem copy_ok {w : CW} (h : Small w) (m : Nat) : ACallsF Tryz.prog 48 [tCW w] (wnH 3 8 13 18 23 28 33 m w) (.pt (.agg (oC 3 8 13 18 23 28 33 0 0 0 0 0 0 0 w))) := by
  have p1 := h.q
  have p2 := h.h
  have p3 := h.r
  have p4 := h.g
  have p5 := h.o
  have p6 := h.t
  have p7 := h.s
  have q1 : w.queue.length * 8 ≤ 140737488355328 := by omega
  have r1 : w.queue.length ≤ 9223372036854775807 := by omega
  have q2 : w.hands.length * 16 ≤ 140737488355328 := by omega
  have r2 : w.hands.length ≤ 9223372036854775807 := by omega
  have q3 : w.results.length * 8 ≤ 140737488355328 := by omega
  have r3 : w.results.length ≤ 9223372036854775807 := by omega
  have q4 : w.ring.length * 8 ≤ 140737488355328 := by omega
  have r4 : w.ring.length ≤ 9223372036854775807 := by omega
  have q5 : w.out.length * 8 ≤ 140737488355328 := by omega
  have r5 : w.out.length ≤ 9223372036854775807 := by omega
  have q6 : w.got.length * 8 ≤ 140737488355328 := by omega
  have r6 : w.got.length ≤ 9223372036854775807 := by omega
  have q7 : w.shut.length * 8 ≤ 140737488355328 := by omega
  have r7 : w.shut.length ≤ 9223372036854775807 := by omega
  refine ACallsF.intro ok48 follows fun X c0 => ?_
  simp only [RZ, reduceAdd, reduceIte, reduceEqDiff, reduceLT, reduceLeDiff, reduceCtorEq, Nat.reduceBEq, wnH, UCv_8.d, q1, r1, q2, r2, q3, r3, q4, r4, q5, r5, q6, r6, q7, r7, Nat.zero_add, imp_self]
end Go.V
set_option linter.unusedSimpArgs false
namespace Go.V
open Go.Proofs
open Nat (reduceAdd reduceEqDiff reduceLT reduceLeDiff)
/-- A world of own arrays behind a pointer, worked on in place. -/
abbrev iH (v a1 a2 a3 a4 a5 a6 a7 m0 m : Nat) (w w' : CW) : List Hand := [⟨1000, m0, some (.var v 26 (oC 1001 1002 1003 1004 1005 1006 1007 a1 a2 a3 a4 a5 a6 a7 w)), .var v 26 (oC 1001 1002 1003 1004 1005 1006 1007 0 0 0 0 0 0 0 w'), true⟩, ⟨1001, m + 1, some (bI a1 w.queue), bI 0 w'.queue, false⟩, ⟨1002, m + 2, some (bH a2 w.hands), bH 0 w'.hands, false⟩, ⟨1003, m + 3, some (bI a3 w.results), bI 0 w'.results, false⟩, ⟨1004, m + 4, some (bI a4 w.ring), bI 0 w'.ring, false⟩, ⟨1005, m + 5, some (bI a5 w.out), bI 0 w'.out, false⟩, ⟨1006, m + 6, some (bI a6 w.got), bI 0 w'.got, false⟩, ⟨1007, m + 7, some (bI a7 w.shut), bI 0 w'.shut, false⟩]
abbrev iO (v m0 m n : Nat) (w : CW) : List (Nat × Blk) := (m0, .var v 26 (oC (m + 1) (m + 2) (m + 3) (m + 4) (m + 5) (m + 6) (m + 7) n n n n n n n w)) :: wO m n w
section
variable {P : Program} {t : Nat → T} {H : HMap} {c : Nat} {f : Opd} {args : List Opd} {fid : FuncId} {k : Nat} {d : Option Nat} {un : List Nat} {l : List AOper} {prev : List (Nat × List Nat × List Nat)} {K : St → Prop}
/-- A call of a method that works on a world in place. -/
theorem callIn {v a1 a2 a3 a4 a5 a6 a7 m0 m : Nat} {w w' : CW} {al : List T} {r : T} (hC : ∀ v a1 a2 a3 a4 a5 a6 a7 m0 m, ACallsF P fid (wP 1000 v :: al) (iH v a1 a2 a3 a4 a5 a6 a7 m0 m w w') r) (hf : ev t f = .pt (.one (.fn fid []))) (hl : args.map (ev t) = wP m0 v :: al) (ha : al.all closedA = true) (hr : ∀ hs nv, renOT hs nv r = some r)
    (hH : H m0 = some (.var v 26 (oC (m + 1) (m + 2) (m + 3) (m + 4) (m + 5) (m + 6) (m + 7) a1 a2 a3 a4 a5 a6 a7 w))) (h1 : H (m + 1) = some (bI a1 w.queue)) (h2 : H (m + 2) = some (bH a2 w.hands)) (h3 : H (m + 3) = some (bI a3 w.results)) (h4 : H (m + 4) = some (bI a4 w.ring)) (h5 : H (m + 5) = some (bI a5 w.out)) (h6 : H (m + 6) = some (bI a6 w.got)) (h7 : H (m + 7) = some (bI a7 w.shut)) (hm : m0 ∉ wN m)
    (hk : chk prev un ⟨r, iO v m0 m (c + k) w', m0 :: wN m, m0 :: wN m⟩ = true ∧ DRun P l ((k, m0 :: wN m, m0 :: wN m) :: prev) K ⟨updD t d r, updH H (iO v m0 m (c + k) w'), c⟩) :
    step P k d un (.call f args) l prev K t H c := by
  obtain ⟨hs, hhs⟩ : ∃ hs, iH v a1 a2 a3 a4 a5 a6 a7 m0 m w w' = hs := ⟨_, rfl⟩
  have N0 : renN hs 1000 = some (⟨1000, m0, some (.var v 26 (oC 1001 1002 1003 1004 1005 1006 1007 a1 a2 a3 a4 a5 a6 a7 w)), .var v 26 (oC 1001 1002 1003 1004 1005 1006 1007 0 0 0 0 0 0 0 w'), true⟩) := by rw [← hhs]; simp [renN]
  have N1 : renN hs 1001 = some (⟨1001, m + 1, some (bI a1 w.queue), bI 0 w'.queue, false⟩) := by rw [← hhs]; simp [renN]
  have N2 : renN hs 1002 = some (⟨1002, m + 2, some (bH a2 w.hands), bH 0 w'.hands, false⟩) := by rw [← hhs]; simp [renN]
  have N3 : renN hs 1003 = some (⟨1003, m + 3, some (bI a3 w.results), bI 0 w'.results, false⟩) := by rw [← hhs]; simp [renN]
  have N4 : renN hs 1004 = some (⟨1004, m + 4, some (bI a4 w.ring), bI 0 w'.ring, false⟩) := by rw [← hhs]; simp [renN]
  have N5 : renN hs 1005 = some (⟨1005, m + 5, some (bI a5 w.out), bI 0 w'.out, false⟩) := by rw [← hhs]; simp [renN]
  have N6 : renN hs 1006 = some (⟨1006, m + 6, some (bI a6 w.got), bI 0 w'.got, false⟩) := by rw [← hhs]; simp [renN]
  have N7 : renN hs 1007 = some (⟨1007, m + 7, some (bI a7 w.shut), bI 0 w'.shut, false⟩) := by rw [← hhs]; simp [renN]
  have hnd : (hs.map (·.m)).Nodup := by
    rw [← hhs]
    simp only [List.map_cons, List.map_nil]
    rw [List.nodup_cons]
    exact ⟨by simpa using hm, by simp⟩
  have hcd : (hs.map (·.c)).Nodup := by rw [← hhs]; simp
  obtain ⟨x1, x2⟩ := closed_As hs H al ha
  refine callW (caps := []) («as» := wP m0 v :: al) (ws := []) (ns := []) (r' := r) (ob := iO v m0 m (c + k) w') hs (by rw [← hhs]; exact hC v a1 a2 a3 a4 a5 a6 a7 m0 m) hf ?_ ?_ ?_ hnd hcd (hr _ _) ?_ ?_
  · have a1 : lendT H (wP 1000 v) (wP m0 v) = some (wP m0 v, [], []) := rfl
    rw [hl]
    simp only [List.map_nil, List.append_nil, lendTs, a1, x1]
  · have a1 : renIT hs (wP 1000 v) = some (wP m0 v) := by simp only [wP, T.c, renIT, renI, inN, N0, Option.bind_some, Option.map_some]
    simp only [renITs, x2, a1]
  · have hb : renIB hs (.var v 26 (oC 1001 1002 1003 1004 1005 1006 1007 a1 a2 a3 a4 a5 a6 a7 w)) = some (.var v 26 (oC (m + 1) (m + 2) (m + 3) (m + 4) (m + 5) (m + 6) (m + 7) a1 a2 a3 a4 a5 a6 a7 w)) := by simp only [renIB, renIs, renI, inN, N0, N1, N2, N3, N4, N5, N6, N7, Option.bind_some, Option.map_some]
    show handsIn H hs hs
    conv => arg 3; rw [← hhs]
    refine ⟨?_, h1, h2, h3, h4, h5, h6, h7, trivial⟩
    · show (match renIB hs (.var v 26 (oC 1001 1002 1003 1004 1005 1006 1007 a1 a2 a3 a4 a5 a6 a7 w)) with | some B => H m0 = some B | none => False)
      rw [hb]; exact hH
  · conv => lhs; arg 3; rw [← hhs]
    simp only [renOBs, renOB, renOs, renO, N0, N1, N2, N3, N4, N5, N6, N7, Option.map_some, verOf, Blk.ver, if_true]; rfl
  · have hq : quiet r hs = false := by rw [← hhs]; simp [quiet]
    have e4 : hs.map (·.m) = m0 :: wN m := by rw [← hhs]; rfl
    rw [hq, e4]
    exact hk
end
def shutW (w : CW) (p : Nat) : CW := { w with shut := w.shut.set p 1, ops := w.ops + 1 }
def cancelW (w : CW) : CW := { shutW w 3 with user := 1 }
/- (*loop.example/teagle/impl.CrewWorld).shut -/
def r93_0 : List AOper := [ao 0 4 (.mv (.t 0)),
  ao 1 5 (.nck (.t 4)),
  ao 2 6 (.fa 16 (.t 5)),
  ao 3 7 (.ld 1 false (.t 6)),
  ao 4 8 (.mv (.t 1)),
  ao 5 9 (.ia 1 (.t 7) (.t 8)),
  an 6 (.st 1 (.t 9) (.k (.i 1)))]
def r93_1 : List AOper := [ao 0 10 (.mv (.t 0)),
  ao 1 11 (.nck (.t 10)),
  ao 2 12 (.fa 17 (.t 11)),
  ao 3 13 (.ld 1 false (.t 12)),
  ao 4 14 (.bin .add (.t 13) (.k (.i 1))),
  ao 5 15 (.nck (.t 10)),
  ao 6 16 (.fa 17 (.t 15)),
  an 7 (.st 1 (.t 16) (.t 14))]
def c93 : ACode := .seq (.reg r93_0) (.reg r93_1)
def s93 : List ARes := []
theorem ok93 : okF Tryz.prog 93 17 c93 s93 := ⟨Tryz.f93, Tryz.func93, Tryz.ntmps93, by kernel_rfl, by kernel_rfl, by kernel_rfl⟩
def UCw_1 := Bx.mk <|
  aN (uA c93.eq_1) <| aN (uR r93_0.eq_1) <| aN (uR r93_1.eq_1) <| s93.eq_1
theorem shut_ok {w : CW} (hl : w.shut.length = 4) (ho : 0 ≤ w.ops ∧ w.ops ≤ 10000) (p : Nat) (hp : p < 4) (v a1 a2 a3 a4 a5 a6 a7 m0 m : Nat) : ACallsF Tryz.prog 93 [wP 1000 v, .i p] (iH v a1 a2 a3 a4 a5 a6 a7 m0 m w (shutW w p)) (.tup []) := by
  obtain ⟨s, hs⟩ : ∃ s, w.shut[p]? = some s := ⟨_, List.getElem?_eq_getElem (by omega)⟩
  have es := en_at eI hs
  have gz : (0 : Int) ≤ p := by omega
  have k1 : (p : Int) < ((4 : Nat) : Int) := by omega
  have gm : p < 4 := hp
  have w1 : IntKind.i64.wrap (w.ops + 1) = w.ops + 1 := wrap64 ⟨by omega, by omega⟩
  have hn : (en eI w.shut).set p [.s (.int .i64 1)] = en eI (w.shut.set p 1) := en_set eI w.shut p 1
  have e1 : (shutW w p).shut = w.shut.set p 1 := rfl
  have e2 : (shutW w p).ops = w.ops + 1 := rfl
  have e3 : (w.shut.set p 1).length = w.shut.length := List.length_set
  refine ACallsF.intro ok93 follows fun X c0 => ?_
  simp only [RZ, reduceAdd, reduceIte, reduceEqDiff, reduceLT, reduceLeDiff, reduceCtorEq, Nat.reduceBEq, iH, wP, UCw_1.d, en_len, hl, es, gz, k1, gm, w1, eI, Int.toNat_natCast, hn, shutW, e3, imp_self, false_implies, and_self]
/- (*loop.example/teagle/impl.CrewWorld).cancel -/
def r49_0 : List AOper := [ao 0 2 (.mv (.t 0)),
  ao 1 3 (.call (.k (.c (.fn 93 []))) [(.t 2), (.k (.i 3))])]
def r49_1 : List AOper := [ao 0 4 (.mv (.t 0)),
  ao 1 5 (.nck (.t 4)),
  ao 2 6 (.fa 13 (.t 5)),
  an 3 (.st 1 (.t 6) (.k (.i 1)))]
def c49 : ACode := .seq (.reg r49_0) (.reg r49_1)
def s49 : List ARes := []
theorem ok49 : okF Tryz.prog 49 7 c49 s49 := ⟨Tryz.f49, Tryz.func49, Tryz.ntmps49, by kernel_rfl, by kernel_rfl, by kernel_rfl⟩
def UCw_2 := Bx.mk <|
  aN (uA c49.eq_1) <| aN (uR r49_0.eq_1) <| aN (uR r49_1.eq_1) <| s49.eq_1
theorem cancel_ok {w : CW} (hl : w.shut.length = 4) (ho : 0 ≤ w.ops ∧ w.ops ≤ 10000) (v a1 a2 a3 a4 a5 a6 a7 m0 m : Nat) : ACallsF Tryz.prog 49 [wP 1000 v] (iH v a1 a2 a3 a4 a5 a6 a7 m0 m w (cancelW w)) (.tup []) := by
  refine ACallsF.intro ok49 follows fun X c0 => ?_
  simp only [RZ, reduceAdd, reduceIte, reduceEqDiff, reduceLT, reduceLeDiff, reduceCtorEq, Nat.reduceBEq, iH, wP, UCw_2.d]
  refine callIn (m := 1000) (shut_ok hl ho 3 (by decide)) rfl rfl rfl (fun _ _ => rfl) rfl rfl rfl rfl rfl rfl rfl rfl (by decide) ⟨rfl, ?_⟩
  simp only [RZ, reduceAdd, reduceIte, reduceEqDiff, reduceLT, reduceLeDiff, reduceCtorEq, Nat.reduceBEq, iH, wP, UCw_2.d, cancelW, imp_self, false_implies, and_self]
end Go.V
set_option linter.unusedSimpArgs false
namespace Go.V
open Go.Proofs
abbrev wL (m a1 a2 a3 a4 a5 a6 a7 : Nat) (w : CW) : List (Nat × Blk) := [(m + 1, .arr a1 false 1 3 (en eI w.queue)), (m + 2, .arr a2 false 2 68 (en eH w.hands)), (m + 3, .arr a3 false 1 3 (en eI w.results)), (m + 4, .arr a4 false 1 3 (en eI w.ring)), (m + 5, .arr a5 false 1 3 (en eI w.out)), (m + 6, .arr a6 false 1 3 (en eI w.got)), (m + 7, .arr a7 false 1 3 (en eI w.shut))]
section
variable {H : HMap} {m a1 a2 a3 a4 a5 a6 a7 m' b1 b2 b3 b4 b5 b6 b7 : Nat} {x1 x2 x3 x4 x5 x6 x7 y1 y2 y3 y4 y5 y6 y7 : Bool} {w w' : CW} {x : T}
theorem lendW7 (h1 : H (m + 1) = some (.arr a1 x1 1 3 (en eI w.queue))) (h2 : H (m + 2) = some (.arr a2 x2 2 68 (en eH w.hands))) (h3 : H (m + 3) = some (.arr a3 x3 1 3 (en eI w.results))) (h4 : H (m + 4) = some (.arr a4 x4 1 3 (en eI w.ring))) (h5 : H (m + 5) = some (.arr a5 x5 1 3 (en eI w.out))) (h6 : H (m + 6) = some (.arr a6 x6 1 3 (en eI w.got))) (h7 : H (m + 7) = some (.arr a7 x7 1 3 (en eI w.shut))) : lendT H (tCW w) (.pt (.agg (oC (m + 1) (m + 2) (m + 3) (m + 4) (m + 5) (m + 6) (m + 7) a1 a2 a3 a4 a5 a6 a7 w))) = some (tCW w, wL m a1 a2 a3 a4 a5 a6 a7 w, wN m) := by
  simp only [lendT, lendCs, lendC, sealC, h1, h2, h3, h4, h5, h6, h7, en_len, en_take, Nat.le_refl, and_self, if_true, Option.map_some, List.cons_append, List.nil_append]
theorem lendW1 (h1 : H (m + 1) = some (.arr a1 x1 1 3 (en eI w.queue))) (h2 : H (m + 2) = some (.arr a2 x2 2 68 (en eH w.hands))) (h3 : H (m + 3) = some (.arr a3 x3 1 3 (en eI w.results))) (h4 : H (m + 4) = some (.arr a4 x4 1 3 (en eI w.ring))) (h5 : H (m + 5) = some (.arr a5 x5 1 3 (en eI w.out))) (h6 : H (m + 6) = some (.arr a6 x6 1 3 (en eI w.got))) (h7 : H (m + 7) = some (.arr a7 x7 1 3 (en eI w.shut))) : lendTs H [tCW w] [.pt (.agg (oC (m + 1) (m + 2) (m + 3) (m + 4) (m + 5) (m + 6) (m + 7) a1 a2 a3 a4 a5 a6 a7 w))] = some ([tCW w], wL m a1 a2 a3 a4 a5 a6 a7 w, wN m) := by
  simp only [lendTs, lendW7 h1 h2 h3 h4 h5 h6 h7, List.append_nil]
theorem lendWx (h1 : H (m + 1) = some (.arr a1 x1 1 3 (en eI w.queue))) (h2 : H (m + 2) = some (.arr a2 x2 2 68 (en eH w.hands))) (h3 : H (m + 3) = some (.arr a3 x3 1 3 (en eI w.results))) (h4 : H (m + 4) = some (.arr a4 x4 1 3 (en eI w.ring))) (h5 : H (m + 5) = some (.arr a5 x5 1 3 (en eI w.out))) (h6 : H (m + 6) = some (.arr a6 x6 1 3 (en eI w.got))) (h7 : H (m + 7) = some (.arr a7 x7 1 3 (en eI w.shut))) (hx : closedA x = true) : lendTs H [tCW w, x] [.pt (.agg (oC (m + 1) (m + 2) (m + 3) (m + 4) (m + 5) (m + 6) (m + 7) a1 a2 a3 a4 a5 a6 a7 w)), x] = some ([tCW w, x], wL m a1 a2 a3 a4 a5 a6 a7 w, wN m) := by
  simp only [lendTs, lendW7 h1 h2 h3 h4 h5 h6 h7, (closed_A [] H x hx).1, List.append_nil]
theorem lendWW (h1 : H (m + 1) = some (.arr a1 x1 1 3 (en eI w.queue))) (h2 : H (m + 2) = some (.arr a2 x2 2 68 (en eH w.hands))) (h3 : H (m + 3) = some (.arr a3 x3 1 3 (en eI w.results))) (h4 : H (m + 4) = some (.arr a4 x4 1 3 (en eI w.ring))) (h5 : H (m + 5) = some (.arr a5 x5 1 3 (en eI w.out))) (h6 : H (m + 6) = some (.arr a6 x6 1 3 (en eI w.got))) (h7 : H (m + 7) = some (.arr a7 x7 1 3 (en eI w.shut))) (g1 : H (m' + 1) = some (.arr b1 y1 1 3 (en eI w'.queue))) (g2 : H (m' + 2) = some (.arr b2 y2 2 68 (en eH w'.hands))) (g3 : H (m' + 3) = some (.arr b3 y3 1 3 (en eI w'.results))) (g4 : H (m' + 4) = some (.arr b4 y4 1 3 (en eI w'.ring))) (g5 : H (m' + 5) = some (.arr b5 y5 1 3 (en eI w'.out))) (g6 : H (m' + 6) = some (.arr b6 y6 1 3 (en eI w'.got))) (g7 : H (m' + 7) = some (.arr b7 y7 1 3 (en eI w'.shut))) : lendTs H [tCW w, tCW w'] [.pt (.agg (oC (m + 1) (m + 2) (m + 3) (m + 4) (m + 5) (m + 6) (m + 7) a1 a2 a3 a4 a5 a6 a7 w)), .pt (.agg (oC (m' + 1) (m' + 2) (m' + 3) (m' + 4) (m' + 5) (m' + 6) (m' + 7) b1 b2 b3 b4 b5 b6 b7 w'))] = some ([tCW w, tCW w'], wL m a1 a2 a3 a4 a5 a6 a7 w ++ wL m' b1 b2 b3 b4 b5 b6 b7 w', wN m ++ wN m') := by
  simp only [lendTs, lendW7 h1 h2 h3 h4 h5 h6 h7, lendW7 g1 g2 g3 g4 g5 g6 g7, List.append_nil]
end
theorem callLf {P : Program} {t : Nat → T} {H : HMap} {c : Nat} {f : Opd} {args : List Opd} {fid : FuncId} {argsC : List T} {ws : List (Nat × Blk)} {ns : List Nat} {r : T} {k : Nat} {d : Option Nat} {un : List Nat} {l : List AOper} {prev : List (Nat × List Nat × List Nat)} {K : St → Prop}
    (hC : ACallsF P fid argsC [] r) (hf : ev t f = .pt (.one (.fn fid []))) (hl : lendTs H argsC (args.map (ev t)) = some (argsC, ws, ns)) (ha : renITs [] argsC = some argsC) (hr : closedT r = true)
    (hk : chk prev un ⟨r, (if scalarT r then [] else ws), ns, (if scalarT r then [] else ns)⟩ = true ∧ DRun P l ((k, ns, if scalarT r then [] else ns) :: prev) K ⟨updD t d r, updH H (if scalarT r then [] else ws), c⟩) :
    step P k d un (.call f args) l prev K t H c := by
  refine callW (caps := []) [] hC hf (by simpa using hl) ha trivial (by simp) (by simp) (closed_T [] r hr _) rfl ?_
  simpa [quiet, closed_flat r hr] using hk
/-- A call that is lent slices, and gives back nothing that may be of them. -/
theorem callZ {P : Program} {t : Nat → T} {H : HMap} {c : Nat} {f : Opd} {args : List Opd} {fid : FuncId} {argsC : List T} {ws : List (Nat × Blk)} {ns : List Nat} {r : T} {k : Nat} {d : Option Nat} {un : List Nat} {l : List AOper} {prev : List (Nat × List Nat × List Nat)} {K : St → Prop}
    (hC : ACallsF P fid argsC [] r) (hf : ev t f = .pt (.one (.fn fid []))) (hl : lendTs H argsC (args.map (ev t)) = some (argsC, ws, ns)) (ha : renITs [] argsC = some argsC) (hr : ∀ nv, renOT [] nv r = some r) (hq : flatT r = true)
    (hk : chk prev un ⟨r, [], ns, []⟩ = true ∧ DRun P l ((k, ns, []) :: prev) K ⟨updD t d r, H, c⟩) :
    step P k d un (.call f args) l prev K t H c := by
  refine callW (caps := []) [] hC hf (by simpa using hl) ha trivial (by simp) (by simp) (hr _) rfl ?_
  simpa [quiet, hq, updH] using hk
theorem scB (b : Bool) : scalarT (T.b b) = true := rfl
theorem scI (n : Int) : scalarT (T.i n) = true := rfl
/-- A call that is lent slices and says a number or a truth value. -/
theorem callS {P : Program} {t : Nat → T} {H : HMap} {c : Nat} {f : Opd} {args : List Opd} {fid : FuncId} {argsC : List T} {ws : List (Nat × Blk)} {ns : List Nat} {r : T} {k : Nat} {d : Option Nat} {un : List Nat} {l : List AOper} {prev : List (Nat × List Nat × List Nat)} {K : St → Prop}
    (hC : ACallsF P fid argsC [] r) (hf : ev t f = .pt (.one (.fn fid []))) (hl : lendTs H argsC (args.map (ev t)) = some (argsC, ws, ns)) (ha : renITs [] argsC = some argsC) (hr : closedT r = true) (hs : scalarT r = true)
    (hk : chk prev un ⟨r, [], ns, []⟩ = true ∧ DRun P l ((k, ns, []) :: prev) K ⟨updD t d r, H, c⟩) :
    step P k d un (.call f args) l prev K t H c := by
  refine callLf hC hf hl ha hr ?_
  rw [hs]
  exact hk
end Go.V
set_option linter.unusedSimpArgs false
namespace Go.V
open Go.Proofs
open Nat (reduceAdd reduceEqDiff reduceLT reduceLeDiff)
/- loop.example/teagle/spec.CrewCancel -/
def r20_0 : List AOper := [ao 0 1 (.box 26 (.t 0)),
  ao 1 2 (.alloc 26 [(.v (.s (.int .i64 0))), (.v (.s (.int .i64 0))), (.v (.s (.int .i64 0))), (.v (.s (.int .i64 0))), (.v (.s (.int .i64 0))), .nil0, .nil0, (.v (.s (.int .i64 0))), .nil0, (.v (.s (.int .i64 0))), .nil0, (.v (.s (.int .i64 0))), .nil0, (.v (.s (.int .i64 0))), .nil0, (.v (.s (.int .i64 0))), .nil0, (.v (.s (.int .i64 0)))]),
  ao 2 3 (.mv (.k (.b false)))]
def r20_1 : List AOper := [ao 0 4 (.ld 18 true (.t 1)),
  ao 1 5 (.call (.k (.c (.fn 9 []))) [(.t 4)]),
  ao 2 6 (.un .not (.t 5)),
  ao 3 7 (.mv (.t 6)),
  ag 4 8 7 false [] (.fa 13 (.t 1)),
  ag 5 9 7 false [] (.ld 1 false (.t 8)),
  ag 6 10 7 false [] (.bin .eql (.t 9) (.k (.i 1))),
  ao 7 11 (.pick (.t 7) (.k (.b true)) (.t 10))]
def r20_2 : List AOper := [ao 0 12 (.build [(.v (.s (.int .i64 0))), (.v (.s (.int .i64 0))), (.v (.s (.int .i64 0))), (.v (.s (.int .i64 0))), (.v (.s (.int .i64 0))), .nil0, .nil0, (.v (.s (.int .i64 0))), .nil0, (.v (.s (.int .i64 0))), .nil0, (.v (.s (.int .i64 0))), .nil0, (.v (.s (.int .i64 0))), .nil0, (.v (.s (.int .i64 0))), .nil0, (.v (.s (.int .i64 0)))] []),
  an 1 (.st 18 (.t 2) (.t 12)),
  ao 2 3 (.mv (.k (.b false)))]
def c20_3 : ACode := .seq (.reg r20_2) .ret
def c20_4 : ACode := .cond (.t 11) c20_3 .skip
def c20_5 : ACode := .seq (.reg r20_1) c20_4
def r20_6 : List AOper := [ao 0 13 (.ld 18 true (.t 1)),
  ao 1 14 (.call (.k (.c (.fn 48 []))) [(.t 13)]),
  an 2 (.st 18 (.t 1) (.t 14))]
def r20_7 : List AOper := [ao 0 15 (.fa 13 (.t 1)),
  an 1 (.st 1 (.t 15) (.k (.i 1)))]
def r20_8 : List AOper := [ao 0 16 (.fa 16 (.t 1)),
  ao 1 17 (.ld 1 false (.t 16)),
  ao 2 18 (.ia 1 (.t 17) (.k (.i 3))),
  an 3 (.st 1 (.t 18) (.k (.i 1)))]
def r20_9 : List AOper := [ao 0 19 (.fa 17 (.t 1)),
  ao 1 20 (.ld 1 false (.t 19)),
  ao 2 21 (.bin .add (.t 20) (.k (.i 1))),
  ao 3 22 (.fa 17 (.t 1)),
  an 4 (.st 1 (.t 22) (.t 21))]
def r20_10 : List AOper := [ao 0 23 (.ld 18 true (.t 1)),
  an 1 (.st 18 (.t 2) (.t 23)),
  ao 2 3 (.mv (.k (.b true)))]
def c20 : ACode := .seq (.reg r20_0) (.seq c20_5 (.seq (.reg r20_6) (.seq (.reg r20_7) (.seq (.reg r20_8) (.seq (.reg r20_9) (.seq (.reg r20_10) .ret))))))
def s20 : List ARes := [.cell 2 18 true, .tmp 3]
theorem ok20 : okF Tryz.prog 20 24 c20 s20 := ⟨Tryz.f20, Tryz.func20, Tryz.ntmps20, by kernel_rfl, by kernel_rfl, by kernel_rfl⟩
def UEx_1 := Bx.mk <|
  aN (uA c20.eq_1) <| aN (uR r20_0.eq_1) <| aN (uA c20_5.eq_1) <| aN (uR r20_1.eq_1) <| aN (uA c20_4.eq_1) <| aN (uA c20_3.eq_1) <| aN (uR r20_2.eq_1) <| aN (uR r20_6.eq_1) <| aN (uR r20_7.eq_1) <| aN (uR r20_8.eq_1) <| aN (uR r20_9.eq_1) <| aN (uR r20_10.eq_1) <| s20.eq_1
set_option maxHeartbeats 1000000 in
theorem cancelS_no {w : CW} (h : ¬ (WOk w ∧ w.user ≠ 1)) : ACallsF Tryz.prog 20 [tCW w] [] (.tup [.agg (cwC cw0), .one (.v (.s (.bool false)))]) := by
  obtain ⟨b, hb, C⟩ := crewOk_ok w
  refine ACallsF.intro ok20 follows fun X c0 => ?_
  simp only [RZ, reduceAdd, reduceIte, reduceEqDiff, reduceLT, reduceLeDiff, reduceCtorEq, Nat.reduceBEq, UEx_1.d]
  refine callC C rfl rfl rfl rfl ?_
  cases b with
  | false =>
    simp only [RZ, reduceAdd, reduceIte, reduceEqDiff, reduceLT, reduceLeDiff, reduceCtorEq, Nat.reduceBEq, UEx_1.d]
    rfl
  | true =>
    have hu : w.user = 1 := Decidable.not_not.1 fun g => h ⟨hb.1 rfl, g⟩
    have k1 := eqb hu
    simp only [RZ, reduceAdd, reduceIte, reduceEqDiff, reduceLT, reduceLeDiff, reduceCtorEq, Nat.reduceBEq, UEx_1.d, k1]
    rfl
set_option maxHeartbeats 1000000 in
theorem cancelS_yes {w : CW} (h : WOk w) (hu : w.user ≠ 1) : ACallsF Tryz.prog 20 [tCW w] [] (.tup [.agg (cwC (cancelW w)), .one (.v (.s (.bool true)))]) := by
  obtain ⟨b, hb, C⟩ := crewOk_ok w
  have k1 := neqb hu
  have f := h.form
  have hls : w.shut.length = 4 := by have := f.ls; omega
  have ho := f.ops0
  have ho2 := f.ops1
  have w1 : IntKind.i64.wrap (w.ops + 1) = w.ops + 1 := wrap64 ⟨by omega, by omega⟩
  obtain ⟨s, hs⟩ : ∃ s, w.shut[3]? = some s := ⟨_, List.getElem?_eq_getElem (by omega)⟩
  have es := en_at eI hs
  have gz : (0 : Int) ≤ 3 := by decide
  have g3 : (3 : Int) < ((4 : Nat) : Int) := by decide
  have g4 : Int.toNat 3 = 3 := rfl
  have hn : (en eI w.shut).set 3 [.s (.int .i64 1)] = en eI (w.shut.set 3 1) := en_set eI w.shut 3 1
  have e3 : (w.shut.set 3 1).length = 4 := by rw [List.length_set]; exact hls
  have tk : (en eI (w.shut.set 3 1)).take 4 = en eI (w.shut.set 3 1) := by rw [← e3, en_take]
  refine ACallsF.intro ok20 follows fun X c0 => ?_
  simp only [RZ, reduceAdd, reduceIte, reduceEqDiff, reduceLT, reduceLeDiff, reduceCtorEq, Nat.reduceBEq, UEx_1.d]
  refine callC C rfl rfl rfl rfl ?_
  cases b with
  | false => cases hb.2 h
  | true =>
  simp only [RZ, reduceAdd, reduceIte, reduceEqDiff, reduceLT, reduceLeDiff, reduceCtorEq, Nat.reduceBEq, UEx_1.d, k1]
  refine callW7 (m := 2000) (ws := []) (ns := []) (copy_ok f.small 2000) rfl rfl rfl (by decide) ⟨rfl, ?_⟩
  simp only [RZ, reduceAdd, reduceIte, reduceEqDiff, reduceLT, reduceLeDiff, reduceCtorEq, Nat.reduceBEq, UEx_1.d, en_len, hls, es, gz, g3, g4, w1, eI, hn, e3, tk, KI]
  rfl
end Go.V
set_option linter.unusedSimpArgs false
namespace Go.V
open Go.Proofs
open Nat (reduceAdd reduceEqDiff reduceLT reduceLeDiff)
theorem all_iff (hs : List Hd) : (hs.all fun h => h.state == 3) = true ↔ ∀ h ∈ hs, h.state = 3 := by simp [List.all_eq_true]
def allB (w : CW) : Bool := w.hands.all fun h => h.state == 3
theorem allB_ok {w : CW} (h : Form w) : ACallsF Tryz.prog 69 [tCW w] [] (.b (allB w)) := by
  obtain ⟨b, hb, C⟩ := all_ok h
  have : allB w = b := by
    rw [Bool.eq_iff_iff, hb]; exact all_iff w.hands
  rw [this]; exact C
/-- The ways that are open. -/
def waysR (w : CW) : List Bool := if w.reader = 0 then (if w.next = w.jobs then [false, false, true] else [decide (w.room > 0), sh w 3 == 1, false]) else if w.reader = 1 then [decide ((w.queue.length : Int) < w.workers), sh w 3 == 1] else if w.reader = 2 then [true] else []
def waysH (w : CW) (h : Hd) : List Bool := if h.state = 0 then [decide ((w.queue.length : Int) > 0), sh w 3 == 1, ((w.queue.length : Int) == 0) && (sh w 0 == 1)] else if h.state = 1 then [true] else if h.state = 2 then [decide ((w.results.length : Int) < w.workers), sh w 3 == 1] else []
def waysK (w : CW) : List Bool := if w.keeper = 0 then [decide ((w.results.length : Int) > 0), sh w 3 == 1, ((w.results.length : Int) == 0) && (sh w 1 == 1)] else if w.keeper = 2 then [(w.out.length : Int) == 0, sh w 3 == 1] else if w.keeper = 5 then [] else [true]
def hdAt (w : CW) (i : Nat) : Hd := w.hands.getD i ⟨0, 0⟩
def ways (w : CW) (who : Int) : List Bool := if who = 0 then waysR w else if who ≤ w.workers then waysH w (hdAt w (who - 1).toNat) else if who = w.workers + 1 then [(w.closer == 0) && allB w] else if who = w.workers + 2 then waysK w else if w.user = 1 then [] else [decide ((w.out.length : Int) > 0), ((w.out.length : Int) == 0) && (sh w 2 == 1)]
theorem waysR_len (w : CW) : (waysR w).length ≤ 3 := by
  unfold waysR; repeat' split
  all_goals simp
theorem waysH_len (w : CW) (h : Hd) : (waysH w h).length ≤ 3 := by
  unfold waysH; repeat' split
  all_goals simp
theorem waysK_len (w : CW) : (waysK w).length ≤ 3 := by
  unfold waysK; repeat' split
  all_goals simp
theorem ways_len (w : CW) (who : Int) : (ways w who).length ≤ 3 := by
  have h1 := waysR_len w
  have h2 := waysH_len w (hdAt w (who - 1).toNat)
  have h3 := waysK_len w
  unfold ways; repeat' split
  all_goals first | assumption | simp
/- loop.example/teagle/spec.l52Reader -/
def r67_0 : List AOper := [ao 0 1 (.box 26 (.t 0)),
  ao 1 2 (.mv (.k (.c .nil0)))]
def r67_1 : List AOper := [ao 0 4 (.fa 16 (.t 1)),
  ao 1 5 (.ld 1 false (.t 4)),
  ao 2 6 (.ia 1 (.t 5) (.k (.i 3))),
  ao 3 7 (.ld 1 false (.t 6)),
  ao 4 8 (.bin .eql (.t 7) (.k (.i 1))),
  ao 5 3 (.mv (.t 8))]
def r67_2 : List AOper := [ao 0 9 (.fa 4 (.t 1)),
  ao 1 10 (.ld 1 false (.t 9))]
def r67_3 : List AOper := [ao 0 12 (.bin .eql (.t 10) (.k (.i 0))),
  ao 1 11 (.mv (.t 12))]
def r67_4 : List AOper := [ao 0 13 (.fa 3 (.t 1)),
  ao 1 14 (.ld 1 false (.t 13)),
  ao 2 15 (.fa 0 (.t 1)),
  ao 3 16 (.ld 1 false (.t 15)),
  ao 4 17 (.bin .eql (.t 14) (.t 16))]
def r67_5 : List AOper := [ao 0 18 (.bsl 1 4 [(.k (.b false)), (.k (.b false)), (.k (.b true))]),
  ao 1 2 (.mv (.t 18))]
def c67_6 : ACode := .seq (.reg r67_5) .ret
def c67_7 : ACode := .cond (.t 17) c67_6 .skip
def c67_8 : ACode := .seq (.reg r67_4) c67_7
def r67_9 : List AOper := [ao 0 19 (.fa 15 (.t 1)),
  ao 1 20 (.ld 1 false (.t 19)),
  ao 2 21 (.bin .gtr (.t 20) (.k (.i 0))),
  ao 3 22 (.mv (.t 3)),
  ao 4 23 (.bsl 1 4 [(.t 21), (.t 22), (.k (.b false))]),
  ao 5 2 (.mv (.t 23))]
def c67_10 : ACode := .seq c67_8 (.seq (.reg r67_9) .ret)
def r67_11 : List AOper := [ao 0 25 (.bin .eql (.t 10) (.k (.i 1))),
  ao 1 24 (.mv (.t 25))]
def r67_12 : List AOper := [ao 0 26 (.fa 5 (.t 1)),
  ao 1 27 (.ld 1 false (.t 26)),
  ao 2 28 (.len (.t 27)),
  ao 3 29 (.fa 1 (.t 1)),
  ao 4 30 (.ld 1 false (.t 29)),
  ao 5 31 (.bin .lss (.t 28) (.t 30)),
  ao 6 32 (.mv (.t 3)),
  ao 7 33 (.bsl 1 4 [(.t 31), (.t 32)]),
  ao 8 2 (.mv (.t 33))]
def c67_13 : ACode := .seq (.reg r67_12) .ret
def r67_14 : List AOper := [ao 0 35 (.bin .eql (.t 10) (.k (.i 2))),
  ao 1 34 (.mv (.t 35))]
def r67_15 : List AOper := [ao 0 36 (.bsl 1 4 [(.k (.b true))]),
  ao 1 2 (.mv (.t 36))]
def c67_16 : ACode := .seq (.reg r67_15) .ret
def c67_17 : ACode := .cond (.t 34) c67_16 .skip
def c67_18 : ACode := .seq (.reg r67_14) c67_17
def c67_19 : ACode := .cond (.t 24) c67_13 c67_18
def c67_20 : ACode := .seq (.reg r67_11) c67_19
def c67_21 : ACode := .cond (.t 11) c67_10 c67_20
def c67_22 : ACode := .seq (.reg r67_3) c67_21
def c67_23 : ACode := .block 0 c67_22
def c67_24 : ACode := .seq (.reg r67_2) c67_23
def r67_25 : List AOper := [ao 0 37 (.bsl 1 4 []),
  ao 1 2 (.mv (.t 37))]
def c67 : ACode := .seq (.reg r67_0) (.seq (.reg r67_1) (.seq c67_24 (.seq (.reg r67_25) .ret)))
def s67 : List ARes := [.tmp 2]
theorem ok67 : okF Tryz.prog 67 38 c67 s67 := ⟨Tryz.f67, Tryz.func67, Tryz.ntmps67, by kernel_rfl, by kernel_rfl, by kernel_rfl⟩
def UEa_1 := Bx.mk <|
  aN (uA c67.eq_1) <| aN (uR r67_0.eq_1) <| aN (uR r67_1.eq_1) <| aN (uA c67_24.eq_1) <| aN (uR r67_2.eq_1) <| aN (uA c67_23.eq_1) <| aN (uA c67_22.eq_1) <| aN (uR r67_3.eq_1) <| aN (uA c67_21.eq_1) <| aN (uA c67_10.eq_1) <| aN (uA c67_8.eq_1) <| aN (uR r67_4.eq_1) <| aN (uA c67_7.eq_1) <| aN (uA c67_6.eq_1) <| aN (uR r67_5.eq_1) <| aN (uR r67_9.eq_1) <| aN (uA c67_20.eq_1) <| aN (uR r67_11.eq_1) <| aN (uA c67_19.eq_1) <| aN (uA c67_13.eq_1) <| aN (uR r67_12.eq_1) <| aN (uA c67_18.eq_1) <| aN (uR r67_14.eq_1) <| aN (uA c67_17.eq_1) <| aN (uA c67_16.eq_1) <| aN (uR r67_15.eq_1) <| aN (uR r67_25.eq_1) <| s67.eq_1
theorem waysR_ok {w : CW} (h : Form w) : ACallsF Tryz.prog 67 [tCW w] [] (tL (en eB (waysR w))) := by
  have s3 := en_at eI (sh_at h (i := 3) (by omega))
  simp only [en] at s3
  refine ACallsF.intro ok67 follows fun X c0 => ?_
  by_cases c0 : w.reader = 0
  · have k0 := eqb c0
    by_cases c1 : w.next = w.jobs
    · have k1 := eqb c1
      rw [show waysR w = [false, false, true] by simp only [waysR, c0, c1, if_true]]
      simp only [RZ, reduceAdd, reduceIte, reduceEqDiff, reduceLT, reduceLeDiff, reduceCtorEq, Nat.reduceBEq, en, eB, UEa_1.d, s3, eI, k0, k1]
    · have k1 := neqb c1
      rw [show waysR w = [decide (w.room > 0), sh w 3 == 1, false] by simp only [waysR, c0, c1, if_true, if_false]]
      simp only [RZ, reduceAdd, reduceIte, reduceEqDiff, reduceLT, reduceLeDiff, reduceCtorEq, Nat.reduceBEq, en, eB, UEa_1.d, s3, eI, k0, k1]
  have k0 := neqb c0
  by_cases c1 : w.reader = 1
  · have k1 := eqb c1
    rw [show waysR w = [decide ((w.queue.length : Int) < w.workers), sh w 3 == 1] by rw [waysR, if_neg c0, if_pos c1]]
    simp only [RZ, reduceAdd, reduceIte, reduceEqDiff, reduceLT, reduceLeDiff, reduceCtorEq, Nat.reduceBEq, en, eB, UEa_1.d, s3, eI, k0, k1, List.length_map]
  have k1 := neqb c1
  by_cases c2 : w.reader = 2
  · have k2 := eqb c2
    rw [show waysR w = [true] by rw [waysR, if_neg c0, if_neg c1, if_pos c2]]
    simp only [RZ, reduceAdd, reduceIte, reduceEqDiff, reduceLT, reduceLeDiff, reduceCtorEq, Nat.reduceBEq, en, eB, UEa_1.d, s3, eI, k0, k1, k2]
  have k2 := neqb c2
  rw [show waysR w = [] by rw [waysR, if_neg c0, if_neg c1, if_neg c2]]
  simp only [RZ, reduceAdd, reduceIte, reduceEqDiff, reduceLT, reduceLeDiff, reduceCtorEq, Nat.reduceBEq, en, eB, UEa_1.d, s3, eI, k0, k1, k2]
/- loop.example/teagle/spec.l52Worker -/
def r68_0 : List AOper := [ao 0 2 (.box 26 (.t 0)),
  ao 1 3 (.box 68 (.t 1)),
  ao 2 4 (.mv (.k (.c .nil0)))]
def r68_1 : List AOper := [ao 0 6 (.fa 16 (.t 2)),
  ao 1 7 (.ld 1 false (.t 6)),
  ao 2 8 (.ia 1 (.t 7) (.k (.i 3))),
  ao 3 9 (.ld 1 false (.t 8)),
  ao 4 10 (.bin .eql (.t 9) (.k (.i 1))),
  ao 5 5 (.mv (.t 10))]
def r68_2 : List AOper := [ao 0 11 (.fa 0 (.t 3)),
  ao 1 12 (.ld 1 false (.t 11))]
def r68_3 : List AOper := [ao 0 14 (.bin .eql (.t 12) (.k (.i 0))),
  ao 1 13 (.mv (.t 14))]
def r68_4 : List AOper := [ao 0 15 (.fa 5 (.t 2)),
  ao 1 16 (.ld 1 false (.t 15)),
  ao 2 17 (.len (.t 16)),
  ao 3 18 (.bin .gtr (.t 17) (.k (.i 0))),
  au 4 19 (ru 4) (.mv (.t 5)),
  au 5 20 (ru 5) (.fa 5 (.t 2)),
  au 6 21 (ru 5) (.ld 1 false (.t 20)),
  au 7 22 (ru 5) (.len (.t 21)),
  au 8 23 (ru 5) (.bin .eql (.t 22) (.k (.i 0))),
  au 9 24 (ru 5) (.mv (.t 23)),
  ag 10 25 24 true (ru 5) (.fa 16 (.t 2)),
  ag 11 26 24 true (ru 5) (.ld 1 false (.t 25)),
  ag 12 27 24 true (ru 5) (.ia 1 (.t 26) (.k (.i 0))),
  ag 13 28 24 true (ru 5) (.ld 1 false (.t 27)),
  ag 14 29 24 true (ru 5) (.bin .eql (.t 28) (.k (.i 1))),
  au 15 30 (ru 5) (.pick (.t 24) (.t 29) (.k (.b false))),
  ao 16 31 (.bsl 1 4 [(.t 18), (.t 19), (.t 30)]),
  ao 17 4 (.mv (.t 31))]
def c68_5 : ACode := .seq (.reg r68_4) .ret
def r68_6 : List AOper := [ao 0 33 (.bin .eql (.t 12) (.k (.i 1))),
  ao 1 32 (.mv (.t 33))]
def r68_7 : List AOper := [ao 0 34 (.bsl 1 4 [(.k (.b true))]),
  ao 1 4 (.mv (.t 34))]
def c68_8 : ACode := .seq (.reg r68_7) .ret
def r68_9 : List AOper := [ao 0 36 (.bin .eql (.t 12) (.k (.i 2))),
  ao 1 35 (.mv (.t 36))]
def r68_10 : List AOper := [ao 0 37 (.fa 8 (.t 2)),
  ao 1 38 (.ld 1 false (.t 37)),
  ao 2 39 (.len (.t 38)),
  ao 3 40 (.fa 1 (.t 2)),
  ao 4 41 (.ld 1 false (.t 40)),
  ao 5 42 (.bin .lss (.t 39) (.t 41)),
  ao 6 43 (.mv (.t 5)),
  ao 7 44 (.bsl 1 4 [(.t 42), (.t 43)]),
  ao 8 4 (.mv (.t 44))]
def c68_11 : ACode := .seq (.reg r68_10) .ret
def c68_12 : ACode := .cond (.t 35) c68_11 .skip
def c68_13 : ACode := .seq (.reg r68_9) c68_12
def c68_14 : ACode := .cond (.t 32) c68_8 c68_13
def c68_15 : ACode := .seq (.reg r68_6) c68_14
def c68_16 : ACode := .cond (.t 13) c68_5 c68_15
def c68_17 : ACode := .seq (.reg r68_3) c68_16
def c68_18 : ACode := .block 0 c68_17
def c68_19 : ACode := .seq (.reg r68_2) c68_18
def r68_20 : List AOper := [ao 0 45 (.bsl 1 4 []),
  ao 1 4 (.mv (.t 45))]
def c68 : ACode := .seq (.reg r68_0) (.seq (.reg r68_1) (.seq c68_19 (.seq (.reg r68_20) .ret)))
def s68 : List ARes := [.tmp 4]
theorem ok68 : okF Tryz.prog 68 46 c68 s68 := ⟨Tryz.f68, Tryz.func68, Tryz.ntmps68, by kernel_rfl, by kernel_rfl, by kernel_rfl⟩
def UEa_2 := Bx.mk <|
  aN (uA c68.eq_1) <| aN (uR r68_0.eq_1) <| aN (uR r68_1.eq_1) <| aN (uA c68_19.eq_1) <| aN (uR r68_2.eq_1) <| aN (uA c68_18.eq_1) <| aN (uA c68_17.eq_1) <| aN (uR r68_3.eq_1) <| aN (uA c68_16.eq_1) <| aN (uA c68_5.eq_1) <| aN (uR r68_4.eq_1) <| aN (uA c68_15.eq_1) <| aN (uR r68_6.eq_1) <| aN (uA c68_14.eq_1) <| aN (uA c68_8.eq_1) <| aN (uR r68_7.eq_1) <| aN (uA c68_13.eq_1) <| aN (uR r68_9.eq_1) <| aN (uA c68_12.eq_1) <| aN (uA c68_11.eq_1) <| aN (uR r68_10.eq_1) <| aN (uR r68_20.eq_1) <| s68.eq_1
theorem waysH_ok {w : CW} (h : Form w) (x : Hd) : ACallsF Tryz.prog 68 [tCW w, tH x] [] (tL (en eB (waysH w x))) := by
  have s3 := en_at eI (sh_at h (i := 3) (by omega))
  have s0 := en_at eI (sh_at h (i := 0) (by omega))
  simp only [en] at s3 s0
  refine ACallsF.intro ok68 follows fun X c0 => ?_
  by_cases c0 : x.state = 0
  · have k0 := eqb c0
    by_cases c1 : (w.queue.length : Int) = 0
    · have k1 := eqb c1
      rw [show waysH w x = [decide ((w.queue.length : Int) > 0), sh w 3 == 1, sh w 0 == 1] by rw [waysH, if_pos c0, k1, Bool.true_and]]
      simp only [RZ, reduceAdd, reduceIte, reduceEqDiff, reduceLT, reduceLeDiff, reduceCtorEq, Nat.reduceBEq, en, eB, UEa_2.d, s3, s0, eI, k0, k1, List.length_map]
    · have k1 := neqb c1
      rw [show waysH w x = [decide ((w.queue.length : Int) > 0), sh w 3 == 1, false] by rw [waysH, if_pos c0, k1, Bool.false_and]]
      simp only [RZ, reduceAdd, reduceIte, reduceEqDiff, reduceLT, reduceLeDiff, reduceCtorEq, Nat.reduceBEq, en, eB, UEa_2.d, s3, s0, eI, k0, k1, List.length_map]
  have k0 := neqb c0
  by_cases c1 : x.state = 1
  · have k1 := eqb c1
    rw [show waysH w x = [true] by rw [waysH, if_neg c0, if_pos c1]]
    simp only [RZ, reduceAdd, reduceIte, reduceEqDiff, reduceLT, reduceLeDiff, reduceCtorEq, Nat.reduceBEq, en, eB, UEa_2.d, s3, s0, eI, k0, k1]
  have k1 := neqb c1
  by_cases c2 : x.state = 2
  · have k2 := eqb c2
    rw [show waysH w x = [decide ((w.results.length : Int) < w.workers), sh w 3 == 1] by rw [waysH, if_neg c0, if_neg c1, if_pos c2]]
    simp only [RZ, reduceAdd, reduceIte, reduceEqDiff, reduceLT, reduceLeDiff, reduceCtorEq, Nat.reduceBEq, en, eB, UEa_2.d, s3, s0, eI, k0, k1, k2, List.length_map]
  have k2 := neqb c2
  rw [show waysH w x = [] by rw [waysH, if_neg c0, if_neg c1, if_neg c2]]
  simp only [RZ, reduceAdd, reduceIte, reduceEqDiff, reduceLT, reduceLeDiff, reduceCtorEq, Nat.reduceBEq, en, eB, UEa_2.d, s3, s0, eI, k0, k1, k2]
/- loop.example/teagle/spec.l52Keeper -/
def r70_0 : List AOper := [ao 0 1 (.box 26 (.t 0)),
  ao 1 2 (.mv (.k (.c .nil0)))]
def r70_1 : List AOper := [ao 0 4 (.fa 16 (.t 1)),
  ao 1 5 (.ld 1 false (.t 4)),
  ao 2 6 (.ia 1 (.t 5) (.k (.i 3))),
  ao 3 7 (.ld 1 false (.t 6)),
  ao 4 8 (.bin .eql (.t 7) (.k (.i 1))),
  ao 5 3 (.mv (.t 8))]
def r70_2 : List AOper := [ao 0 9 (.fa 9 (.t 1)),
  ao 1 10 (.ld 1 false (.t 9))]
def r70_3 : List AOper := [ao 0 12 (.bin .eql (.t 10) (.k (.i 0))),
  ao 1 11 (.mv (.t 12))]
def r70_4 : List AOper := [ao 0 13 (.fa 8 (.t 1)),
  ao 1 14 (.ld 1 false (.t 13)),
  ao 2 15 (.len (.t 14)),
  ao 3 16 (.bin .gtr (.t 15) (.k (.i 0))),
  au 4 17 (ru 4) (.mv (.t 3)),
  au 5 18 (ru 5) (.fa 8 (.t 1)),
  au 6 19 (ru 5) (.ld 1 false (.t 18)),
  au 7 20 (ru 5) (.len (.t 19)),
  au 8 21 (ru 5) (.bin .eql (.t 20) (.k (.i 0))),
  au 9 22 (ru 5) (.mv (.t 21)),
  ag 10 23 22 true (ru 5) (.fa 16 (.t 1)),
  ag 11 24 22 true (ru 5) (.ld 1 false (.t 23)),
  ag 12 25 22 true (ru 5) (.ia 1 (.t 24) (.k (.i 1))),
  ag 13 26 22 true (ru 5) (.ld 1 false (.t 25)),
  ag 14 27 22 true (ru 5) (.bin .eql (.t 26) (.k (.i 1))),
  au 15 28 (ru 5) (.pick (.t 22) (.t 27) (.k (.b false))),
  ao 16 29 (.bsl 1 4 [(.t 16), (.t 17), (.t 28)]),
  ao 17 2 (.mv (.t 29))]
def c70_5 : ACode := .seq (.reg r70_4) .ret
def r70_6 : List AOper := [ao 0 31 (.bin .eql (.t 10) (.k (.i 2))),
  ao 1 30 (.mv (.t 31))]
def r70_7 : List AOper := [ao 0 32 (.fa 12 (.t 1)),
  ao 1 33 (.ld 1 false (.t 32)),
  ao 2 34 (.len (.t 33)),
  ao 3 35 (.bin .eql (.t 34) (.k (.i 0))),
  ao 4 36 (.mv (.t 3)),
  ao 5 37 (.bsl 1 4 [(.t 35), (.t 36)]),
  ao 6 2 (.mv (.t 37))]
def c70_8 : ACode := .seq (.reg r70_7) .ret
def r70_9 : List AOper := [ao 0 39 (.bin .eql (.t 10) (.k (.i 5))),
  ao 1 38 (.mv (.t 39))]
def r70_10 : List AOper := [ao 0 40 (.bsl 1 4 []),
  ao 1 2 (.mv (.t 40))]
def c70_11 : ACode := .seq (.reg r70_10) .ret
def c70_12 : ACode := .cond (.t 38) c70_11 .skip
def c70_13 : ACode := .seq (.reg r70_9) c70_12
def c70_14 : ACode := .cond (.t 30) c70_8 c70_13
def c70_15 : ACode := .seq (.reg r70_6) c70_14
def c70_16 : ACode := .cond (.t 11) c70_5 c70_15
def c70_17 : ACode := .seq (.reg r70_3) c70_16
def c70_18 : ACode := .block 0 c70_17
def c70_19 : ACode := .seq (.reg r70_2) c70_18
def r70_20 : List AOper := [ao 0 41 (.bsl 1 4 [(.k (.b true))]),
  ao 1 2 (.mv (.t 41))]
def c70 : ACode := .seq (.reg r70_0) (.seq (.reg r70_1) (.seq c70_19 (.seq (.reg r70_20) .ret)))
def s70 : List ARes := [.tmp 2]
theorem ok70 : okF Tryz.prog 70 42 c70 s70 := ⟨Tryz.f70, Tryz.func70, Tryz.ntmps70, by kernel_rfl, by kernel_rfl, by kernel_rfl⟩
def UEa_3 := Bx.mk <|
  aN (uA c70.eq_1) <| aN (uR r70_0.eq_1) <| aN (uR r70_1.eq_1) <| aN (uA c70_19.eq_1) <| aN (uR r70_2.eq_1) <| aN (uA c70_18.eq_1) <| aN (uA c70_17.eq_1) <| aN (uR r70_3.eq_1) <| aN (uA c70_16.eq_1) <| aN (uA c70_5.eq_1) <| aN (uR r70_4.eq_1) <| aN (uA c70_15.eq_1) <| aN (uR r70_6.eq_1) <| aN (uA c70_14.eq_1) <| aN (uA c70_8.eq_1) <| aN (uR r70_7.eq_1) <| aN (uA c70_13.eq_1) <| aN (uR r70_9.eq_1) <| aN (uA c70_12.eq_1) <| aN (uA c70_11.eq_1) <| aN (uR r70_10.eq_1) <| aN (uR r70_20.eq_1) <| s70.eq_1
theorem waysK_ok {w : CW} (h : Form w) : ACallsF Tryz.prog 70 [tCW w] [] (tL (en eB (waysK w))) := by
  have s3 := en_at eI (sh_at h (i := 3) (by omega))
  have s0 := en_at eI (sh_at h (i := 1) (by omega))
  simp only [en] at s3 s0
  refine ACallsF.intro ok70 follows fun X c0 => ?_
  by_cases c0 : w.keeper = 0
  · have k0 := eqb c0
    by_cases c1 : (w.results.length : Int) = 0
    · have k1 := eqb c1
      rw [show waysK w = [decide ((w.results.length : Int) > 0), sh w 3 == 1, sh w 1 == 1] by rw [waysK, if_pos c0, k1, Bool.true_and]]
      simp only [RZ, reduceAdd, reduceIte, reduceEqDiff, reduceLT, reduceLeDiff, reduceCtorEq, Nat.reduceBEq, en, eB, UEa_3.d, s3, s0, eI, k0, k1, List.length_map]
    · have k1 := neqb c1
      rw [show waysK w = [decide ((w.results.length : Int) > 0), sh w 3 == 1, false] by rw [waysK, if_pos c0, k1, Bool.false_and]]
      simp only [RZ, reduceAdd, reduceIte, reduceEqDiff, reduceLT, reduceLeDiff, reduceCtorEq, Nat.reduceBEq, en, eB, UEa_3.d, s3, s0, eI, k0, k1, List.length_map]
  have k0 := neqb c0
  by_cases c1 : w.keeper = 2
  · have k1 := eqb c1
    rw [show waysK w = [(w.out.length : Int) == 0, sh w 3 == 1] by rw [waysK, if_neg c0, if_pos c1]]
    simp only [RZ, reduceAdd, reduceIte, reduceEqDiff, reduceLT, reduceLeDiff, reduceCtorEq, Nat.reduceBEq, en, eB, UEa_3.d, s3, s0, eI, k0, k1, List.length_map]
  have k1 := neqb c1
  by_cases c2 : w.keeper = 5
  · have k2 := eqb c2
    rw [show waysK w = [] by rw [waysK, if_neg c0, if_neg c1, if_pos c2]]
    simp only [RZ, reduceAdd, reduceIte, reduceEqDiff, reduceLT, reduceLeDiff, reduceCtorEq, Nat.reduceBEq, en, eB, UEa_3.d, s3, s0, eI, k0, k1, k2]
  have k2 := neqb c2
  rw [show waysK w = [true] by rw [waysK, if_neg c0, if_neg c1, if_neg c2]]
  simp only [RZ, reduceAdd, reduceIte, reduceEqDiff, reduceLT, reduceLeDiff, reduceCtorEq, Nat.reduceBEq, en, eB, UEa_3.d, s3, s0, eI, k0, k1, k2]
/- loop.example/teagle/spec.l52Ways -/
def r33_0 : List AOper := [ao 0 2 (.box 26 (.t 0)),
  ao 1 4 (.mv (.k (.c .nil0)))]
def r33_1 : List AOper := [ao 0 6 (.mv (.t 1)),
  ao 1 7 (.bin .eql (.t 6) (.k (.i 0))),
  ao 2 5 (.mv (.t 7))]
def r33_2 : List AOper := [ao 0 8 (.ld 18 true (.t 2)),
  ao 1 9 (.call (.k (.c (.fn 67 []))) [(.t 8)]),
  ao 2 4 (.mv (.t 9))]
def c33_3 : ACode := .seq (.reg r33_2) .ret
def r33_4 : List AOper := [ao 0 11 (.mv (.t 1)),
  ao 1 12 (.fa 1 (.t 2)),
  ao 2 13 (.ld 1 false (.t 12)),
  ao 3 14 (.bin .leq (.t 11) (.t 13)),
  ao 4 10 (.mv (.t 14))]
def r33_5 : List AOper := [ao 0 15 (.ld 18 true (.t 2)),
  au 1 16 [0] (.fa 6 (.t 2)),
  au 2 17 [0] (.ld 1 false (.t 16)),
  au 3 18 (ru 3) (.mv (.t 1)),
  au 4 19 (ru 3) (.bin .sub (.t 18) (.k (.i 1))),
  au 5 20 [0] (.ia 2 (.t 17) (.t 19)),
  au 6 21 [0] (.ld 2 true (.t 20)),
  ao 7 22 (.call (.k (.c (.fn 68 []))) [(.t 15), (.t 21)]),
  ao 8 4 (.mv (.t 22))]
def c33_6 : ACode := .seq (.reg r33_5) .ret
def r33_7 : List AOper := [ao 0 24 (.mv (.t 1)),
  ao 1 25 (.fa 1 (.t 2)),
  ao 2 26 (.ld 1 false (.t 25)),
  ao 3 27 (.bin .add (.t 26) (.k (.i 1))),
  ao 4 28 (.bin .eql (.t 24) (.t 27)),
  ao 5 23 (.mv (.t 28))]
def r33_8 : List AOper := [ao 0 29 (.fa 7 (.t 2)),
  ao 1 30 (.ld 1 false (.t 29)),
  ao 2 31 (.bin .eql (.t 30) (.k (.i 0))),
  ao 3 32 (.mv (.t 31)),
  ag 4 33 32 true [] (.ld 18 true (.t 2)),
  ag 5 34 32 true [] (.call (.k (.c (.fn 69 []))) [(.t 33)]),
  ao 6 35 (.pick (.t 32) (.t 34) (.k (.b false))),
  ao 7 36 (.bsl 1 4 [(.t 35)]),
  ao 8 4 (.mv (.t 36))]
def c33_9 : ACode := .seq (.reg r33_8) .ret
def r33_10 : List AOper := [ao 0 38 (.mv (.t 1)),
  ao 1 39 (.fa 1 (.t 2)),
  ao 2 40 (.ld 1 false (.t 39)),
  ao 3 41 (.bin .add (.t 40) (.k (.i 2))),
  ao 4 42 (.bin .eql (.t 38) (.t 41)),
  ao 5 37 (.mv (.t 42))]
def r33_11 : List AOper := [ao 0 43 (.ld 18 true (.t 2)),
  ao 1 44 (.call (.k (.c (.fn 70 []))) [(.t 43)]),
  ao 2 4 (.mv (.t 44))]
def c33_12 : ACode := .seq (.reg r33_11) .ret
def c33_13 : ACode := .cond (.t 37) c33_12 .skip
def c33_14 : ACode := .seq (.reg r33_10) c33_13
def c33_15 : ACode := .cond (.t 23) c33_9 c33_14
def c33_16 : ACode := .seq (.reg r33_7) c33_15
def c33_17 : ACode := .cond (.t 10) c33_6 c33_16
def c33_18 : ACode := .seq (.reg r33_4) c33_17
def c33_19 : ACode := .cond (.t 5) c33_3 c33_18
def c33_20 : ACode := .seq (.reg r33_1) c33_19
def c33_21 : ACode := .block 0 c33_20
def r33_22 : List AOper := [ao 0 45 (.fa 13 (.t 2)),
  ao 1 46 (.ld 1 false (.t 45)),
  ao 2 47 (.bin .eql (.t 46) (.k (.i 1)))]
def r33_23 : List AOper := [ao 0 48 (.bsl 1 4 []),
  ao 1 4 (.mv (.t 48))]
def c33_24 : ACode := .seq (.reg r33_23) .ret
def c33_25 : ACode := .cond (.t 47) c33_24 .skip
def c33_26 : ACode := .seq (.reg r33_22) c33_25
def r33_27 : List AOper := [ao 0 49 (.fa 12 (.t 2)),
  ao 1 50 (.ld 1 false (.t 49)),
  ao 2 51 (.len (.t 50)),
  ao 3 52 (.bin .gtr (.t 51) (.k (.i 0))),
  au 4 53 (ru 4) (.fa 12 (.t 2)),
  au 5 54 (ru 4) (.ld 1 false (.t 53)),
  au 6 55 (ru 4) (.len (.t 54)),
  au 7 56 (ru 4) (.bin .eql (.t 55) (.k (.i 0))),
  au 8 57 (ru 4) (.mv (.t 56)),
  ag 9 58 57 true (ru 4) (.fa 16 (.t 2)),
  ag 10 59 57 true (ru 4) (.ld 1 false (.t 58)),
  ag 11 60 57 true (ru 4) (.ia 1 (.t 59) (.k (.i 2))),
  ag 12 61 57 true (ru 4) (.ld 1 false (.t 60)),
  ag 13 62 57 true (ru 4) (.bin .eql (.t 61) (.k (.i 1))),
  au 14 63 (ru 4) (.pick (.t 57) (.t 62) (.k (.b false))),
  ao 15 64 (.bsl 1 4 [(.t 52), (.t 63)]),
  ao 16 4 (.mv (.t 64))]
def c33 : ACode := .seq (.reg r33_0) (.seq c33_21 (.seq c33_26 (.seq (.reg r33_27) .ret)))
def s33 : List ARes := [.tmp 4]
theorem ok33 : okF Tryz.prog 33 65 c33 s33 := ⟨Tryz.f33, Tryz.func33, Tryz.ntmps33, by kernel_rfl, by kernel_rfl, by kernel_rfl⟩
theorem hdAt_at {w : CW} {i : Nat} (hi : i < w.hands.length) : w.hands[i]? = some (hdAt w i) := by
  rw [hdAt, List.getD_eq_getElem?_getD, List.getElem?_eq_getElem hi]; rfl
def UEa_4 := Bx.mk <|
  aN (uA c33.eq_1) <| aN (uR r33_0.eq_1) <| aN (uA c33_21.eq_1) <| aN (uA c33_20.eq_1) <| aN (uR r33_1.eq_1) <| aN (uA c33_19.eq_1) <| aN (uA c33_3.eq_1) <| aN (uR r33_2.eq_1) <| aN (uA c33_18.eq_1) <| aN (uR r33_4.eq_1) <| aN (uA c33_17.eq_1) <| aN (uA c33_6.eq_1) <| aN (uR r33_5.eq_1) <| aN (uA c33_16.eq_1) <| aN (uR r33_7.eq_1) <| aN (uA c33_15.eq_1) <| aN (uA c33_9.eq_1) <| aN (uR r33_8.eq_1) <| aN (uA c33_14.eq_1) <| aN (uR r33_10.eq_1) <| aN (uA c33_13.eq_1) <| aN (uA c33_12.eq_1) <| aN (uR r33_11.eq_1) <| aN (uA c33_26.eq_1) <| aN (uR r33_22.eq_1) <| aN (uA c33_25.eq_1) <| aN (uA c33_24.eq_1) <| aN (uR r33_23.eq_1) <| aN (uR r33_27.eq_1) <| s33.eq_1
set_option maxHeartbeats 1000000 in
theorem ways_ok {w : CW} (h : Form w) (who : Int) (h0 : 0 ≤ who) (h4 : who ≤ w.workers + 3) : ACallsF Tryz.prog 33 [tCW w, .i who] [] (tL (en eB (ways w who))) := by
  have s3 := en_at eI (sh_at h (i := 2) (by omega))
  have hk := h.st.k
  have hh := h.lh
  have w1 : IntKind.i64.wrap (who - 1) = who - 1 := wrap64 ⟨by omega, by omega⟩
  have w2 : IntKind.i64.wrap (w.workers + 1) = w.workers + 1 := wrap64 ⟨by omega, by omega⟩
  have w3 : IntKind.i64.wrap (w.workers + 2) = w.workers + 2 := wrap64 ⟨by omega, by omega⟩
  refine ACallsF.intro ok33 follows fun X c0 => ?_
  by_cases c0 : who = 0
  · have k0 := eqb c0
    rw [show ways w who = waysR w by rw [ways, if_pos c0]]
    simp only [RZ, reduceAdd, reduceIte, reduceEqDiff, reduceLT, reduceLeDiff, reduceCtorEq, Nat.reduceBEq, UEa_4.d, k0]
    refine callC (waysR_ok h) rfl rfl rfl rfl ?_
    simp only [RZ, reduceAdd, reduceIte, reduceEqDiff, reduceLT, reduceLeDiff, reduceCtorEq, Nat.reduceBEq, UEa_4.d, k0]
  have k0 := neqb c0
  by_cases c1 : who ≤ w.workers
  · rw [show ways w who = waysH w (hdAt w (who - 1).toNat) by rw [ways, if_neg c0, if_pos c1]]
    have ex := en_at eH (hdAt_at (w := w) (i := (who - 1).toNat) (by omega))
    have gz : 0 ≤ who - 1 := by omega
    simp only [RZ, reduceAdd, reduceIte, reduceEqDiff, reduceLT, reduceLeDiff, reduceCtorEq, Nat.reduceBEq, UEa_4.d, k0, c1, w1, ex, gz, eH]
    refine callC (waysH_ok h _) rfl rfl rfl rfl ?_
    simp only [RZ, reduceAdd, reduceIte, reduceEqDiff, reduceLT, reduceLeDiff, reduceCtorEq, Nat.reduceBEq, UEa_4.d, k0, c1, w1, ex, gz, eH]
  by_cases c2 : who = w.workers + 1
  · have k2 := eqb c2
    by_cases c3 : w.closer = 0
    · have k3 := eqb c3
      rw [show ways w who = [allB w] by rw [ways, if_neg c0, if_neg c1, if_pos c2, k3, Bool.true_and]]
      simp only [RZ, reduceAdd, reduceIte, reduceEqDiff, reduceLT, reduceLeDiff, reduceCtorEq, Nat.reduceBEq, UEa_4.d, k0, c1, w1, w2, k2, k3]
      refine callC (allB_ok h) rfl rfl rfl rfl ?_
      simp only [RZ, reduceAdd, reduceIte, reduceEqDiff, reduceLT, reduceLeDiff, reduceCtorEq, Nat.reduceBEq, UEa_4.d, k0, c1, w1, w2, k2, k3, en, eB]
    · have k3 := neqb c3
      rw [show ways w who = [false] by rw [ways, if_neg c0, if_neg c1, if_pos c2, k3, Bool.false_and]]
      simp only [RZ, reduceAdd, reduceIte, reduceEqDiff, reduceLT, reduceLeDiff, reduceCtorEq, Nat.reduceBEq, UEa_4.d, k0, c1, w1, w2, k2, k3, en, eB]
  have k2 := neqb c2
  by_cases c3 : who = w.workers + 2
  · have k3 := eqb c3
    rw [show ways w who = waysK w by rw [ways, if_neg c0, if_neg c1, if_neg c2, if_pos c3]]
    simp only [RZ, reduceAdd, reduceIte, reduceEqDiff, reduceLT, reduceLeDiff, reduceCtorEq, Nat.reduceBEq, UEa_4.d, k0, c1, w1, w2, w3, k2, k3]
    refine callC (waysK_ok h) rfl rfl rfl rfl ?_
    simp only [RZ, reduceAdd, reduceIte, reduceEqDiff, reduceLT, reduceLeDiff, reduceCtorEq, Nat.reduceBEq, UEa_4.d, k0, c1, w1, w2, w3, k2, k3]
  have k3 := neqb c3
  by_cases c4 : w.user = 1
  · have k4 := eqb c4
    rw [show ways w who = [] by rw [ways, if_neg c0, if_neg c1, if_neg c2, if_neg c3, if_pos c4]]
    simp only [RZ, reduceAdd, reduceIte, reduceEqDiff, reduceLT, reduceLeDiff, reduceCtorEq, Nat.reduceBEq, UEa_4.d, k0, c1, w1, w2, w3, k2, k3, k4, en, eB]
  have k4 := neqb c4
  by_cases c5 : (w.out.length : Int) = 0
  · have k5 := eqb c5
    rw [show ways w who = [decide ((w.out.length : Int) > 0), sh w 2 == 1] by rw [ways, if_neg c0, if_neg c1, if_neg c2, if_neg c3, if_neg c4, k5, Bool.true_and]]
    simp only [RZ, reduceAdd, reduceIte, reduceEqDiff, reduceLT, reduceLeDiff, reduceCtorEq, Nat.reduceBEq, UEa_4.d, k0, c1, w1, w2, w3, k2, k3, k4, k5, s3, eI]
    simp only [en, eB, List.map_cons, List.map_nil]
  · have k5 := neqb c5
    rw [show ways w who = [decide ((w.out.length : Int) > 0), false] by rw [ways, if_neg c0, if_neg c1, if_neg c2, if_neg c3, if_neg c4, k5, Bool.false_and]]
    simp only [RZ, reduceAdd, reduceIte, reduceEqDiff, reduceLT, reduceLeDiff, reduceCtorEq, Nat.reduceBEq, UEa_4.d, k0, c1, w1, w2, w3, k2, k3, k4, k5, s3, eI]
    simp only [en, eB, List.map_cons, List.map_nil]
end Go.V
set_option linter.unusedSimpArgs false
namespace Go.V
open Go.Proofs
open Nat (reduceAdd reduceEqDiff reduceLT reduceLeDiff)
/-- The moves of one of the crew: of so many of the cases that one is open. -/
def wmoves (who : Int) (bs : List Bool) (n : Nat) : List Mv := ((List.range n).filter fun k => bs.getD k false).map fun k : Nat => ⟨who, (k : Int)⟩
theorem wmoves_zero (who : Int) (bs : List Bool) : wmoves who bs 0 = [] := rfl
theorem wmoves_next {who : Int} {bs : List Bool} {n : Nat} {b : Bool} (h : bs[n]? = some b) : wmoves who bs (n + 1) = wmoves who bs n ++ (if b then [⟨who, (n : Int)⟩] else []) := by
  have e : bs.getD n false = b := by rw [List.getD_eq_getElem?_getD, h]; rfl
  cases b <;> simp [wmoves, List.range_succ, List.filter_append, List.filter_cons, List.map_append, h]
theorem wmoves_len (who : Int) (bs : List Bool) (n : Nat) : (wmoves who bs n).length ≤ n := by
  rw [wmoves, List.length_map]
  exact Nat.le_trans (List.length_filter_le _ _) (by simp)
def amoves (w : CW) (n : Nat) : List Mv := (List.range n).flatMap fun k : Nat => wmoves (k : Int) (ways w (k : Int)) (ways w (k : Int)).length
theorem amoves_next (w : CW) (n : Nat) : amoves w (n + 1) = amoves w n ++ wmoves (n : Int) (ways w (n : Int)) (ways w (n : Int)).length := by simp [amoves, List.range_succ, List.flatMap_append]
theorem amoves_len (w : CW) : ∀ n, (amoves w n).length ≤ 3 * n
  | 0 => by simp [amoves]
  | n + 1 => by
    rw [amoves_next, List.length_append]
    have h1 := amoves_len w n
    have h2 := wmoves_len (n : Int) (ways w (n : Int)) (ways w (n : Int)).length
    have h3 := ways_len w (n : Int)
    omega
def moves (w : CW) : List Mv := amoves w (w.workers.toNat + 4)
/- loop.example/teagle/spec.CrewMoves -/
def r8_0 : List AOper := [ao 0 1 (.box 26 (.t 0)),
  ao 1 2 (.mv (.k (.c .nil0)))]
def r8_1 : List AOper := [ao 0 7 (.bsl 2 35 []),
  ao 1 3 (.mv (.t 7))]
def r8_2 : List AOper := [ao 0 8 (.ld 18 true (.t 1)),
  ao 1 9 (.call (.k (.c (.fn 9 []))) [(.t 8)]),
  ao 2 10 (.un .not (.t 9))]
def r8_3 : List AOper := [ao 0 11 (.mv (.t 3)),
  ao 1 2 (.mv (.t 11))]
def c8_4 : ACode := .seq (.reg r8_3) .ret
def c8_5 : ACode := .cond (.t 10) c8_4 .skip
def c8_6 : ACode := .seq (.reg r8_2) c8_5
def r8_7 : List AOper := [ao 0 4 (.mv (.k (.i 0)))]
def r8_8 : List AOper := [ao 0 12 (.mv (.t 4)),
  ao 1 13 (.fa 1 (.t 1)),
  ao 2 14 (.ld 1 false (.t 13)),
  ao 3 15 (.bin .add (.t 14) (.k (.i 3))),
  ao 4 16 (.bin .leq (.t 12) (.t 15))]
def c8_9 : ACode := .cond (.t 16) .skip (.exit 0)
def c8_10 : ACode := .seq (.reg r8_8) c8_9
def r8_11 : List AOper := [ao 0 19 (.ld 18 true (.t 1)),
  ao 1 20 (.mv (.t 4)),
  ao 2 21 (.call (.k (.c (.fn 33 []))) [(.t 19), (.t 20)]),
  ao 3 5 (.mv (.t 21))]
def r8_12 : List AOper := [ao 0 6 (.mv (.k (.i 0)))]
def r8_13 : List AOper := [ao 0 22 (.mv (.t 6)),
  ao 1 23 (.mv (.t 5)),
  ao 2 24 (.len (.t 23)),
  ao 3 25 (.bin .lss (.t 22) (.t 24))]
def c8_14 : ACode := .cond (.t 25) .skip (.exit 2)
def c8_15 : ACode := .seq (.reg r8_13) c8_14
def r8_16 : List AOper := [ao 0 28 (.mv (.t 5)),
  ao 1 29 (.mv (.t 6)),
  ao 2 30 (.ia 1 (.t 28) (.t 29)),
  ao 3 31 (.ld 1 false (.t 30))]
def r8_17 : List AOper := [ao 0 32 (.mv (.t 3)),
  ao 1 33 (.mv (.t 4)),
  ao 2 34 (.mv (.t 6)),
  ao 3 35 (.build [(.v (.s (.int .i64 0))), (.v (.s (.int .i64 0)))] [(0, 1, (.t 33)), (1, 1, (.t 34))]),
  ao 4 36 (.bsl 2 35 [(.t 35)]),
  ao 5 37 (.app 2 35 16 (.t 32) (.t 36)),
  ao 6 3 (.mv (.t 37))]
def c8_18 : ACode := .cond (.t 31) (.reg r8_17) .skip
def c8_19 : ACode := .seq (.reg r8_16) c8_18
def c8_20 : ACode := .block 3 c8_19
def r8_21 : List AOper := [ao 0 26 (.mv (.t 6)),
  ao 1 27 (.bin .add (.t 26) (.k (.i 1))),
  ao 2 6 (.mv (.t 27))]
def c8_22 : ACode := .seq c8_15 (.seq c8_20 (.reg r8_21))
def c8_23 : ACode := .loop c8_22
def c8_24 : ACode := .block 2 c8_23
def c8_25 : ACode := .seq (.reg r8_11) (.seq (.reg r8_12) c8_24)
def c8_26 : ACode := .block 1 c8_25
def r8_27 : List AOper := [ao 0 17 (.mv (.t 4)),
  ao 1 18 (.bin .add (.t 17) (.k (.i 1))),
  ao 2 4 (.mv (.t 18))]
def c8_28 : ACode := .seq c8_10 (.seq c8_26 (.reg r8_27))
def c8_29 : ACode := .loop c8_28
def c8_30 : ACode := .block 0 c8_29
def c8_31 : ACode := .seq (.reg r8_7) c8_30
def r8_32 : List AOper := [ao 0 38 (.mv (.t 3)),
  ao 1 2 (.mv (.t 38))]
def c8 : ACode := .seq (.reg r8_0) (.seq (.reg r8_1) (.seq c8_6 (.seq c8_31 (.seq (.reg r8_32) .ret))))
def s8 : List ARes := [.tmp 2]
theorem ok8 : okF Tryz.prog 8 39 c8 s8 := ⟨Tryz.f8, Tryz.func8, Tryz.ntmps8, by kernel_rfl, by kernel_rfl, by kernel_rfl⟩
def inv8a (w : CW) (i : Nat) (σ : St) : Prop := σ.t 1 = .c (.ptr 1 0 0) ∧ σ.H 1 = some (cwB 0 w) ∧ (∃ v, σ.t 3 = .c (.own 7 v (amoves w i).length) ∧ σ.H 7 = some (.arr v true 2 35 (en eM (amoves w i)))) ∧ σ.t 4 = .i i
def inv8b (w : CW) (i : Nat) (A : List Mv) (bs : List Bool) (j : Nat) (σ : St) : Prop := σ.t 1 = .c (.ptr 1 0 0) ∧ σ.H 1 = some (cwB 0 w) ∧ (∃ v, σ.t 3 = .c (.own 7 v (A ++ wmoves i bs j).length) ∧ σ.H 7 = some (.arr v true 2 35 (en eM (A ++ wmoves i bs j)))) ∧ σ.t 4 = .i i ∧ σ.t 5 = tL (en eB bs) ∧ σ.t 6 = .i j
theorem arr_eqM {v st : Nat} {ty : TypeId} {a b : List Mv} (h : a = b) : some (Blk.arr v true st ty (en eM a)) = some (Blk.arr v true st ty (en eM b)) := by rw [h]
theorem arr_snocM {v st : Nat} {ty : TypeId} {a b : List Mv} {x y : Int} (h : b = a ++ [⟨x, y⟩]) : some (Blk.arr v true st ty (en eM a ++ [[.s (.int .i64 x), .s (.int .i64 y)]])) = some (Blk.arr v true st ty (en eM b)) := by rw [h, en_snoc]; rfl
theorem own_lenM {id v m : Nat} {b : List Mv} (h : m = b.length) : T.c (.own id v m) = T.c (.own id v b.length) := by rw [h]
def UEb_1 := Bx.mk <|
  aN (uA c8.eq_1) <| aN (uR r8_0.eq_1) <| aN (uR r8_1.eq_1) <| aN (uA c8_6.eq_1) <| aN (uR r8_2.eq_1) <| aN (uA c8_5.eq_1) <| aN (uA c8_4.eq_1) <| aN (uR r8_3.eq_1) <| aN (uA c8_31.eq_1) <| aN (uR r8_7.eq_1) <| aN (uA c8_30.eq_1) <| aN (uA c8_29.eq_1) <| aN (uR r8_32.eq_1) <| s8.eq_1
def UEb_2 := Bx.mk <|
  aN (uA c8_28.eq_1) <| aN (uA c8_10.eq_1) <| aN (uR r8_8.eq_1) <| aN (uA c8_9.eq_1) <| aN (uA c8_26.eq_1) <| aN (uA c8_25.eq_1) <| aN (uR r8_11.eq_1) <| aN (uR r8_12.eq_1) <| aN (uA c8_24.eq_1) <| aN (uA c8_23.eq_1) <| aN (uR r8_27.eq_1) <| aN (uA c8.eq_1) <| aN (uR r8_0.eq_1) <| aN (uR r8_1.eq_1) <| aN (uA c8_6.eq_1) <| aN (uR r8_2.eq_1) <| aN (uA c8_5.eq_1) <| aN (uA c8_4.eq_1) <| aN (uR r8_3.eq_1) <| aN (uA c8_31.eq_1) <| aN (uR r8_7.eq_1) <| aN (uA c8_30.eq_1) <| aN (uA c8_29.eq_1) <| aN (uR r8_32.eq_1) <| s8.eq_1
def UEb_3 := Bx.mk <|
  aN (uA c8_22.eq_1) <| aN (uA c8_15.eq_1) <| aN (uR r8_13.eq_1) <| aN (uA c8_14.eq_1) <| aN (uA c8_20.eq_1) <| aN (uA c8_19.eq_1) <| aN (uR r8_16.eq_1) <| aN (uA c8_18.eq_1) <| aN (uR r8_17.eq_1) <| aN (uR r8_21.eq_1) <| aN (uA c8.eq_1) <| aN (uR r8_0.eq_1) <| aN (uR r8_1.eq_1) <| aN (uA c8_6.eq_1) <| aN (uR r8_2.eq_1) <| aN (uA c8_5.eq_1) <| aN (uA c8_4.eq_1) <| aN (uR r8_3.eq_1) <| aN (uA c8_31.eq_1) <| aN (uR r8_7.eq_1) <| aN (uA c8_30.eq_1) <| aN (uA c8_29.eq_1) <| aN (uR r8_32.eq_1) <| s8.eq_1
set_option maxHeartbeats 1000000 in
theorem crewMoves_ok (w : CW) : PC 8 [tCW w] (fun ms : List Mv => (WOk w → ms = moves w) ∧ (¬ WOk w → ms = [])) (fun ms => tL (en eM ms)) := by
  obtain ⟨b, hb, C⟩ := crewOk_ok w
  refine PC.intro ok8 rfl (fun _ => rfl) fun X => ?_
  simp only [RZ, reduceAdd, reduceIte, reduceEqDiff, reduceLT, reduceLeDiff, reduceCtorEq, Nat.reduceBEq, UEb_1.d]
  refine callC C rfl rfl rfl rfl ?_
  cases b with
  | false =>
    simp only [RZ, reduceAdd, reduceIte, reduceEqDiff, reduceLT, reduceLeDiff, reduceCtorEq, Nat.reduceBEq, UEb_1.d]
    refine ES.mk [] ⟨fun g => (by cases hb.2 g), fun _ => rfl⟩ ?_
    simp only [RZ, reduceAdd, reduceIte, reduceEqDiff, reduceLT, reduceLeDiff, reduceCtorEq, Nat.reduceBEq, UEb_1.d]
  | true =>
  have h := hb.1 rfl
  have f := h.form
  have hk := f.st.k
  have hw3 : IntKind.i64.wrap (w.workers + 3) = w.workers + 3 := wrap64 ⟨by omega, by omega⟩
  simp only [RZ, reduceAdd, reduceIte, reduceEqDiff, reduceLT, reduceLeDiff, reduceCtorEq, Nat.reduceBEq, UEb_1.d]
  refine AW.upto (w.workers.toNat + 4) (inv8a w) ⟨rfl, rfl, ⟨_, rfl, rfl⟩, rfl⟩ fun i t H c hi h' => ?_
  obtain ⟨e1, eH1, ⟨v, e3, eH7⟩, e4⟩ := h'
  simp only [T.c, T.i] at e1 eH1 e3 eH7 e4
  have hla := amoves_len w i
  by_cases k1 : (i : Int) ≤ w.workers + 3
  · have gw := w1_ok (i := i) (by omega)
    simp only [RZ, reduceAdd, reduceIte, reduceEqDiff, reduceLT, reduceLeDiff, reduceCtorEq, Nat.reduceBEq, UEb_2.d, e1, eH1, e3, eH7, e4, hw3, k1]
    refine callC (ways_ok f i (by omega) k1) rfl rfl rfl rfl ?_
    have hwl := ways_len w (i : Int)
    obtain ⟨bs, hbs⟩ : ∃ bs, ways w (i : Int) = bs := ⟨_, rfl⟩
    rw [hbs] at hwl ⊢
    obtain ⟨A, hA⟩ : ∃ A, amoves w i = A := ⟨_, rfl⟩
    rw [hA] at e3 eH7 hla
    simp only [RZ, reduceAdd, reduceIte, reduceEqDiff, reduceLT, reduceLeDiff, reduceCtorEq, Nat.reduceBEq, UEb_2.d, e1, eH1, e3, eH7, e4, hw3, k1]
    refine AW.upto bs.length (inv8b w i A bs) ⟨e1, eH1, ⟨v, by show t 3 = _; rw [e3, wmoves_zero, List.append_nil], by show H 7 = _; rw [eH7, wmoves_zero, List.append_nil]⟩, e4, rfl, rfl⟩ fun j t H c hj h' => ?_
    clear e1 eH1 e3 eH7 e4 v
    obtain ⟨e1, eH1, ⟨v, e3, eH7⟩, e4, e5, e6⟩ := h'
    simp only [T.c, T.i, tL] at e1 eH1 e3 eH7 e4 e5 e6
    have hlw := wmoves_len i bs j
    have hlB : (A ++ wmoves i bs j).length ≤ 100 := by rw [List.length_append]; omega
    obtain ⟨B, hB⟩ : ∃ B, A ++ wmoves i bs j = B := ⟨_, rfl⟩
    rw [hB] at e3 eH7 hlB
    by_cases k2 : (j : Int) < bs.length
    · obtain ⟨x, hx⟩ : ∃ x, bs[j]? = some x := ⟨_, List.getElem?_eq_getElem (by omega)⟩
      have ex := en_at eB hx
      have gz : (0 : Int) ≤ j := by omega
      have gw2 := w1_ok (i := j) (by omega)
      have hn := wmoves_next (who := i) hx
      have q1 : (B.length + 1) * 16 ≤ 140737488355328 := by omega
      have q2 : B.length + 1 ≤ 9223372036854775807 := by omega
      cases x with
      | true =>
        simp only [RZ, reduceAdd, reduceIte, reduceEqDiff, reduceLT, reduceLeDiff, reduceCtorEq, Nat.reduceBEq, UEb_3.d, e1, eH1, e3, eH7, e4, e5, e6, k2, gz, ex, gw2, eB, q1, q2]
        have hn2 : A ++ wmoves i bs (j + 1) = B ++ [⟨(i : Int), (j : Int)⟩] := by rw [hn, ← List.append_assoc, hB]; rfl
        exact ⟨by omega, e1, eH1, ⟨_, own_lenM (by rw [hn2, List.length_append]; rfl), arr_snocM hn2⟩, e4, e5, rfl⟩
      | false =>
        simp only [RZ, reduceAdd, reduceIte, reduceEqDiff, reduceLT, reduceLeDiff, reduceCtorEq, Nat.reduceBEq, UEb_3.d, e1, eH1, e3, eH7, e4, e5, e6, k2, gz, ex, gw2, eB, q1, q2]
        have hn2 : A ++ wmoves i bs (j + 1) = B := by rw [hn, ← List.append_assoc, hB]; exact List.append_nil B
        refine ⟨by omega, e1, eH1, ⟨v, ?_, ?_⟩, e4, e5, rfl⟩
        · show t 3 = _
          rw [hn2]; exact e3
        · show H 7 = _
          rw [hn2]; exact eH7
    · have hj2 : j = bs.length := by omega
      subst hj2
      have hn2 : amoves w (i + 1) = B := by rw [amoves_next, hbs, hA, hB]
      simp only [RZ, reduceAdd, reduceIte, reduceEqDiff, reduceLT, reduceLeDiff, reduceCtorEq, Nat.reduceBEq, UEb_3.d, UEb_2.d, e1, eH1, e3, eH7, e4, e5, e6, k2, gw]
      refine ⟨by omega, e1, eH1, ⟨v, ?_, ?_⟩, rfl⟩
      · show t 3 = _
        rw [hn2]; exact e3
      · show H 7 = _
        rw [hn2]; exact eH7
  · have hi2 : i = w.workers.toNat + 4 := by omega
    subst hi2
    simp only [RZ, reduceAdd, reduceIte, reduceEqDiff, reduceLT, reduceLeDiff, reduceCtorEq, Nat.reduceBEq, UEb_2.d, UEb_1.d, e1, eH1, e3, eH7, e4, hw3, k1]
    refine ES.mk (moves w) ⟨fun _ => rfl, fun g => absurd h g⟩ ?_
    simp only [RZ, reduceAdd, reduceIte, reduceEqDiff, reduceLT, reduceLeDiff, reduceCtorEq, Nat.reduceBEq, UEb_2.d, UEb_1.d, e1, eH1, e3, eH7, e4, hw3, k1, moves]
end Go.V
set_option linter.unusedSimpArgs false
namespace Go.V
open Go.Proofs
open Nat (reduceAdd reduceEqDiff reduceLT reduceLeDiff)
/-- What a move makes of a world. -/
def doR (w : CW) (way : Int) : CW :=
  if w.reader = 2 then { w with reader := 3, shut := w.shut.set 0 1, ops := w.ops + 1 }
  else if way > 0 then { w with reader := 2 }
  else if w.reader = 0 then { w with room := w.room - 1, next := w.next + 1, reader := 1, ops := w.ops + 1 }
  else { w with queue := w.queue ++ [w.next - 1], reader := 0, ops := w.ops + 1 }
def doH (w : CW) (i : Nat) (way : Int) : CW :=
  if way > 0 then { w with hands := w.hands.set i ⟨3, 0⟩, ops := if way = 2 then w.ops + 1 else w.ops }
  else if (hdAt w i).state = 0 then { w with hands := w.hands.set i ⟨1, w.queue.getD 0 0⟩, queue := w.queue.drop 1, ops := w.ops + 1 }
  else if (hdAt w i).state = 1 then { w with hands := w.hands.set i ⟨2, (hdAt w i).job⟩ }
  else { w with results := w.results ++ [(hdAt w i).job], hands := w.hands.set i ⟨0, 0⟩, ops := w.ops + 1 }
def rslot (w : CW) : Nat := (w.results.getD 0 0 % w.window).toNat
instance (w : CW) : Decidable (Due w) := inferInstanceAs (Decidable (w.ring[slot w]? = some w.due))
def doK (w : CW) (way : Int) : CW :=
  if way > 0 then { w with keeper := 4, ops := if way = 2 then w.ops + 1 else w.ops }
  else if w.keeper = 0 then { w with results := w.results.drop 1, ring := w.ring.set (rslot w) (w.results.getD 0 0), keeper := 1, ops := w.ops + 1 }
  else if w.keeper = 1 then { w with keeper := if Due w then 2 else 0 }
  else if w.keeper = 2 then { w with ring := w.ring.set (slot w) (-1), out := w.out ++ [w.due], due := w.due + 1, keeper := 3, ops := w.ops + 1 }
  else if w.keeper = 3 then { w with room := w.room + 1, keeper := 1, ops := w.ops + 1 }
  else { w with keeper := 5, shut := w.shut.set 2 1, ops := w.ops + 1 }
def doC (w : CW) : CW := { w with closer := 1, shut := w.shut.set 1 1, ops := w.ops + 1 }
def doU (w : CW) (way : Int) : CW := if way = 0 then { w with got := w.got ++ [w.out.getD 0 0], out := [], ops := w.ops + 1 } else { w with user := 1, ops := w.ops + 1 }
def stepW (w : CW) (m : Mv) : CW := if m.who = 0 then doR w m.way else if m.who ≤ w.workers then doH w (m.who - 1).toNat m.way else if m.who = w.workers + 1 then doC w else if m.who = w.workers + 2 then doK w m.way else doU w m.way
/-- A move that is ready. -/
structure Can (w : CW) (m : Mv) : Prop where
  ok : WOk w
  who : 0 ≤ m.who ∧ m.who ≤ w.workers + 3
  way : 0 ≤ m.way
  open' : (ways w m.who)[m.way.toNat]? = some true
abbrev zI' (xs : List Int) : Blk := .arr 0 false 1 3 (en eI xs)
abbrev zH' (xs : List Hd) : Blk := .arr 0 false 2 68 (en eH xs)
/-- A world of own arrays that is given over. -/
abbrev vH (a1 a2 a3 a4 a5 a6 a7 m : Nat) (w w' : CW) : List Hand := [⟨1001, m + 1, some (bI a1 w.queue), zI' w'.queue, false⟩, ⟨1002, m + 2, some (bH a2 w.hands), zH' w'.hands, false⟩, ⟨1003, m + 3, some (bI a3 w.results), zI' w'.results, false⟩, ⟨1004, m + 4, some (bI a4 w.ring), zI' w'.ring, false⟩, ⟨1005, m + 5, some (bI a5 w.out), zI' w'.out, false⟩, ⟨1006, m + 6, some (bI a6 w.got), zI' w'.got, false⟩, ⟨1007, m + 7, some (bI a7 w.shut), zI' w'.shut, false⟩]
abbrev oA (a1 a2 a3 a4 a5 a6 a7 : Nat) (w : CW) : T := .pt (.agg (oC 1001 1002 1003 1004 1005 1006 1007 a1 a2 a3 a4 a5 a6 a7 w))
theorem snocI (xs : List Int) (x : Int) : en eI xs ++ [[.s (.int .i64 x)]] = en eI (xs ++ [x]) := by rw [en_snoc]; rfl
theorem setI (xs : List Int) (i : Nat) (x : Int) : (en eI xs).set i [.s (.int .i64 x)] = en eI (xs.set i x) := en_set eI xs i x
theorem setH (xs : List Hd) (i : Nat) (x y : Int) : (en eH xs).set i [.s (.int .i64 x), .s (.int .i64 y)] = en eH (xs.set i ⟨x, y⟩) := en_set eH xs i ⟨x, y⟩
theorem tkset {α : Type} (f : α → List V) (xs : List α) (i : Nat) (x : α) : (en f (xs.set i x)).take xs.length = en f (xs.set i x) := by
  have := en_take f (xs.set i x)
  rwa [List.length_set] at this
theorem tksn {α : Type} (f : α → List V) (xs : List α) (x : α) : (en f (xs ++ [x])).take (xs.length + 1) = en f (xs ++ [x]) := by
  have := en_take f (xs ++ [x])
  rwa [List.length_append, List.length_singleton] at this
theorem SNT : (type_of% @tkset) ∧ (type_of% @tksn) ∧ (type_of% @snocI) ∧ (type_of% @setI) ∧ (type_of% @setH) ∧ (type_of% @List.length_set.{0}) ∧ (type_of% @imp_self) ∧ (type_of% @false_implies) ∧ (type_of% @and_self) := ⟨@tkset, @tksn, @snocI, @setI, @setH, @List.length_set.{0}, @imp_self, @false_implies, @and_self⟩
/- loop.example/teagle/spec.l52DoReader -/
def r53_0 : List AOper := [ao 0 2 (.box 26 (.t 0)),
  ao 1 4 (.alloc 26 [(.v (.s (.int .i64 0))), (.v (.s (.int .i64 0))), (.v (.s (.int .i64 0))), (.v (.s (.int .i64 0))), (.v (.s (.int .i64 0))), .nil0, .nil0, (.v (.s (.int .i64 0))), .nil0, (.v (.s (.int .i64 0))), .nil0, (.v (.s (.int .i64 0))), .nil0, (.v (.s (.int .i64 0))), .nil0, (.v (.s (.int .i64 0))), .nil0, (.v (.s (.int .i64 0)))])]
def r53_1 : List AOper := [ao 0 19 (.fa 4 (.t 2)),
  ao 1 20 (.ld 1 false (.t 19)),
  ao 2 21 (.bin .eql (.t 20) (.k (.i 2))),
  ao 3 18 (.mv (.t 21))]
def r53_2 : List AOper := [ao 0 22 (.fa 4 (.t 2)),
  an 1 (.st 1 (.t 22) (.k (.i 3)))]
def r53_3 : List AOper := [ao 0 23 (.fa 16 (.t 2)),
  ao 1 24 (.ld 1 false (.t 23)),
  ao 2 25 (.ia 1 (.t 24) (.k (.i 0))),
  an 3 (.st 1 (.t 25) (.k (.i 1)))]
def r53_4 : List AOper := [ao 0 26 (.fa 17 (.t 2)),
  ao 1 27 (.ld 1 false (.t 26)),
  ao 2 28 (.bin .add (.t 27) (.k (.i 1))),
  ao 3 29 (.fa 17 (.t 2)),
  an 4 (.st 1 (.t 29) (.t 28))]
def c53_5 : ACode := .seq (.reg r53_2) (.seq (.reg r53_3) (.reg r53_4))
def r53_6 : List AOper := [ao 0 31 (.mv (.t 1)),
  ao 1 32 (.bin .gtr (.t 31) (.k (.i 0))),
  ao 2 30 (.mv (.t 32))]
def r53_7 : List AOper := [ao 0 33 (.fa 4 (.t 2)),
  an 1 (.st 1 (.t 33) (.k (.i 2)))]
def r53_8 : List AOper := [ao 0 35 (.fa 4 (.t 2)),
  ao 1 36 (.ld 1 false (.t 35)),
  ao 2 37 (.bin .eql (.t 36) (.k (.i 0))),
  ao 3 34 (.mv (.t 37))]
def r53_9 : List AOper := [ao 0 38 (.fa 15 (.t 2)),
  ao 1 39 (.ld 1 false (.t 38)),
  ao 2 40 (.bin .sub (.t 39) (.k (.i 1))),
  ao 3 41 (.fa 15 (.t 2)),
  an 4 (.st 1 (.t 41) (.t 40))]
def r53_10 : List AOper := [ao 0 42 (.fa 3 (.t 2)),
  ao 1 43 (.ld 1 false (.t 42)),
  ao 2 44 (.bin .add (.t 43) (.k (.i 1))),
  ao 3 45 (.fa 3 (.t 2)),
  an 4 (.st 1 (.t 45) (.t 44))]
def r53_11 : List AOper := [ao 0 46 (.fa 4 (.t 2)),
  an 1 (.st 1 (.t 46) (.k (.i 1)))]
def r53_12 : List AOper := [ao 0 47 (.fa 17 (.t 2)),
  ao 1 48 (.ld 1 false (.t 47)),
  ao 2 49 (.bin .add (.t 48) (.k (.i 1))),
  ao 3 50 (.fa 17 (.t 2)),
  an 4 (.st 1 (.t 50) (.t 49))]
def c53_13 : ACode := .seq (.reg r53_9) (.seq (.reg r53_10) (.seq (.reg r53_11) (.reg r53_12)))
def r53_14 : List AOper := [ao 0 5 (.fa 5 (.t 2)),
  ao 1 6 (.ld 1 false (.t 5)),
  ao 2 7 (.fa 3 (.t 2)),
  ao 3 8 (.ld 1 false (.t 7)),
  ao 4 9 (.bin .sub (.t 8) (.k (.i 1))),
  ao 5 10 (.bsl 1 3 [(.t 9)]),
  ao 6 11 (.app 1 3 8 (.t 6) (.t 10)),
  ao 7 12 (.fa 5 (.t 2)),
  an 8 (.st 1 (.t 12) (.t 11))]
def r53_15 : List AOper := [ao 0 13 (.fa 4 (.t 2)),
  an 1 (.st 1 (.t 13) (.k (.i 0)))]
def r53_16 : List AOper := [ao 0 14 (.fa 17 (.t 2)),
  ao 1 15 (.ld 1 false (.t 14)),
  ao 2 16 (.bin .add (.t 15) (.k (.i 1))),
  ao 3 17 (.fa 17 (.t 2)),
  an 4 (.st 1 (.t 17) (.t 16))]
def c53_17 : ACode := .seq (.reg r53_14) (.seq (.reg r53_15) (.reg r53_16))
def c53_18 : ACode := .cond (.t 34) c53_13 c53_17
def c53_19 : ACode := .seq (.reg r53_8) c53_18
def c53_20 : ACode := .cond (.t 30) (.reg r53_7) c53_19
def c53_21 : ACode := .seq (.reg r53_6) c53_20
def c53_22 : ACode := .cond (.t 18) c53_5 c53_21
def c53_23 : ACode := .seq (.reg r53_1) c53_22
def c53_24 : ACode := .block 0 c53_23
def r53_25 : List AOper := [ao 0 51 (.ld 18 true (.t 2)),
  an 1 (.st 18 (.t 4) (.t 51))]
def c53 : ACode := .seq (.reg r53_0) (.seq c53_24 (.seq (.reg r53_25) .ret))
def s53 : List ARes := [.cell 4 18 true]
theorem ok53 : okF Tryz.prog 53 52 c53 s53 := ⟨Tryz.f53, Tryz.func53, Tryz.ntmps53, by kernel_rfl, by kernel_rfl, by kernel_rfl⟩
def UEc_1 := Bx.mk <|
  aN (uA c53.eq_1) <| aN (uR r53_0.eq_1) <| aN (uA c53_24.eq_1) <| aN (uA c53_23.eq_1) <| aN (uR r53_1.eq_1) <| aN (uA c53_22.eq_1) <| aN (uA c53_5.eq_1) <| aN (uR r53_2.eq_1) <| aN (uR r53_3.eq_1) <| aN (uR r53_4.eq_1) <| aN (uA c53_21.eq_1) <| aN (uR r53_6.eq_1) <| aN (uA c53_20.eq_1) <| aN (uR r53_7.eq_1) <| aN (uA c53_19.eq_1) <| aN (uR r53_8.eq_1) <| aN (uA c53_18.eq_1) <| aN (uA c53_13.eq_1) <| aN (uR r53_9.eq_1) <| aN (uR r53_10.eq_1) <| aN (uR r53_11.eq_1) <| aN (uR r53_12.eq_1) <| aN (uA c53_17.eq_1) <| aN (uR r53_14.eq_1) <| aN (uR r53_15.eq_1) <| aN (uR r53_16.eq_1) <| aN (uR r53_25.eq_1) <| s53.eq_1
set_option maxHeartbeats 1000000 in
theorem doR_ok {w : CW} (f : Form w) (way : Int) (a1 a2 a3 a4 a5 a6 a7 m : Nat) : ACallsF Tryz.prog 53 [oA a1 a2 a3 a4 a5 a6 a7 w, .i way] (vH a1 a2 a3 a4 a5 a6 a7 m w (doR w way)) (tCW (doR w way)) := by
  have hls : w.shut.length = 4 := by have := f.ls; omega
  have s0 := en_at eI (sh_at f (i := 0) (by omega))
  have ho := f.ops0
  have ho2 := f.ops1
  have hn := f.next
  have hj := f.st.j
  have hr := f.room
  have hw := f.st.n
  have hq := f.small.q
  have w1 : IntKind.i64.wrap (w.ops + 1) = w.ops + 1 := wrap64 ⟨by omega, by omega⟩
  have w2 : IntKind.i64.wrap (w.next + 1) = w.next + 1 := wrap64 ⟨by omega, by omega⟩
  have w3 : IntKind.i64.wrap (w.next - 1) = w.next - 1 := wrap64 ⟨by omega, by omega⟩
  have w4 : IntKind.i64.wrap (w.room - 1) = w.room - 1 := wrap64 ⟨by omega, by omega⟩
  have q1 : (w.queue.length + 1) * 8 ≤ 140737488355328 := by omega
  have q2 : w.queue.length + 1 ≤ 9223372036854775807 := by omega
  have g1 : (0 : Int) < (w.shut.length : Int) := by omega
  have g2 : 0 < w.shut.length := by omega
  refine ACallsF.intro ok53 follows fun X c0 => ?_
  by_cases c0 : w.reader = 2
  · have k0 := eqb c0
    rw [show doR w way = { w with reader := 3, shut := w.shut.set 0 1, ops := w.ops + 1 } by rw [doR, if_pos c0]]
    simp only [RZ, reduceAdd, reduceIte, reduceEqDiff, reduceLT, reduceLeDiff, reduceCtorEq, Nat.reduceBEq, vH, oA, UEc_1.d, k0, s0, eI, w1, SNT, g1, g2]
  have k0 := neqb c0
  by_cases c1 : way > 0
  · rw [show doR w way = { w with reader := 2 } by rw [doR, if_neg c0, if_pos c1]]
    simp only [RZ, reduceAdd, reduceIte, reduceEqDiff, reduceLT, reduceLeDiff, reduceCtorEq, Nat.reduceBEq, vH, oA, UEc_1.d, k0, c1, SNT]
  by_cases c2 : w.reader = 0
  · have k2 := eqb c2
    rw [show doR w way = { w with room := w.room - 1, next := w.next + 1, reader := 1, ops := w.ops + 1 } by rw [doR, if_neg c0, if_neg c1, if_pos c2]]
    simp only [RZ, reduceAdd, reduceIte, reduceEqDiff, reduceLT, reduceLeDiff, reduceCtorEq, Nat.reduceBEq, vH, oA, UEc_1.d, k0, c1, k2, SNT, w1, w2, w4]
  have k2 := neqb c2
  rw [show doR w way = { w with queue := w.queue ++ [w.next - 1], reader := 0, ops := w.ops + 1 } by rw [doR, if_neg c0, if_neg c1, if_neg c2]]
  simp only [RZ, reduceAdd, reduceIte, reduceEqDiff, reduceLT, reduceLeDiff, reduceCtorEq, Nat.reduceBEq, vH, oA, UEc_1.d, k0, c1, k2, SNT, w1, w3, q1, q2]
end Go.V
set_option linter.unusedSimpArgs false
namespace Go.V
open Go.Proofs
open Nat (reduceAdd reduceEqDiff reduceLT reduceLeDiff)
theorem q_at {xs : List Int} (h : 0 < xs.length) : (en eI xs)[0]? = some (eI (xs.getD 0 0)) := by
  cases xs with
  | nil => cases h
  | cons x xs => rfl
theorem q_drop (xs : List Int) : ((en eI xs).drop 1).take (xs.length - 1) = en eI (xs.drop 1) := by
  rw [en_drop]
  have := en_take eI (xs.drop 1)
  rwa [List.length_drop] at this
theorem q_dropI (xs : List Int) : ((en eI xs).drop 1).take ((xs.length : Int).toNat - 1) = en eI (xs.drop 1) := by rw [Int.toNat_natCast, q_drop]
/- loop.example/teagle/spec.l52DoWorker -/
def r54_0 : List AOper := [ao 0 3 (.box 26 (.t 0)),
  ao 1 6 (.alloc 26 [(.v (.s (.int .i64 0))), (.v (.s (.int .i64 0))), (.v (.s (.int .i64 0))), (.v (.s (.int .i64 0))), (.v (.s (.int .i64 0))), .nil0, .nil0, (.v (.s (.int .i64 0))), .nil0, (.v (.s (.int .i64 0))), .nil0, (.v (.s (.int .i64 0))), .nil0, (.v (.s (.int .i64 0))), .nil0, (.v (.s (.int .i64 0))), .nil0, (.v (.s (.int .i64 0)))])]
def r54_1 : List AOper := [ao 0 8 (.fa 6 (.t 3)),
  ao 1 9 (.ld 1 false (.t 8)),
  ao 2 10 (.mv (.t 1)),
  ao 3 11 (.ia 2 (.t 9) (.t 10)),
  ao 4 12 (.ld 2 true (.t 11)),
  ao 5 7 (.alloc 68 [(.v (.s (.int .i64 0))), (.v (.s (.int .i64 0)))]),
  an 6 (.st 2 (.t 7) (.t 12))]
def r54_2 : List AOper := [ao 0 26 (.mv (.t 2)),
  ao 1 27 (.bin .gtr (.t 26) (.k (.i 0))),
  ao 2 25 (.mv (.t 27))]
def r54_3 : List AOper := [ao 0 28 (.build [(.v (.s (.int .i64 0))), (.v (.s (.int .i64 0)))] [(0, 1, (.k (.i 3)))]),
  an 1 (.st 2 (.t 7) (.t 28))]
def r54_4 : List AOper := [ao 0 29 (.mv (.t 2)),
  ao 1 30 (.bin .eql (.t 29) (.k (.i 2)))]
def r54_5 : List AOper := [ao 0 31 (.fa 17 (.t 3)),
  ao 1 32 (.ld 1 false (.t 31)),
  ao 2 33 (.bin .add (.t 32) (.k (.i 1))),
  ao 3 34 (.fa 17 (.t 3)),
  an 4 (.st 1 (.t 34) (.t 33))]
def c54_6 : ACode := .cond (.t 30) (.reg r54_5) .skip
def c54_7 : ACode := .seq (.reg r54_3) (.seq (.reg r54_4) c54_6)
def r54_8 : List AOper := [ao 0 36 (.fa 0 (.t 7)),
  ao 1 37 (.ld 1 false (.t 36)),
  ao 2 38 (.bin .eql (.t 37) (.k (.i 0))),
  ao 3 35 (.mv (.t 38))]
def r54_9 : List AOper := [ao 0 39 (.fa 5 (.t 3)),
  ao 1 40 (.ld 1 false (.t 39)),
  ao 2 41 (.ia 1 (.t 40) (.k (.i 0))),
  ao 3 42 (.ld 1 false (.t 41)),
  ao 4 43 (.build [(.v (.s (.int .i64 0))), (.v (.s (.int .i64 0)))] [(0, 1, (.k (.i 1))), (1, 1, (.t 42))]),
  an 5 (.st 2 (.t 7) (.t 43))]
def r54_10 : List AOper := [ao 0 44 (.fa 5 (.t 3)),
  ao 1 45 (.ld 1 false (.t 44)),
  ao 2 46 (.slc 1 (.t 45) (some (.k (.i 1))) none),
  ao 3 47 (.fa 5 (.t 3)),
  an 4 (.st 1 (.t 47) (.t 46))]
def r54_11 : List AOper := [ao 0 48 (.fa 17 (.t 3)),
  ao 1 49 (.ld 1 false (.t 48)),
  ao 2 50 (.bin .add (.t 49) (.k (.i 1))),
  ao 3 51 (.fa 17 (.t 3)),
  an 4 (.st 1 (.t 51) (.t 50))]
def c54_12 : ACode := .seq (.reg r54_9) (.seq (.reg r54_10) (.reg r54_11))
def r54_13 : List AOper := [ao 0 53 (.fa 0 (.t 7)),
  ao 1 54 (.ld 1 false (.t 53)),
  ao 2 55 (.bin .eql (.t 54) (.k (.i 1))),
  ao 3 52 (.mv (.t 55))]
def r54_14 : List AOper := [ao 0 56 (.fa 0 (.t 7)),
  an 1 (.st 1 (.t 56) (.k (.i 2)))]
def r54_15 : List AOper := [ao 0 13 (.fa 8 (.t 3)),
  ao 1 14 (.ld 1 false (.t 13)),
  ao 2 15 (.fa 1 (.t 7)),
  ao 3 16 (.ld 1 false (.t 15)),
  ao 4 17 (.bsl 1 3 [(.t 16)]),
  ao 5 18 (.app 1 3 8 (.t 14) (.t 17)),
  ao 6 19 (.fa 8 (.t 3)),
  an 7 (.st 1 (.t 19) (.t 18))]
def r54_16 : List AOper := [ao 0 20 (.build [(.v (.s (.int .i64 0))), (.v (.s (.int .i64 0)))] []),
  an 1 (.st 2 (.t 7) (.t 20))]
def r54_17 : List AOper := [ao 0 21 (.fa 17 (.t 3)),
  ao 1 22 (.ld 1 false (.t 21)),
  ao 2 23 (.bin .add (.t 22) (.k (.i 1))),
  ao 3 24 (.fa 17 (.t 3)),
  an 4 (.st 1 (.t 24) (.t 23))]
def c54_18 : ACode := .seq (.reg r54_15) (.seq (.reg r54_16) (.reg r54_17))
def c54_19 : ACode := .cond (.t 52) (.reg r54_14) c54_18
def c54_20 : ACode := .seq (.reg r54_13) c54_19
def c54_21 : ACode := .cond (.t 35) c54_12 c54_20
def c54_22 : ACode := .seq (.reg r54_8) c54_21
def c54_23 : ACode := .cond (.t 25) c54_7 c54_22
def c54_24 : ACode := .seq (.reg r54_2) c54_23
def c54_25 : ACode := .block 0 c54_24
def r54_26 : List AOper := [ao 0 57 (.fa 6 (.t 3)),
  ao 1 58 (.ld 1 false (.t 57)),
  ao 2 59 (.mv (.t 1)),
  ao 3 60 (.ld 2 true (.t 7)),
  ao 4 61 (.ia 2 (.t 58) (.t 59)),
  an 5 (.st 2 (.t 61) (.t 60))]
def r54_27 : List AOper := [ao 0 62 (.ld 18 true (.t 3)),
  an 1 (.st 18 (.t 6) (.t 62))]
def c54 : ACode := .seq (.reg r54_0) (.seq (.reg r54_1) (.seq c54_25 (.seq (.reg r54_26) (.seq (.reg r54_27) .ret))))
def s54 : List ARes := [.cell 6 18 true]
theorem ok54 : okF Tryz.prog 54 63 c54 s54 := ⟨Tryz.f54, Tryz.func54, Tryz.ntmps54, by kernel_rfl, by kernel_rfl, by kernel_rfl⟩
def UEd_1 := Bx.mk <|
  aN (uA c54.eq_1) <| aN (uR r54_0.eq_1) <| aN (uR r54_1.eq_1) <| aN (uA c54_25.eq_1) <| aN (uA c54_24.eq_1) <| aN (uR r54_2.eq_1) <| aN (uA c54_23.eq_1) <| aN (uA c54_7.eq_1) <| aN (uR r54_3.eq_1) <| aN (uR r54_4.eq_1) <| aN (uA c54_6.eq_1) <| aN (uR r54_5.eq_1) <| aN (uA c54_22.eq_1) <| aN (uR r54_8.eq_1) <| aN (uA c54_21.eq_1) <| aN (uA c54_12.eq_1) <| aN (uR r54_9.eq_1) <| aN (uR r54_10.eq_1) <| aN (uR r54_11.eq_1) <| aN (uA c54_20.eq_1) <| aN (uR r54_13.eq_1) <| aN (uA c54_19.eq_1) <| aN (uR r54_14.eq_1) <| aN (uA c54_18.eq_1) <| aN (uR r54_15.eq_1) <| aN (uR r54_16.eq_1) <| aN (uR r54_17.eq_1) <| aN (uR r54_26.eq_1) <| aN (uR r54_27.eq_1) <| s54.eq_1
set_option maxHeartbeats 2000000 in
theorem doH_ok {w : CW} (f : Form w) (i : Nat) (hi : i < w.hands.length) (way : Int) (hq : ¬ way > 0 → (hdAt w i).state = 0 → 0 < w.queue.length) (a1 a2 a3 a4 a5 a6 a7 m : Nat) : ACallsF Tryz.prog 54 [oA a1 a2 a3 a4 a5 a6 a7 w, .i i, .i way] (vH a1 a2 a3 a4 a5 a6 a7 m w { doH w i way with queue := w.queue }) (tCW (doH w i way)) := by
  have eh := en_at eH (hdAt_at hi)
  have gi : (0 : Int) ≤ i := by omega
  have gi2 : (i : Int) < w.hands.length := by omega
  have ho := f.ops0
  have ho2 := f.ops1
  have hrl := f.small.r
  have w1 : IntKind.i64.wrap (w.ops + 1) = w.ops + 1 := wrap64 ⟨by omega, by omega⟩
  have q1 : (w.results.length + 1) * 8 ≤ 140737488355328 := by omega
  have q2 : w.results.length + 1 ≤ 9223372036854775807 := by omega
  obtain ⟨x, hx⟩ : ∃ x, hdAt w i = x := ⟨_, rfl⟩
  rw [hx] at hq eh
  refine ACallsF.intro ok54 follows fun X c0 => ?_
  by_cases c1 : way > 0
  · by_cases c2 : way = 2
    · have k2 := eqb c2
      rw [show doH w i way = { w with hands := w.hands.set i ⟨3, 0⟩, ops := w.ops + 1 } by rw [doH, if_pos c1, if_pos c2]]
      simp only [RZ, reduceAdd, reduceIte, reduceEqDiff, reduceLT, reduceLeDiff, reduceCtorEq, Nat.reduceBEq, vH, oA, UEd_1.d, c1, k2, eh, gi, gi2, Int.toNat_natCast, eH, w1, SNT]
    · have k2 := neqb c2
      rw [show doH w i way = { w with hands := w.hands.set i ⟨3, 0⟩, ops := w.ops } by rw [doH, if_pos c1, if_neg c2]]
      simp only [RZ, reduceAdd, reduceIte, reduceEqDiff, reduceLT, reduceLeDiff, reduceCtorEq, Nat.reduceBEq, vH, oA, UEd_1.d, c1, k2, eh, gi, gi2, Int.toNat_natCast, eH, w1, SNT]
  by_cases c2 : x.state = 0
  · have k2 := eqb c2
    have hql := hq c1 c2
    have g1 : (0 : Int) < (w.queue.length : Int) := by omega
    have g2 : (1 : Int) ≤ (w.queue.length : Int) := by omega
    have g3 : 1 + (w.queue.length - 1) ≤ w.queue.length := by omega
    have e0 := q_at hql
    rw [show doH w i way = { w with hands := w.hands.set i ⟨1, w.queue.getD 0 0⟩, queue := w.queue.drop 1, ops := w.ops + 1 } by rw [doH, hx, if_neg c1, if_pos c2]]
    simp only [RZ, reduceAdd, reduceIte, reduceEqDiff, reduceLT, reduceLeDiff, reduceCtorEq, Nat.reduceBEq, vH, oA, UEd_1.d, c1, k2, eh, gi, gi2, Int.toNat_natCast, eH, eI, w1, g1, g2, g3, e0, lohi, Int.le_refl, Nat.le_refl, q_drop, SNT]
  have k2 := neqb c2
  by_cases c3 : x.state = 1
  · have k3 := eqb c3
    rw [show doH w i way = { w with hands := w.hands.set i ⟨2, x.job⟩ } by rw [doH, hx, if_neg c1, if_neg c2, if_pos c3]]
    simp only [RZ, reduceAdd, reduceIte, reduceEqDiff, reduceLT, reduceLeDiff, reduceCtorEq, Nat.reduceBEq, vH, oA, UEd_1.d, c1, k2, k3, eh, gi, gi2, Int.toNat_natCast, eH, w1, SNT]
  have k3 := neqb c3
  rw [show doH w i way = { w with results := w.results ++ [x.job], hands := w.hands.set i ⟨0, 0⟩, ops := w.ops + 1 } by rw [doH, hx, if_neg c1, if_neg c2, if_neg c3]]
  simp only [RZ, reduceAdd, reduceIte, reduceEqDiff, reduceLT, reduceLeDiff, reduceCtorEq, Nat.reduceBEq, vH, oA, UEd_1.d, c1, k2, k3, eh, gi, gi2, Int.toNat_natCast, eH, w1, q1, q2, SNT]
end Go.V
set_option linter.unusedSimpArgs false
namespace Go.V
open Go.Proofs
open Nat (reduceAdd reduceEqDiff reduceLT reduceLeDiff)
/- loop.example/teagle/spec.l52DoKeeper -/
def r55_0 : List AOper := [ao 0 2 (.box 26 (.t 0)),
  ao 1 4 (.alloc 26 [(.v (.s (.int .i64 0))), (.v (.s (.int .i64 0))), (.v (.s (.int .i64 0))), (.v (.s (.int .i64 0))), (.v (.s (.int .i64 0))), .nil0, .nil0, (.v (.s (.int .i64 0))), .nil0, (.v (.s (.int .i64 0))), .nil0, (.v (.s (.int .i64 0))), .nil0, (.v (.s (.int .i64 0))), .nil0, (.v (.s (.int .i64 0))), .nil0, (.v (.s (.int .i64 0)))])]
def r55_1 : List AOper := [ao 0 15 (.mv (.t 1)),
  ao 1 16 (.bin .gtr (.t 15) (.k (.i 0))),
  ao 2 14 (.mv (.t 16))]
def r55_2 : List AOper := [ao 0 17 (.fa 9 (.t 2)),
  an 1 (.st 1 (.t 17) (.k (.i 4)))]
def r55_3 : List AOper := [ao 0 18 (.mv (.t 1)),
  ao 1 19 (.bin .eql (.t 18) (.k (.i 2)))]
def r55_4 : List AOper := [ao 0 20 (.fa 17 (.t 2)),
  ao 1 21 (.ld 1 false (.t 20)),
  ao 2 22 (.bin .add (.t 21) (.k (.i 1))),
  ao 3 23 (.fa 17 (.t 2)),
  an 4 (.st 1 (.t 23) (.t 22))]
def c55_5 : ACode := .cond (.t 19) (.reg r55_4) .skip
def c55_6 : ACode := .seq (.reg r55_2) (.seq (.reg r55_3) c55_5)
def r55_7 : List AOper := [ao 0 25 (.fa 9 (.t 2)),
  ao 1 26 (.ld 1 false (.t 25)),
  ao 2 27 (.bin .eql (.t 26) (.k (.i 0))),
  ao 3 24 (.mv (.t 27))]
def r55_8 : List AOper := [ao 0 28 (.fa 8 (.t 2)),
  ao 1 29 (.ld 1 false (.t 28)),
  ao 2 30 (.ia 1 (.t 29) (.k (.i 0))),
  ao 3 31 (.ld 1 false (.t 30)),
  ao 4 5 (.mv (.t 31))]
def r55_9 : List AOper := [ao 0 32 (.fa 8 (.t 2)),
  ao 1 33 (.ld 1 false (.t 32)),
  ao 2 34 (.slc 1 (.t 33) (some (.k (.i 1))) none),
  ao 3 35 (.fa 8 (.t 2)),
  an 4 (.st 1 (.t 35) (.t 34))]
def r55_10 : List AOper := [ao 0 36 (.fa 10 (.t 2)),
  ao 1 37 (.ld 1 false (.t 36)),
  au 2 38 [0, 1] (.mv (.t 5)),
  au 3 39 (ru 3) (.fa 2 (.t 2)),
  au 4 40 (ru 3) (.ld 1 false (.t 39)),
  au 5 41 [0, 1] (.bin .rem (.t 38) (.t 40)),
  au 6 42 (ru 6) (.mv (.t 5)),
  ao 7 43 (.ia 1 (.t 37) (.t 41)),
  an 8 (.st 1 (.t 43) (.t 42))]
def r55_11 : List AOper := [ao 0 44 (.fa 9 (.t 2)),
  an 1 (.st 1 (.t 44) (.k (.i 1)))]
def r55_12 : List AOper := [ao 0 45 (.fa 17 (.t 2)),
  ao 1 46 (.ld 1 false (.t 45)),
  ao 2 47 (.bin .add (.t 46) (.k (.i 1))),
  ao 3 48 (.fa 17 (.t 2)),
  an 4 (.st 1 (.t 48) (.t 47))]
def c55_13 : ACode := .seq (.reg r55_8) (.seq (.reg r55_9) (.seq (.reg r55_10) (.seq (.reg r55_11) (.reg r55_12))))
def r55_14 : List AOper := [ao 0 50 (.fa 9 (.t 2)),
  ao 1 51 (.ld 1 false (.t 50)),
  ao 2 52 (.bin .eql (.t 51) (.k (.i 1))),
  ao 3 49 (.mv (.t 52))]
def r55_15 : List AOper := [ao 0 53 (.fa 9 (.t 2)),
  an 1 (.st 1 (.t 53) (.k (.i 0)))]
def r55_16 : List AOper := [ao 0 54 (.ld 18 true (.t 2)),
  ao 1 55 (.call (.k (.c (.fn 74 []))) [(.t 54)])]
def r55_17 : List AOper := [ao 0 56 (.fa 9 (.t 2)),
  an 1 (.st 1 (.t 56) (.k (.i 2)))]
def c55_18 : ACode := .cond (.t 55) (.reg r55_17) .skip
def c55_19 : ACode := .seq (.reg r55_15) (.seq (.reg r55_16) c55_18)
def r55_20 : List AOper := [ao 0 58 (.fa 9 (.t 2)),
  ao 1 59 (.ld 1 false (.t 58)),
  ao 2 60 (.bin .eql (.t 59) (.k (.i 2))),
  ao 3 57 (.mv (.t 60))]
def r55_21 : List AOper := [ao 0 61 (.fa 10 (.t 2)),
  ao 1 62 (.ld 1 false (.t 61)),
  au 2 63 [0, 1] (.fa 11 (.t 2)),
  au 3 64 [0, 1] (.ld 1 false (.t 63)),
  au 4 65 (ru 4) (.fa 2 (.t 2)),
  au 5 66 (ru 4) (.ld 1 false (.t 65)),
  au 6 67 [0, 1] (.bin .rem (.t 64) (.t 66)),
  ao 7 68 (.ia 1 (.t 62) (.t 67)),
  an 8 (.st 1 (.t 68) (.k (.i (-1))))]
def r55_22 : List AOper := [ao 0 69 (.fa 12 (.t 2)),
  ao 1 70 (.ld 1 false (.t 69)),
  ao 2 71 (.fa 11 (.t 2)),
  ao 3 72 (.ld 1 false (.t 71)),
  ao 4 73 (.bsl 1 3 [(.t 72)]),
  ao 5 74 (.app 1 3 8 (.t 70) (.t 73)),
  ao 6 75 (.fa 12 (.t 2)),
  an 7 (.st 1 (.t 75) (.t 74))]
def r55_23 : List AOper := [ao 0 76 (.fa 11 (.t 2)),
  ao 1 77 (.ld 1 false (.t 76)),
  ao 2 78 (.bin .add (.t 77) (.k (.i 1))),
  ao 3 79 (.fa 11 (.t 2)),
  an 4 (.st 1 (.t 79) (.t 78))]
def r55_24 : List AOper := [ao 0 80 (.fa 9 (.t 2)),
  an 1 (.st 1 (.t 80) (.k (.i 3)))]
def r55_25 : List AOper := [ao 0 81 (.fa 17 (.t 2)),
  ao 1 82 (.ld 1 false (.t 81)),
  ao 2 83 (.bin .add (.t 82) (.k (.i 1))),
  ao 3 84 (.fa 17 (.t 2)),
  an 4 (.st 1 (.t 84) (.t 83))]
def c55_26 : ACode := .seq (.reg r55_21) (.seq (.reg r55_22) (.seq (.reg r55_23) (.seq (.reg r55_24) (.reg r55_25))))
def r55_27 : List AOper := [ao 0 86 (.fa 9 (.t 2)),
  ao 1 87 (.ld 1 false (.t 86)),
  ao 2 88 (.bin .eql (.t 87) (.k (.i 3))),
  ao 3 85 (.mv (.t 88))]
def r55_28 : List AOper := [ao 0 89 (.fa 15 (.t 2)),
  ao 1 90 (.ld 1 false (.t 89)),
  ao 2 91 (.bin .add (.t 90) (.k (.i 1))),
  ao 3 92 (.fa 15 (.t 2)),
  an 4 (.st 1 (.t 92) (.t 91))]
def r55_29 : List AOper := [ao 0 93 (.fa 9 (.t 2)),
  an 1 (.st 1 (.t 93) (.k (.i 1)))]
def r55_30 : List AOper := [ao 0 94 (.fa 17 (.t 2)),
  ao 1 95 (.ld 1 false (.t 94)),
  ao 2 96 (.bin .add (.t 95) (.k (.i 1))),
  ao 3 97 (.fa 17 (.t 2)),
  an 4 (.st 1 (.t 97) (.t 96))]
def c55_31 : ACode := .seq (.reg r55_28) (.seq (.reg r55_29) (.reg r55_30))
def r55_32 : List AOper := [ao 0 6 (.fa 9 (.t 2)),
  an 1 (.st 1 (.t 6) (.k (.i 5)))]
def r55_33 : List AOper := [ao 0 7 (.fa 16 (.t 2)),
  ao 1 8 (.ld 1 false (.t 7)),
  ao 2 9 (.ia 1 (.t 8) (.k (.i 2))),
  an 3 (.st 1 (.t 9) (.k (.i 1)))]
def r55_34 : List AOper := [ao 0 10 (.fa 17 (.t 2)),
  ao 1 11 (.ld 1 false (.t 10)),
  ao 2 12 (.bin .add (.t 11) (.k (.i 1))),
  ao 3 13 (.fa 17 (.t 2)),
  an 4 (.st 1 (.t 13) (.t 12))]
def c55_35 : ACode := .seq (.reg r55_32) (.seq (.reg r55_33) (.reg r55_34))
def c55_36 : ACode := .cond (.t 85) c55_31 c55_35
def c55_37 : ACode := .seq (.reg r55_27) c55_36
def c55_38 : ACode := .cond (.t 57) c55_26 c55_37
def c55_39 : ACode := .seq (.reg r55_20) c55_38
def c55_40 : ACode := .cond (.t 49) c55_19 c55_39
def c55_41 : ACode := .seq (.reg r55_14) c55_40
def c55_42 : ACode := .cond (.t 24) c55_13 c55_41
def c55_43 : ACode := .seq (.reg r55_7) c55_42
def c55_44 : ACode := .cond (.t 14) c55_6 c55_43
def c55_45 : ACode := .seq (.reg r55_1) c55_44
def c55_46 : ACode := .block 0 c55_45
def r55_47 : List AOper := [ao 0 98 (.ld 18 true (.t 2)),
  an 1 (.st 18 (.t 4) (.t 98))]
def c55 : ACode := .seq (.reg r55_0) (.seq c55_46 (.seq (.reg r55_47) .ret))
def s55 : List ARes := [.cell 4 18 true]
theorem ok55 : okF Tryz.prog 55 99 c55 s55 := ⟨Tryz.f55, Tryz.func55, Tryz.ntmps55, by kernel_rfl, by kernel_rfl, by kernel_rfl⟩
def UEe_1 := Bx.mk <|
  aN (uA c55.eq_1) <| aN (uR r55_0.eq_1) <| aN (uA c55_46.eq_1) <| aN (uA c55_45.eq_1) <| aN (uR r55_1.eq_1) <| aN (uA c55_44.eq_1) <| aN (uA c55_6.eq_1) <| aN (uR r55_2.eq_1) <| aN (uR r55_3.eq_1) <| aN (uA c55_5.eq_1) <| aN (uR r55_4.eq_1) <| aN (uA c55_43.eq_1) <| aN (uR r55_7.eq_1) <| aN (uA c55_42.eq_1) <| aN (uA c55_13.eq_1) <| aN (uR r55_8.eq_1) <| aN (uR r55_9.eq_1) <| aN (uR r55_10.eq_1) <| aN (uR r55_11.eq_1) <| aN (uR r55_12.eq_1) <| aN (uA c55_41.eq_1) <| aN (uR r55_14.eq_1) <| aN (uA c55_40.eq_1) <| aN (uA c55_19.eq_1) <| aN (uR r55_15.eq_1) <| aN (uR r55_16.eq_1) <| aN (uA c55_18.eq_1) <| aN (uR r55_17.eq_1) <| aN (uA c55_39.eq_1) <| aN (uR r55_20.eq_1) <| aN (uA c55_38.eq_1) <| aN (uA c55_26.eq_1) <| aN (uR r55_21.eq_1) <| aN (uR r55_22.eq_1) <| aN (uR r55_23.eq_1) <| aN (uR r55_24.eq_1) <| aN (uR r55_25.eq_1) <| aN (uA c55_37.eq_1) <| aN (uR r55_27.eq_1) <| aN (uA c55_36.eq_1) <| aN (uA c55_31.eq_1) <| aN (uR r55_28.eq_1) <| aN (uR r55_29.eq_1) <| aN (uR r55_30.eq_1) <| aN (uA c55_35.eq_1) <| aN (uR r55_32.eq_1) <| aN (uR r55_33.eq_1) <| aN (uR r55_34.eq_1) <| aN (uR r55_47.eq_1) <| s55.eq_1
set_option maxHeartbeats 2000000 in
theorem doK_ok {w : CW} (f : Form w) (way : Int) (hq : ¬ way > 0 → w.keeper = 0 → 0 < w.results.length ∧ 0 ≤ w.results.getD 0 0) (a1 a2 a3 a4 a5 a6 a7 m : Nat) : ACallsF Tryz.prog 55 [oA a1 a2 a3 a4 a5 a6 a7 w, .i way] (vH a1 a2 a3 a4 a5 a6 a7 m w { doK w way with results := w.results }) (tCW (doK w way)) := by
  have hn := f.st.n
  have hz : ¬ w.window = 0 := by omega
  have ho := f.ops0
  have ho2 := f.ops1
  have hd := f.due
  have hnx := f.next
  have hj := f.st.j
  have hr := f.room
  have hol := f.small.o
  have hls := f.ls
  have hs := slot_lt f
  have ht := slot_int f
  have gs : (0 : Int) ≤ slot w := by omega
  have gs2 : (slot w : Int) < w.ring.length := by omega
  have w1 : IntKind.i64.wrap (w.ops + 1) = w.ops + 1 := wrap64 ⟨by omega, by omega⟩
  have w2 : IntKind.i64.wrap (w.due + 1) = w.due + 1 := wrap64 ⟨by omega, by omega⟩
  have w3 : IntKind.i64.wrap (w.room + 1) = w.room + 1 := wrap64 ⟨by omega, by omega⟩
  have q1 : (w.out.length + 1) * 8 ≤ 140737488355328 := by omega
  have q2 : w.out.length + 1 ≤ 9223372036854775807 := by omega
  refine ACallsF.intro ok55 follows fun X c0 => ?_
  by_cases c1 : way > 0
  · by_cases c2 : way = 2
    · have k2 := eqb c2
      rw [show doK w way = { w with keeper := 4, ops := w.ops + 1 } by rw [doK, if_pos c1, if_pos c2]]
      simp only [RZ, reduceAdd, reduceIte, reduceEqDiff, reduceLT, reduceLeDiff, reduceCtorEq, Nat.reduceBEq, vH, oA, UEe_1.d, c1, k2, w1, SNT]
    · have k2 := neqb c2
      rw [show doK w way = { w with keeper := 4, ops := w.ops } by rw [doK, if_pos c1, if_neg c2]]
      simp only [RZ, reduceAdd, reduceIte, reduceEqDiff, reduceLT, reduceLeDiff, reduceCtorEq, Nat.reduceBEq, vH, oA, UEe_1.d, c1, k2, w1, SNT]
  by_cases c2 : w.keeper = 0
  · have k2 := eqb c2
    obtain ⟨hrl, h0⟩ := hq c1 c2
    have e0 := q_at hrl
    have g1 : (0 : Int) < (w.results.length : Int) := by omega
    have g2 : (1 : Int) ≤ (w.results.length : Int) := by omega
    have g3 : 1 + (w.results.length - 1) ≤ w.results.length := by omega
    rw [show doK w way = { w with results := w.results.drop 1, ring := w.ring.set (rslot w) (w.results.getD 0 0), keeper := 1, ops := w.ops + 1 } by rw [doK, if_neg c1, if_pos c2]]
    have hrs : rslot w < w.ring.length ∧ (w.results.getD 0 0).tmod w.window = (rslot w : Int) := by
      have h2 := f.lr
      have h3 := Int.emod_lt_of_pos (w.results.getD 0 0) (show 0 < w.window by omega)
      have h4 := Int.emod_nonneg (w.results.getD 0 0) (show w.window ≠ 0 by omega)
      rw [Int.tmod_eq_emod_of_nonneg h0]
      unfold rslot
      omega
    obtain ⟨hrs, ht2⟩ := hrs
    generalize rslot w = sl at *
    generalize w.results.getD 0 0 = x at *
    have gs : (0 : Int) ≤ sl := by omega
    have gs2 : (sl : Int) < w.ring.length := by omega
    obtain ⟨y, hy⟩ : ∃ y, w.ring[sl]? = some y := ⟨_, List.getElem?_eq_getElem hrs⟩
    have ey := en_at eI hy
    simp only [RZ, reduceAdd, reduceIte, reduceEqDiff, reduceLT, reduceLeDiff, reduceCtorEq, Nat.reduceBEq, vH, oA, UEe_1.d, c1, k2, e0, gs, gs2, g1, g2, g3, ht2, hz, ey, Int.toNat_natCast, eI, w1, lohi, Int.le_refl, Nat.le_refl, q_drop, SNT]
  have k2 := neqb c2
  obtain ⟨y, hy⟩ : ∃ y, w.ring[slot w]? = some y := ⟨_, List.getElem?_eq_getElem hs⟩
  have ey := en_at eI hy
  by_cases c3 : w.keeper = 1
  · have k3 := eqb c3
    obtain ⟨bd, hbd, Cd⟩ := due_ok (w := { w with keeper := 0 }) { f with kp := ⟨show (0 : Int) ≤ 0 by decide, show (0 : Int) ≤ 5 by decide⟩ }
    have e : (if Due w then (2 : Int) else 0) = if bd = true then 2 else 0 := by
      cases bd with
      | true => rw [if_pos (show Due w from hbd.1 rfl)]; rfl
      | false => rw [if_neg (show ¬ Due w from fun g => by cases hbd.2 g)]; rfl
    rw [show doK w way = { w with keeper := if bd = true then 2 else 0 } by rw [doK, if_neg c1, if_neg c2, if_pos c3, e]]
    simp only [RZ, reduceAdd, reduceIte, reduceEqDiff, reduceLT, reduceLeDiff, reduceCtorEq, Nat.reduceBEq, vH, oA, UEe_1.d, c1, k2, k3]
    refine callS (ws := wL 1000 _ _ _ _ _ _ _ w) (ns := wN 1000) Cd rfl (lendW1 (w := { w with keeper := 0 }) (x1 := true) (x2 := true) (x3 := true) (x4 := true) (x5 := true) (x6 := true) (x7 := true) rfl rfl rfl rfl rfl rfl rfl) rfl rfl rfl ⟨rfl, ?_⟩
    cases bd with
    | true => simp only [RZ, reduceAdd, reduceIte, reduceEqDiff, reduceLT, reduceLeDiff, reduceCtorEq, Nat.reduceBEq, vH, oA, UEe_1.d, c1, k2, k3, SNT]
    | false => simp only [RZ, reduceAdd, reduceIte, reduceEqDiff, reduceLT, reduceLeDiff, reduceCtorEq, Nat.reduceBEq, vH, oA, UEe_1.d, c1, k2, k3, SNT]
  have k3 := neqb c3
  by_cases c4 : w.keeper = 2
  · have k4 := eqb c4
    rw [show doK w way = { w with ring := w.ring.set (slot w) (-1), out := w.out ++ [w.due], due := w.due + 1, keeper := 3, ops := w.ops + 1 } by rw [doK, if_neg c1, if_neg c2, if_neg c3, if_pos c4]]
    generalize slot w = sl at *
    simp only [RZ, reduceAdd, reduceIte, reduceEqDiff, reduceLT, reduceLeDiff, reduceCtorEq, Nat.reduceBEq, vH, oA, UEe_1.d, c1, k2, k3, k4, gs, gs2, ht, hz, ey, Int.toNat_natCast, eI, w1, w2, q1, q2, SNT]
  have k4 := neqb c4
  by_cases c5 : w.keeper = 3
  · have k5 := eqb c5
    rw [show doK w way = { w with room := w.room + 1, keeper := 1, ops := w.ops + 1 } by rw [doK, if_neg c1, if_neg c2, if_neg c3, if_neg c4, if_pos c5]]
    simp only [RZ, reduceAdd, reduceIte, reduceEqDiff, reduceLT, reduceLeDiff, reduceCtorEq, Nat.reduceBEq, vH, oA, UEe_1.d, c1, k2, k3, k4, k5, w1, w3, SNT]
  have k5 := neqb c5
  have s2 := en_at eI (sh_at f (i := 2) (by omega))
  have g1 : (2 : Int) < (w.shut.length : Int) := by omega
  rw [show doK w way = { w with keeper := 5, shut := w.shut.set 2 1, ops := w.ops + 1 } by rw [doK, if_neg c1, if_neg c2, if_neg c3, if_neg c4, if_neg c5]]
  simp only [RZ, reduceAdd, reduceIte, reduceEqDiff, reduceLT, reduceLeDiff, reduceCtorEq, Nat.reduceBEq, vH, oA, UEe_1.d, c1, k2, k3, k4, k5, w1, s2, g1, eI, SNT]
end Go.V
set_option linter.unusedSimpArgs false
namespace Go.V
open Go.Proofs
open Nat (reduceAdd reduceEqDiff reduceLT reduceLeDiff)
section
variable {P : Program} {t : Nat → T} {H : HMap} {c : Nat} {f : Opd} {args : List Opd} {fid : FuncId} {k : Nat} {d : Option Nat} {un : List Nat} {l : List AOper} {prev : List (Nat × List Nat × List Nat)} {K : St → Prop}
/-- A call that is given a world of own arrays, and says another. -/
theorem callDo {a1 a2 a3 a4 a5 a6 a7 m : Nat} {w w' w'' : CW} {al : List T} (hC : ∀ a1 a2 a3 a4 a5 a6 a7 m, ACallsF P fid (oA a1 a2 a3 a4 a5 a6 a7 w :: al) (vH a1 a2 a3 a4 a5 a6 a7 m w w'') (tCW w')) (hf : ev t f = .pt (.one (.fn fid []))) (hl : args.map (ev t) = .pt (.agg (oC (m + 1) (m + 2) (m + 3) (m + 4) (m + 5) (m + 6) (m + 7) a1 a2 a3 a4 a5 a6 a7 w)) :: al) (ha : al.all closedA = true)
    (h1 : H (m + 1) = some (bI a1 w.queue)) (h2 : H (m + 2) = some (bH a2 w.hands)) (h3 : H (m + 3) = some (bI a3 w.results)) (h4 : H (m + 4) = some (bI a4 w.ring)) (h5 : H (m + 5) = some (bI a5 w.out)) (h6 : H (m + 6) = some (bI a6 w.got)) (h7 : H (m + 7) = some (bI a7 w.shut))
    (hk : chk prev un ⟨tCW w', wL m (c + k) (c + k) (c + k) (c + k) (c + k) (c + k) (c + k) w'', wN m, wN m⟩ = true ∧ DRun P l ((k, wN m, wN m) :: prev) K ⟨updD t d (tCW w'), updH H (wL m (c + k) (c + k) (c + k) (c + k) (c + k) (c + k) (c + k) w''), c⟩) :
    step P k d un (.call f args) l prev K t H c := by
  obtain ⟨hs, hhs⟩ : ∃ hs, vH a1 a2 a3 a4 a5 a6 a7 m w w'' = hs := ⟨_, rfl⟩
  have N1 : renN hs 1001 = some (⟨1001, m + 1, some (bI a1 w.queue), zI' w''.queue, false⟩) := by rw [← hhs]; simp [renN]
  have N2 : renN hs 1002 = some (⟨1002, m + 2, some (bH a2 w.hands), zH' w''.hands, false⟩) := by rw [← hhs]; simp [renN]
  have N3 : renN hs 1003 = some (⟨1003, m + 3, some (bI a3 w.results), zI' w''.results, false⟩) := by rw [← hhs]; simp [renN]
  have N4 : renN hs 1004 = some (⟨1004, m + 4, some (bI a4 w.ring), zI' w''.ring, false⟩) := by rw [← hhs]; simp [renN]
  have N5 : renN hs 1005 = some (⟨1005, m + 5, some (bI a5 w.out), zI' w''.out, false⟩) := by rw [← hhs]; simp [renN]
  have N6 : renN hs 1006 = some (⟨1006, m + 6, some (bI a6 w.got), zI' w''.got, false⟩) := by rw [← hhs]; simp [renN]
  have N7 : renN hs 1007 = some (⟨1007, m + 7, some (bI a7 w.shut), zI' w''.shut, false⟩) := by rw [← hhs]; simp [renN]
  have hnd : (hs.map (·.m)).Nodup := by rw [← hhs]; simp
  have hcd : (hs.map (·.c)).Nodup := by rw [← hhs]; simp
  obtain ⟨x1, x2⟩ := closed_As hs H al ha
  refine callW (caps := []) («as» := .pt (.agg (oC (m + 1) (m + 2) (m + 3) (m + 4) (m + 5) (m + 6) (m + 7) a1 a2 a3 a4 a5 a6 a7 w)) :: al) (ws := []) (ns := []) (r' := tCW w') (ob := wL m (c + k) (c + k) (c + k) (c + k) (c + k) (c + k) (c + k) w'') hs (by rw [← hhs]; exact hC a1 a2 a3 a4 a5 a6 a7 m) hf ?_ ?_ ?_ hnd hcd rfl ?_ ?_
  · have y1 : lendT H (oA a1 a2 a3 a4 a5 a6 a7 w) (.pt (.agg (oC (m + 1) (m + 2) (m + 3) (m + 4) (m + 5) (m + 6) (m + 7) a1 a2 a3 a4 a5 a6 a7 w))) = some (.pt (.agg (oC (m + 1) (m + 2) (m + 3) (m + 4) (m + 5) (m + 6) (m + 7) a1 a2 a3 a4 a5 a6 a7 w)), [], []) := rfl
    rw [hl]
    simp only [List.map_nil, List.append_nil, lendTs, y1, x1]
  · have y1 : renIT hs (oA a1 a2 a3 a4 a5 a6 a7 w) = some (.pt (.agg (oC (m + 1) (m + 2) (m + 3) (m + 4) (m + 5) (m + 6) (m + 7) a1 a2 a3 a4 a5 a6 a7 w))) := by simp only [renIT, renIs, renI, inN, N1, N2, N3, N4, N5, N6, N7, Option.bind_some, Option.map_some]
    simp only [renITs, x2, y1]
  · show handsIn H hs hs
    conv => arg 3; rw [← hhs]
    exact ⟨h1, h2, h3, h4, h5, h6, h7, trivial⟩
  · conv => lhs; arg 3; rw [← hhs]
    simp only [renOBs, renOB, renOs, renO, N1, N2, N3, N4, N5, N6, N7, Option.map_some, verOf, Blk.ver]; rfl
  · have hq : quiet (tCW w') hs = false := by rw [← hhs]; simp [quiet]
    have e4 : hs.map (·.m) = wN m := by rw [← hhs]; rfl
    rw [hq, e4]
    exact hk
end
theorem can_way {w : CW} {m : Mv} (h : Can w m) : m.way.toNat < (ways w m.who).length := (List.getElem?_eq_some_iff.1 h.open').1
theorem can_H {w : CW} {m : Mv} (h : Can w m) (h0 : ¬ m.who = 0) (h1 : m.who ≤ w.workers) (hw : ¬ m.way > 0) (hs : (hdAt w (m.who - 1).toNat).state = 0) : 0 < w.queue.length := by
  have g := h.open'
  have hz : m.way.toNat = 0 := by omega
  rw [ways, if_neg h0, if_pos h1, waysH, if_pos hs, hz] at g
  simp at g
  exact g
theorem can_K {w : CW} {m : Mv} (h : Can w m) (h0 : m.who = w.workers + 2) (hw : ¬ m.way > 0) (hs : w.keeper = 0) : 0 < w.results.length ∧ 0 ≤ w.results.getD 0 0 := by
  have g := h.open'
  have hz : m.way.toNat = 0 := by omega
  have hk := h.ok.form.st.k
  rw [ways, if_neg (by omega), if_neg (by omega), if_neg (by omega), if_pos h0, waysK, if_pos hs, hz] at g
  simp at g
  have g2 : 0 < w.results.length := g
  refine ⟨g2, ?_⟩
  obtain ⟨x, xs, hx⟩ : ∃ x xs, w.results = x :: xs := by
    cases hq : w.results with
    | nil => rw [hq] at g2; cases g2
    | cons x xs => exact ⟨x, xs, rfl⟩
  have h1 := (h.ok.jobs.all x (by simp [places, hx])).1
  have h2 := h.ok.form.due
  rw [hx]
  show 0 ≤ x
  omega
theorem can_U {w : CW} {m : Mv} (h : Can w m) (h0 : w.workers + 2 < m.who) (hw : m.way = 0) : 0 < w.out.length := by
  have g := h.open'
  have hk := h.ok.form.st.k
  rw [ways, if_neg (by omega), if_neg (by omega), if_neg (by omega), if_neg (by omega), hw] at g
  split at g
  · simp at g
  · simp at g
    exact g
/- loop.example/teagle/spec.CrewStep -/
def r25_0 : List AOper := [ao 0 2 (.box 26 (.t 0)),
  ao 1 3 (.box 35 (.t 1)),
  ao 2 4 (.alloc 26 [(.v (.s (.int .i64 0))), (.v (.s (.int .i64 0))), (.v (.s (.int .i64 0))), (.v (.s (.int .i64 0))), (.v (.s (.int .i64 0))), .nil0, .nil0, (.v (.s (.int .i64 0))), .nil0, (.v (.s (.int .i64 0))), .nil0, (.v (.s (.int .i64 0))), .nil0, (.v (.s (.int .i64 0))), .nil0, (.v (.s (.int .i64 0))), .nil0, (.v (.s (.int .i64 0)))]),
  ao 3 5 (.mv (.k (.b false)))]
def r25_1 : List AOper := [ao 0 7 (.ld 18 true (.t 2)),
  ao 1 8 (.call (.k (.c (.fn 9 []))) [(.t 7)]),
  ao 2 9 (.un .not (.t 8)),
  ao 3 10 (.mv (.t 9)),
  ag 4 11 10 false [] (.fa 0 (.t 3)),
  ag 5 12 10 false [] (.ld 1 false (.t 11)),
  ag 6 13 10 false [] (.fa 1 (.t 2)),
  ag 7 14 10 false [] (.ld 1 false (.t 13)),
  ag 8 15 10 false [] (.bin .add (.t 14) (.k (.i 3))),
  ag 9 16 10 false [] (.call (.k (.c (.fn 52 []))) [(.t 12), (.k (.i 0)), (.t 15)]),
  ag 10 17 10 false [] (.un .not (.t 16)),
  ao 11 18 (.pick (.t 10) (.k (.b true)) (.t 17))]
def r25_2 : List AOper := [ao 0 19 (.build [(.v (.s (.int .i64 0))), (.v (.s (.int .i64 0))), (.v (.s (.int .i64 0))), (.v (.s (.int .i64 0))), (.v (.s (.int .i64 0))), .nil0, .nil0, (.v (.s (.int .i64 0))), .nil0, (.v (.s (.int .i64 0))), .nil0, (.v (.s (.int .i64 0))), .nil0, (.v (.s (.int .i64 0))), .nil0, (.v (.s (.int .i64 0))), .nil0, (.v (.s (.int .i64 0)))] []),
  an 1 (.st 18 (.t 4) (.t 19)),
  ao 2 5 (.mv (.k (.b false)))]
def c25_3 : ACode := .seq (.reg r25_2) .ret
def c25_4 : ACode := .cond (.t 18) c25_3 .skip
def c25_5 : ACode := .seq (.reg r25_1) c25_4
def r25_6 : List AOper := [ao 0 20 (.ld 18 true (.t 2)),
  ao 1 21 (.fa 0 (.t 3)),
  ao 2 22 (.ld 1 false (.t 21)),
  ao 3 23 (.call (.k (.c (.fn 33 []))) [(.t 20), (.t 22)]),
  ao 4 6 (.mv (.t 23))]
def r25_7 : List AOper := [ao 0 24 (.fa 1 (.t 3)),
  ao 1 25 (.ld 1 false (.t 24)),
  ao 2 26 (.mv (.t 6)),
  ao 3 27 (.len (.t 26)),
  ao 4 28 (.bin .sub (.t 27) (.k (.i 1))),
  ao 5 29 (.call (.k (.c (.fn 52 []))) [(.t 25), (.k (.i 0)), (.t 28)]),
  ao 6 30 (.un .not (.t 29)),
  ao 7 31 (.mv (.t 30)),
  ag 8 32 31 false [] (.mv (.t 6)),
  ag 9 33 31 false [] (.fa 1 (.t 3)),
  ag 10 34 31 false [] (.ld 1 false (.t 33)),
  ag 11 35 31 false [] (.ia 1 (.t 32) (.t 34)),
  ag 12 36 31 false [] (.ld 1 false (.t 35)),
  ag 13 37 31 false [] (.un .not (.t 36)),
  ao 14 38 (.pick (.t 31) (.k (.b true)) (.t 37))]
def r25_8 : List AOper := [ao 0 39 (.build [(.v (.s (.int .i64 0))), (.v (.s (.int .i64 0))), (.v (.s (.int .i64 0))), (.v (.s (.int .i64 0))), (.v (.s (.int .i64 0))), .nil0, .nil0, (.v (.s (.int .i64 0))), .nil0, (.v (.s (.int .i64 0))), .nil0, (.v (.s (.int .i64 0))), .nil0, (.v (.s (.int .i64 0))), .nil0, (.v (.s (.int .i64 0))), .nil0, (.v (.s (.int .i64 0)))] []),
  an 1 (.st 18 (.t 4) (.t 39)),
  ao 2 5 (.mv (.k (.b false)))]
def c25_9 : ACode := .seq (.reg r25_8) .ret
def c25_10 : ACode := .cond (.t 38) c25_9 .skip
def c25_11 : ACode := .seq (.reg r25_7) c25_10
def r25_12 : List AOper := [ao 0 40 (.ld 18 true (.t 2)),
  ao 1 41 (.call (.k (.c (.fn 48 []))) [(.t 40)]),
  an 2 (.st 18 (.t 2) (.t 41))]
def r25_13 : List AOper := [ao 0 48 (.fa 0 (.t 3)),
  ao 1 49 (.ld 1 false (.t 48)),
  ao 2 50 (.bin .eql (.t 49) (.k (.i 0))),
  ao 3 47 (.mv (.t 50))]
def r25_14 : List AOper := [ao 0 51 (.ld 18 true (.t 2)),
  ao 1 52 (.fa 1 (.t 3)),
  ao 2 53 (.ld 1 false (.t 52)),
  ao 3 54 (.call (.k (.c (.fn 53 []))) [(.t 51), (.t 53)]),
  an 4 (.st 18 (.t 2) (.t 54))]
def r25_15 : List AOper := [ao 0 56 (.fa 0 (.t 3)),
  ao 1 57 (.ld 1 false (.t 56)),
  ao 2 58 (.fa 1 (.t 2)),
  ao 3 59 (.ld 1 false (.t 58)),
  ao 4 60 (.bin .leq (.t 57) (.t 59)),
  ao 5 55 (.mv (.t 60))]
def r25_16 : List AOper := [ao 0 61 (.ld 18 true (.t 2)),
  ao 1 62 (.fa 0 (.t 3)),
  ao 2 63 (.ld 1 false (.t 62)),
  ao 3 64 (.bin .sub (.t 63) (.k (.i 1))),
  ao 4 65 (.fa 1 (.t 3)),
  ao 5 66 (.ld 1 false (.t 65)),
  ao 6 67 (.call (.k (.c (.fn 54 []))) [(.t 61), (.t 64), (.t 66)]),
  an 7 (.st 18 (.t 2) (.t 67))]
def r25_17 : List AOper := [ao 0 69 (.fa 0 (.t 3)),
  ao 1 70 (.ld 1 false (.t 69)),
  ao 2 71 (.fa 1 (.t 2)),
  ao 3 72 (.ld 1 false (.t 71)),
  ao 4 73 (.bin .add (.t 72) (.k (.i 1))),
  ao 5 74 (.bin .eql (.t 70) (.t 73)),
  ao 6 68 (.mv (.t 74))]
def r25_18 : List AOper := [ao 0 75 (.fa 7 (.t 2)),
  an 1 (.st 1 (.t 75) (.k (.i 1)))]
def r25_19 : List AOper := [ao 0 76 (.fa 16 (.t 2)),
  ao 1 77 (.ld 1 false (.t 76)),
  ao 2 78 (.ia 1 (.t 77) (.k (.i 1))),
  an 3 (.st 1 (.t 78) (.k (.i 1)))]
def r25_20 : List AOper := [ao 0 79 (.fa 17 (.t 2)),
  ao 1 80 (.ld 1 false (.t 79)),
  ao 2 81 (.bin .add (.t 80) (.k (.i 1))),
  ao 3 82 (.fa 17 (.t 2)),
  an 4 (.st 1 (.t 82) (.t 81))]
def c25_21 : ACode := .seq (.reg r25_18) (.seq (.reg r25_19) (.reg r25_20))
def r25_22 : List AOper := [ao 0 84 (.fa 0 (.t 3)),
  ao 1 85 (.ld 1 false (.t 84)),
  ao 2 86 (.fa 1 (.t 2)),
  ao 3 87 (.ld 1 false (.t 86)),
  ao 4 88 (.bin .add (.t 87) (.k (.i 2))),
  ao 5 89 (.bin .eql (.t 85) (.t 88)),
  ao 6 83 (.mv (.t 89))]
def r25_23 : List AOper := [ao 0 90 (.ld 18 true (.t 2)),
  ao 1 91 (.fa 1 (.t 3)),
  ao 2 92 (.ld 1 false (.t 91)),
  ao 3 93 (.call (.k (.c (.fn 55 []))) [(.t 90), (.t 92)]),
  an 4 (.st 18 (.t 2) (.t 93))]
def r25_24 : List AOper := [ao 0 95 (.fa 1 (.t 3)),
  ao 1 96 (.ld 1 false (.t 95)),
  ao 2 97 (.bin .eql (.t 96) (.k (.i 0))),
  ao 3 94 (.mv (.t 97))]
def r25_25 : List AOper := [ao 0 98 (.fa 14 (.t 2)),
  ao 1 99 (.ld 1 false (.t 98)),
  au 2 100 [0, 1] (.fa 12 (.t 2)),
  au 3 101 [0, 1] (.ld 1 false (.t 100)),
  au 4 102 [0, 1] (.ia 1 (.t 101) (.k (.i 0))),
  au 5 103 [0, 1] (.ld 1 false (.t 102)),
  au 6 104 [0, 1] (.bsl 1 3 [(.t 103)]),
  ao 7 105 (.app 1 3 8 (.t 99) (.t 104)),
  ao 8 106 (.fa 14 (.t 2)),
  an 9 (.st 1 (.t 106) (.t 105))]
def r25_26 : List AOper := [ao 0 107 (.bsl 1 3 []),
  ao 1 108 (.fa 12 (.t 2)),
  an 2 (.st 1 (.t 108) (.t 107))]
def r25_27 : List AOper := [ao 0 109 (.fa 17 (.t 2)),
  ao 1 110 (.ld 1 false (.t 109)),
  ao 2 111 (.bin .add (.t 110) (.k (.i 1))),
  ao 3 112 (.fa 17 (.t 2)),
  an 4 (.st 1 (.t 112) (.t 111))]
def c25_28 : ACode := .seq (.reg r25_25) (.seq (.reg r25_26) (.reg r25_27))
def r25_29 : List AOper := [ao 0 42 (.fa 13 (.t 2)),
  an 1 (.st 1 (.t 42) (.k (.i 1)))]
def r25_30 : List AOper := [ao 0 43 (.fa 17 (.t 2)),
  ao 1 44 (.ld 1 false (.t 43)),
  ao 2 45 (.bin .add (.t 44) (.k (.i 1))),
  ao 3 46 (.fa 17 (.t 2)),
  an 4 (.st 1 (.t 46) (.t 45))]
def c25_31 : ACode := .seq (.reg r25_29) (.reg r25_30)
def c25_32 : ACode := .cond (.t 94) c25_28 c25_31
def c25_33 : ACode := .seq (.reg r25_24) c25_32
def c25_34 : ACode := .cond (.t 83) (.reg r25_23) c25_33
def c25_35 : ACode := .seq (.reg r25_22) c25_34
def c25_36 : ACode := .cond (.t 68) c25_21 c25_35
def c25_37 : ACode := .seq (.reg r25_17) c25_36
def c25_38 : ACode := .cond (.t 55) (.reg r25_16) c25_37
def c25_39 : ACode := .seq (.reg r25_15) c25_38
def c25_40 : ACode := .cond (.t 47) (.reg r25_14) c25_39
def c25_41 : ACode := .seq (.reg r25_13) c25_40
def c25_42 : ACode := .block 0 c25_41
def r25_43 : List AOper := [ao 0 113 (.ld 18 true (.t 2)),
  ao 1 114 (.call (.k (.c (.fn 48 []))) [(.t 113)]),
  an 2 (.st 18 (.t 4) (.t 114)),
  ao 3 5 (.mv (.k (.b true)))]
def c25 : ACode := .seq (.reg r25_0) (.seq c25_5 (.seq (.reg r25_6) (.seq c25_11 (.seq (.reg r25_12) (.seq c25_42 (.seq (.reg r25_43) .ret))))))
def s25 : List ARes := [.cell 4 18 true, .tmp 5]
theorem ok25 : okF Tryz.prog 25 115 c25 s25 := ⟨Tryz.f25, Tryz.func25, Tryz.ntmps25, by kernel_rfl, by kernel_rfl, by kernel_rfl⟩
def UEf_1 := Bx.mk <|
  aN (uA c25.eq_1) <| aN (uR r25_0.eq_1) <| aN (uA c25_5.eq_1) <| aN (uR r25_1.eq_1) <| aN (uA c25_4.eq_1) <| aN (uA c25_3.eq_1) <| aN (uR r25_2.eq_1) <| aN (uR r25_6.eq_1) <| aN (uA c25_11.eq_1) <| aN (uR r25_7.eq_1) <| aN (uA c25_10.eq_1) <| aN (uA c25_9.eq_1) <| aN (uR r25_8.eq_1) <| aN (uR r25_12.eq_1) <| aN (uA c25_42.eq_1) <| aN (uA c25_41.eq_1) <| aN (uR r25_13.eq_1) <| aN (uA c25_40.eq_1) <| aN (uR r25_14.eq_1) <| aN (uA c25_39.eq_1) <| aN (uR r25_15.eq_1) <| aN (uA c25_38.eq_1) <| aN (uR r25_16.eq_1) <| aN (uA c25_37.eq_1) <| aN (uR r25_17.eq_1) <| aN (uA c25_36.eq_1) <| aN (uA c25_21.eq_1) <| aN (uR r25_18.eq_1) <| aN (uR r25_19.eq_1) <| aN (uR r25_20.eq_1) <| aN (uA c25_35.eq_1) <| aN (uR r25_22.eq_1) <| aN (uA c25_34.eq_1) <| aN (uR r25_23.eq_1) <| aN (uA c25_33.eq_1) <| aN (uR r25_24.eq_1) <| aN (uA c25_32.eq_1) <| aN (uA c25_28.eq_1) <| aN (uR r25_25.eq_1) <| aN (uR r25_26.eq_1) <| aN (uR r25_27.eq_1) <| aN (uA c25_31.eq_1) <| aN (uR r25_29.eq_1) <| aN (uR r25_30.eq_1) <| aN (uR r25_43.eq_1) <| s25.eq_1
set_option maxHeartbeats 2000000 in
theorem stepS_no {w : CW} {m : Mv} (h : ¬ Can w m) : ACallsF Tryz.prog 25 [tCW w, tM m] [] (.tup [.agg (cwC cw0), .one (.v (.s (.bool false)))]) := by
  obtain ⟨b, hb, C⟩ := crewOk_ok w
  refine ACallsF.intro ok25 follows fun X c0 => ?_
  simp only [RZ, reduceAdd, reduceIte, reduceEqDiff, reduceLT, reduceLeDiff, reduceCtorEq, Nat.reduceBEq, UEf_1.d]
  refine callC C rfl rfl rfl rfl ?_
  cases b with
  | false => simp only [RZ, reduceAdd, reduceIte, reduceEqDiff, reduceLT, reduceLeDiff, reduceCtorEq, Nat.reduceBEq, UEf_1.d, cw0, en_nil]
  | true =>
  have ok := hb.1 rfl
  have f := ok.form
  have hk := f.st.k
  have w3 : IntKind.i64.wrap (w.workers + 3) = w.workers + 3 := wrap64 ⟨by omega, by omega⟩
  simp only [RZ, reduceAdd, reduceIte, reduceEqDiff, reduceLT, reduceLeDiff, reduceCtorEq, Nat.reduceBEq, UEf_1.d, w3]
  by_cases h1 : 0 ≤ m.who ∧ m.who ≤ w.workers + 3
  rotate_left
  · refine callC (l6_no h1) rfl rfl rfl rfl ?_
    simp only [RZ, reduceAdd, reduceIte, reduceEqDiff, reduceLT, reduceLeDiff, reduceCtorEq, Nat.reduceBEq, UEf_1.d, w3, cw0, en_nil]
  refine callC (l6_yes h1) rfl rfl rfl rfl ?_
  simp only [RZ, reduceAdd, reduceIte, reduceEqDiff, reduceLT, reduceLeDiff, reduceCtorEq, Nat.reduceBEq, UEf_1.d, w3]
  refine callC (ways_ok f m.who h1.1 h1.2) rfl rfl rfl rfl ?_
  have hwl := ways_len w m.who
  obtain ⟨bs, hbs⟩ : ∃ bs, ways w m.who = bs := ⟨_, rfl⟩
  rw [hbs] at hwl ⊢
  have w4 : IntKind.i64.wrap ((bs.length : Int) - 1) = (bs.length : Int) - 1 := wrap64 ⟨by omega, by omega⟩
  simp only [RZ, reduceAdd, reduceIte, reduceEqDiff, reduceLT, reduceLeDiff, reduceCtorEq, Nat.reduceBEq, UEf_1.d, w3, w4]
  by_cases h2 : 0 ≤ m.way ∧ m.way ≤ (bs.length : Int) - 1
  rotate_left
  · refine callC (l6_no h2) rfl rfl rfl rfl ?_
    simp only [RZ, reduceAdd, reduceIte, reduceEqDiff, reduceLT, reduceLeDiff, reduceCtorEq, Nat.reduceBEq, UEf_1.d, w3, w4, cw0, en_nil]
  refine callC (l6_yes h2) rfl rfl rfl rfl ?_
  obtain ⟨x, hx⟩ : ∃ x, bs[m.way.toNat]? = some x := ⟨_, List.getElem?_eq_getElem (by omega)⟩
  have ex := en_at eB hx
  have gz := h2.1
  cases x with
  | true => exact absurd ⟨ok, h1, h2.1, by rw [hbs]; exact hx⟩ h
  | false => simp only [RZ, reduceAdd, reduceIte, reduceEqDiff, reduceLT, reduceLeDiff, reduceCtorEq, Nat.reduceBEq, UEf_1.d, w3, w4, ex, gz, eB, cw0, en_nil]
theorem stepW_small {w : CW} (f : Form w) : Small w := f.small
set_option maxRecDepth 8000 in
set_option maxHeartbeats 4000000 in
theorem stepS_yes {w : CW} {m : Mv} (h : Can w m) (hsm : Small (stepW w m)) : ACallsF Tryz.prog 25 [tCW w, tM m] [] (.tup [.agg (cwC (stepW w m)), .one (.v (.s (.bool true)))]) := by
  obtain ⟨b, hb, C⟩ := crewOk_ok w
  have ok := h.ok
  have f := ok.form
  have hk := f.st.k
  have hlh := f.lh
  have hls := f.ls
  have ho := f.ops0
  have ho2 := f.ops1
  have h1 := h.who
  have hwl := can_way h
  have hwl2 := ways_len w m.who
  have gz := h.way
  have ex := en_at eB h.open'
  have h2 : 0 ≤ m.way ∧ m.way ≤ ((ways w m.who).length : Int) - 1 := by omega
  have w1 : IntKind.i64.wrap (w.ops + 1) = w.ops + 1 := wrap64 ⟨by omega, by omega⟩
  have w3 : IntKind.i64.wrap (w.workers + 3) = w.workers + 3 := wrap64 ⟨by omega, by omega⟩
  have w5 : IntKind.i64.wrap (w.workers + 1) = w.workers + 1 := wrap64 ⟨by omega, by omega⟩
  have w6 : IntKind.i64.wrap (w.workers + 2) = w.workers + 2 := wrap64 ⟨by omega, by omega⟩
  have w7 : IntKind.i64.wrap (m.who - 1) = m.who - 1 := wrap64 ⟨by omega, by omega⟩
  refine ACallsF.intro ok25 follows fun X c0 => ?_
  simp only [RZ, reduceAdd, reduceIte, reduceEqDiff, reduceLT, reduceLeDiff, reduceCtorEq, Nat.reduceBEq, UEf_1.d]
  refine callC C rfl rfl rfl rfl ?_
  cases b with
  | false => cases hb.2 ok
  | true =>
  simp only [RZ, reduceAdd, reduceIte, reduceEqDiff, reduceLT, reduceLeDiff, reduceCtorEq, Nat.reduceBEq, UEf_1.d, w3]
  refine callC (l6_yes h1) rfl rfl rfl rfl ?_
  simp only [RZ, reduceAdd, reduceIte, reduceEqDiff, reduceLT, reduceLeDiff, reduceCtorEq, Nat.reduceBEq, UEf_1.d, w3]
  refine callC (ways_ok f m.who h1.1 h1.2) rfl rfl rfl rfl ?_
  have w4 : IntKind.i64.wrap (((ways w m.who).length : Int) - 1) = ((ways w m.who).length : Int) - 1 := wrap64 ⟨by omega, by omega⟩
  simp only [RZ, reduceAdd, reduceIte, reduceEqDiff, reduceLT, reduceLeDiff, reduceCtorEq, Nat.reduceBEq, UEf_1.d, w3, w4]
  refine callC (l6_yes h2) rfl rfl rfl rfl ?_
  simp only [RZ, reduceAdd, reduceIte, reduceEqDiff, reduceLT, reduceLeDiff, reduceCtorEq, Nat.reduceBEq, UEf_1.d, w3, w4, ex, gz, eB]
  refine callW7 (m := 2000) (ws := []) (ns := []) (copy_ok f.small 2000) rfl rfl rfl (by decide) ⟨rfl, ?_⟩
  by_cases c0 : m.who = 0
  · have k0 := eqb c0
    have e : stepW w m = doR w m.way := by rw [stepW, if_pos c0]
    rw [e] at hsm ⊢
    simp only [RZ, reduceAdd, reduceIte, reduceEqDiff, reduceLT, reduceLeDiff, reduceCtorEq, Nat.reduceBEq, UEf_1.d, k0]
    refine callDo (m := 2000) (doR_ok f m.way) rfl rfl rfl rfl rfl rfl rfl rfl rfl rfl ⟨rfl, ?_⟩
    simp only [RZ, reduceAdd, reduceIte, reduceEqDiff, reduceLT, reduceLeDiff, reduceCtorEq, Nat.reduceBEq, UEf_1.d, k0]
    refine callW7 (m := 5000) (ws := []) (ns := []) (copy_ok hsm 5000) rfl rfl rfl (by decide) ⟨rfl, ?_⟩
    simp only [RZ, reduceAdd, reduceIte, reduceEqDiff, reduceLT, reduceLeDiff, reduceCtorEq, Nat.reduceBEq, UEf_1.d, k0, en_len]
  have k0 := neqb c0
  by_cases c1 : m.who ≤ w.workers
  · have e : stepW w m = doH w (m.who - 1).toNat m.way := by rw [stepW, if_neg c0, if_pos c1]
    rw [e] at hsm ⊢
    obtain ⟨i, hi⟩ : ∃ i : Nat, m.who - 1 = i := ⟨(m.who - 1).toNat, by omega⟩
    have hcan := can_H h c0 c1
    rw [hi, Int.toNat_natCast] at hcan hsm ⊢
    rw [hi] at w7
    simp only [RZ, reduceAdd, reduceIte, reduceEqDiff, reduceLT, reduceLeDiff, reduceCtorEq, Nat.reduceBEq, UEf_1.d, k0, c1, hi, w7]
    refine callDo (m := 2000) (doH_ok f i (by omega) m.way hcan) rfl rfl rfl rfl rfl rfl rfl rfl rfl rfl ⟨rfl, ?_⟩
    simp only [RZ, reduceAdd, reduceIte, reduceEqDiff, reduceLT, reduceLeDiff, reduceCtorEq, Nat.reduceBEq, UEf_1.d, k0, c1]
    refine callW7 (m := 5000) (ws := []) (ns := []) (copy_ok hsm 5000) rfl rfl rfl (by decide) ⟨rfl, ?_⟩
    simp only [RZ, reduceAdd, reduceIte, reduceEqDiff, reduceLT, reduceLeDiff, reduceCtorEq, Nat.reduceBEq, UEf_1.d, k0, c1, en_len]
  by_cases c2 : m.who = w.workers + 1
  · have k2 := eqb c2
    have e : stepW w m = doC w := by rw [stepW, if_neg c0, if_neg c1, if_pos c2]
    rw [e] at hsm ⊢
    have s1 := en_at eI (sh_at f (i := 1) (by omega))
    have g1 : (1 : Int) < (w.shut.length : Int) := by omega
    simp only [RZ, reduceAdd, reduceIte, reduceEqDiff, reduceLT, reduceLeDiff, reduceCtorEq, Nat.reduceBEq, UEf_1.d, k0, c1, w5, k2, s1, g1, eI, w1, SNT]
    refine callW7 (m := 5000) (w := doC w) (copy_ok hsm 5000) rfl (by simp only [RUX, Nat.reduceAdd, reduceIte, Nat.reduceEqDiff, Nat.reduceLT, Nat.reduceLeDiff, reduceCtorEq, eq_self, FIX, forall_const, endE_n, endE_r, APT, APX, forall_eq, ALT, KI, lendTs, lendT, SNT, List.map_cons, List.map_nil]; rfl) rfl (by decide) ⟨?_, ?_⟩
    · rfl
    simp only [RZ, reduceAdd, reduceIte, reduceEqDiff, reduceLT, reduceLeDiff, reduceCtorEq, Nat.reduceBEq, UEf_1.d, k0, c1, en_len]
  have k2 := neqb c2
  by_cases c3 : m.who = w.workers + 2
  · have k3 := eqb c3
    have e : stepW w m = doK w m.way := by rw [stepW, if_neg c0, if_neg c1, if_neg c2, if_pos c3]
    rw [e] at hsm ⊢
    simp only [RZ, reduceAdd, reduceIte, reduceEqDiff, reduceLT, reduceLeDiff, reduceCtorEq, Nat.reduceBEq, UEf_1.d, k0, c1, w5, k2, w6, k3]
    refine callDo (m := 2000) (doK_ok f m.way (can_K h c3)) rfl rfl rfl rfl rfl rfl rfl rfl rfl rfl ⟨rfl, ?_⟩
    simp only [RZ, reduceAdd, reduceIte, reduceEqDiff, reduceLT, reduceLeDiff, reduceCtorEq, Nat.reduceBEq, UEf_1.d, k0, c1]
    refine callW7 (m := 5000) (ws := []) (ns := []) (copy_ok hsm 5000) rfl rfl rfl (by decide) ⟨rfl, ?_⟩
    simp only [RZ, reduceAdd, reduceIte, reduceEqDiff, reduceLT, reduceLeDiff, reduceCtorEq, Nat.reduceBEq, UEf_1.d, k0, c1, en_len]
  have k3 := neqb c3
  have e : stepW w m = doU w m.way := by rw [stepW, if_neg c0, if_neg c1, if_neg c2, if_neg c3]
  rw [e] at hsm ⊢
  by_cases c4 : m.way = 0
  · have k4 := eqb c4
    have hou := can_U h (by omega) c4
    have e0 := q_at hou
    have g1 : (0 : Int) < (w.out.length : Int) := by omega
    have hgl := f.small.t
    have q1 : (w.got.length + 1) * 8 ≤ 140737488355328 := by omega
    have q2 : w.got.length + 1 ≤ 9223372036854775807 := by omega
    have e2 : doU w m.way = { w with got := w.got ++ [w.out.getD 0 0], out := [], ops := w.ops + 1 } := by rw [doU, if_pos c4]
    rw [e2] at hsm ⊢
    simp only [RZ, reduceAdd, reduceIte, reduceEqDiff, reduceLT, reduceLeDiff, reduceCtorEq, Nat.reduceBEq, UEf_1.d, k0, c1, w5, k2, w6, k3, k4, e0, g1, eI, q1, q2, w1, SNT]
    refine callW7 (m := 5000) (w := { w with got := w.got ++ [w.out.getD 0 0], out := [], ops := w.ops + 1 }) (copy_ok hsm 5000) rfl (by simp only [RUX, Nat.reduceAdd, reduceIte, Nat.reduceEqDiff, Nat.reduceLT, Nat.reduceLeDiff, reduceCtorEq, eq_self, FIX, forall_const, endE_n, endE_r, APT, APX, forall_eq, ALT, KI, lendTs, lendT, SNT, List.map_cons, List.map_nil]; rfl) rfl (by decide) ⟨?_, ?_⟩
    · rfl
    simp only [RZ, reduceAdd, reduceIte, reduceEqDiff, reduceLT, reduceLeDiff, reduceCtorEq, Nat.reduceBEq, UEf_1.d, k0, c1, en_len, en_nil, SNT]
  have k4 := neqb c4
  have e2 : doU w m.way = { w with user := 1, ops := w.ops + 1 } := by rw [doU, if_neg c4]
  rw [e2] at hsm ⊢
  simp only [RZ, reduceAdd, reduceIte, reduceEqDiff, reduceLT, reduceLeDiff, reduceCtorEq, Nat.reduceBEq, UEf_1.d, k0, c1, w5, k2, w6, k3, k4, w1]
  refine callW7 (m := 5000) (w := { w with user := 1, ops := w.ops + 1 }) (copy_ok hsm 5000) rfl (by simp only [RUX, Nat.reduceAdd, reduceIte, Nat.reduceEqDiff, Nat.reduceLT, Nat.reduceLeDiff, reduceCtorEq, eq_self, FIX, forall_const, endE_n, endE_r, APT, APX, forall_eq, ALT, KI, lendTs, lendT, SNT, List.map_cons, List.map_nil]; rfl) rfl (by decide) ⟨?_, ?_⟩
  · rfl
  simp only [RZ, reduceAdd, reduceIte, reduceEqDiff, reduceLT, reduceLeDiff, reduceCtorEq, Nat.reduceBEq, UEf_1.d, k0, c1, en_len]
end Go.V

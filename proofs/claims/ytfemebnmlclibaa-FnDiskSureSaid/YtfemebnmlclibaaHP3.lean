/- It is proved that the law FnDiskDo returns true for every input and leaves its input as it was; no condition. -/
import Derived.Test.YtfemebnmlclibaaHP2
set_option linter.unusedSimpArgs false
namespace Go.V
open Go.Proofs
/-- A call that cuts an array of the caller's. -/
theorem callCut {P : Program} {t : Nat → T} {H : HMap} {c : Nat} {f : Opd} {args : List Opd} {fid : FuncId} {n m v N N' st : Nat} {ty : TypeId} {es es' : List (List V)} {x y : T} {k : Nat} {d : Option Nat} {un : List Nat} {l : List AOper} {prev : List (Nat × List Nat × List Nat)} {K : St → Prop}
    (hC : ACallsF P fid [.c (.own n v N), x, y] [arH n m v st ty es es'] (.c (.own n v N'))) (hf : ev t f = .pt (.one (.fn fid []))) (hl : args.map (ev t) = [.c (.own m v N), x, y]) (hH : H m = some (.arr v true st ty es)) (hx : closedA x = true) (hy : closedA y = true)
    (hk : chk prev un ⟨.c (.own m v N'), [(m, .arr v true st ty es')], [m], [m]⟩ = true ∧ DRun P l ((k, [m], [m]) :: prev) K ⟨updD t d (.c (.own m v N')), upd H m (some (.arr v true st ty es')), c⟩) :
    step P k d un (.call f args) l prev K t H c := by
  have hN : renN [arH n m v st ty es es'] n = some (arH n m v st ty es es') := by simp [renN]
  obtain ⟨x1, x2⟩ := closed_A [arH n m v st ty es es'] H x hx
  obtain ⟨y1, y2⟩ := closed_A [arH n m v st ty es es'] H y hy
  refine callW (caps := []) («as» := [.c (.own m v N), x, y]) (ws := []) (ns := []) (r' := .c (.own m v N')) (ob := [(m, .arr v true st ty es')]) [arH n m v st ty es es'] hC hf ?_ ?_ ⟨?_, trivial⟩ (by simp) (by simp) ?_ ?_ ?_
  · rw [hl]
    have a1 : lendT H (T.c (.own n v N)) (T.c (.own m v N)) = some (T.c (.own m v N), [], []) := rfl
    simp only [List.map_nil, List.append_nil, lendTs, a1, x1, y1]
  · have a1 : renIT [arH n m v st ty es es'] (T.c (.own n v N)) = some (T.c (.own m v N)) := by simp only [T.c, renIT, renI, inN, hN, Option.bind_some, Option.map_some]
    simp only [renITs, a1, x2, y2]
  · show (match renIB [arH n m v st ty es es'] (.arr v true st ty es) with | some B => (updH H []) m = some B | none => False)
    simp only [renIB, updH]
    exact hH
  · simp only [T.c, renOT, renOP, renO, hN, Option.map_some, verOf, if_true, Blk.ver]
  · simp only [renOBs, renOB, verOf, if_true, Blk.ver]
  · have hq : quiet (.c (.own n v N')) [arH n m v st ty es es'] = false := by simp [quiet]
    simpa [hq, updH] using hk
/-- Names without the first that is this. -/
def er (ns : List ByteArray) (nm : ByteArray) : List ByteArray := match ns.findIdx? fun x => decide (x = nm) with
  | some i => del ns i
  | none => ns
theorem er_at {ns : List ByteArray} {nm : ByteArray} {i : Nat} (h : ix ns nm = i) : er ns nm = del ns i := by
  cases hq : ns.findIdx? fun x => decide (x = nm) with
  | none => simp only [ix, hq] at h; omega
  | some j => simp only [ix, hq] at h; simp only [er, hq]; congr 1; omega
theorem er_no {ns : List ByteArray} {nm : ByteArray} (h : ix ns nm = -1) : er ns nm = ns := by
  cases hq : ns.findIdx? fun x => decide (x = nm) with
  | none => simp only [er, hq]
  | some j => simp only [ix, hq] at h; omega
theorem er_len (ns : List ByteArray) (nm : ByteArray) : (er ns nm).length ≤ ns.length := by
  unfold er
  split
  · simp [del]; omega
  · exact Nat.le_refl _
def stI (p : List ByteArray × List ByteArray) (m : DM) : List ByteArray × List ByteArray :=
  if m.gone then (match p.1.findIdx? fun x => decide (x = m.name) with | some i => (del p.1 i, [zS] ++ p.2) | none => p) else (p.1 ++ [m.name], [])
def runI (ns : List ByteArray) (ms : List DM) : List ByteArray × List ByteArray := ms.foldl stI (ns, [])
abbrev nmI (ns : List ByteArray) (ms : List DM) : List ByteArray := (runI ns ms).1
theorem runI_take (ns : List ByteArray) {ms : List DM} {i : Nat} {m : DM} (h : ms[i]? = some m) : runI ns (ms.take (i + 1)) = stI (runI ns (ms.take i)) m := by
  rw [List.take_add_one, h, runI, List.foldl_append]; rfl
theorem stI_made (p : List ByteArray × List ByteArray) {m : DM} (h : m.gone = false) : stI p m = (p.1 ++ [m.name], []) := by unfold stI; rw [h]; rfl
theorem stI_at (p : List ByteArray × List ByteArray) {m : DM} (h : m.gone = true) {i : Nat} (hi : ix p.1 m.name = i) : stI p m = (del p.1 i, [zS] ++ p.2) := by
  unfold ix at hi
  unfold stI
  rw [h, if_pos rfl]
  split at hi
  · rename_i j hj; rw [hj]; have : j = i := by omega
    rw [this]
  · exact absurd hi (by omega)
theorem stI_no (p : List ByteArray × List ByteArray) {m : DM} (h : m.gone = true) (hi : ix p.1 m.name = -1) : stI p m = p := by
  unfold ix at hi
  unfold stI
  rw [h, if_pos rfl]
  split at hi
  · exact absurd hi (by omega)
  · rename_i hj; rw [hj]
theorem nmI_take (ns : List ByteArray) {ms : List DM} {i : Nat} {m : DM} (h : ms[i]? = some m) : nmI ns (ms.take (i + 1)) = if m.gone then er (nmI ns (ms.take i)) m.name else nmI ns (ms.take i) ++ [m.name] := by
  unfold nmI
  rw [runI_take ns h]
  cases hg : m.gone with
  | false => rw [stI_made _ hg]; rfl
  | true =>
    rcases ix_case (runI ns (ms.take i)).1 m.name with ⟨k, h1, _, _⟩ | ⟨h1, _⟩
    · rw [stI_at _ hg h1, if_pos rfl, er_at h1]
    · rw [stI_no _ hg h1, if_pos rfl, er_no h1]
theorem nmI_len (ns : List ByteArray) (ms : List DM) : ∀ i, i ≤ ms.length → (nmI ns (ms.take i)).length ≤ ns.length + i
  | 0, _ => Nat.le_refl _
  | i + 1, h => by
    obtain ⟨m, hm⟩ : ∃ m, ms[i]? = some m := ⟨_, List.getElem?_eq_getElem h⟩
    have := nmI_len ns ms i (by omega)
    rw [nmI_take ns hm]
    split
    · have h2 := er_len (nmI ns (ms.take i)) m.name; omega
    · rw [List.length_append, List.length_singleton]; omega
theorem en_take2 {α : Type} (f : α → List V) (xs ys : List α) : List.take xs.length (en f (xs ++ ys)) = en f xs := by
  rw [en_app, List.take_append_of_le_length (by rw [en_len]; exact Nat.le_refl _), en_take]
/- (loop.example/teagle/impl.Disk).names -/
def r38_0 : List AOper := [ao 0 2 (.box 27 (.t 0)),
  ao 1 4 (.mv (.k (.c .nil0)))]
def r38_1 : List AOper := [ao 0 9 (.fa 1 (.t 2)),
  ao 1 10 (.ld 1 false (.t 9)),
  ao 2 11 (.call (.k (.c (.fn 36 []))) [(.t 10)]),
  ao 3 5 (.mv (.t 11))]
def r38_2 : List AOper := [ao 0 12 (.fa 2 (.t 2)),
  ao 1 13 (.ld 1 false (.t 12)),
  ao 2 14 (.mv (.t 1)),
  ao 3 15 (.slc 2 (.t 13) none (some (.t 14))),
  ao 4 16 (.len (.t 15)),
  ao 5 17 (.mv (.k (.i 0)))]
def r38_3 : List AOper := [ao 0 18 (.bin .lss (.t 17) (.t 16))]
def c38_4 : ACode := .cond (.t 18) .skip (.exit 0)
def r38_5 : List AOper := [ao 0 19 (.ia 2 (.t 15) (.t 17)),
  ao 1 20 (.ld 2 true (.t 19)),
  ao 2 7 (.alloc 60 [(.v (.s (.bool false))), (.v (.s (.string ⟨#[]⟩)))]),
  an 3 (.st 2 (.t 7) (.t 20))]
def r38_6 : List AOper := [ao 0 21 (.fa 0 (.t 7)),
  ao 1 22 (.ld 1 false (.t 21)),
  ao 2 23 (.un .not (.t 22))]
def r38_7 : List AOper := [ao 0 24 (.mv (.t 5)),
  ao 1 25 (.fa 1 (.t 7)),
  ao 2 26 (.ld 1 false (.t 25)),
  ao 3 27 (.bsl 1 9 [(.t 26)]),
  ao 4 28 (.app 1 9 16 (.t 24) (.t 27)),
  ao 5 5 (.mv (.t 28))]
def c38_8 : ACode := .seq (.reg r38_7) (.exit 1)
def c38_9 : ACode := .cond (.t 23) c38_8 .skip
def c38_10 : ACode := .seq (.reg r38_6) c38_9
def r38_11 : List AOper := [ao 0 29 (.mv (.t 5)),
  ao 1 30 (.fa 1 (.t 7)),
  ao 2 31 (.ld 1 false (.t 30)),
  ao 3 32 (.call (.k (.c (.fn 55 []))) [(.t 29), (.t 31)]),
  ao 4 8 (.mv (.t 32))]
def r38_12 : List AOper := [ao 0 33 (.mv (.t 8)),
  ao 1 34 (.bin .geq (.t 33) (.k (.i 0)))]
def r38_13 : List AOper := [ao 0 35 (.mv (.t 5)),
  ao 1 36 (.mv (.t 8)),
  ao 2 37 (.mv (.t 8)),
  ao 3 38 (.bin .add (.t 37) (.k (.i 1))),
  ao 4 39 (.call (.k (.c (.fn 56 []))) [(.t 35), (.t 36), (.t 38)]),
  ao 5 5 (.mv (.t 39))]
def c38_14 : ACode := .cond (.t 34) (.reg r38_13) .skip
def c38_15 : ACode := .seq (.reg r38_5) (.seq c38_10 (.seq (.reg r38_11) (.seq (.reg r38_12) c38_14)))
def c38_16 : ACode := .block 1 c38_15
def r38_17 : List AOper := [ao 0 40 (.bin .add (.t 17) (.k (.i 1))),
  ao 1 17 (.mv (.t 40))]
def c38_18 : ACode := .seq (.reg r38_3) (.seq c38_4 (.seq c38_16 (.reg r38_17)))
def c38_19 : ACode := .loop c38_18
def c38_20 : ACode := .block 0 c38_19
def c38_21 : ACode := .seq (.reg r38_2) c38_20
def r38_22 : List AOper := [ao 0 41 (.mv (.t 5)),
  ao 1 4 (.mv (.t 41))]
def c38 : ACode := .seq (.reg r38_0) (.seq (.reg r38_1) (.seq c38_21 (.seq (.reg r38_22) .ret)))
def s38 : List ARes := [.tmp 4]
theorem ok38 : okF Try.prog 38 42 c38 s38 := ⟨Try.f38, Try.func38, Try.ntmps38, by kernel_rfl, by kernel_rfl, by kernel_rfl⟩
def inv38 (d : Dk) (n : Nat) (i : Nat) (σ : St) : Prop := σ.t 15 = tL (en eM (d.moves.take n)) ∧ σ.t 16 = .i n ∧ σ.t 17 = .i i ∧ ∃ v, σ.t 5 = .c (.own 5 v (runI d.names (d.moves.take i)).1.length) ∧ σ.H 5 = some (.arr v true 1 9 (en eS ((runI d.names (d.moves.take i)).1 ++ (runI d.names (d.moves.take i)).2)))
def UPn_1 := Bx.mk <|
  aN (uA c38.eq_1) <| aN (uR r38_0.eq_1) <| aN (uR r38_1.eq_1) <| aN (uA c38_21.eq_1) <| aN (uR r38_2.eq_1) <| aN (uA c38_20.eq_1) <| aN (uA c38_19.eq_1) <| aN (uR r38_22.eq_1) <| s38.eq_1
def UPn_3 := Bx.mk <|
  aN (uA c38_18.eq_1) <| aN (uR r38_3.eq_1) <| aN (uA c38_4.eq_1) <| aN (uA c38_16.eq_1) <| aN (uA c38_15.eq_1) <| aN (uR r38_5.eq_1) <| aN (uA c38_10.eq_1) <| aN (uR r38_6.eq_1) <| aN (uA c38_9.eq_1) <| aN (uA c38_8.eq_1) <| aN (uR r38_7.eq_1) <| aN (uR r38_11.eq_1) <| aN (uR r38_12.eq_1) <| aN (uA c38_14.eq_1) <| aN (uR r38_13.eq_1) <| aN (uR r38_17.eq_1) <| aN (uA c38.eq_1) <| aN (uR r38_0.eq_1) <| aN (uR r38_1.eq_1) <| aN (uA c38_21.eq_1) <| aN (uR r38_2.eq_1) <| aN (uA c38_20.eq_1) <| aN (uA c38_19.eq_1) <| aN (uR r38_22.eq_1) <| s38.eq_1
theorem namesI_ok (d : Dk) (hd : smallDk d) (n : Nat) (hn : n ≤ d.moves.length) (m : Nat) : ACallsF Try.prog 38 [tDk d, .i n] [newH 5 m 1 9 (en eS (nmI d.names (d.moves.take n) ++ (runI d.names (d.moves.take n)).2))] (.c (.own 5 0 (nmI d.names (d.moves.take n)).length)) := by
  have h1 := hd.n
  have h2 := hd.m
  have hl0 : (d.moves.take n).length = n := by rw [List.length_take]; omega
  have g1 : (0 : Int) ≤ n := by omega
  have g2 : (n : Int) ≤ d.moves.length := by omega
  refine ACallsF.intro ok38 follows fun X c0 => ?_
  simp only [RUX, Nat.reduceAdd, reduceIte, Nat.reduceEqDiff, Nat.reduceLT, Nat.reduceLeDiff, reduceCtorEq, eq_self, FIX, forall_const, endE_n, endE_r, CHT, disj, Nat.reduceBEq, beq_self_eq_true, APT, APX, forall_eq, ALT, UPn_1.d]
  refine callA1 (m := 5) (ws := []) (ns := []) (cloneS_ok d.names (by omega) 5) rfl rfl rfl (en_flat eS eS_flat _) ⟨rfl, ?_⟩
  simp only [RUX, Nat.reduceAdd, reduceIte, Nat.reduceEqDiff, Nat.reduceLT, Nat.reduceLeDiff, reduceCtorEq, eq_self, FIX, forall_const, endE_n, endE_r, CHT, disj, Nat.reduceBEq, beq_self_eq_true, APT, APX, forall_eq, ALT, UPn_1.d, lohi, g1, g2, Int.le_refl, Int.toNat_zero, List.drop_zero, Nat.sub_zero, en_cut, hl0]
  refine AW.upto n (inv38 d n) ?_ fun i t H c hi h => ?_
  · unfold inv38
    have e0 : runI d.names (d.moves.take 0) = (d.names, []) := rfl
    rw [e0, List.append_nil]
    exact ⟨rfl, rfl, rfl, _, rfl, rfl⟩
  obtain ⟨e15, e16, e17, v, e5, eH⟩ := h
  simp only [T.c, T.i, T.s, tL] at e15 e16 e17 e5 eH
  by_cases hlt : i < n
  · obtain ⟨x, hx⟩ : ∃ x, d.moves[i]? = some x := ⟨_, List.getElem?_eq_getElem (by omega)⟩
    have hx2 : (d.moves.take n)[i]? = some x := by rw [List.getElem?_take, if_pos hlt]; exact hx
    have ex := en_at eM hx2
    have k1 : (i : Int) < n := by omega
    have gz : (0 : Int) ≤ i := by omega
    have gw : IntKind.i64.wrap ((i : Int) + 1) = ((i + 1 : Nat) : Int) := wrap64 (x := (i : Int) + 1) ⟨by omega, by omega⟩
    have hr := runI_take d.names hx
    have hwl := nmI_len d.names d.moves i (by omega)
    unfold nmI at hwl
    generalize hp : runI d.names (d.moves.take i) = p at *
    obtain ⟨ns, rest⟩ := p
    simp only at hwl e5 eH
    have q3 : (ns.length + 1) * 16 ≤ 140737488355328 := by omega
    have q4 : ns.length + 1 ≤ 9223372036854775807 := by omega
    have ht2 := en_take2 eS ns rest
    have hle : ns.length ≤ ns.length + rest.length := by omega
    cases hg : x.gone with
    | false =>
      rw [stI_made _ hg] at hr
      simp only [RUX, Nat.reduceAdd, reduceIte, Nat.reduceEqDiff, Nat.reduceLT, Nat.reduceLeDiff, reduceCtorEq, eq_self, FIX, forall_const, endE_n, endE_r, CHT, disj, Nat.reduceBEq, beq_self_eq_true, APT, APX, forall_eq, ALT, UPn_3.d, e15, e16, e17, e5, eH, en_len, k1, gz, ex, eM, hg, gw, q3, q4, ht2, hle]
      unfold inv38
      rw [hr, List.append_nil, en_snoc, List.length_append]
      exact ⟨hlt, e15, e16, rfl, _, rfl, rfl⟩
    | true =>
      simp only [RUX, Nat.reduceAdd, reduceIte, Nat.reduceEqDiff, Nat.reduceLT, Nat.reduceLeDiff, reduceCtorEq, eq_self, FIX, forall_const, endE_n, endE_r, CHT, disj, Nat.reduceBEq, beq_self_eq_true, APT, APX, forall_eq, ALT, UPn_3.d, e15, e16, e17, e5, eH, en_len, k1, gz, ex, eM, hg]
      refine callL (ws := [(5, .arr v false 1 9 (en eS (ns ++ rest)))]) (ns := [5]) (index_ok ns x.name (by omega)) rfl ?_ rfl rfl ⟨?_, ?_⟩
      · simp only [RUX, Nat.reduceAdd, reduceIte, Nat.reduceEqDiff, Nat.reduceLT, Nat.reduceLeDiff, reduceCtorEq, eq_self, FIX, forall_const, endE_n, endE_r, CHT, disj, Nat.reduceBEq, beq_self_eq_true, APT, APX, forall_eq, ALT, UPn_3.d, lendTs, lendT, e5, eH, ht2, hle]
      · simp only [RUX, Nat.reduceAdd, reduceIte, Nat.reduceEqDiff, Nat.reduceLT, Nat.reduceLeDiff, reduceCtorEq, eq_self, FIX, forall_const, endE_n, endE_r, CHT, disj, Nat.reduceBEq, beq_self_eq_true, APT, APX, forall_eq, ALT, UPn_3.d, scalarT, scalarP, scalarC]
      rcases ix_case ns x.name with ⟨k, a1, a2, a3⟩ | ⟨a1, a2⟩
      · have hkl := (List.getElem?_eq_some_iff.1 a2).1
        have gk : (0 : Int) ≤ k := by omega
        have gw2 : IntKind.i64.wrap ((k : Int) + 1) = ((k + 1 : Nat) : Int) := wrap64 (x := (k : Int) + 1) ⟨by omega, by omega⟩
        rw [stI_at _ hg a1] at hr
        simp only [RUX, Nat.reduceAdd, reduceIte, Nat.reduceEqDiff, Nat.reduceLT, Nat.reduceLeDiff, reduceCtorEq, eq_self, FIX, forall_const, endE_n, endE_r, CHT, disj, Nat.reduceBEq, beq_self_eq_true, APT, APX, forall_eq, ALT, UPn_3.d, scalarT, scalarP, scalarC, a1, ge_iff_le, gk, gw2, e5]
        refine callCut (m := 5) (delete_ok ns rest k hkl 5 5 v) rfl rfl eH rfl rfl ⟨?_, ?_⟩
        · simp only [RUX, Nat.reduceAdd, reduceIte, Nat.reduceEqDiff, Nat.reduceLT, Nat.reduceLeDiff, reduceCtorEq, eq_self, FIX, forall_const, endE_n, endE_r, CHT, disj, Nat.reduceBEq, beq_self_eq_true, APT, APX, forall_eq, ALT, UPn_3.d]
        simp only [RUX, Nat.reduceAdd, reduceIte, Nat.reduceEqDiff, Nat.reduceLT, Nat.reduceLeDiff, reduceCtorEq, eq_self, FIX, forall_const, endE_n, endE_r, CHT, disj, Nat.reduceBEq, beq_self_eq_true, APT, APX, forall_eq, ALT, UPn_3.d, e17, gw]
        unfold inv38
        rw [hr]
        exact ⟨hlt, e15, e16, rfl, _, rfl, rfl⟩
      · have gk : ¬ (0 : Int) ≤ -1 := by omega
        rw [stI_no _ hg a1] at hr
        simp only [RUX, Nat.reduceAdd, reduceIte, Nat.reduceEqDiff, Nat.reduceLT, Nat.reduceLeDiff, reduceCtorEq, eq_self, FIX, forall_const, endE_n, endE_r, CHT, disj, Nat.reduceBEq, beq_self_eq_true, APT, APX, forall_eq, ALT, UPn_3.d, scalarT, scalarP, scalarC, a1, ge_iff_le, gk, e17, gw]
        unfold inv38
        rw [hr]
        exact ⟨hlt, e15, e16, rfl, v, e5, eH⟩
  · have k1 : ¬ (i : Int) < n := by omega
    have hi2 : i = n := by omega
    subst hi2
    simp only [RUX, Nat.reduceAdd, reduceIte, Nat.reduceEqDiff, Nat.reduceLT, Nat.reduceLeDiff, reduceCtorEq, eq_self, FIX, forall_const, endE_n, endE_r, CHT, disj, Nat.reduceBEq, beq_self_eq_true, APT, APX, forall_eq, ALT, UPn_3.d, UPn_1.d, e15, e16, e17, e5, eH, k1, imp_self]
/- (loop.example/teagle/impl.Disk).there -/
def r44_0 : List AOper := [ao 0 1 (.box 27 (.t 0)),
  ao 1 2 (.mv (.k (.c .nil0)))]
def r44_1 : List AOper := [ao 0 3 (.ld 3 true (.t 1)),
  ao 1 4 (.fa 2 (.t 1)),
  ao 2 5 (.ld 1 false (.t 4)),
  ao 3 6 (.len (.t 5)),
  ao 4 7 (.call (.k (.c (.fn 38 []))) [(.t 3), (.t 6)]),
  ao 5 2 (.mv (.t 7))]
def c44 : ACode := .seq (.reg r44_0) (.seq (.reg r44_1) .ret)
def s44 : List ARes := [.tmp 2]
theorem ok44 : okF Try.prog 44 8 c44 s44 := ⟨Try.f44, Try.func44, Try.ntmps44, by kernel_rfl, by kernel_rfl, by kernel_rfl⟩
def UPn_2 := Bx.mk <|
  aN (uA c44.eq_1) <| aN (uR r44_0.eq_1) <| aN (uR r44_1.eq_1) <| s44.eq_1
theorem there_ok (d : Dk) (hd : smallDk d) (m : Nat) : ACallsF Try.prog 44 [tDk d] [newH 1009 m 1 9 (en eS (nmI d.names d.moves ++ (runI d.names d.moves).2))] (.c (.own 1009 0 (nmI d.names d.moves).length)) := by
  have hA := namesI_ok d hd d.moves.length (Nat.le_refl _) 1009
  rw [List.take_length] at hA
  refine ACallsF.intro ok44 follows fun X c0 => ?_
  simp only [RUX, Nat.reduceAdd, reduceIte, Nat.reduceEqDiff, Nat.reduceLT, Nat.reduceLeDiff, reduceCtorEq, eq_self, FIX, forall_const, endE_n, endE_r, CHT, disj, Nat.reduceBEq, beq_self_eq_true, APT, APX, forall_eq, ALT, UPn_2.d]
  refine callA1 (m := 1009) (ws := []) (ns := []) hA rfl rfl rfl (en_flat eS eS_flat _) ⟨rfl, ?_⟩
  simp only [RUX, Nat.reduceAdd, reduceIte, Nat.reduceEqDiff, Nat.reduceLT, Nat.reduceLeDiff, reduceCtorEq, eq_self, FIX, forall_const, endE_n, endE_r, CHT, disj, Nat.reduceBEq, beq_self_eq_true, APT, APX, forall_eq, ALT, UPn_2.d, imp_self]
end Go.V
set_option linter.unusedSimpArgs false
namespace Go.V
open Go.Proofs
/-- As callL, where an argument may be a function. -/
theorem callLf {P : Program} {t : Nat → T} {H : HMap} {c : Nat} {f : Opd} {args : List Opd} {fid : FuncId} {argsC : List T} {ws : List (Nat × Blk)} {ns : List Nat} {r : T} {k : Nat} {d : Option Nat} {un : List Nat} {l : List AOper} {prev : List (Nat × List Nat × List Nat)} {K : St → Prop}
    (hC : ACallsF P fid argsC [] r) (hf : ev t f = .pt (.one (.fn fid []))) (hl : lendTs H argsC (args.map (ev t)) = some (argsC, ws, ns)) (ha : renITs [] argsC = some argsC) (hr : closedT r = true)
    (hk : chk prev un ⟨r, (if scalarT r then [] else ws), ns, (if scalarT r then [] else ns)⟩ = true ∧ DRun P l ((k, ns, if scalarT r then [] else ns) :: prev) K ⟨updD t d r, updH H (if scalarT r then [] else ws), c⟩) :
    step P k d un (.call f args) l prev K t H c := by
  refine callW (caps := []) [] hC hf (by simpa using hl) ha trivial (by simp) (by simp) (closed_T [] r hr _) rfl ?_
  simpa [quiet, closed_flat r hr] using hk
theorem er_wo {ns : List ByteArray} (h : ns.Nodup) (nm : ByteArray) : er ns nm = wo nm ns := by
  have self : ∀ l : List ByteArray, nm ∉ l → wo nm l = l := fun l hl => List.filter_eq_self.2 fun x hx => by
    have : x ≠ nm := fun e => hl (e ▸ hx)
    simpa using this
  rcases ix_case ns nm with ⟨i, h1, h2, h3⟩ | ⟨h1, h2⟩
  · rw [er_at h1]
    have hil := (List.getElem?_eq_some_iff.1 h2).1
    have hie := (List.getElem?_eq_some_iff.1 h2).2
    have hsp : ns = ns.take i ++ nm :: ns.drop (i + 1) := by
      have := List.take_append_drop i ns
      rw [List.drop_eq_getElem_cons hil, hie] at this
      exact this.symm
    have hn2 := h
    rw [hsp, List.nodup_append] at hn2
    have hb : nm ∉ ns.take i := fun hm => hn2.2.2 nm hm nm (by simp) rfl
    have hc : nm ∉ ns.drop (i + 1) := (List.nodup_cons.1 hn2.2.1).1
    have e : wo nm ns = wo nm (ns.take i) ++ wo nm (nm :: ns.drop (i + 1)) := by
      conv => lhs; rw [hsp]
      exact List.filter_append _ _
    have e2 : wo nm (nm :: ns.drop (i + 1)) = wo nm (ns.drop (i + 1)) := by simp [wo]
    rw [e, e2, self _ hb, self _ hc, del]
  · rw [er_no h1, self _ h2]
theorem nmI_aft {ns : List ByteArray} {ms : List DM} (h : (ns ++ mades ms).Nodup) : ∀ i, i ≤ ms.length → nmI ns (ms.take i) = aft ns (ms.take i) ∧ (aft ns (ms.take i) ++ mades (ms.drop i)).Nodup
  | 0, _ => ⟨rfl, h⟩
  | i + 1, hi => by
    obtain ⟨m, hm⟩ : ∃ m, ms[i]? = some m := ⟨_, List.getElem?_eq_getElem hi⟩
    obtain ⟨h1, h2⟩ := nmI_aft h i (by omega)
    have hd : ms.drop i = m :: ms.drop (i + 1) := by rw [List.drop_eq_getElem_cons hi, (List.getElem?_eq_some_iff.1 hm).2]
    rw [nmI_take ns hm, aft_take ns hm, h1]
    rw [hd] at h2
    cases hg : m.gone with
    | true =>
      have e : mades (m :: ms.drop (i + 1)) = mades (ms.drop (i + 1)) := by simp [mades, hg]
      rw [e] at h2
      rw [if_pos rfl, if_pos rfl]
      refine ⟨er_wo (List.nodup_append.1 h2).1 _, ?_⟩
      exact h2.sublist (List.Sublist.append List.filter_sublist (List.Sublist.refl _))
    | false =>
      have e : mades (m :: ms.drop (i + 1)) = m.name :: mades (ms.drop (i + 1)) := by simp [mades, hg]
      rw [e] at h2
      rw [if_neg (by simp), if_neg (by simp)]
      exact ⟨rfl, by simpa using h2⟩
theorem fnd_le {fs : List DF} {i : Nat} {f : DF} (h : fs[i]? = some f) : 0 ≤ fnd fs f.name ∧ fnd fs f.name ≤ i := by
  unfold fnd
  split
  · rename_i j hj
    rw [List.findIdx?_eq_some_iff_getElem] at hj
    obtain ⟨a1, a2, a3⟩ := hj
    refine ⟨by omega, ?_⟩
    rcases Nat.lt_or_ge i j with hlt | hge
    · have hie := (List.getElem?_eq_some_iff.1 h).2
      have := a3 i hlt
      rw [hie] at this
      simp at this
    · omega
  · rename_i hj
    rw [List.findIdx?_eq_none_iff] at hj
    have := hj f (List.mem_of_getElem? h)
    simp at this
theorem made_nodup {d : Dk} (hl : (made d).length = d.files.length) (h : ∀ (i : Nat) (f : DF), d.files[i]? = some f → (made d)[i]? = some f.name ∧ fnd d.files f.name = i) : (made d).Nodup := by
  rw [List.Nodup, List.pairwise_iff_getElem]
  intro i j hi hj hij e
  obtain ⟨f, hf⟩ : ∃ f, d.files[i]? = some f := ⟨_, List.getElem?_eq_getElem (by omega)⟩
  obtain ⟨g, hg⟩ : ∃ g, d.files[j]? = some g := ⟨_, List.getElem?_eq_getElem (by omega)⟩
  have a := h i f hf
  have b := h j g hg
  have a1 := a.1
  have b1 := b.1
  rw [List.getElem?_eq_getElem hi] at a1
  rw [List.getElem?_eq_getElem hj] at b1
  have e' : f.name = g.name := by rw [← Option.some.inj a1, ← Option.some.inj b1]; exact e
  have := a.2
  rw [e', b.2] at this
  omega
theorem DOk.nmI {d : Dk} (h : DOk d) (i : Nat) (hi : i ≤ d.moves.length) : nmI d.names (d.moves.take i) = aft d.names (d.moves.take i) :=
  (nmI_aft (made_nodup h.l fun i f hf => ⟨(h.files i f hf).made, (h.files i f hf).one⟩) i hi).1
/- loop.example/teagle/impl.DiskOk -/
def r12_0 : List AOper := [ao 0 1 (.box 27 (.t 0)),
  ao 1 2 (.mv (.k (.b false)))]
def r12_1 : List AOper := [ao 0 8 (.fa 0 (.t 1)),
  ao 1 9 (.ld 1 false (.t 8)),
  ao 2 10 (.len (.t 9)),
  ao 3 11 (.bin .gtr (.t 10) (.k (.i 64))),
  ao 4 12 (.mv (.t 11)),
  ag 5 13 12 false [] (.fa 2 (.t 1)),
  ag 6 14 12 false [] (.ld 1 false (.t 13)),
  ag 7 15 12 false [] (.len (.t 14)),
  ag 8 16 12 false [] (.bin .gtr (.t 15) (.k (.i 128))),
  ao 9 17 (.pick (.t 12) (.k (.b true)) (.t 16))]
def r12_2 : List AOper := [ao 0 2 (.mv (.k (.b false)))]
def c12_3 : ACode := .seq (.reg r12_2) .ret
def c12_4 : ACode := .cond (.t 17) c12_3 .skip
def c12_5 : ACode := .seq (.reg r12_1) c12_4
def r12_6 : List AOper := [ao 0 18 (.fa 1 (.t 1)),
  ao 1 19 (.ld 1 false (.t 18)),
  ao 2 20 (.call (.k (.c (.fn 36 []))) [(.t 19)]),
  ao 3 3 (.mv (.t 20))]
def r12_7 : List AOper := [ao 0 21 (.fa 2 (.t 1)),
  ao 1 22 (.ld 1 false (.t 21)),
  ao 2 23 (.len (.t 22)),
  ao 3 24 (.mv (.k (.i 0)))]
def r12_8 : List AOper := [ao 0 25 (.bin .lss (.t 24) (.t 23))]
def c12_9 : ACode := .cond (.t 25) .skip (.exit 0)
def r12_10 : List AOper := [ao 0 26 (.mv (.t 24)),
  ao 1 27 (.ia 2 (.t 22) (.t 24)),
  ao 2 28 (.ld 2 true (.t 27)),
  ao 3 5 (.alloc 60 [(.v (.s (.bool false))), (.v (.s (.string ⟨#[]⟩)))]),
  ao 4 4 (.mv (.t 26)),
  an 5 (.st 2 (.t 5) (.t 28))]
def r12_11 : List AOper := [ao 0 29 (.fa 0 (.t 5)),
  ao 1 30 (.ld 1 false (.t 29)),
  ao 2 31 (.un .not (.t 30))]
def r12_12 : List AOper := [ao 0 32 (.mv (.t 3)),
  ao 1 33 (.fa 1 (.t 5)),
  ao 2 34 (.ld 1 false (.t 33)),
  ao 3 35 (.bsl 1 9 [(.t 34)]),
  ao 4 36 (.app 1 9 16 (.t 32) (.t 35)),
  ao 5 3 (.mv (.t 36))]
def r12_13 : List AOper := [ao 0 37 (.ld 3 true (.t 1)),
  au 1 38 [0] (.mv (.t 4)),
  ao 2 39 (.call (.k (.c (.fn 38 []))) [(.t 37), (.t 38)]),
  au 3 40 (ru 3) (.fa 1 (.t 5)),
  au 4 41 (ru 3) (.ld 1 false (.t 40)),
  ao 5 42 (.call (.k (.c (.fn 37 []))) [(.t 39), (.t 41)]),
  ao 6 43 (.un .not (.t 42))]
def r12_14 : List AOper := [ao 0 2 (.mv (.k (.b false)))]
def c12_15 : ACode := .seq (.reg r12_14) .ret
def c12_16 : ACode := .cond (.t 43) c12_15 .skip
def c12_17 : ACode := .seq (.reg r12_13) c12_16
def c12_18 : ACode := .cond (.t 31) (.reg r12_12) c12_17
def c12_19 : ACode := .seq (.reg r12_10) (.seq (.reg r12_11) c12_18)
def c12_20 : ACode := .block 1 c12_19
def r12_21 : List AOper := [ao 0 44 (.bin .add (.t 24) (.k (.i 1))),
  ao 1 24 (.mv (.t 44))]
def c12_22 : ACode := .seq (.reg r12_8) (.seq c12_9 (.seq c12_20 (.reg r12_21)))
def c12_23 : ACode := .loop c12_22
def c12_24 : ACode := .block 0 c12_23
def c12_25 : ACode := .seq (.reg r12_7) c12_24
def r12_26 : List AOper := [ao 0 45 (.fa 0 (.t 1)),
  ao 1 46 (.ld 1 false (.t 45)),
  ao 2 47 (.len (.t 46)),
  ao 3 48 (.mv (.k (.i 0)))]
def r12_27 : List AOper := [ao 0 49 (.bin .lss (.t 48) (.t 47))]
def c12_28 : ACode := .cond (.t 49) .skip (.exit 2)
def r12_29 : List AOper := [ao 0 50 (.mv (.t 48)),
  ao 1 51 (.ia 3 (.t 46) (.t 48)),
  ao 2 52 (.ld 3 true (.t 51)),
  ao 3 7 (.alloc 58 [(.v (.s (.string ⟨#[]⟩))), (.v (.s (.string ⟨#[]⟩))), (.v (.s (.int .i64 0)))]),
  ao 4 6 (.mv (.t 50)),
  an 5 (.st 3 (.t 7) (.t 52))]
def r12_30 : List AOper := [ao 0 53 (.fa 0 (.t 7)),
  ao 1 54 (.ld 1 false (.t 53)),
  ao 2 55 (.call (.k (.c (.fn 39 []))) [(.t 54)]),
  ao 3 56 (.un .not (.t 55)),
  ao 4 57 (.mv (.t 56)),
  ag 5 58 57 false [] (.ld 3 true (.t 1)),
  ag 6 59 57 false [] (.fa 0 (.t 7)),
  ag 7 60 57 false [] (.ld 1 false (.t 59)),
  ag 8 61 57 false [] (.call (.k (.c (.fn 40 []))) [(.t 58), (.t 60)]),
  ag 9 62 57 false [] (.mv (.t 6)),
  ag 10 63 57 false [] (.bin .lss (.t 61) (.t 62)),
  ao 11 64 (.pick (.t 57) (.k (.b true)) (.t 63)),
  ao 12 65 (.mv (.t 64)),
  ag 13 66 65 false [] (.fa 1 (.t 7)),
  ag 14 67 65 false [] (.ld 1 false (.t 66)),
  ag 15 68 65 false [] (.lenS (.t 67)),
  ag 16 69 65 false [] (.bin .gtr (.t 68) (.k (.i 20000))),
  ao 17 70 (.pick (.t 65) (.k (.b true)) (.t 69)),
  ao 18 71 (.mv (.t 70)),
  ag 19 72 71 false [] (.fa 2 (.t 7)),
  ag 20 73 71 false [] (.ld 1 false (.t 72)),
  ag 21 74 71 false [] (.fa 1 (.t 7)),
  ag 22 75 71 false [] (.ld 1 false (.t 74)),
  ag 23 76 71 false [] (.lenS (.t 75)),
  ag 24 77 71 false [] (.call (.k (.c (.fn 41 []))) [(.t 73), (.k (.i 0)), (.t 76)]),
  ag 25 78 71 false [] (.un .not (.t 77)),
  ao 26 79 (.pick (.t 71) (.k (.b true)) (.t 78))]
def r12_31 : List AOper := [ao 0 2 (.mv (.k (.b false)))]
def c12_32 : ACode := .seq (.reg r12_31) .ret
def c12_33 : ACode := .cond (.t 79) c12_32 .skip
def c12_34 : ACode := .seq (.reg r12_29) (.seq (.reg r12_30) c12_33)
def c12_35 : ACode := .block 3 c12_34
def r12_36 : List AOper := [ao 0 80 (.bin .add (.t 48) (.k (.i 1))),
  ao 1 48 (.mv (.t 80))]
def c12_37 : ACode := .seq (.reg r12_27) (.seq c12_28 (.seq c12_35 (.reg r12_36)))
def c12_38 : ACode := .loop c12_37
def c12_39 : ACode := .block 2 c12_38
def c12_40 : ACode := .seq (.reg r12_26) c12_39
def r12_41 : List AOper := [ao 0 81 (.fa 0 (.t 1)),
  ao 1 82 (.ld 1 false (.t 81)),
  ao 2 83 (.mv (.t 3)),
  ao 3 84 (.call (.k (.c (.fn 42 []))) [(.t 82), (.t 83), (.k (.c (.fn 43 [])))]),
  ao 4 2 (.mv (.t 84))]
def c12 : ACode := .seq (.reg r12_0) (.seq c12_5 (.seq (.reg r12_6) (.seq c12_25 (.seq c12_40 (.seq (.reg r12_41) .ret)))))
def s12 : List ARes := [.tmp 2]
theorem ok12 : okF Try.prog 12 85 c12 s12 := ⟨Try.f12, Try.func12, Try.ntmps12, by kernel_rfl, by kernel_rfl, by kernel_rfl⟩
def inv12 (d : Dk) (u : Nat) (i : Nat) (σ : St) : Prop := (∀ (j : Nat) (m : DM), j < i → d.moves[j]? = some m → m.gone = true → m.name ∈ Go.V.nmI d.names (d.moves.take j)) ∧ (σ.t 1 = .c (.ptr 1 u 0) ∧ σ.H 1 = some (.var u 27 [.v (.sl (en eF d.files)), .v (.sl (en eS d.names)), .v (.sl (en eM d.moves))])) ∧ (∃ v, σ.t 3 = .c (.own 1005 v (d.names ++ mades (d.moves.take i)).length) ∧ σ.H 1005 = some (.arr v true 1 9 (en eS (d.names ++ mades (d.moves.take i))))) ∧
  σ.t 22 = tL (en eM d.moves) ∧ σ.t 23 = .i d.moves.length ∧ σ.t 24 = .i i
def inv12b (d : Dk) (u v : Nat) (i : Nat) (σ : St) : Prop := (∀ (j : Nat) (f : DF), j < i → d.files[j]? = some f → nameOk f.name = true ∧ f.data.size ≤ 20000 ∧ 0 ≤ f.kept ∧ f.kept ≤ f.data.size ∧ fnd d.files f.name = j) ∧ (σ.t 1 = .c (.ptr 1 u 0) ∧ σ.H 1 = some (.var u 27 [.v (.sl (en eF d.files)), .v (.sl (en eS d.names)), .v (.sl (en eM d.moves))])) ∧ (σ.t 3 = .c (.own 1005 v (made d).length) ∧ σ.H 1005 = some (.arr v true 1 9 (en eS (made d)))) ∧
  σ.t 46 = tL (en eF d.files) ∧ σ.t 47 = .i d.files.length ∧ σ.t 48 = .i i
def UPo_1 := Bx.mk <|
  aN (uA c12.eq_1) <| aN (uR r12_0.eq_1) <| aN (uA c12_5.eq_1) <| aN (uR r12_1.eq_1) <| aN (uA c12_4.eq_1) <| aN (uA c12_3.eq_1) <| aN (uR r12_2.eq_1) <| aN (uR r12_6.eq_1) <| aN (uA c12_25.eq_1) <| aN (uR r12_7.eq_1) <| aN (uA c12_24.eq_1) <| aN (uA c12_23.eq_1) <| aN (uA c12_40.eq_1) <| aN (uR r12_26.eq_1) <| aN (uA c12_39.eq_1) <| aN (uA c12_38.eq_1) <| aN (uR r12_41.eq_1) <| s12.eq_1
def UPo_2 := Bx.mk <|
  aN (uA c12_22.eq_1) <| aN (uR r12_8.eq_1) <| aN (uA c12_9.eq_1) <| aN (uA c12_20.eq_1) <| aN (uA c12_19.eq_1) <| aN (uR r12_10.eq_1) <| aN (uR r12_11.eq_1) <| aN (uA c12_18.eq_1) <| aN (uR r12_12.eq_1) <| aN (uA c12_17.eq_1) <| aN (uR r12_13.eq_1) <| aN (uA c12_16.eq_1) <| aN (uA c12_15.eq_1) <| aN (uR r12_14.eq_1) <| aN (uR r12_21.eq_1) <| aN (uA c12.eq_1) <| aN (uR r12_0.eq_1) <| aN (uA c12_5.eq_1) <| aN (uR r12_1.eq_1) <| aN (uA c12_4.eq_1) <| aN (uA c12_3.eq_1) <| aN (uR r12_2.eq_1) <| aN (uR r12_6.eq_1) <| aN (uA c12_25.eq_1) <| aN (uR r12_7.eq_1) <| aN (uA c12_24.eq_1) <| aN (uA c12_23.eq_1) <| aN (uA c12_40.eq_1) <| aN (uR r12_26.eq_1) <| aN (uA c12_39.eq_1) <| aN (uA c12_38.eq_1) <| aN (uR r12_41.eq_1) <| s12.eq_1
def UPo_3 := Bx.mk <|
  aN (uA c12_37.eq_1) <| aN (uR r12_27.eq_1) <| aN (uA c12_28.eq_1) <| aN (uA c12_35.eq_1) <| aN (uA c12_34.eq_1) <| aN (uR r12_29.eq_1) <| aN (uR r12_30.eq_1) <| aN (uA c12_33.eq_1) <| aN (uA c12_32.eq_1) <| aN (uR r12_31.eq_1) <| aN (uR r12_36.eq_1) <| aN (uA c12.eq_1) <| aN (uR r12_0.eq_1) <| aN (uA c12_5.eq_1) <| aN (uR r12_1.eq_1) <| aN (uA c12_4.eq_1) <| aN (uA c12_3.eq_1) <| aN (uR r12_2.eq_1) <| aN (uR r12_6.eq_1) <| aN (uA c12_25.eq_1) <| aN (uR r12_7.eq_1) <| aN (uA c12_24.eq_1) <| aN (uA c12_23.eq_1) <| aN (uA c12_40.eq_1) <| aN (uR r12_26.eq_1) <| aN (uA c12_39.eq_1) <| aN (uA c12_38.eq_1) <| aN (uR r12_41.eq_1) <| s12.eq_1
set_option maxHeartbeats 1000000 in
theorem okI_ok (d : Dk) (hd : fineDk d) : ∃ b : Bool, (b = true ↔ DOk d) ∧ ACallsF Try.prog 12 [tDk d] [] (.b b) := by
  obtain ⟨b, hb⟩ : ∃ b : Bool, b = true ↔ DOk d := by
    by_cases h : DOk d
    · exact ⟨true, fun _ => h, fun _ => rfl⟩
    · exact ⟨false, fun e => (by cases e), fun e => absurd e h⟩
  refine ⟨b, hb, ?_⟩
  have no : ¬ DOk d → b = false := fun h => by cases hq : b with | false => rfl | true => exact absurd (hb.1 hq) h
  have s1 := hd.s.f
  have s2 := hd.s.n
  have s3 := hd.s.m
  refine ACallsF.intro ok12 follows fun X c0 => ?_
  by_cases hf : (d.files.length : Int) > 64
  · have hbf := no fun h => by have := h.f; omega
    simp only [RUX, Nat.reduceAdd, reduceIte, Nat.reduceEqDiff, Nat.reduceLT, Nat.reduceLeDiff, reduceCtorEq, eq_self, FIX, forall_const, endE_n, endE_r, CHT, disj, Nat.reduceBEq, beq_self_eq_true, APT, APX, forall_eq, ALT, UPo_1.d, hf, hbf]
  by_cases hm : (d.moves.length : Int) > 128
  · have hbf := no fun h => by have := h.m; omega
    simp only [RUX, Nat.reduceAdd, reduceIte, Nat.reduceEqDiff, Nat.reduceLT, Nat.reduceLeDiff, reduceCtorEq, eq_self, FIX, forall_const, endE_n, endE_r, CHT, disj, Nat.reduceBEq, beq_self_eq_true, APT, APX, forall_eq, ALT, UPo_1.d, hf, hm, hbf]
  simp only [RUX, Nat.reduceAdd, reduceIte, Nat.reduceEqDiff, Nat.reduceLT, Nat.reduceLeDiff, reduceCtorEq, eq_self, FIX, forall_const, endE_n, endE_r, CHT, disj, Nat.reduceBEq, beq_self_eq_true, APT, APX, forall_eq, ALT, UPo_1.d, hf, hm]
  refine callA1 (m := 1005) (ws := []) (ns := []) (cloneS_ok d.names (by omega) 1005) rfl rfl rfl (en_flat eS eS_flat _) ⟨rfl, ?_⟩
  simp only [RUX, Nat.reduceAdd, reduceIte, Nat.reduceEqDiff, Nat.reduceLT, Nat.reduceLeDiff, reduceCtorEq, eq_self, FIX, forall_const, endE_n, endE_r, CHT, disj, Nat.reduceBEq, beq_self_eq_true, APT, APX, forall_eq, ALT, UPo_1.d]
  refine AW.upto d.moves.length (inv12 d (c0 + 0)) ?_ fun i t H c hi h => ?_
  · unfold inv12
    have e0 : d.names ++ mades (d.moves.take 0) = d.names := by simp [mades]
    rw [e0]
    exact ⟨fun j f hj => absurd hj (Nat.not_lt_zero j), ⟨rfl, rfl⟩, ⟨_, rfl, rfl⟩, rfl, rfl, rfl⟩
  obtain ⟨g, ⟨e1, eH1⟩, ⟨v, e3, eH⟩, e22, e23, e24⟩ := h
  simp only [T.c, T.i, T.s, tL] at e1 eH1 e3 eH e22 e23 e24
  by_cases hlt : i < d.moves.length
  · obtain ⟨x, hx⟩ : ∃ x, d.moves[i]? = some x := ⟨_, List.getElem?_eq_getElem hlt⟩
    have ex := en_at eM hx
    have k1 : (i : Int) < d.moves.length := by omega
    have gz : (0 : Int) ≤ i := by omega
    have gw : IntKind.i64.wrap ((i : Int) + 1) = ((i + 1 : Nat) : Int) := wrap64 (x := (i : Int) + 1) ⟨by omega, by omega⟩
    have hwl := mades_len (d.moves.take i)
    rw [List.length_take] at hwl
    have hnext : (x.gone = true → x.name ∈ Go.V.nmI d.names (d.moves.take i)) → ∀ (j : Nat) (m : DM), j < i + 1 → d.moves[j]? = some m → m.gone = true → m.name ∈ Go.V.nmI d.names (d.moves.take j) := fun hh j m hj hm hgm => by
      rcases Nat.lt_succ_iff_lt_or_eq.1 hj with hj | rfl
      · exact g j m hj hm hgm
      · rw [hx] at hm; cases hm; exact hh hgm
    cases hg : x.gone with
    | false =>
      have ht2 : d.names ++ mades (d.moves.take (i + 1)) = d.names ++ mades (d.moves.take i) ++ [x.name] := by rw [mades_take hx, hg, if_neg (by simp), List.append_assoc]
      have hl : (d.names ++ mades (d.moves.take i)).length ≤ 3000000 := by rw [List.length_append]; omega
      generalize hq : d.names ++ mades (d.moves.take i) = q at *
      have q3 : (q.length + 1) * 16 ≤ 140737488355328 := by omega
      have q4 : q.length + 1 ≤ 9223372036854775807 := by omega
      simp only [RUX, Nat.reduceAdd, reduceIte, Nat.reduceEqDiff, Nat.reduceLT, Nat.reduceLeDiff, reduceCtorEq, eq_self, FIX, forall_const, endE_n, endE_r, CHT, disj, Nat.reduceBEq, beq_self_eq_true, APT, APX, forall_eq, ALT, UPo_2.d, e22, e23, e24, e3, eH, en_len, k1, gz, ex, eM, hg, gw, q3, q4]
      unfold inv12
      rw [ht2, en_snoc, List.length_append]
      exact ⟨hlt, hnext fun h => (by rw [hg] at h; cases h), ⟨e1, eH1⟩, ⟨_, rfl, rfl⟩, e22, e23, rfl⟩
    | true =>
      have ht2 : mades (d.moves.take (i + 1)) = mades (d.moves.take i) := by rw [mades_take hx, hg, if_pos rfl]
      have hnl := nmI_len d.names d.moves i (by omega)
      have hle : (Go.V.nmI d.names (d.moves.take i)).length ≤ (Go.V.nmI d.names (d.moves.take i)).length + (runI d.names (d.moves.take i)).2.length := by omega
      simp only [RUX, Nat.reduceAdd, reduceIte, Nat.reduceEqDiff, Nat.reduceLT, Nat.reduceLeDiff, reduceCtorEq, eq_self, FIX, forall_const, endE_n, endE_r, CHT, disj, Nat.reduceBEq, beq_self_eq_true, APT, APX, forall_eq, ALT, UPo_2.d, e1, eH1, e22, e23, e24, en_len, k1, gz, ex, eM, hg]
      refine callA1 (m := 1006) (ws := []) (ns := []) (namesI_ok d hd.s i (by omega) 1006) rfl rfl rfl (en_flat eS eS_flat _) ⟨?_, ?_⟩
      · simp only [RUX, Nat.reduceAdd, reduceIte, Nat.reduceEqDiff, Nat.reduceLT, Nat.reduceLeDiff, reduceCtorEq, eq_self, FIX, forall_const, endE_n, endE_r, CHT, disj, Nat.reduceBEq, beq_self_eq_true, APT, APX, forall_eq, ALT, UPo_2.d]
      simp only [RUX, Nat.reduceAdd, reduceIte, Nat.reduceEqDiff, Nat.reduceLT, Nat.reduceLeDiff, reduceCtorEq, eq_self, FIX, forall_const, endE_n, endE_r, CHT, disj, Nat.reduceBEq, beq_self_eq_true, APT, APX, forall_eq, ALT, UPo_2.d]
      refine callL (ws := [(1006, .arr (c + 1 + 6 + 3 + 2) false 1 9 (en eS (Go.V.nmI d.names (d.moves.take i) ++ (runI d.names (d.moves.take i)).2)))]) (ns := [1006]) (contains_ok (Go.V.nmI d.names (d.moves.take i)) x.name (by omega)) rfl ?_ rfl rfl ⟨?_, ?_⟩
      · simp only [RUX, Nat.reduceAdd, reduceIte, Nat.reduceEqDiff, Nat.reduceLT, Nat.reduceLeDiff, reduceCtorEq, eq_self, FIX, forall_const, endE_n, endE_r, CHT, disj, Nat.reduceBEq, beq_self_eq_true, APT, APX, forall_eq, ALT, UPo_2.d, lendTs, lendT, en_take2, hle]
      · simp only [RUX, Nat.reduceAdd, reduceIte, Nat.reduceEqDiff, Nat.reduceLT, Nat.reduceLeDiff, reduceCtorEq, eq_self, FIX, forall_const, endE_n, endE_r, CHT, disj, Nat.reduceBEq, beq_self_eq_true, APT, APX, forall_eq, ALT, UPo_2.d, scalarT, scalarP, scalarC]
      cases hh : has (Go.V.nmI d.names (d.moves.take i)) x.name with
      | true =>
        simp only [RUX, Nat.reduceAdd, reduceIte, Nat.reduceEqDiff, Nat.reduceLT, Nat.reduceLeDiff, reduceCtorEq, eq_self, FIX, forall_const, endE_n, endE_r, CHT, disj, Nat.reduceBEq, beq_self_eq_true, APT, APX, forall_eq, ALT, UPo_2.d, scalarT, scalarP, scalarC, e24, gw]
        unfold inv12
        rw [ht2]
        exact ⟨hlt, hnext fun _ => has_true.1 hh, ⟨e1, eH1⟩, ⟨v, e3, eH⟩, e22, e23, rfl⟩
      | false =>
        have hbf := no fun hD => has_false.1 hh (by rw [hD.nmI i (by omega)]; exact hD.moves i x hx hg)
        simp only [RUX, Nat.reduceAdd, reduceIte, Nat.reduceEqDiff, Nat.reduceLT, Nat.reduceLeDiff, reduceCtorEq, eq_self, FIX, forall_const, endE_n, endE_r, CHT, disj, Nat.reduceBEq, beq_self_eq_true, APT, APX, forall_eq, ALT, UPo_2.d, UPo_1.d, scalarT, scalarP, scalarC, hbf]
  · have k1 : ¬ (i : Int) < d.moves.length := by omega
    have hi2 : i = d.moves.length := by omega
    subst hi2
    rw [List.take_length] at e3 eH
    have hmade : d.names ++ mades d.moves = made d := rfl
    rw [hmade] at e3 eH
    simp only [RUX, Nat.reduceAdd, reduceIte, Nat.reduceEqDiff, Nat.reduceLT, Nat.reduceLeDiff, reduceCtorEq, eq_self, FIX, forall_const, endE_n, endE_r, CHT, disj, Nat.reduceBEq, beq_self_eq_true, APT, APX, forall_eq, ALT, UPo_2.d, UPo_1.d, e1, eH1, e23, e24, en_len, k1]
    refine AW.upto d.files.length (inv12b d (c0 + 0) v) ⟨fun j f hj => absurd hj (Nat.not_lt_zero j), ⟨e1, eH1⟩, ⟨e3, eH⟩, rfl, rfl, rfl⟩ fun i t H c hi h => ?_
    clear e1 eH1 e3 eH e22 e23 e24
    obtain ⟨g2, ⟨e1, eH1⟩, ⟨e3, eH⟩, e46, e47, e48⟩ := h
    simp only [T.c, T.i, T.s, tL] at e1 eH1 e3 eH e46 e47 e48
    by_cases hlt : i < d.files.length
    · obtain ⟨f, hx⟩ : ∃ f, d.files[i]? = some f := ⟨_, List.getElem?_eq_getElem hlt⟩
      have ex := en_at eF hx
      have hfm := hd.f f (List.mem_of_getElem? hx)
      have k1 : (i : Int) < d.files.length := by omega
      have gz : (0 : Int) ≤ i := by omega
      have gw : IntKind.i64.wrap ((i : Int) + 1) = ((i + 1 : Nat) : Int) := wrap64 (x := (i : Int) + 1) ⟨by omega, by omega⟩
      have bad : ¬ FOk d i f → b = false := fun h => no fun hD => h (hD.files i f hx)
      obtain ⟨f0, f1⟩ := fnd_le hx
      simp only [RUX, Nat.reduceAdd, reduceIte, Nat.reduceEqDiff, Nat.reduceLT, Nat.reduceLeDiff, reduceCtorEq, eq_self, FIX, forall_const, endE_n, endE_r, CHT, disj, Nat.reduceBEq, beq_self_eq_true, APT, APX, forall_eq, ALT, UPo_3.d, e46, e47, e48, en_len, k1, gz, ex, eF]
      refine callC (isName_ok f.name (by omega)) rfl rfl rfl rfl ?_
      cases p1 : nameOk f.name with
      | false =>
        have hbf := bad fun h => by have := h.name; rw [p1] at this; cases this
        simp only [RUX, Nat.reduceAdd, reduceIte, Nat.reduceEqDiff, Nat.reduceLT, Nat.reduceLeDiff, reduceCtorEq, eq_self, FIX, forall_const, endE_n, endE_r, CHT, disj, Nat.reduceBEq, beq_self_eq_true, APT, APX, forall_eq, ALT, UPo_3.d, UPo_1.d, hbf]
      | true =>
        simp only [RUX, Nat.reduceAdd, reduceIte, Nat.reduceEqDiff, Nat.reduceLT, Nat.reduceLeDiff, reduceCtorEq, eq_self, FIX, forall_const, endE_n, endE_r, CHT, disj, Nat.reduceBEq, beq_self_eq_true, APT, APX, forall_eq, ALT, UPo_3.d, e1, eH1]
        refine callC (fileAt_ok d f.name (by omega)) rfl rfl rfl rfl ?_
        by_cases p2 : fnd d.files f.name < i
        · have hbf := bad fun h => by have := h.one; omega
          simp only [RUX, Nat.reduceAdd, reduceIte, Nat.reduceEqDiff, Nat.reduceLT, Nat.reduceLeDiff, reduceCtorEq, eq_self, FIX, forall_const, endE_n, endE_r, CHT, disj, Nat.reduceBEq, beq_self_eq_true, APT, APX, forall_eq, ALT, UPo_3.d, UPo_1.d, e48, p2, hbf]
        by_cases p3 : (f.data.size : Int) > 20000
        · have hbf := bad fun h => by have := h.data; omega
          simp only [RUX, Nat.reduceAdd, reduceIte, Nat.reduceEqDiff, Nat.reduceLT, Nat.reduceLeDiff, reduceCtorEq, eq_self, FIX, forall_const, endE_n, endE_r, CHT, disj, Nat.reduceBEq, beq_self_eq_true, APT, APX, forall_eq, ALT, UPo_3.d, UPo_1.d, e48, p2, p3, hbf]
        simp only [RUX, Nat.reduceAdd, reduceIte, Nat.reduceEqDiff, Nat.reduceLT, Nat.reduceLeDiff, reduceCtorEq, eq_self, FIX, forall_const, endE_n, endE_r, CHT, disj, Nat.reduceBEq, beq_self_eq_true, APT, APX, forall_eq, ALT, UPo_3.d, e48, p2, p3]
        refine callC (inRange_ok _ _ _) rfl rfl rfl rfl ?_
        by_cases p4 : (0 : Int) ≤ f.kept
        rotate_left
        · have hbf := bad fun h => p4 h.lo
          simp only [RUX, Nat.reduceAdd, reduceIte, Nat.reduceEqDiff, Nat.reduceLT, Nat.reduceLeDiff, reduceCtorEq, eq_self, FIX, forall_const, endE_n, endE_r, CHT, disj, Nat.reduceBEq, beq_self_eq_true, APT, APX, forall_eq, ALT, UPo_3.d, UPo_1.d, p4, hbf]
        by_cases p5 : f.kept ≤ (f.data.size : Int)
        rotate_left
        · have hbf := bad fun h => p5 h.hi
          simp only [RUX, Nat.reduceAdd, reduceIte, Nat.reduceEqDiff, Nat.reduceLT, Nat.reduceLeDiff, reduceCtorEq, eq_self, FIX, forall_const, endE_n, endE_r, CHT, disj, Nat.reduceBEq, beq_self_eq_true, APT, APX, forall_eq, ALT, UPo_3.d, UPo_1.d, p4, p5, hbf]
        simp only [RUX, Nat.reduceAdd, reduceIte, Nat.reduceEqDiff, Nat.reduceLT, Nat.reduceLeDiff, reduceCtorEq, eq_self, FIX, forall_const, endE_n, endE_r, CHT, disj, Nat.reduceBEq, beq_self_eq_true, APT, APX, forall_eq, ALT, UPo_3.d, p4, p5, e48, gw]
        exact ⟨hlt, fun j f' hj hf' => (by rcases Nat.lt_succ_iff_lt_or_eq.1 hj with hj | rfl; exact g2 j f' hj hf'; rw [hx] at hf'; cases hf'; exact ⟨p1, by omega, p4, p5, by omega⟩), ⟨e1, eH1⟩, ⟨e3, eH⟩, e46, e47, rfl⟩
    · have k2 : ¬ (i : Int) < d.files.length := by omega
      obtain ⟨b', hb', hC'⟩ := equalF_ok d.files (made d) (by omega)
      have hbb : b' = b := by
        have hiff : b' = true ↔ b = true := by
          rw [hb', hb]
          constructor
          · rintro ⟨l1, l2⟩
            have gg : ∀ (j : Nat) (f : DF), d.files[j]? = some f → nameOk f.name = true ∧ f.data.size ≤ 20000 ∧ 0 ≤ f.kept ∧ f.kept ≤ f.data.size ∧ fnd d.files f.name = j := fun j f hf => g2 j f (by have := (List.getElem?_eq_some_iff.1 hf).1; omega) hf
            have hnd := made_nodup l1 fun j f hf => ⟨l2 j f hf, (gg j f hf).2.2.2.2⟩
            have hlen : (made d).length = d.names.length + (mades d.moves).length := List.length_append
            refine ⟨by omega, by omega, by omega, l1, fun j f hf => ?_, fun j m hm hgm => ?_⟩
            · obtain ⟨a1, a2, a3, a4, a5⟩ := gg j f hf
              exact ⟨a1, l2 j f hf, a2, a3, a4, a5⟩
            · have hjl := (List.getElem?_eq_some_iff.1 hm).1
              rw [← (nmI_aft hnd j (by omega)).1]
              exact g j m hjl hm hgm
          · intro hD
            exact ⟨hD.l, fun j f hf => (hD.files j f hf).made⟩
        cases b' <;> cases b <;> simp_all
      subst hbb
      simp only [RUX, Nat.reduceAdd, reduceIte, Nat.reduceEqDiff, Nat.reduceLT, Nat.reduceLeDiff, reduceCtorEq, eq_self, FIX, forall_const, endE_n, endE_r, CHT, disj, Nat.reduceBEq, beq_self_eq_true, APT, APX, forall_eq, ALT, UPo_3.d, UPo_1.d, e1, eH1, e3, eH, e47, e48, k2]
      refine callLf (ws := [(1005, .arr v false 1 9 (en eS (made d)))]) (ns := [1005]) hC' rfl ?_ rfl rfl ⟨?_, ?_⟩
      · simp only [RUX, Nat.reduceAdd, reduceIte, Nat.reduceEqDiff, Nat.reduceLT, Nat.reduceLeDiff, reduceCtorEq, eq_self, FIX, forall_const, endE_n, endE_r, CHT, disj, Nat.reduceBEq, beq_self_eq_true, APT, APX, forall_eq, ALT, UPo_1.d, lendTs, lendT, e3, eH]
      · simp only [RUX, Nat.reduceAdd, reduceIte, Nat.reduceEqDiff, Nat.reduceLT, Nat.reduceLeDiff, reduceCtorEq, eq_self, FIX, forall_const, endE_n, endE_r, CHT, disj, Nat.reduceBEq, beq_self_eq_true, APT, APX, forall_eq, ALT, UPo_1.d, scalarT, scalarP, scalarC]
      simp only [RUX, Nat.reduceAdd, reduceIte, Nat.reduceEqDiff, Nat.reduceLT, Nat.reduceLeDiff, reduceCtorEq, eq_self, FIX, forall_const, endE_n, endE_r, CHT, disj, Nat.reduceBEq, beq_self_eq_true, APT, APX, forall_eq, ALT, UPo_1.d, scalarT, scalarP, scalarC]
end Go.V
set_option linter.unusedSimpArgs false
namespace Go.V
open Go.Proofs
abbrev oC (c1 v1 c2 v2 c3 v3 : Nat) (d : Dk) : List C := [.own c1 v1 d.files.length, .own c2 v2 d.names.length, .own c3 v3 d.moves.length]
/-- A disk that is written in place, and its arrays. -/
abbrev dkW (m0 m1 m2 m3 u v1 v2 v3 : Nat) (d d' : Dk) : List Hand := [⟨4001, m0, some (.var u 27 (oC 1001 v1 1002 v2 1003 v3 d)), .var u 27 (oC 1001 0 1002 0 1003 0 d'), true⟩,
  ⟨1001, m1, some (.arr v1 true 3 58 (en eF d.files)), .arr 0 true 3 58 (en eF d'.files), false⟩, ⟨1002, m2, some (.arr v2 true 1 9 (en eS d.names)), .arr 0 true 1 9 (en eS d'.names), false⟩, ⟨1003, m3, some (.arr v3 true 2 60 (en eM d.moves)), .arr 0 true 2 60 (en eM d'.moves), false⟩]
/-- As dkW, where the directory is made sure: the files and the names are arrays anew. -/
abbrev dkD (m0 m1 m2 m3 m4 m5 u v1 v2 v3 : Nat) (d : Dk) (F : List DF) (N rest : List ByteArray) : List Hand := [⟨4001, m0, some (.var u 27 (oC 1001 v1 1002 v2 1003 v3 d)), .var u 27 [.own 10 0 F.length, .own 7001 0 N.length, .nil0], true⟩,
  arH 1001 m1 v1 3 58 (en eF d.files) (en eF d.files), arH 1002 m2 v2 1 9 (en eS d.names) (en eS d.names), arH 1003 m3 v3 2 60 (en eM d.moves) (en eM d.moves), newH 10 m4 3 58 (en eF F), newH 7001 m5 1 9 (en eS (N ++ rest))]
section
variable {P : Program} {t : Nat → T} {H : HMap} {c : Nat} {f : Opd} {args : List Opd} {fid : FuncId} {al : List T} {m0 m1 m2 m3 m4 m5 u v1 v2 v3 : Nat} {dk dk' : Dk} {F : List DF} {N rest : List ByteArray} {r : T} {k : Nat} {d : Option Nat} {un : List Nat} {l : List AOper} {prev : List (Nat × List Nat × List Nat)} {K : St → Prop}
theorem callDw (hC : ACallsF P fid (.c (.ptr 4001 u 0) :: al) (dkW m0 m1 m2 m3 u v1 v2 v3 dk dk') r) (hf : ev t f = .pt (.one (.fn fid []))) (hl : args.map (ev t) = .c (.ptr m0 u 0) :: al) (ha : al.all closedA = true) (hr : closedT r = true)
    (hm : m0 ≠ m1 ∧ m0 ≠ m2 ∧ m0 ≠ m3 ∧ m1 ≠ m2 ∧ m1 ≠ m3 ∧ m2 ≠ m3)
    (h0 : H m0 = some (.var u 27 (oC m1 v1 m2 v2 m3 v3 dk))) (h1 : H m1 = some (.arr v1 true 3 58 (en eF dk.files))) (h2 : H m2 = some (.arr v2 true 1 9 (en eS dk.names))) (h3 : H m3 = some (.arr v3 true 2 60 (en eM dk.moves)))
    (hk : chk prev un ⟨r, [(m0, .var u 27 (oC m1 (c + k) m2 (c + k) m3 (c + k) dk')), (m1, .arr (c + k) true 3 58 (en eF dk'.files)), (m2, .arr (c + k) true 1 9 (en eS dk'.names)), (m3, .arr (c + k) true 2 60 (en eM dk'.moves))], [m0, m1, m2, m3], [m0, m1, m2, m3]⟩ = true ∧
      DRun P l ((k, [m0, m1, m2, m3], [m0, m1, m2, m3]) :: prev) K ⟨updD t d r, upd (upd (upd (upd H m0 (some (.var u 27 (oC m1 (c + k) m2 (c + k) m3 (c + k) dk')))) m1 (some (.arr (c + k) true 3 58 (en eF dk'.files)))) m2 (some (.arr (c + k) true 1 9 (en eS dk'.names)))) m3 (some (.arr (c + k) true 2 60 (en eM dk'.moves))), c⟩) :
    step P k d un (.call f args) l prev K t H c := by
  generalize hhs : dkW m0 m1 m2 m3 u v1 v2 v3 dk dk' = hs at hC
  have R0 : renN hs 4001 = some ⟨4001, m0, some (.var u 27 (oC 1001 v1 1002 v2 1003 v3 dk)), .var u 27 (oC 1001 0 1002 0 1003 0 dk'), true⟩ := by rw [← hhs]; rfl
  have R1 : renN hs 1001 = some ⟨1001, m1, some (.arr v1 true 3 58 (en eF dk.files)), .arr 0 true 3 58 (en eF dk'.files), false⟩ := by rw [← hhs]; rfl
  have R2 : renN hs 1002 = some ⟨1002, m2, some (.arr v2 true 1 9 (en eS dk.names)), .arr 0 true 1 9 (en eS dk'.names), false⟩ := by rw [← hhs]; rfl
  have R3 : renN hs 1003 = some ⟨1003, m3, some (.arr v3 true 2 60 (en eM dk.moves)), .arr 0 true 2 60 (en eM dk'.moves), false⟩ := by rw [← hhs]; rfl
  have I0 : inN hs 4001 = some m0 := by simp [inN, R0]
  have I1 : inN hs 1001 = some m1 := by simp [inN, R1]
  have I2 : inN hs 1002 = some m2 := by simp [inN, R2]
  have I3 : inN hs 1003 = some m3 := by simp [inN, R3]
  obtain ⟨x1, x2⟩ := closed_As hs H al ha
  obtain ⟨g1, g2, g3, g4, g5, g6⟩ := hm
  refine callW (caps := []) («as» := .c (.ptr m0 u 0) :: al) (ws := []) (ns := []) (r' := r) (ob := [(m0, .var u 27 (oC m1 (c + k) m2 (c + k) m3 (c + k) dk')), (m1, .arr (c + k) true 3 58 (en eF dk'.files)), (m2, .arr (c + k) true 1 9 (en eS dk'.names)), (m3, .arr (c + k) true 2 60 (en eM dk'.moves))]) hs hC hf ?_ ?_ ?_ (by rw [← hhs]; simp [g1, g2, g3, g4, g5, g6]) (by rw [← hhs]; simp) (closed_T _ r hr _) ?_ ?_
  · have a1 : lendT H (T.c (.ptr 4001 u 0)) (T.c (.ptr m0 u 0)) = some (T.c (.ptr m0 u 0), [], []) := rfl
    rw [hl]
    simp only [List.map_nil, List.append_nil, lendTs, a1, x1]
  · have a1 : renIT hs (T.c (.ptr 4001 u 0)) = some (T.c (.ptr m0 u 0)) := by simp only [T.c, renIT, renI, I0, Option.map_some]
    simp only [renITs, a1, x2]
  · have B0 : renIB hs (.var u 27 (oC 1001 v1 1002 v2 1003 v3 dk)) = some (.var u 27 (oC m1 v1 m2 v2 m3 v3 dk)) := by simp only [renIB, renIs, renI, I1, I2, I3, Option.map_some]
    have B1 : ∀ v wr st ty es, renIB hs (.arr v wr st ty es) = some (.arr v wr st ty es) := fun _ _ _ _ _ => rfl
    have key : handsIn (updH H []) hs (dkW m0 m1 m2 m3 u v1 v2 v3 dk dk') := by
      simp only [handsIn, B0, B1, updH, h0, h1, h2, h3, and_self]
    rw [hhs] at key
    exact key
  · have key : renOBs hs (c + k) (dkW m0 m1 m2 m3 u v1 v2 v3 dk dk') = some [(m0, .var u 27 (oC m1 (c + k) m2 (c + k) m3 (c + k) dk')), (m1, .arr (c + k) true 3 58 (en eF dk'.files)), (m2, .arr (c + k) true 1 9 (en eS dk'.names)), (m3, .arr (c + k) true 2 60 (en eM dk'.moves))] := by
      simp only [renOBs, renOB, renOs, renO, R1, R2, R3, Option.map_some, verOf, if_true, Bool.false_eq_true, if_false, Blk.ver]
    rw [hhs] at key
    exact key
  · have hq : quiet r hs = false := by rw [← hhs]; simp [quiet]
    have hms : hs.map (·.m) = [m0, m1, m2, m3] := by rw [← hhs]; rfl
    rw [hq, hms]
    simpa [updH] using hk
theorem callDd (hC : ACallsF P fid (.c (.ptr 4001 u 0) :: al) (dkD m0 m1 m2 m3 m4 m5 u v1 v2 v3 dk F N rest) r) (hf : ev t f = .pt (.one (.fn fid []))) (hl : args.map (ev t) = .c (.ptr m0 u 0) :: al) (ha : al.all closedA = true) (hr : closedT r = true)
    (hm : [m0, m1, m2, m3, m4, m5].Nodup)
    (h0 : H m0 = some (.var u 27 (oC m1 v1 m2 v2 m3 v3 dk))) (h1 : H m1 = some (.arr v1 true 3 58 (en eF dk.files))) (h2 : H m2 = some (.arr v2 true 1 9 (en eS dk.names))) (h3 : H m3 = some (.arr v3 true 2 60 (en eM dk.moves)))
    (hk : chk prev un ⟨r, [(m0, .var u 27 [.own m4 (c + k) F.length, .own m5 (c + k) N.length, .nil0]), (m1, .arr v1 true 3 58 (en eF dk.files)), (m2, .arr v2 true 1 9 (en eS dk.names)), (m3, .arr v3 true 2 60 (en eM dk.moves)), (m4, .arr (c + k) true 3 58 (en eF F)), (m5, .arr (c + k) true 1 9 (en eS (N ++ rest)))], [m0, m1, m2, m3, m4, m5], [m0, m1, m2, m3, m4, m5]⟩ = true ∧
      DRun P l ((k, [m0, m1, m2, m3, m4, m5], [m0, m1, m2, m3, m4, m5]) :: prev) K ⟨updD t d r, upd (upd (upd (upd (upd (upd H m0 (some (.var u 27 [.own m4 (c + k) F.length, .own m5 (c + k) N.length, .nil0]))) m1 (some (.arr v1 true 3 58 (en eF dk.files)))) m2 (some (.arr v2 true 1 9 (en eS dk.names)))) m3 (some (.arr v3 true 2 60 (en eM dk.moves)))) m4 (some (.arr (c + k) true 3 58 (en eF F)))) m5 (some (.arr (c + k) true 1 9 (en eS (N ++ rest)))), c⟩) :
    step P k d un (.call f args) l prev K t H c := by
  generalize hhs : dkD m0 m1 m2 m3 m4 m5 u v1 v2 v3 dk F N rest = hs at hC
  have R0 : renN hs 4001 = some ⟨4001, m0, some (.var u 27 (oC 1001 v1 1002 v2 1003 v3 dk)), .var u 27 [.own 10 0 F.length, .own 7001 0 N.length, .nil0], true⟩ := by rw [← hhs]; rfl
  have R1 : renN hs 1001 = some (arH 1001 m1 v1 3 58 (en eF dk.files) (en eF dk.files)) := by rw [← hhs]; rfl
  have R2 : renN hs 1002 = some (arH 1002 m2 v2 1 9 (en eS dk.names) (en eS dk.names)) := by rw [← hhs]; rfl
  have R3 : renN hs 1003 = some (arH 1003 m3 v3 2 60 (en eM dk.moves) (en eM dk.moves)) := by rw [← hhs]; rfl
  have R4 : renN hs 10 = some (newH 10 m4 3 58 (en eF F)) := by rw [← hhs]; rfl
  have R5 : renN hs 7001 = some (newH 7001 m5 1 9 (en eS (N ++ rest))) := by rw [← hhs]; rfl
  have I0 : inN hs 4001 = some m0 := by simp [inN, R0]
  have I1 : inN hs 1001 = some m1 := by simp [inN, R1]
  have I2 : inN hs 1002 = some m2 := by simp [inN, R2]
  have I3 : inN hs 1003 = some m3 := by simp [inN, R3]
  obtain ⟨x1, x2⟩ := closed_As hs H al ha
  refine callW (caps := []) («as» := .c (.ptr m0 u 0) :: al) (ws := []) (ns := []) (r' := r) (ob := [(m0, .var u 27 [.own m4 (c + k) F.length, .own m5 (c + k) N.length, .nil0]), (m1, .arr v1 true 3 58 (en eF dk.files)), (m2, .arr v2 true 1 9 (en eS dk.names)), (m3, .arr v3 true 2 60 (en eM dk.moves)), (m4, .arr (c + k) true 3 58 (en eF F)), (m5, .arr (c + k) true 1 9 (en eS (N ++ rest)))]) hs hC hf ?_ ?_ ?_ (by rw [← hhs]; exact hm) (by rw [← hhs]; simp) (closed_T _ r hr _) ?_ ?_
  · have a1 : lendT H (T.c (.ptr 4001 u 0)) (T.c (.ptr m0 u 0)) = some (T.c (.ptr m0 u 0), [], []) := rfl
    rw [hl]
    simp only [List.map_nil, List.append_nil, lendTs, a1, x1]
  · have a1 : renIT hs (T.c (.ptr 4001 u 0)) = some (T.c (.ptr m0 u 0)) := by simp only [T.c, renIT, renI, I0, Option.map_some]
    simp only [renITs, a1, x2]
  · have B0 : renIB hs (.var u 27 (oC 1001 v1 1002 v2 1003 v3 dk)) = some (.var u 27 (oC m1 v1 m2 v2 m3 v3 dk)) := by simp only [renIB, renIs, renI, I1, I2, I3, Option.map_some]
    have B1 : ∀ v wr st ty es, renIB hs (.arr v wr st ty es) = some (.arr v wr st ty es) := fun _ _ _ _ _ => rfl
    have key : handsIn (updH H []) hs (dkD m0 m1 m2 m3 m4 m5 u v1 v2 v3 dk F N rest) := by
      simp only [handsIn, B0, B1, updH, h0, h1, h2, h3, and_self]
    rw [hhs] at key
    exact key
  · have key : renOBs hs (c + k) (dkD m0 m1 m2 m3 m4 m5 u v1 v2 v3 dk F N rest) = some [(m0, .var u 27 [.own m4 (c + k) F.length, .own m5 (c + k) N.length, .nil0]), (m1, .arr v1 true 3 58 (en eF dk.files)), (m2, .arr v2 true 1 9 (en eS dk.names)), (m3, .arr v3 true 2 60 (en eM dk.moves)), (m4, .arr (c + k) true 3 58 (en eF F)), (m5, .arr (c + k) true 1 9 (en eS (N ++ rest)))] := by
      simp only [renOBs, renOB, renOs, renO, R4, R5, Option.map_some, verOf, if_true, Bool.false_eq_true, if_false, Blk.ver]
    rw [hhs] at key
    exact key
  · have hq : quiet r hs = false := by rw [← hhs]; simp [quiet]
    have hms : hs.map (·.m) = [m0, m1, m2, m3, m4, m5] := by rw [← hhs]; rfl
    rw [hq, hms]
    simpa [updH] using hk
end
/- (*loop.example/teagle/impl.Disk).move -/
def r54_0 : List AOper := [ao 0 6 (.mv (.t 0)),
  ao 1 7 (.mv (.t 0)),
  ao 2 8 (.nck (.t 7)),
  ao 3 9 (.fa 2 (.t 8)),
  ao 4 10 (.ld 1 false (.t 9)),
  ao 5 11 (.mv (.t 2)),
  ao 6 12 (.mv (.t 1)),
  ao 7 13 (.build [(.v (.s (.bool false))), (.v (.s (.string ⟨#[]⟩)))] [(0, 1, (.t 11)), (1, 1, (.t 12))]),
  ao 8 14 (.bsl 2 60 [(.t 13)]),
  ao 9 15 (.app 2 60 24 (.t 10) (.t 14)),
  ao 10 16 (.nck (.t 6)),
  ao 11 17 (.fa 2 (.t 16)),
  an 12 (.st 1 (.t 17) (.t 15))]
def c54 : ACode := (.reg r54_0)
def s54 : List ARes := []
theorem ok54 : okF Try.prog 54 18 c54 s54 := ⟨Try.f54, Try.func54, Try.ntmps54, by kernel_rfl, by kernel_rfl, by kernel_rfl⟩
def UPp_1 := Bx.mk <|
  aN (uA c54.eq_1) <| aN (uR r54_0.eq_1) <| s54.eq_1
theorem move_ok (d : Dk) (hd : smallDk d) (nm : ByteArray) (g : Bool) (m0 m1 m2 m3 u v1 v2 v3 : Nat) : ACallsF Try.prog 54 [.c (.ptr 4001 u 0), tS nm, .b g] (dkW m0 m1 m2 m3 u v1 v2 v3 d ⟨d.files, d.names, d.moves ++ [⟨g, nm⟩]⟩) (.tup []) := by
  have h3 := hd.m
  have q3 : (d.moves.length + 1) * 24 ≤ 140737488355328 := by omega
  have q4 : d.moves.length + 1 ≤ 9223372036854775807 := by omega
  refine ACallsF.intro ok54 follows fun X c0 => ?_
  simp only [RUX, Nat.reduceAdd, reduceIte, Nat.reduceEqDiff, Nat.reduceLT, Nat.reduceLeDiff, reduceCtorEq, eq_self, FIX, forall_const, endE_n, endE_r, CHT, disj, Nat.reduceBEq, beq_self_eq_true, APT, APX, forall_eq, ALT, UPp_1.d, q3, q4, en_snoc, eM, false_implies, and_self]
end Go.V
set_option linter.unusedSimpArgs false
namespace Go.V
open Go.Proofs
/-- A disk's arrays, lent. -/
abbrev dkL (c1 v1 c2 v2 c3 v3 : Nat) (d : Dk) : List (Nat × Blk) := [(c1, .arr v1 false 3 58 (en eF d.files)), (c2, .arr v2 false 1 9 (en eS d.names)), (c3, .arr v3 false 2 60 (en eM d.moves))]
/- (*loop.example/teagle/impl.Disk).dirs -/
def r53_0 : List AOper := [ao 0 6 (.mv (.t 0)),
  ao 1 7 (.nck (.t 6)),
  ao 2 8 (.ld 3 true (.t 7)),
  ao 3 9 (.call (.k (.c (.fn 44 []))) [(.t 8)]),
  ao 4 10 (.bsl 3 58 []),
  ao 5 2 (.mv (.t 9)),
  ao 6 3 (.mv (.t 10))]
def r53_1 : List AOper := [ao 0 11 (.mv (.t 2)),
  ao 1 12 (.len (.t 11)),
  ao 2 13 (.mv (.k (.i 0)))]
def r53_2 : List AOper := [ao 0 14 (.bin .lss (.t 13) (.t 12))]
def c53_3 : ACode := .cond (.t 14) .skip (.exit 0)
def r53_4 : List AOper := [ao 0 15 (.ia 1 (.t 11) (.t 13)),
  ao 1 16 (.ld 1 false (.t 15)),
  ao 2 5 (.mv (.t 16))]
def r53_5 : List AOper := [ao 0 17 (.mv (.t 3)),
  au 1 18 [0] (.mv (.t 0)),
  au 2 19 [0] (.nck (.t 18)),
  au 3 20 [0] (.fa 0 (.t 19)),
  au 4 21 [0] (.ld 1 false (.t 20)),
  au 5 22 (ru 5) (.mv (.t 0)),
  au 6 23 (ru 5) (.nck (.t 22)),
  au 7 24 (ru 5) (.ld 3 true (.t 23)),
  au 8 25 (ru 8) (.mv (.t 5)),
  au 9 26 (ru 5) (.call (.k (.c (.fn 40 []))) [(.t 24), (.t 25)]),
  au 10 27 [0] (.ia 3 (.t 21) (.t 26)),
  au 11 28 [0] (.ld 3 true (.t 27)),
  au 12 29 [0] (.bsl 3 58 [(.t 28)]),
  ao 13 30 (.app 3 58 40 (.t 17) (.t 29)),
  ao 14 3 (.mv (.t 30))]
def c53_6 : ACode := .seq (.reg r53_4) (.reg r53_5)
def c53_7 : ACode := .block 1 c53_6
def r53_8 : List AOper := [ao 0 31 (.bin .add (.t 13) (.k (.i 1))),
  ao 1 13 (.mv (.t 31))]
def c53_9 : ACode := .seq (.reg r53_2) (.seq c53_3 (.seq c53_7 (.reg r53_8)))
def c53_10 : ACode := .loop c53_9
def c53_11 : ACode := .block 0 c53_10
def c53_12 : ACode := .seq (.reg r53_1) c53_11
def r53_13 : List AOper := [ao 0 32 (.mv (.t 0)),
  ao 1 33 (.mv (.t 0)),
  ao 2 34 (.mv (.t 0)),
  ao 3 35 (.mv (.t 3)),
  ao 4 36 (.mv (.t 2)),
  ao 5 37 (.nck (.t 32)),
  ao 6 38 (.fa 0 (.t 37)),
  an 7 (.st 1 (.t 38) (.t 35)),
  ao 8 39 (.nck (.t 33)),
  ao 9 40 (.fa 1 (.t 39)),
  an 10 (.st 1 (.t 40) (.t 36)),
  ao 11 41 (.nck (.t 34)),
  ao 12 42 (.fa 2 (.t 41)),
  an 13 (.st 1 (.t 42) (.k (.c .nil0)))]
def c53 : ACode := .seq (.reg r53_0) (.seq c53_12 (.reg r53_13))
def s53 : List ARes := []
theorem ok53 : okF Try.prog 53 43 c53 s53 := ⟨Try.f53, Try.func53, Try.ntmps53, by kernel_rfl, by kernel_rfl, by kernel_rfl⟩
def inv53 (d : Dk) (N rest : List ByteArray) (u v1 v2 v3 w : Nat) (i : Nat) (σ : St) : Prop := σ.t 0 = .c (.ptr 4001 u 0) ∧ σ.H 4001 = some (.var u 27 (oC 1001 v1 1002 v2 1003 v3 d)) ∧ σ.H 1001 = some (.arr v1 true 3 58 (en eF d.files)) ∧ σ.H 1002 = some (.arr v2 true 1 9 (en eS d.names)) ∧ σ.H 1003 = some (.arr v3 true 2 60 (en eM d.moves)) ∧
  (σ.t 2 = .c (.own 7001 w N.length) ∧ σ.t 11 = .c (.own 7001 w N.length) ∧ σ.H 7001 = some (.arr w true 1 9 (en eS (N ++ rest)))) ∧ (∃ v, σ.t 3 = .c (.own 10 v ((N.take i).map (fileOf d.files)).length) ∧ σ.H 10 = some (.arr v true 3 58 (en eF ((N.take i).map (fileOf d.files))))) ∧ σ.t 12 = .i N.length ∧ σ.t 13 = .i i
def UPq_1 := Bx.mk <|
  aN (uA c53.eq_1) <| aN (uR r53_0.eq_1) <| aN (uA c53_12.eq_1) <| aN (uR r53_1.eq_1) <| aN (uA c53_11.eq_1) <| aN (uA c53_10.eq_1) <| aN (uR r53_13.eq_1) <| s53.eq_1
def UPq_2 := Bx.mk <|
  aN (uA c53_9.eq_1) <| aN (uR r53_2.eq_1) <| aN (uA c53_3.eq_1) <| aN (uA c53_7.eq_1) <| aN (uA c53_6.eq_1) <| aN (uR r53_4.eq_1) <| aN (uR r53_5.eq_1) <| aN (uR r53_8.eq_1) <| aN (uA c53.eq_1) <| aN (uR r53_0.eq_1) <| aN (uA c53_12.eq_1) <| aN (uR r53_1.eq_1) <| aN (uA c53_11.eq_1) <| aN (uA c53_10.eq_1) <| aN (uR r53_13.eq_1) <| s53.eq_1
theorem dirs_ok (d : Dk) (hd : fineDk d) (hD : DOk d) (m0 m1 m2 m3 m4 m5 u v1 v2 v3 : Nat) : ACallsF Try.prog 53 [.c (.ptr 4001 u 0)] (dkD m0 m1 m2 m3 m4 m5 u v1 v2 v3 d ((aft d.names d.moves).map (fileOf d.files)) (aft d.names d.moves) (runI d.names d.moves).2) (.tup []) := by
  have hN := hD.nmI d.moves.length (Nat.le_refl _)
  rw [List.take_length] at hN
  have hT := there_ok d hd.s 7001
  rw [hN] at hT
  have hal := aft_len d.moves d.names
  have s1 := hd.s.f
  have s2 := hd.s.n
  have s3 := hd.s.m
  have hmem : ∀ x ∈ aft d.names d.moves, x ∈ made d := fun x hx => DOk.aft_made (n := d.moves.length) (by rw [List.take_length]; exact hx)
  generalize aft d.names d.moves = N at *
  generalize (runI d.names d.moves).2 = rest at *
  refine ACallsF.intro ok53 follows fun X c0 => ?_
  simp only [RUX, Nat.reduceAdd, reduceIte, Nat.reduceEqDiff, Nat.reduceLT, Nat.reduceLeDiff, reduceCtorEq, eq_self, FIX, forall_const, endE_n, endE_r, CHT, disj, Nat.reduceBEq, beq_self_eq_true, APT, APX, forall_eq, ALT, UPq_1.d]
  refine callA1 (m := 7001) (ws := dkL 1001 v1 1002 v2 1003 v3 d) (ns := [1001, 1002, 1003]) hT rfl ?_ rfl (en_flat eS eS_flat _) ⟨?_, ?_⟩
  · simp only [RUX, Nat.reduceAdd, reduceIte, Nat.reduceEqDiff, Nat.reduceLT, Nat.reduceLeDiff, reduceCtorEq, eq_self, FIX, forall_const, endE_n, endE_r, CHT, disj, Nat.reduceBEq, beq_self_eq_true, APT, APX, forall_eq, ALT, UPq_1.d, lendTs, lendT, dkL]
  · simp only [RUX, Nat.reduceAdd, reduceIte, Nat.reduceEqDiff, Nat.reduceLT, Nat.reduceLeDiff, reduceCtorEq, eq_self, FIX, forall_const, endE_n, endE_r, CHT, disj, Nat.reduceBEq, beq_self_eq_true, APT, APX, forall_eq, ALT, UPq_1.d]
  simp only [RUX, Nat.reduceAdd, reduceIte, Nat.reduceEqDiff, Nat.reduceLT, Nat.reduceLeDiff, reduceCtorEq, eq_self, FIX, forall_const, endE_n, endE_r, CHT, disj, Nat.reduceBEq, beq_self_eq_true, APT, APX, forall_eq, ALT, UPq_1.d]
  refine AW.upto N.length (inv53 d N rest u v1 v2 v3 (c0 + 3)) ⟨rfl, rfl, rfl, rfl, rfl, ⟨rfl, rfl, rfl⟩, ⟨_, rfl, rfl⟩, rfl, rfl⟩ fun i t H c hi h => ?_
  obtain ⟨e0, eH0, eH1, eH2, eH3, ⟨e2, e11, eHn⟩, ⟨v, e3, eHf⟩, e12, e13⟩ := h
  simp only [T.c, T.i, T.s, tL, oC] at e0 eH0 eH1 eH2 eH3 e2 e11 eHn e3 eHf e12 e13
  by_cases hlt : i < N.length
  · obtain ⟨x, hx⟩ : ∃ x, N[i]? = some x := ⟨_, List.getElem?_eq_getElem hlt⟩
    have hx2 : (N ++ rest)[i]? = some x := by rw [List.getElem?_append_left hlt]; exact hx
    obtain ⟨j, hj1, hj2, hj3⟩ := hD.find (hmem x (List.mem_of_getElem? hx))
    have hjl := (List.getElem?_eq_some_iff.1 hj2).1
    have ex := en_at eS hx2
    have ef := en_at eF hj2
    have k1 : (i : Int) < N.length := by omega
    have k2 : (j : Int) < d.files.length := by omega
    have gz : (0 : Int) ≤ i := by omega
    have gj : (0 : Int) ≤ j := by omega
    have hle : N.length ≤ N.length + rest.length := by omega
    have gw : IntKind.i64.wrap ((i : Int) + 1) = ((i + 1 : Nat) : Int) := wrap64 (x := (i : Int) + 1) ⟨by omega, by omega⟩
    have ht : (N.take (i + 1)).map (fileOf d.files) = (N.take i).map (fileOf d.files) ++ [fileOf d.files x] := by rw [List.take_add_one, hx]; simp
    have hl : ((N.take i).map (fileOf d.files)).length ≤ 3000000 := by rw [List.length_map, List.length_take]; omega
    generalize hq : (N.take i).map (fileOf d.files) = q at *
    have q3 : (q.length + 1) * 40 ≤ 140737488355328 := by omega
    have q4 : q.length + 1 ≤ 9223372036854775807 := by omega
    have hfo := fileAt_ok d x (by omega)
    rw [hj1] at hfo
    simp only [RUX, Nat.reduceAdd, reduceIte, Nat.reduceEqDiff, Nat.reduceLT, Nat.reduceLeDiff, reduceCtorEq, eq_self, FIX, forall_const, endE_n, endE_r, CHT, disj, Nat.reduceBEq, beq_self_eq_true, APT, APX, forall_eq, ALT, UPq_2.d, e0, eH0, eH1, eH2, eH3, e2, e11, eHn, e12, e13, en_len, k1, gz, ex, eS, hle]
    refine callL (ws := dkL 1001 v1 1002 v2 1003 v3 d) (ns := [1001, 1002, 1003]) hfo rfl ?_ rfl rfl ⟨?_, ?_⟩
    · simp only [RUX, Nat.reduceAdd, reduceIte, Nat.reduceEqDiff, Nat.reduceLT, Nat.reduceLeDiff, reduceCtorEq, eq_self, FIX, forall_const, endE_n, endE_r, CHT, disj, Nat.reduceBEq, beq_self_eq_true, APT, APX, forall_eq, ALT, UPq_2.d, lendTs, lendT, dkL, eH1, eH2, eH3]
    · simp only [RUX, Nat.reduceAdd, reduceIte, Nat.reduceEqDiff, Nat.reduceLT, Nat.reduceLeDiff, reduceCtorEq, eq_self, FIX, forall_const, endE_n, endE_r, CHT, disj, Nat.reduceBEq, beq_self_eq_true, APT, APX, forall_eq, ALT, UPq_2.d, scalarT, scalarP, scalarC]
    simp only [RUX, Nat.reduceAdd, reduceIte, Nat.reduceEqDiff, Nat.reduceLT, Nat.reduceLeDiff, reduceCtorEq, eq_self, FIX, forall_const, endE_n, endE_r, CHT, disj, Nat.reduceBEq, beq_self_eq_true, APT, APX, forall_eq, ALT, UPq_2.d, scalarT, scalarP, scalarC, e3, eHf, eH1, e13, gj, k2, ef, eF, gw, q3, q4]
    unfold inv53
    rw [ht, en_snoc, List.length_append]
    exact ⟨hlt, e0, eH0, eH1, eH2, eH3, ⟨e2, e11, eHn⟩, ⟨_, rfl, rfl⟩, e12, rfl⟩
  · have k1 : ¬ (i : Int) < N.length := by omega
    have hi2 : i = N.length := by omega
    subst hi2
    rw [List.take_length] at e3 eHf
    simp only [RUX, Nat.reduceAdd, reduceIte, Nat.reduceEqDiff, Nat.reduceLT, Nat.reduceLeDiff, reduceCtorEq, eq_self, FIX, forall_const, endE_n, endE_r, CHT, disj, Nat.reduceBEq, beq_self_eq_true, APT, APX, forall_eq, ALT, UPq_2.d, UPq_1.d, e0, eH0, eH1, eH2, eH3, e2, eHn, e3, eHf, e12, e13, k1, false_implies, and_self, List.length_map]
end Go.V
set_option linter.unusedSimpArgs false
namespace Go.V
open Go.Proofs
/- (*loop.example/teagle/impl.Disk).write -/
def r33_0 : List AOper := [ao 0 3 (.box 29 (.t 1)),
  ao 1 4 (.mv (.k (.i 0)))]
def r33_1 : List AOper := [ao 0 8 (.mv (.t 0)),
  ao 1 9 (.nck (.t 8)),
  ao 2 10 (.fa 2 (.t 9)),
  ao 3 11 (.ld 1 false (.t 10)),
  ao 4 12 (.len (.t 11)),
  ao 5 13 (.bin .eql (.t 12) (.k (.i 128))),
  ao 6 5 (.mv (.t 13))]
def r33_2 : List AOper := [ao 0 14 (.mv (.t 0)),
  ao 1 15 (.nck (.t 14)),
  ao 2 16 (.ld 3 true (.t 15)),
  au 3 17 (ru 3) (.fa 1 (.t 3)),
  au 4 18 (ru 3) (.ld 1 false (.t 17)),
  ao 5 19 (.call (.k (.c (.fn 40 []))) [(.t 16), (.t 18)]),
  au 6 20 (ru 6) (.mv (.t 0)),
  au 7 21 (ru 6) (.nck (.t 20)),
  au 8 22 (ru 6) (.ld 3 true (.t 21)),
  ao 9 23 (.call (.k (.c (.fn 44 []))) [(.t 22)]),
  au 10 24 (ru 10) (.fa 1 (.t 3)),
  au 11 25 (ru 10) (.ld 1 false (.t 24)),
  ao 12 26 (.call (.k (.c (.fn 37 []))) [(.t 23), (.t 25)]),
  ao 13 6 (.mv (.t 19)),
  ao 14 7 (.mv (.t 26))]
def r33_3 : List AOper := [ao 0 28 (.fa 0 (.t 3)),
  ao 1 29 (.ld 1 false (.t 28)),
  ao 2 30 (.call (.k (.c (.fn 41 []))) [(.t 29), (.k (.i 1)), (.k (.i 5))]),
  ao 3 31 (.un .not (.t 30)),
  ao 4 27 (.mv (.t 31))]
def r33_4 : List AOper := [ao 0 4 (.mv (.k (.i 5)))]
def c33_5 : ACode := .seq (.reg r33_4) .ret
def r33_6 : List AOper := [ao 0 33 (.fa 0 (.t 3)),
  ao 1 34 (.ld 1 false (.t 33)),
  ao 2 35 (.bin .eql (.t 34) (.k (.i 5))),
  ao 3 32 (.mv (.t 35))]
def r33_7 : List AOper := [ao 0 36 (.mv (.t 0)),
  ao 1 37 (.call (.k (.c (.fn 53 []))) [(.t 36)])]
def r33_8 : List AOper := [ao 0 4 (.mv (.k (.i 0)))]
def c33_9 : ACode := .seq (.reg r33_7) (.seq (.reg r33_8) .ret)
def r33_10 : List AOper := [ao 0 39 (.fa 0 (.t 3)),
  ao 1 40 (.ld 1 false (.t 39)),
  ao 2 41 (.bin .eql (.t 40) (.k (.i 1))),
  ao 3 42 (.mv (.t 41)),
  ag 4 43 42 true [] (.fa 1 (.t 3)),
  ag 5 44 42 true [] (.ld 1 false (.t 43)),
  ag 6 45 42 true [] (.call (.k (.c (.fn 39 []))) [(.t 44)]),
  ag 7 46 42 true [] (.un .not (.t 45)),
  ag 8 47 42 true [] (.mv (.t 46)),
  ag 9 48 47 false [] (.mv (.t 6)),
  ag 10 49 47 false [] (.bin .geq (.t 48) (.k (.i 0))),
  ag 11 50 42 true [] (.pick (.t 47) (.k (.b true)) (.t 49)),
  ao 12 51 (.pick (.t 42) (.t 50) (.k (.b false))),
  ao 13 38 (.mv (.t 51))]
def r33_11 : List AOper := [ao 0 4 (.mv (.k (.i 3)))]
def c33_12 : ACode := .seq (.reg r33_11) .ret
def r33_13 : List AOper := [ao 0 53 (.fa 0 (.t 3)),
  ao 1 54 (.ld 1 false (.t 53)),
  ao 2 55 (.bin .neq (.t 54) (.k (.i 1))),
  ao 3 56 (.mv (.t 55)),
  ag 4 57 56 true [] (.mv (.t 7)),
  ag 5 58 56 true [] (.un .not (.t 57)),
  ao 6 59 (.pick (.t 56) (.t 58) (.k (.b false))),
  ao 7 52 (.mv (.t 59))]
def r33_14 : List AOper := [ao 0 4 (.mv (.k (.i 2)))]
def c33_15 : ACode := .seq (.reg r33_14) .ret
def r33_16 : List AOper := [ao 0 61 (.fa 0 (.t 3)),
  ao 1 62 (.ld 1 false (.t 61)),
  ao 2 63 (.bin .eql (.t 62) (.k (.i 1))),
  ao 3 64 (.mv (.t 63)),
  ag 4 65 64 true [] (.mv (.t 5)),
  ag 5 66 64 true [] (.mv (.t 65)),
  ag 6 67 66 false [] (.mv (.t 0)),
  ag 7 68 66 false [] (.nck (.t 67)),
  ag 8 69 66 false [] (.fa 0 (.t 68)),
  ag 9 70 66 false [] (.ld 1 false (.t 69)),
  ag 10 71 66 false [] (.len (.t 70)),
  ag 11 72 66 false [] (.bin .eql (.t 71) (.k (.i 64))),
  ag 12 73 64 true [] (.pick (.t 66) (.k (.b true)) (.t 72)),
  ao 13 74 (.pick (.t 64) (.t 73) (.k (.b false))),
  ao 14 60 (.mv (.t 74))]
def r33_17 : List AOper := [ao 0 75 (.fa 0 (.t 3)),
  ao 1 76 (.ld 1 false (.t 75)),
  ao 2 77 (.bin .eql (.t 76) (.k (.i 4))),
  ao 3 78 (.mv (.t 77)),
  ag 4 79 78 true [] (.mv (.t 5)),
  ao 5 80 (.pick (.t 78) (.t 79) (.k (.b false))),
  ao 6 60 (.mv (.t 80))]
def c33_18 : ACode := .cond (.t 60) .skip (.reg r33_17)
def c33_19 : ACode := .seq (.reg r33_16) c33_18
def r33_20 : List AOper := [ao 0 4 (.mv (.k (.i 4)))]
def c33_21 : ACode := .seq (.reg r33_20) .ret
def r33_22 : List AOper := [ao 0 82 (.fa 0 (.t 3)),
  ao 1 83 (.ld 1 false (.t 82)),
  ao 2 84 (.bin .eql (.t 83) (.k (.i 2))),
  ao 3 85 (.mv (.t 84)),
  ag 4 86 85 true [] (.mv (.t 0)),
  ag 5 87 85 true [] (.nck (.t 86)),
  ag 6 88 85 true [] (.fa 0 (.t 87)),
  ag 7 89 85 true [] (.ld 1 false (.t 88)),
  ag 8 90 85 true [4, 5, 6, 7] (.mv (.t 6)),
  ag 9 91 85 true [] (.ia 3 (.t 89) (.t 90)),
  ag 10 92 85 true [] (.fa 1 (.t 91)),
  ag 11 93 85 true [] (.ld 1 false (.t 92)),
  ag 12 94 85 true [] (.lenS (.t 93)),
  ag 13 95 85 true [4, 5, 6, 7, 8, 9, 10, 11, 12] (.fa 2 (.t 3)),
  ag 14 96 85 true [4, 5, 6, 7, 8, 9, 10, 11, 12] (.ld 1 false (.t 95)),
  ag 15 97 85 true [4, 5, 6, 7, 8, 9, 10, 11, 12] (.lenS (.t 96)),
  ag 16 98 85 true [] (.bin .add (.t 94) (.t 97)),
  ag 17 99 85 true [] (.bin .gtr (.t 98) (.k (.i 20000))),
  ao 18 100 (.pick (.t 85) (.t 99) (.k (.b false))),
  ao 19 81 (.mv (.t 100))]
def r33_23 : List AOper := [ao 0 4 (.mv (.k (.i 4)))]
def c33_24 : ACode := .seq (.reg r33_23) .ret
def c33_25 : ACode := .cond (.t 81) c33_24 .skip
def c33_26 : ACode := .seq (.reg r33_22) c33_25
def c33_27 : ACode := .cond (.t 60) c33_21 c33_26
def c33_28 : ACode := .seq c33_19 c33_27
def c33_29 : ACode := .cond (.t 52) c33_15 c33_28
def c33_30 : ACode := .seq (.reg r33_13) c33_29
def c33_31 : ACode := .cond (.t 38) c33_12 c33_30
def c33_32 : ACode := .seq (.reg r33_10) c33_31
def c33_33 : ACode := .cond (.t 32) c33_9 c33_32
def c33_34 : ACode := .seq (.reg r33_6) c33_33
def c33_35 : ACode := .cond (.t 27) c33_5 c33_34
def c33_36 : ACode := .seq (.reg r33_3) c33_35
def c33_37 : ACode := .block 0 c33_36
def r33_38 : List AOper := [ao 0 101 (.fa 0 (.t 3)),
  ao 1 102 (.ld 1 false (.t 101))]
def r33_39 : List AOper := [ao 0 108 (.bin .eql (.t 102) (.k (.i 1))),
  ao 1 107 (.mv (.t 108))]
def r33_40 : List AOper := [ao 0 109 (.mv (.t 0)),
  au 1 110 [0] (.mv (.t 0)),
  au 2 111 [0] (.nck (.t 110)),
  au 3 112 [0] (.fa 0 (.t 111)),
  au 4 113 [0] (.ld 1 false (.t 112)),
  au 5 114 (ru 5) (.fa 1 (.t 3)),
  au 6 115 (ru 5) (.ld 1 false (.t 114)),
  au 7 116 (ru 5) (.build [(.v (.s (.string ⟨#[]⟩))), (.v (.s (.string ⟨#[]⟩))), (.v (.s (.int .i64 0)))] [(0, 1, (.t 115))]),
  au 8 117 (ru 5) (.bsl 3 58 [(.t 116)]),
  au 9 118 [0] (.app 3 58 40 (.t 113) (.t 117)),
  ao 10 119 (.nck (.t 109)),
  ao 11 120 (.fa 0 (.t 119)),
  an 12 (.st 1 (.t 120) (.t 118))]
def r33_41 : List AOper := [ao 0 121 (.mv (.t 0)),
  ao 1 122 (.fa 1 (.t 3)),
  ao 2 123 (.ld 1 false (.t 122)),
  ao 3 124 (.call (.k (.c (.fn 54 []))) [(.t 121), (.t 123), (.k (.b false))])]
def c33_42 : ACode := .seq (.reg r33_40) (.reg r33_41)
def r33_43 : List AOper := [ao 0 126 (.bin .eql (.t 102) (.k (.i 2))),
  ao 1 125 (.mv (.t 126))]
def r33_44 : List AOper := [ao 0 127 (.mv (.t 0)),
  ao 1 128 (.nck (.t 127)),
  ao 2 129 (.fa 0 (.t 128)),
  ao 3 130 (.ld 1 false (.t 129)),
  au 4 131 (ru 4) (.mv (.t 6)),
  ao 5 132 (.ia 3 (.t 130) (.t 131)),
  ao 6 133 (.fa 1 (.t 132)),
  ao 7 134 (.ld 1 false (.t 133)),
  au 8 135 (ru 8) (.fa 2 (.t 3)),
  au 9 136 (ru 8) (.ld 1 false (.t 135)),
  ao 10 137 (.bin .add (.t 134) (.t 136)),
  ao 11 138 (.ia 3 (.t 130) (.t 131)),
  ao 12 139 (.fa 1 (.t 138)),
  an 13 (.st 1 (.t 139) (.t 137))]
def r33_45 : List AOper := [ao 0 141 (.bin .eql (.t 102) (.k (.i 3))),
  ao 1 140 (.mv (.t 141))]
def r33_46 : List AOper := [ao 0 142 (.mv (.t 0)),
  ao 1 143 (.nck (.t 142)),
  ao 2 144 (.fa 0 (.t 143)),
  ao 3 145 (.ld 1 false (.t 144)),
  au 4 146 (ru 4) (.mv (.t 6)),
  au 5 147 (ru 5) (.mv (.t 0)),
  au 6 148 (ru 5) (.nck (.t 147)),
  au 7 149 (ru 5) (.fa 0 (.t 148)),
  au 8 150 (ru 5) (.ld 1 false (.t 149)),
  au 9 151 (ru 9) (.mv (.t 6)),
  au 10 152 (ru 5) (.ia 3 (.t 150) (.t 151)),
  au 11 153 (ru 5) (.fa 1 (.t 152)),
  au 12 154 (ru 5) (.ld 1 false (.t 153)),
  au 13 155 (ru 5) (.lenS (.t 154)),
  ao 14 156 (.ia 3 (.t 145) (.t 146)),
  ao 15 157 (.fa 2 (.t 156)),
  an 16 (.st 1 (.t 157) (.t 155))]
def r33_47 : List AOper := [ao 0 103 (.mv (.t 0)),
  ao 1 104 (.fa 1 (.t 3)),
  ao 2 105 (.ld 1 false (.t 104)),
  ao 3 106 (.call (.k (.c (.fn 54 []))) [(.t 103), (.t 105), (.k (.b true))])]
def c33_48 : ACode := .cond (.t 140) (.reg r33_46) (.reg r33_47)
def c33_49 : ACode := .seq (.reg r33_45) c33_48
def c33_50 : ACode := .cond (.t 125) (.reg r33_44) c33_49
def c33_51 : ACode := .seq (.reg r33_43) c33_50
def c33_52 : ACode := .cond (.t 107) c33_42 c33_51
def c33_53 : ACode := .seq (.reg r33_39) c33_52
def c33_54 : ACode := .block 1 c33_53
def c33_55 : ACode := .seq (.reg r33_38) c33_54
def r33_56 : List AOper := [ao 0 4 (.mv (.k (.i 0)))]
def c33 : ACode := .seq (.reg r33_0) (.seq (.reg r33_1) (.seq (.reg r33_2) (.seq c33_37 (.seq c33_55 (.seq (.reg r33_56) .ret)))))
def s33 : List ARes := [.tmp 4]
theorem ok33 : okF Try.prog 33 158 c33 s33 := ⟨Try.f33, Try.func33, Try.ntmps33, by kernel_rfl, by kernel_rfl, by kernel_rfl⟩
def UPr_1 := Bx.mk <|
  aN (uA c33.eq_1) <| aN (uR r33_0.eq_1) <| aN (uR r33_1.eq_1) <| aN (uR r33_2.eq_1) <| aN (uA c33_37.eq_1) <| aN (uA c33_36.eq_1) <| aN (uR r33_3.eq_1) <| aN (uA c33_35.eq_1) <| aN (uA c33_5.eq_1) <| aN (uR r33_4.eq_1) <| aN (uA c33_34.eq_1) <| aN (uR r33_6.eq_1) <| aN (uA c33_33.eq_1) <| aN (uA c33_9.eq_1) <| aN (uR r33_7.eq_1) <| aN (uR r33_8.eq_1) <| aN (uA c33_32.eq_1) <| aN (uR r33_10.eq_1) <| aN (uA c33_31.eq_1) <| aN (uA c33_12.eq_1) <| aN (uR r33_11.eq_1) <| aN (uA c33_30.eq_1) <| aN (uR r33_13.eq_1) <| aN (uA c33_29.eq_1) <| aN (uA c33_15.eq_1) <| aN (uR r33_14.eq_1) <| aN (uA c33_28.eq_1) <| aN (uA c33_19.eq_1) <| aN (uR r33_16.eq_1) <| aN (uA c33_18.eq_1) <| aN (uR r33_17.eq_1) <| aN (uA c33_27.eq_1) <| aN (uA c33_21.eq_1) <| aN (uR r33_20.eq_1) <| aN (uA c33_26.eq_1) <| aN (uR r33_22.eq_1) <| aN (uA c33_25.eq_1) <| aN (uA c33_24.eq_1) <| aN (uR r33_23.eq_1) <| aN (uA c33_55.eq_1) <| aN (uR r33_38.eq_1) <| aN (uA c33_54.eq_1) <| aN (uA c33_53.eq_1) <| aN (uR r33_39.eq_1) <| aN (uA c33_52.eq_1) <| aN (uA c33_42.eq_1) <| aN (uR r33_40.eq_1) <| aN (uR r33_41.eq_1) <| aN (uA c33_51.eq_1) <| aN (uR r33_43.eq_1) <| aN (uA c33_50.eq_1) <| aN (uR r33_44.eq_1) <| aN (uA c33_49.eq_1) <| aN (uR r33_45.eq_1) <| aN (uA c33_48.eq_1) <| aN (uR r33_46.eq_1) <| aN (uR r33_47.eq_1) <| aN (uR r33_56.eq_1) <| s33.eq_1
set_option maxRecDepth 20000 in
set_option maxHeartbeats 2000000 in
theorem writeD_ok (d : Dk) (w : DW) (hd : fineDk d) (_hw : fineDW w) (hD : DOk d) (k5 : w.kind = 5) (m0 m1 m2 m3 m4 m5 u v1 v2 v3 : Nat) :
    ACallsF Try.prog 33 [.c (.ptr 4001 u 0), tDW w] (dkD m0 m1 m2 m3 m4 m5 u v1 v2 v3 d ((aft d.names d.moves).map (fileOf d.files)) (aft d.names d.moves) (runI d.names d.moves).2) (.i 0) := by
  have s1 := hd.s.f
  have s2 := hd.s.n
  have s3 := hd.s.m
  have hN := hD.nmI d.moves.length (Nat.le_refl _)
  rw [List.take_length] at hN
  have hT := there_ok d hd.s 7002
  rw [hN] at hT
  have hal := aft_len d.moves d.names
  have hle : (aft d.names d.moves).length ≤ (aft d.names d.moves).length + (runI d.names d.moves).2.length := by omega
  have hin := inRange_ok w.kind 1 5
  have hx : (decide ((1 : Int) ≤ w.kind) && decide (w.kind ≤ 5)) = true := by rw [k5]; rfl
  rw [hx] at hin
  have b5 : (w.kind == 5) = true := by simp [k5]
  refine ACallsF.intro ok33 follows fun X c0 => ?_
  simp only [RUX, Nat.reduceAdd, reduceIte, Nat.reduceEqDiff, Nat.reduceLT, Nat.reduceLeDiff, reduceCtorEq, eq_self, FIX, forall_const, endE_n, endE_r, CHT, disj, Nat.reduceBEq, beq_self_eq_true, APT, APX, forall_eq, ALT, UPr_1.d]
  refine callL (ws := dkL 1001 v1 1002 v2 1003 v3 d) (ns := [1001, 1002, 1003]) (fileAt_ok d w.name (by omega)) rfl ?_ rfl rfl ⟨?_, ?_⟩
  · simp only [RUX, Nat.reduceAdd, reduceIte, Nat.reduceEqDiff, Nat.reduceLT, Nat.reduceLeDiff, reduceCtorEq, eq_self, FIX, forall_const, endE_n, endE_r, CHT, disj, Nat.reduceBEq, beq_self_eq_true, APT, APX, forall_eq, ALT, UPr_1.d, lendTs, lendT, dkL]
  · simp only [RUX, Nat.reduceAdd, reduceIte, Nat.reduceEqDiff, Nat.reduceLT, Nat.reduceLeDiff, reduceCtorEq, eq_self, FIX, forall_const, endE_n, endE_r, CHT, disj, Nat.reduceBEq, beq_self_eq_true, APT, APX, forall_eq, ALT, UPr_1.d, scalarT, scalarP, scalarC]
  simp only [RUX, Nat.reduceAdd, reduceIte, Nat.reduceEqDiff, Nat.reduceLT, Nat.reduceLeDiff, reduceCtorEq, eq_self, FIX, forall_const, endE_n, endE_r, CHT, disj, Nat.reduceBEq, beq_self_eq_true, APT, APX, forall_eq, ALT, UPr_1.d, scalarT, scalarP, scalarC]
  refine callA1 (m := 7002) (ws := dkL 1001 v1 1002 v2 1003 v3 d) (ns := [1001, 1002, 1003]) hT rfl ?_ rfl (en_flat eS eS_flat _) ⟨?_, ?_⟩
  · simp only [RUX, Nat.reduceAdd, reduceIte, Nat.reduceEqDiff, Nat.reduceLT, Nat.reduceLeDiff, reduceCtorEq, eq_self, FIX, forall_const, endE_n, endE_r, CHT, disj, Nat.reduceBEq, beq_self_eq_true, APT, APX, forall_eq, ALT, UPr_1.d, lendTs, lendT, dkL]
  · simp only [RUX, Nat.reduceAdd, reduceIte, Nat.reduceEqDiff, Nat.reduceLT, Nat.reduceLeDiff, reduceCtorEq, eq_self, FIX, forall_const, endE_n, endE_r, CHT, disj, Nat.reduceBEq, beq_self_eq_true, APT, APX, forall_eq, ALT, UPr_1.d]
  simp only [RUX, Nat.reduceAdd, reduceIte, Nat.reduceEqDiff, Nat.reduceLT, Nat.reduceLeDiff, reduceCtorEq, eq_self, FIX, forall_const, endE_n, endE_r, CHT, disj, Nat.reduceBEq, beq_self_eq_true, APT, APX, forall_eq, ALT, UPr_1.d]
  refine callL (ws := [(7002, .arr (c0 + 2 + 7 + 9) false 1 9 (en eS (aft d.names d.moves ++ (runI d.names d.moves).2)))]) (ns := [7002]) (contains_ok (aft d.names d.moves) w.name (by omega)) rfl ?_ rfl rfl ⟨?_, ?_⟩
  · simp only [RUX, Nat.reduceAdd, reduceIte, Nat.reduceEqDiff, Nat.reduceLT, Nat.reduceLeDiff, reduceCtorEq, eq_self, FIX, forall_const, endE_n, endE_r, CHT, disj, Nat.reduceBEq, beq_self_eq_true, APT, APX, forall_eq, ALT, UPr_1.d, lendTs, lendT, en_take2, hle]
  · simp only [RUX, Nat.reduceAdd, reduceIte, Nat.reduceEqDiff, Nat.reduceLT, Nat.reduceLeDiff, reduceCtorEq, eq_self, FIX, forall_const, endE_n, endE_r, CHT, disj, Nat.reduceBEq, beq_self_eq_true, APT, APX, forall_eq, ALT, UPr_1.d, scalarT, scalarP, scalarC]
  simp only [RUX, Nat.reduceAdd, reduceIte, Nat.reduceEqDiff, Nat.reduceLT, Nat.reduceLeDiff, reduceCtorEq, eq_self, FIX, forall_const, endE_n, endE_r, CHT, disj, Nat.reduceBEq, beq_self_eq_true, APT, APX, forall_eq, ALT, UPr_1.d, scalarT, scalarP, scalarC]
  refine callC hin rfl rfl rfl rfl ?_
  simp only [RUX, Nat.reduceAdd, reduceIte, Nat.reduceEqDiff, Nat.reduceLT, Nat.reduceLeDiff, reduceCtorEq, eq_self, FIX, forall_const, endE_n, endE_r, CHT, disj, Nat.reduceBEq, beq_self_eq_true, APT, APX, forall_eq, ALT, UPr_1.d, b5]
  refine callDd (m0 := 4001) (m1 := 1001) (m2 := 1002) (m3 := 1003) (m4 := 10) (m5 := 7001) (dirs_ok d hd hD 4001 1001 1002 1003 10 7001 u v1 v2 v3) rfl rfl rfl rfl (by decide) rfl rfl rfl rfl ⟨rfl, ?_⟩
  simp only [RUX, Nat.reduceAdd, reduceIte, Nat.reduceEqDiff, Nat.reduceLT, Nat.reduceLeDiff, reduceCtorEq, eq_self, FIX, forall_const, endE_n, endE_r, CHT, disj, Nat.reduceBEq, beq_self_eq_true, APT, APX, forall_eq, ALT, UPr_1.d, false_implies, and_self, imp_self]
def UPr_2 := Bx.mk <|
  aN (uA c33.eq_1) <| aN (uR r33_0.eq_1) <| aN (uR r33_1.eq_1) <| aN (uR r33_2.eq_1) <| aN (uA c33_55.eq_1) <| aN (uR r33_38.eq_1) <| aN (uA c33_54.eq_1) <| aN (uA c33_53.eq_1) <| aN (uR r33_39.eq_1) <| aN (uA c33_52.eq_1) <| aN (uA c33_42.eq_1) <| aN (uR r33_40.eq_1) <| aN (uR r33_41.eq_1) <| aN (uA c33_51.eq_1) <| aN (uR r33_43.eq_1) <| aN (uA c33_50.eq_1) <| aN (uR r33_44.eq_1) <| aN (uA c33_49.eq_1) <| aN (uR r33_45.eq_1) <| aN (uA c33_48.eq_1) <| aN (uR r33_46.eq_1) <| aN (uR r33_47.eq_1) <| aN (uR r33_56.eq_1) <| s33.eq_1
set_option maxRecDepth 20000 in
set_option maxHeartbeats 2000000 in
theorem write_ok (d : Dk) (w : DW) (hd : fineDk d) (hw : fineDW w) (hD : DOk d) (k5 : w.kind ≠ 5) (m0 m1 m2 m3 u v1 v2 v3 : Nat) :
    ACallsF Try.prog 33 [.c (.ptr 4001 u 0), tDW w] (dkW m0 m1 m2 m3 u v1 v2 v3 d (doS d w).1) (.i (doS d w).2) := by
  have s1 := hd.s.f
  have s2 := hd.s.n
  have s3 := hd.s.m
  have l1 := hD.f
  have l3 := hD.m
  have hN := hD.nmI d.moves.length (Nat.le_refl _)
  rw [List.take_length] at hN
  have hT := there_ok d hd.s 7002
  rw [hN] at hT
  have hal := aft_len d.moves d.names
  have hle : (aft d.names d.moves).length ≤ (aft d.names d.moves).length + (runI d.names d.moves).2.length := by omega
  have hin := inRange_ok w.kind 1 5
  have b5 : (w.kind == 5) = false := by simp [k5]
  have pre : ∀ r, doS d w = r → (∀ (X : Ctx) (t1 : Nat → T) (H : HMap) (c u3 : Nat), t1 0 = .c (.ptr 4001 u 0) → H 4001 = some (.var u 27 (oC 1001 v1 1002 v2 1003 v3 d)) → H 1001 = some (.arr v1 true 3 58 (en eF d.files)) → H 1002 = some (.arr v2 true 1 9 (en eS d.names)) → H 1003 = some (.arr v3 true 2 60 (en eM d.moves)) →
      t1 3 = .c (.ptr 3 u3 0) → H 3 = some (.var u3 29 [.v (.s (.int .i64 w.kind)), .v (.s (.string w.name)), .v (.s (.string w.data))]) → t1 5 = .b ((d.moves.length : Int) == 128) → t1 6 = .i (fnd d.files w.name) → t1 7 = .b (has (aft d.names d.moves) w.name) →
      wpa Try.prog X c33_37 (thenW Try.prog X (.seq c33_55 (.seq (.reg r33_56) .ret)) (endA (FinC s33 (.i r.2) (dkW m0 m1 m2 m3 u v1 v2 v3 d r.1)))) ⟨t1, H, c⟩) → ACallsF Try.prog 33 [.c (.ptr 4001 u 0), tDW w] (dkW m0 m1 m2 m3 u v1 v2 v3 d (doS d w).1) (.i (doS d w).2) := by
    intro r hr hrest
    rw [hr]
    refine ACallsF.intro ok33 follows fun X c0 => ?_
    simp only [RUX, Nat.reduceAdd, reduceIte, Nat.reduceEqDiff, Nat.reduceLT, Nat.reduceLeDiff, reduceCtorEq, eq_self, FIX, forall_const, endE_n, endE_r, CHT, disj, Nat.reduceBEq, beq_self_eq_true, APT, APX, forall_eq, ALT, UPr_2.d]
    refine callL (ws := dkL 1001 v1 1002 v2 1003 v3 d) (ns := [1001, 1002, 1003]) (fileAt_ok d w.name (by omega)) rfl ?_ rfl rfl ⟨?_, ?_⟩
    · simp only [RUX, Nat.reduceAdd, reduceIte, Nat.reduceEqDiff, Nat.reduceLT, Nat.reduceLeDiff, reduceCtorEq, eq_self, FIX, forall_const, endE_n, endE_r, CHT, disj, Nat.reduceBEq, beq_self_eq_true, APT, APX, forall_eq, ALT, UPr_2.d, lendTs, lendT, dkL]
    · simp only [RUX, Nat.reduceAdd, reduceIte, Nat.reduceEqDiff, Nat.reduceLT, Nat.reduceLeDiff, reduceCtorEq, eq_self, FIX, forall_const, endE_n, endE_r, CHT, disj, Nat.reduceBEq, beq_self_eq_true, APT, APX, forall_eq, ALT, UPr_2.d, scalarT, scalarP, scalarC]
    simp only [RUX, Nat.reduceAdd, reduceIte, Nat.reduceEqDiff, Nat.reduceLT, Nat.reduceLeDiff, reduceCtorEq, eq_self, FIX, forall_const, endE_n, endE_r, CHT, disj, Nat.reduceBEq, beq_self_eq_true, APT, APX, forall_eq, ALT, UPr_2.d, scalarT, scalarP, scalarC]
    refine callA1 (m := 7002) (ws := dkL 1001 v1 1002 v2 1003 v3 d) (ns := [1001, 1002, 1003]) hT rfl ?_ rfl (en_flat eS eS_flat _) ⟨?_, ?_⟩
    · simp only [RUX, Nat.reduceAdd, reduceIte, Nat.reduceEqDiff, Nat.reduceLT, Nat.reduceLeDiff, reduceCtorEq, eq_self, FIX, forall_const, endE_n, endE_r, CHT, disj, Nat.reduceBEq, beq_self_eq_true, APT, APX, forall_eq, ALT, UPr_2.d, lendTs, lendT, dkL]
    · simp only [RUX, Nat.reduceAdd, reduceIte, Nat.reduceEqDiff, Nat.reduceLT, Nat.reduceLeDiff, reduceCtorEq, eq_self, FIX, forall_const, endE_n, endE_r, CHT, disj, Nat.reduceBEq, beq_self_eq_true, APT, APX, forall_eq, ALT, UPr_2.d]
    simp only [RUX, Nat.reduceAdd, reduceIte, Nat.reduceEqDiff, Nat.reduceLT, Nat.reduceLeDiff, reduceCtorEq, eq_self, FIX, forall_const, endE_n, endE_r, CHT, disj, Nat.reduceBEq, beq_self_eq_true, APT, APX, forall_eq, ALT, UPr_2.d]
    refine callL (ws := [(7002, .arr (c0 + 2 + 7 + 9) false 1 9 (en eS (aft d.names d.moves ++ (runI d.names d.moves).2)))]) (ns := [7002]) (contains_ok (aft d.names d.moves) w.name (by omega)) rfl ?_ rfl rfl ⟨?_, ?_⟩
    · simp only [RUX, Nat.reduceAdd, reduceIte, Nat.reduceEqDiff, Nat.reduceLT, Nat.reduceLeDiff, reduceCtorEq, eq_self, FIX, forall_const, endE_n, endE_r, CHT, disj, Nat.reduceBEq, beq_self_eq_true, APT, APX, forall_eq, ALT, UPr_2.d, lendTs, lendT, en_take2, hle]
    · simp only [RUX, Nat.reduceAdd, reduceIte, Nat.reduceEqDiff, Nat.reduceLT, Nat.reduceLeDiff, reduceCtorEq, eq_self, FIX, forall_const, endE_n, endE_r, CHT, disj, Nat.reduceBEq, beq_self_eq_true, APT, APX, forall_eq, ALT, UPr_2.d, scalarT, scalarP, scalarC]
    simp only [RUX, Nat.reduceAdd, reduceIte, Nat.reduceEqDiff, Nat.reduceLT, Nat.reduceLeDiff, reduceCtorEq, eq_self, FIX, forall_const, endE_n, endE_r, CHT, disj, Nat.reduceBEq, beq_self_eq_true, APT, APX, forall_eq, ALT, UPr_2.d, scalarT, scalarP, scalarC]
    exact hrest X _ _ _ _ rfl rfl rfl rfl rfl rfl rfl rfl rfl rfl
  have fin : (False → True) = True := by simp
  by_cases kr : 1 ≤ w.kind ∧ w.kind ≤ 5
  rotate_left
  · have k1 : w.kind ≠ 1 := by omega
    have hx : (decide ((1 : Int) ≤ w.kind) && decide (w.kind ≤ 5)) = false := by
      rw [← Bool.decide_and]; exact decide_eq_false kr
    rw [hx] at hin
    refine pre (d, 5) (by simp only [doS, k1, k5, kr, if_true, if_false, not_false_eq_true]) ?_
    rintro X t1 H c u3 e0 eH0 eH1 eH2 eH3 e3 eH3v e5 e6 e7
    simp only [T.c, T.i, T.b, oC] at e0 eH0 eH1 eH2 eH3 e3 eH3v e5 e6 e7
    simp only [RUX, Nat.reduceAdd, reduceIte, Nat.reduceEqDiff, Nat.reduceLT, Nat.reduceLeDiff, reduceCtorEq, eq_self, FIX, forall_const, endE_n, endE_r, CHT, disj, Nat.reduceBEq, beq_self_eq_true, APT, APX, forall_eq, ALT, UPr_1.d, e3, eH3v]
    refine callC hin rfl rfl rfl rfl ?_
    simp only [RUX, Nat.reduceAdd, reduceIte, Nat.reduceEqDiff, Nat.reduceLT, Nat.reduceLeDiff, reduceCtorEq, eq_self, FIX, forall_const, endE_n, endE_r, CHT, disj, Nat.reduceBEq, beq_self_eq_true, APT, APX, forall_eq, ALT, UPr_1.d, e0, eH0, eH1, eH2, eH3, e3, eH3v, e5, e6, e7, false_implies, and_self, imp_self]
  have hx : (decide ((1 : Int) ≤ w.kind) && decide (w.kind ≤ 5)) = true := by
    rw [← Bool.decide_and]; exact decide_eq_true kr
  rw [hx] at hin
  by_cases k1 : w.kind = 1
  · have b1 : (w.kind == 1) = true := by simp [k1]
    have b1' : (w.kind != 1) = false := by simp [k1]
    have b2 : (w.kind == 2) = false := by simp [k1]
    have b4 : (w.kind == 4) = false := by simp [k1]
    by_cases n1 : nameOk w.name = false
    · refine pre (d, 3) (by simp only [doS, k1, n1, if_true, true_or]) ?_
      rintro X t1 H c u3 e0 eH0 eH1 eH2 eH3 e3 eH3v e5 e6 e7
      simp only [T.c, T.i, T.b, oC] at e0 eH0 eH1 eH2 eH3 e3 eH3v e5 e6 e7
      simp only [RUX, Nat.reduceAdd, reduceIte, Nat.reduceEqDiff, Nat.reduceLT, Nat.reduceLeDiff, reduceCtorEq, eq_self, FIX, forall_const, endE_n, endE_r, CHT, disj, Nat.reduceBEq, beq_self_eq_true, APT, APX, forall_eq, ALT, UPr_1.d, e3, eH3v]
      refine callC hin rfl rfl rfl rfl ?_
      simp only [RUX, Nat.reduceAdd, reduceIte, Nat.reduceEqDiff, Nat.reduceLT, Nat.reduceLeDiff, reduceCtorEq, eq_self, FIX, forall_const, endE_n, endE_r, CHT, disj, Nat.reduceBEq, beq_self_eq_true, APT, APX, forall_eq, ALT, UPr_1.d, e3, eH3v, b5, b1]
      refine callC (isName_ok w.name (by have := hw.1; omega)) rfl rfl rfl rfl ?_
      simp only [RUX, Nat.reduceAdd, reduceIte, Nat.reduceEqDiff, Nat.reduceLT, Nat.reduceLeDiff, reduceCtorEq, eq_self, FIX, forall_const, endE_n, endE_r, CHT, disj, Nat.reduceBEq, beq_self_eq_true, APT, APX, forall_eq, ALT, UPr_1.d, e0, eH0, eH1, eH2, eH3, e3, eH3v, e5, e6, e7, n1, false_implies, and_self, imp_self]
    have n1' : nameOk w.name = true := by cases h : nameOk w.name with | true => rfl | false => exact absurd h n1
    by_cases n2 : 0 ≤ fnd d.files w.name
    · refine pre (d, 3) (by simp only [doS, k1, n2, if_true, or_true]) ?_
      rintro X t1 H c u3 e0 eH0 eH1 eH2 eH3 e3 eH3v e5 e6 e7
      simp only [T.c, T.i, T.b, oC] at e0 eH0 eH1 eH2 eH3 e3 eH3v e5 e6 e7
      simp only [RUX, Nat.reduceAdd, reduceIte, Nat.reduceEqDiff, Nat.reduceLT, Nat.reduceLeDiff, reduceCtorEq, eq_self, FIX, forall_const, endE_n, endE_r, CHT, disj, Nat.reduceBEq, beq_self_eq_true, APT, APX, forall_eq, ALT, UPr_1.d, e3, eH3v]
      refine callC hin rfl rfl rfl rfl ?_
      simp only [RUX, Nat.reduceAdd, reduceIte, Nat.reduceEqDiff, Nat.reduceLT, Nat.reduceLeDiff, reduceCtorEq, eq_self, FIX, forall_const, endE_n, endE_r, CHT, disj, Nat.reduceBEq, beq_self_eq_true, APT, APX, forall_eq, ALT, UPr_1.d, e3, eH3v, b5, b1]
      refine callC (isName_ok w.name (by have := hw.1; omega)) rfl rfl rfl rfl ?_
      simp only [RUX, Nat.reduceAdd, reduceIte, Nat.reduceEqDiff, Nat.reduceLT, Nat.reduceLeDiff, reduceCtorEq, eq_self, FIX, forall_const, endE_n, endE_r, CHT, disj, Nat.reduceBEq, beq_self_eq_true, APT, APX, forall_eq, ALT, UPr_1.d, e0, eH0, eH1, eH2, eH3, e3, eH3v, e5, e6, e7, n1', ge_iff_le, n2, false_implies, and_self, imp_self]
    by_cases n3 : 64 ≤ d.files.length ∨ 128 ≤ d.moves.length
    · refine pre (d, 4) (by simp only [doS, k1, n1', n2, n3, if_true, if_false, or_self, Bool.true_eq_false]) ?_
      rintro X t1 H c u3 e0 eH0 eH1 eH2 eH3 e3 eH3v e5 e6 e7
      simp only [T.c, T.i, T.b, oC] at e0 eH0 eH1 eH2 eH3 e3 eH3v e5 e6 e7
      simp only [RUX, Nat.reduceAdd, reduceIte, Nat.reduceEqDiff, Nat.reduceLT, Nat.reduceLeDiff, reduceCtorEq, eq_self, FIX, forall_const, endE_n, endE_r, CHT, disj, Nat.reduceBEq, beq_self_eq_true, APT, APX, forall_eq, ALT, UPr_1.d, e3, eH3v]
      refine callC hin rfl rfl rfl rfl ?_
      simp only [RUX, Nat.reduceAdd, reduceIte, Nat.reduceEqDiff, Nat.reduceLT, Nat.reduceLeDiff, reduceCtorEq, eq_self, FIX, forall_const, endE_n, endE_r, CHT, disj, Nat.reduceBEq, beq_self_eq_true, APT, APX, forall_eq, ALT, UPr_1.d, e3, eH3v, b5, b1]
      refine callC (isName_ok w.name (by have := hw.1; omega)) rfl rfl rfl rfl ?_
      by_cases n4 : d.moves.length = 128
      · have n5 : ((d.moves.length : Int) == 128) = true := by simp [n4]
        simp only [RUX, Nat.reduceAdd, reduceIte, Nat.reduceEqDiff, Nat.reduceLT, Nat.reduceLeDiff, reduceCtorEq, eq_self, FIX, forall_const, endE_n, endE_r, CHT, disj, Nat.reduceBEq, beq_self_eq_true, APT, APX, forall_eq, ALT, UPr_1.d, e0, eH0, eH1, eH2, eH3, e3, eH3v, e5, e6, e7, n1', ge_iff_le, n2, b1, b1', n5, false_implies, and_self, imp_self]
      · have n5 : ((d.moves.length : Int) == 128) = false := by simp; omega
        have n6 : ((d.files.length : Int) == 64) = true := by simp; omega
        simp only [RUX, Nat.reduceAdd, reduceIte, Nat.reduceEqDiff, Nat.reduceLT, Nat.reduceLeDiff, reduceCtorEq, eq_self, FIX, forall_const, endE_n, endE_r, CHT, disj, Nat.reduceBEq, beq_self_eq_true, APT, APX, forall_eq, ALT, UPr_1.d, e0, eH0, eH1, eH2, eH3, e3, eH3v, e5, e6, e7, n1', ge_iff_le, n2, b1, b1', n5, n6, false_implies, and_self, imp_self]
    · refine pre (⟨d.files ++ [⟨w.name, ⟨#[]⟩, 0⟩], d.names, d.moves ++ [⟨false, w.name⟩]⟩, 0) (by simp only [doS, k1, n1', n2, n3, if_true, if_false, or_self, Bool.true_eq_false]) ?_
      rintro X t1 H c u3 e0 eH0 eH1 eH2 eH3 e3 eH3v e5 e6 e7
      simp only [T.c, T.i, T.b, oC] at e0 eH0 eH1 eH2 eH3 e3 eH3v e5 e6 e7
      have n5 : ((d.moves.length : Int) == 128) = false := by simp; omega
      have n6 : ((d.files.length : Int) == 64) = false := by simp; omega
      have q1 : (d.files.length + 1) * 40 ≤ 140737488355328 := by omega
      have q2 : d.files.length + 1 ≤ 9223372036854775807 := by omega
      have hmv := fun v1' => move_ok ⟨d.files ++ [⟨w.name, ⟨#[]⟩, 0⟩], d.names, d.moves⟩ ⟨by simp only [List.length_append, List.length_singleton]; omega, s2, s3⟩ w.name false 4001 1001 1002 1003 u v1' v2 v3
      simp only [RUX, Nat.reduceAdd, reduceIte, Nat.reduceEqDiff, Nat.reduceLT, Nat.reduceLeDiff, reduceCtorEq, eq_self, FIX, forall_const, endE_n, endE_r, CHT, disj, Nat.reduceBEq, beq_self_eq_true, APT, APX, forall_eq, ALT, UPr_1.d, e3, eH3v]
      refine callC hin rfl rfl rfl rfl ?_
      simp only [RUX, Nat.reduceAdd, reduceIte, Nat.reduceEqDiff, Nat.reduceLT, Nat.reduceLeDiff, reduceCtorEq, eq_self, FIX, forall_const, endE_n, endE_r, CHT, disj, Nat.reduceBEq, beq_self_eq_true, APT, APX, forall_eq, ALT, UPr_1.d, e3, eH3v, b5, b1]
      refine callC (isName_ok w.name (by have := hw.1; omega)) rfl rfl rfl rfl ?_
      simp only [RUX, Nat.reduceAdd, reduceIte, Nat.reduceEqDiff, Nat.reduceLT, Nat.reduceLeDiff, reduceCtorEq, eq_self, FIX, forall_const, endE_n, endE_r, CHT, disj, Nat.reduceBEq, beq_self_eq_true, APT, APX, forall_eq, ALT, UPr_1.d, e0, eH0, eH1, eH2, eH3, e3, eH3v, e5, e6, e7, n1', ge_iff_le, n2, b1, b1', b2, b4, n5, n6, q1, q2]
      refine callDw (m0 := 4001) (m1 := 1001) (m2 := 1002) (m3 := 1003) (hmv (c + 5 + 4 + 14 + 8 + 15 + 7 + 20 + 2 + 2 + 9)) rfl rfl rfl rfl (by decide) ?_ ?_ ?_ ?_ ⟨rfl, ?_⟩
      · simp only [RUX, Nat.reduceAdd, reduceIte, Nat.reduceEqDiff, Nat.reduceLT, Nat.reduceLeDiff, reduceCtorEq, eq_self, FIX, forall_const, endE_n, endE_r, CHT, disj, Nat.reduceBEq, beq_self_eq_true, APT, APX, forall_eq, ALT, UPr_1.d, oC]
      · simp only [RUX, Nat.reduceAdd, reduceIte, Nat.reduceEqDiff, Nat.reduceLT, Nat.reduceLeDiff, reduceCtorEq, eq_self, FIX, forall_const, endE_n, endE_r, CHT, disj, Nat.reduceBEq, beq_self_eq_true, APT, APX, forall_eq, ALT, UPr_1.d, en_snoc, eF]
      · simp only [RUX, Nat.reduceAdd, reduceIte, Nat.reduceEqDiff, Nat.reduceLT, Nat.reduceLeDiff, reduceCtorEq, eq_self, FIX, forall_const, endE_n, endE_r, CHT, disj, Nat.reduceBEq, beq_self_eq_true, APT, APX, forall_eq, ALT, UPr_1.d, eH2]
      · simp only [RUX, Nat.reduceAdd, reduceIte, Nat.reduceEqDiff, Nat.reduceLT, Nat.reduceLeDiff, reduceCtorEq, eq_self, FIX, forall_const, endE_n, endE_r, CHT, disj, Nat.reduceBEq, beq_self_eq_true, APT, APX, forall_eq, ALT, UPr_1.d, eH3]
      simp only [RUX, Nat.reduceAdd, reduceIte, Nat.reduceEqDiff, Nat.reduceLT, Nat.reduceLeDiff, reduceCtorEq, eq_self, FIX, forall_const, endE_n, endE_r, CHT, disj, Nat.reduceBEq, beq_self_eq_true, APT, APX, forall_eq, ALT, UPr_1.d, false_implies, and_self, imp_self]
  have b1 : (w.kind == 1) = false := by simp [k1]
  have b1' : (w.kind != 1) = true := by simp [k1]
  cases hh : has (aft d.names d.moves) w.name with
  | false =>
    refine pre (d, 2) (by simp only [doS, k1, k5, kr, hh, if_true, if_false, not_true_eq_false, and_self]) ?_
    rintro X t1 H c u3 e0 eH0 eH1 eH2 eH3 e3 eH3v e5 e6 e7
    simp only [T.c, T.i, T.b, oC] at e0 eH0 eH1 eH2 eH3 e3 eH3v e5 e6 e7
    rw [hh] at e7
    simp only [RUX, Nat.reduceAdd, reduceIte, Nat.reduceEqDiff, Nat.reduceLT, Nat.reduceLeDiff, reduceCtorEq, eq_self, FIX, forall_const, endE_n, endE_r, CHT, disj, Nat.reduceBEq, beq_self_eq_true, APT, APX, forall_eq, ALT, UPr_1.d, e3, eH3v]
    refine callC hin rfl rfl rfl rfl ?_
    simp only [RUX, Nat.reduceAdd, reduceIte, Nat.reduceEqDiff, Nat.reduceLT, Nat.reduceLeDiff, reduceCtorEq, eq_self, FIX, forall_const, endE_n, endE_r, CHT, disj, Nat.reduceBEq, beq_self_eq_true, APT, APX, forall_eq, ALT, UPr_1.d, e0, eH0, eH1, eH2, eH3, e3, eH3v, e5, e6, e7, b5, b1, b1', false_implies, and_self, imp_self]
  | true =>
  obtain ⟨i, hi1, hi2, hi3⟩ := hD.find (DOk.aft_made (n := d.moves.length) (x := w.name) (by rw [List.take_length]; exact has_true.1 hh))
  generalize hf : fileOf d.files w.name = f at *
  have hF := hD.files i f hi2
  have hfs := hF.data
  have ei := en_at eF hi2
  have gi : (0 : Int) ≤ i := by omega
  have gil := (List.getElem?_eq_some_iff.1 hi2).1
  have gil2 : (i : Int) < d.files.length := by omega
  have hwd := hw.2
  have gw : IntKind.i64.wrap ((f.data.size : Int) + (w.data.size : Int)) = ((f.data.size + w.data.size : Nat) : Int) := (wrap64 (x := (f.data.size : Int) + (w.data.size : Int)) ⟨by omega, by omega⟩).trans (by omega)
  by_cases k2 : w.kind = 2
  · have b2 : (w.kind == 2) = true := by simp [k2]
    have b4 : (w.kind == 4) = false := by simp [k2]
    by_cases p : 20000 < f.data.size + w.data.size
    · refine pre (d, 4) (by have h21 : ¬ (2 : Int) = 1 := (by omega); have h25 : ¬ (2 : Int) = 5 := (by omega); have hr2 : (1 : Int) ≤ 2 ∧ (2 : Int) ≤ 5 := (by omega); simp only [doS, k2, h21, h25, hr2, hh, hf, p, if_true, if_false, not_true_eq_false, and_self, Bool.true_eq_false]) ?_
      rintro X t1 H c u3 e0 eH0 eH1 eH2 eH3 e3 eH3v e5 e6 e7
      simp only [T.c, T.i, T.b, oC] at e0 eH0 eH1 eH2 eH3 e3 eH3v e5 e6 e7
      rw [hh] at e7
      rw [hi1] at e6
      have p' : ((f.data.size + w.data.size : Nat) : Int) > 20000 := by omega
      simp only [RUX, Nat.reduceAdd, reduceIte, Nat.reduceEqDiff, Nat.reduceLT, Nat.reduceLeDiff, reduceCtorEq, eq_self, FIX, forall_const, endE_n, endE_r, CHT, disj, Nat.reduceBEq, beq_self_eq_true, APT, APX, forall_eq, ALT, UPr_1.d, e3, eH3v]
      refine callC hin rfl rfl rfl rfl ?_
      simp only [RUX, Nat.reduceAdd, reduceIte, Nat.reduceEqDiff, Nat.reduceLT, Nat.reduceLeDiff, reduceCtorEq, eq_self, FIX, forall_const, endE_n, endE_r, CHT, disj, Nat.reduceBEq, beq_self_eq_true, APT, APX, forall_eq, ALT, UPr_1.d, e0, eH0, eH1, eH2, eH3, e3, eH3v, e5, e6, e7, b5, b1, b1', b2, b4, gi, gil2, ei, eF, gw, p', false_implies, and_self, imp_self]
    · refine pre (⟨d.files.set i ⟨f.name, f.data ++ w.data, f.kept⟩, d.names, d.moves⟩, 0) (by have h21 : ¬ (2 : Int) = 1 := (by omega); have h25 : ¬ (2 : Int) = 5 := (by omega); have hr2 : (1 : Int) ≤ 2 ∧ (2 : Int) ≤ 5 := (by omega); simp only [doS, k2, h21, h25, hr2, hh, hf, p, hi1, Int.toNat_natCast, if_true, if_false, not_true_eq_false, and_self, Bool.true_eq_false]) ?_
      rintro X t1 H c u3 e0 eH0 eH1 eH2 eH3 e3 eH3v e5 e6 e7
      simp only [T.c, T.i, T.b, oC] at e0 eH0 eH1 eH2 eH3 e3 eH3v e5 e6 e7
      rw [hh] at e7
      rw [hi1] at e6
      have p' : ¬ ((f.data.size + w.data.size : Nat) : Int) > 20000 := by omega
      have hsz : f.data.size + w.data.size ≤ 9223372036854775807 := by omega
      have hn : (en eF d.files).set i [.s (.string f.name), .s (.string (f.data ++ w.data)), .s (.int .i64 f.kept)] = en eF (d.files.set i ⟨f.name, f.data ++ w.data, f.kept⟩) := en_set eF d.files i ⟨f.name, f.data ++ w.data, f.kept⟩
      simp only [RUX, Nat.reduceAdd, reduceIte, Nat.reduceEqDiff, Nat.reduceLT, Nat.reduceLeDiff, reduceCtorEq, eq_self, FIX, forall_const, endE_n, endE_r, CHT, disj, Nat.reduceBEq, beq_self_eq_true, APT, APX, forall_eq, ALT, UPr_1.d, e3, eH3v]
      refine callC hin rfl rfl rfl rfl ?_
      simp only [RUX, Nat.reduceAdd, reduceIte, Nat.reduceEqDiff, Nat.reduceLT, Nat.reduceLeDiff, reduceCtorEq, eq_self, FIX, forall_const, endE_n, endE_r, CHT, disj, Nat.reduceBEq, beq_self_eq_true, APT, APX, forall_eq, ALT, UPr_1.d, e0, eH0, eH1, eH2, eH3, e3, eH3v, e5, e6, e7, b5, b1, b1', b2, b4, gi, gil2, ei, eF, gw, p', sStr, hsz, hn, List.length_set, false_implies, and_self, imp_self]
  have b2 : (w.kind == 2) = false := by simp [k2]
  by_cases k3 : w.kind = 3
  · have b3 : (w.kind == 3) = true := by simp [k3]
    have b4 : (w.kind == 4) = false := by simp [k3]
    refine pre (⟨d.files.set i ⟨f.name, f.data, f.data.size⟩, d.names, d.moves⟩, 0) (by have h21 : ¬ (3 : Int) = 1 := (by omega); have h25 : ¬ (3 : Int) = 5 := (by omega); have h32 : ¬ (3 : Int) = 2 := (by omega); have hr2 : (1 : Int) ≤ 3 ∧ (3 : Int) ≤ 5 := (by omega); simp only [doS, k3, h21, h25, h32, hr2, hh, hf, hi1, Int.toNat_natCast, if_true, if_false, not_true_eq_false, and_self, Bool.true_eq_false]) ?_
    rintro X t1 H c u3 e0 eH0 eH1 eH2 eH3 e3 eH3v e5 e6 e7
    simp only [T.c, T.i, T.b, oC] at e0 eH0 eH1 eH2 eH3 e3 eH3v e5 e6 e7
    rw [hh] at e7
    rw [hi1] at e6
    have hn : (en eF d.files).set i [.s (.string f.name), .s (.string f.data), .s (.int .i64 (f.data.size : Int))] = en eF (d.files.set i ⟨f.name, f.data, f.data.size⟩) := en_set eF d.files i ⟨f.name, f.data, f.data.size⟩
    simp only [RUX, Nat.reduceAdd, reduceIte, Nat.reduceEqDiff, Nat.reduceLT, Nat.reduceLeDiff, reduceCtorEq, eq_self, FIX, forall_const, endE_n, endE_r, CHT, disj, Nat.reduceBEq, beq_self_eq_true, APT, APX, forall_eq, ALT, UPr_1.d, e3, eH3v]
    refine callC hin rfl rfl rfl rfl ?_
    simp only [RUX, Nat.reduceAdd, reduceIte, Nat.reduceEqDiff, Nat.reduceLT, Nat.reduceLeDiff, reduceCtorEq, eq_self, FIX, forall_const, endE_n, endE_r, CHT, disj, Nat.reduceBEq, beq_self_eq_true, APT, APX, forall_eq, ALT, UPr_1.d, e0, eH0, eH1, eH2, eH3, e3, eH3v, e5, e6, e7, b5, b1, b1', b2, b3, b4, gi, gil2, ei, eF, hn, List.length_set, false_implies, and_self, imp_self]
  have b3 : (w.kind == 3) = false := by simp [k3]
  have b4 : (w.kind == 4) = true := by have : w.kind = 4 := by omega
                                       simp [this]
  by_cases p : 128 ≤ d.moves.length
  · refine pre (d, 4) (by simp only [doS, k1, k5, k2, k3, kr, hh, p, if_true, if_false, not_true_eq_false, and_self, Bool.true_eq_false]) ?_
    rintro X t1 H c u3 e0 eH0 eH1 eH2 eH3 e3 eH3v e5 e6 e7
    simp only [T.c, T.i, T.b, oC] at e0 eH0 eH1 eH2 eH3 e3 eH3v e5 e6 e7
    rw [hh] at e7
    have n5 : ((d.moves.length : Int) == 128) = true := by simp; omega
    simp only [RUX, Nat.reduceAdd, reduceIte, Nat.reduceEqDiff, Nat.reduceLT, Nat.reduceLeDiff, reduceCtorEq, eq_self, FIX, forall_const, endE_n, endE_r, CHT, disj, Nat.reduceBEq, beq_self_eq_true, APT, APX, forall_eq, ALT, UPr_1.d, e3, eH3v]
    refine callC hin rfl rfl rfl rfl ?_
    simp only [RUX, Nat.reduceAdd, reduceIte, Nat.reduceEqDiff, Nat.reduceLT, Nat.reduceLeDiff, reduceCtorEq, eq_self, FIX, forall_const, endE_n, endE_r, CHT, disj, Nat.reduceBEq, beq_self_eq_true, APT, APX, forall_eq, ALT, UPr_1.d, e0, eH0, eH1, eH2, eH3, e3, eH3v, e5, e6, e7, b5, b1, b1', b2, b3, b4, n5, false_implies, and_self, imp_self]
  · refine pre (⟨d.files, d.names, d.moves ++ [⟨true, w.name⟩]⟩, 0) (by simp only [doS, k1, k5, k2, k3, kr, hh, p, if_true, if_false, not_true_eq_false, and_self, Bool.true_eq_false]) ?_
    rintro X t1 H c u3 e0 eH0 eH1 eH2 eH3 e3 eH3v e5 e6 e7
    simp only [T.c, T.i, T.b, oC] at e0 eH0 eH1 eH2 eH3 e3 eH3v e5 e6 e7
    rw [hh] at e7
    have n5 : ((d.moves.length : Int) == 128) = false := by simp; omega
    simp only [RUX, Nat.reduceAdd, reduceIte, Nat.reduceEqDiff, Nat.reduceLT, Nat.reduceLeDiff, reduceCtorEq, eq_self, FIX, forall_const, endE_n, endE_r, CHT, disj, Nat.reduceBEq, beq_self_eq_true, APT, APX, forall_eq, ALT, UPr_1.d, e3, eH3v]
    refine callC hin rfl rfl rfl rfl ?_
    simp only [RUX, Nat.reduceAdd, reduceIte, Nat.reduceEqDiff, Nat.reduceLT, Nat.reduceLeDiff, reduceCtorEq, eq_self, FIX, forall_const, endE_n, endE_r, CHT, disj, Nat.reduceBEq, beq_self_eq_true, APT, APX, forall_eq, ALT, UPr_1.d, e0, eH0, eH1, eH2, eH3, e3, eH3v, e5, e6, e7, b5, b1, b1', b2, b3, b4, n5]
    refine callDw (m0 := 4001) (m1 := 1001) (m2 := 1002) (m3 := 1003) (move_ok d hd.s w.name true 4001 1001 1002 1003 u v1 v2 v3) rfl rfl rfl rfl (by decide) ?_ ?_ ?_ ?_ ⟨rfl, ?_⟩
    · simp only [RUX, Nat.reduceAdd, reduceIte, Nat.reduceEqDiff, Nat.reduceLT, Nat.reduceLeDiff, reduceCtorEq, eq_self, FIX, forall_const, endE_n, endE_r, CHT, disj, Nat.reduceBEq, beq_self_eq_true, APT, APX, forall_eq, ALT, UPr_1.d, eH0, oC]
    · simp only [RUX, Nat.reduceAdd, reduceIte, Nat.reduceEqDiff, Nat.reduceLT, Nat.reduceLeDiff, reduceCtorEq, eq_self, FIX, forall_const, endE_n, endE_r, CHT, disj, Nat.reduceBEq, beq_self_eq_true, APT, APX, forall_eq, ALT, UPr_1.d, eH1]
    · simp only [RUX, Nat.reduceAdd, reduceIte, Nat.reduceEqDiff, Nat.reduceLT, Nat.reduceLeDiff, reduceCtorEq, eq_self, FIX, forall_const, endE_n, endE_r, CHT, disj, Nat.reduceBEq, beq_self_eq_true, APT, APX, forall_eq, ALT, UPr_1.d, eH2]
    · simp only [RUX, Nat.reduceAdd, reduceIte, Nat.reduceEqDiff, Nat.reduceLT, Nat.reduceLeDiff, reduceCtorEq, eq_self, FIX, forall_const, endE_n, endE_r, CHT, disj, Nat.reduceBEq, beq_self_eq_true, APT, APX, forall_eq, ALT, UPr_1.d, eH3]
    simp only [RUX, Nat.reduceAdd, reduceIte, Nat.reduceEqDiff, Nat.reduceLT, Nat.reduceLeDiff, reduceCtorEq, eq_self, FIX, forall_const, endE_n, endE_r, CHT, disj, Nat.reduceBEq, beq_self_eq_true, APT, APX, forall_eq, ALT, UPr_1.d, false_implies, and_self, imp_self]
end Go.V
set_option linter.unusedSimpArgs false
namespace Go.V
open Go.Proofs
/-- An empty disk of nil slices is one of empty arrays, too. -/
theorem ownNil3 {P : Program} {f : FuncId} {args : List T} {c1 c2 c3 m1 m2 m3 : Nat} {n : Int} (hcs : c1 ≠ c2 ∧ c1 ≠ c3 ∧ c2 ≠ c3) (h : ACallsF P f args [] (.tup [.agg [.nil0, .nil0, .nil0], .one (.v (.s (.int .i64 n)))])) :
    ACallsF P f args (dkH c1 c2 c3 m1 m2 m3 ⟨[], [], []⟩) (.tup [oDk c1 0 c2 0 c3 0 ⟨[], [], []⟩, .one (.v (.s (.int .i64 n)))]) := by
  obtain ⟨h12, h13, h23⟩ := hcs
  refine ⟨h.1, fun w imm L c vs hH hT => ?_⟩
  have e0 : hinOf (dkH c1 c2 c3 m1 m2 m3 ⟨[], [], []⟩) = hinOf [] := by
    funext k; simp only [hinOf_cons, hinOf_nil]; split; rfl; split; rfl; split <;> rfl
  rw [e0] at hH hT ⊢
  refine (h.2 w imm L c vs hH hT).mono ?_
  rintro e w' ⟨x, r, h', imm', L', c', he, ⟨ν, hr, _⟩, hx, hHo, hS, hN, hE⟩
  subst hr
  obtain ⟨xs, rfl, hxl, hxp⟩ : ∃ xs : List Value, x = .tuple xs.toArray ∧ xs.length = 2 ∧ ∀ (k : Nat) u y, xs[k]? = some u → [P1.agg [.nil0, .nil0, .nil0], .one (.v (.s (.int .i64 n)))][k]? = some y → PRep w' imm' h' L' (· < c') u y := hx
  obtain ⟨a, b, rfl⟩ : ∃ a b, xs = [a, b] := by
    match xs, hxl with
    | [a, b], _ => exact ⟨a, b, rfl⟩
  obtain ⟨ys, rfl, hyl, hyp⟩ : ∃ ys : List Value, a = .agg ys.toArray ∧ CsRep w' imm' h' L' (· < c') ys [.nil0, .nil0, .nil0] := hxp 0 a _ rfl rfl
  obtain ⟨y1, y2, y3, rfl⟩ : ∃ y1 y2 y3, ys = [y1, y2, y3] := by
    match ys, hyl with
    | [y1, y2, y3], _ => exact ⟨y1, y2, y3, rfl⟩
  obtain ⟨a1, rfl⟩ : ∃ a, y1 = .slice a 0 0 := hyp 0 y1 _ rfl rfl
  obtain ⟨a2, rfl⟩ : ∃ a, y2 = .slice a 0 0 := hyp 1 y2 _ rfl rfl
  obtain ⟨a3, rfl⟩ : ∃ a, y3 = .slice a 0 0 := hyp 2 y3 _ rfl rfl
  have hb : PRep w' imm' h' L' (· < c') b (.one (.v (.s (.int .i64 n)))) := hxp 1 b _ rfl rfl
  have hcc : c ≤ c' := by
    rcases Nat.eq_zero_or_pos c with h0 | h0
    · omega
    · have := hE.use (c - 1) (by omega); omega
  let hn : HMap := fun k => if k = c1 then some (.arr c' true 3 58 []) else if k = c2 then some (.arr c' true 1 9 []) else if k = c3 then some (.arr c' true 2 60 []) else none
  have hnk : ∀ k B, hn k = some B → ∃ st ty, 0 < st ∧ B = .arr c' true st ty [] := fun k B hk => by
    simp only [hn] at hk
    split at hk
    · cases hk; exact ⟨3, 58, by decide, rfl⟩
    · split at hk
      · cases hk; exact ⟨1, 9, by decide, rfl⟩
      · split at hk
        · cases hk; exact ⟨2, 60, by decide, rfl⟩
        · cases hk
  have own : ∀ a cc, CRep w' imm' hn (fun _ => none) (· < c' + 1) (.slice a 0 0) (.own cc c' 0) := fun a cc =>
    ⟨Nat.lt_succ_self _, ⟨a, 0, rfl, Nat.le_refl _⟩, fun wr st' ty' es hes => ⟨Nat.zero_le _, .inl ⟨a, rfl, rfl⟩⟩⟩
  refine ⟨.tuple #[.agg #[.slice a1 0 0, .slice a2 0 0, .slice a3 0 0], b], .tup [oDk c1 c' c2 c' c3 c' ⟨[], [], []⟩, .one (.v (.s (.int .i64 n)))], hn, imm', fun _ => none, c' + 1, he, ⟨fun _ => c', rfl, fun k hd hh => ?_⟩, ?_, ⟨fun k B hB => ?_, fun _ _ g _ _ hg => (by cases hg), hHo.imm⟩, hS, fun _ g _ hg => (by cases hg), ⟨fun v hv => ?_, fun k ver ty' cs hu hk => ?_, fun k ver wr st' ty' es hu hk => ?_, fun k ver wr st' ty' es g cur hu hk hg => (by cases hg)⟩⟩
  · obtain ⟨h1, h2⟩ := renN_mem hh
    simp only [List.mem_cons, List.not_mem_nil, or_false] at h1
    rcases h1 with rfl | rfl | rfl
    · have : c1 = k := h2
      subst this; simp [hn, newH, verB, en_nil]
    · have : c2 = k := h2
      subst this; simp [hn, newH, verB, en_nil, h12.symm]
    · have : c3 = k := h2
      subst this; simp [hn, newH, verB, en_nil, h13.symm, h23.symm]
  · refine ⟨[.agg #[.slice a1 0 0, .slice a2 0 0, .slice a3 0 0], b], rfl, rfl, fun k u y hu hy => ?_⟩
    cases k with
    | zero =>
      simp only [List.getElem?_cons_zero, Option.some.injEq] at hu hy
      subst hu hy
      refine ⟨[.slice a1 0 0, .slice a2 0 0, .slice a3 0 0], rfl, rfl, fun j x y hx hy => ?_⟩
      match j, hx, hy with
      | 0, hx, hy => cases hx; cases hy; exact own _ _
      | 1, hx, hy => cases hx; cases hy; exact own _ _
      | 2, hx, hy => cases hx; cases hy; exact own _ _
      | j + 3, hx, hy => simp at hx
    | succ k =>
      cases k with
      | zero =>
        simp only [List.getElem?_cons_succ, List.getElem?_cons_zero, Option.some.injEq] at hu hy
        subst hu hy
        exact PRep.scalar hb rfl
      | succ k => simp at hu
  · obtain ⟨st, ty, h1, rfl⟩ := hnk k B hB
    exact ⟨Nat.lt_succ_self _, h1, fun e he => (by cases he), .inl ⟨rfl, rfl⟩⟩
  · have := hE.use v hv; omega
  · obtain ⟨st, ty, _, h2⟩ := hnk k _ hk; cases h2
  · obtain ⟨st, ty, _, h2⟩ := hnk k _ hk
    cases h2; omega
/- loop.example/teagle/impl.DiskDo -/
def r9_0 : List AOper := [ao 0 2 (.box 27 (.t 0)),
  ao 1 3 (.box 29 (.t 1)),
  ao 2 4 (.alloc 27 [.nil0, .nil0, .nil0]),
  ao 3 5 (.mv (.k (.i 0)))]
def r9_1 : List AOper := [ao 0 8 (.ld 3 true (.t 2)),
  ao 1 9 (.call (.k (.c (.fn 12 []))) [(.t 8)]),
  ao 2 10 (.un .not (.t 9))]
def r9_2 : List AOper := [ao 0 11 (.build [.nil0, .nil0, .nil0] []),
  an 1 (.st 3 (.t 4) (.t 11)),
  ao 2 5 (.mv (.k (.i 1)))]
def c9_3 : ACode := .seq (.reg r9_2) .ret
def c9_4 : ACode := .cond (.t 10) c9_3 .skip
def c9_5 : ACode := .seq (.reg r9_1) c9_4
def r9_6 : List AOper := [ao 0 12 (.ld 3 true (.t 2)),
  ao 1 13 (.call (.k (.c (.fn 32 []))) [(.t 12)]),
  ao 2 6 (.alloc 27 [.nil0, .nil0, .nil0]),
  an 3 (.st 3 (.t 6) (.t 13))]
def r9_7 : List AOper := [ao 0 14 (.ld 3 true (.t 3)),
  ao 1 15 (.call (.k (.c (.fn 33 []))) [(.t 6), (.t 14)]),
  ao 2 7 (.mv (.t 15))]
def r9_8 : List AOper := [ao 0 16 (.ld 3 true (.t 6)),
  ao 1 17 (.call (.k (.c (.fn 32 []))) [(.t 16)]),
  ao 2 18 (.mv (.t 7)),
  an 3 (.st 3 (.t 4) (.t 17)),
  ao 4 5 (.mv (.t 18))]
def c9 : ACode := .seq (.reg r9_0) (.seq c9_5 (.seq (.reg r9_6) (.seq (.reg r9_7) (.seq (.reg r9_8) .ret))))
def s9 : List ARes := [.cell 4 3 true, .tmp 5]
theorem ok9 : okF Try.prog 9 19 c9 s9 := ⟨Try.f9, Try.func9, Try.ntmps9, by kernel_rfl, by kernel_rfl, by kernel_rfl⟩
theorem small_do (d : Dk) (w : DW) (hD : DOk d) : smallDk (doS d w).1 ∧ (doS d w).1.files.length ≤ 1000 ∧ (doS d w).1.names.length ≤ 1000 ∧ (doS d w).1.moves.length ≤ 1000 := by
  have l1 := hD.f
  have l2 := hD.n
  have l3 := hD.m
  have hal := aft_len d.moves d.names
  have key : (doS d w).1.files.length ≤ 1000 ∧ (doS d w).1.names.length ≤ 1000 ∧ (doS d w).1.moves.length ≤ 1000 := by
    unfold doS
    split
    · split
      · exact ⟨by simp only; omega, by simp only; omega, by simp only; omega⟩
      · split
        · exact ⟨by simp only; omega, by simp only; omega, by simp only; omega⟩
        · simp only [List.length_append, List.length_singleton]; omega
    · split
      · simp only [keepD, List.length_map, List.length_nil]; omega
      · split
        · exact ⟨by simp only; omega, by simp only; omega, by simp only; omega⟩
        · split
          · exact ⟨by simp only; omega, by simp only; omega, by simp only; omega⟩
          · split
            · split
              · exact ⟨by simp only; omega, by simp only; omega, by simp only; omega⟩
              · simp only [List.length_set]; omega
            · split
              · simp only [List.length_set]; omega
              · split
                · exact ⟨by simp only; omega, by simp only; omega, by simp only; omega⟩
                · simp only [List.length_append, List.length_singleton]; omega
  exact ⟨⟨by omega, by omega, by omega⟩, key⟩
abbrev oDkI (c1 v1 c2 v2 c3 v3 : Nat) (r : Dk × Int) : T := .tup [oDk c1 v1 c2 v2 c3 v3 r.1, .one (.v (.s (.int .i64 r.2)))]
def UPs_1 := Bx.mk <|
  aN (uA c9.eq_1) <| aN (uR r9_0.eq_1) <| aN (uA c9_5.eq_1) <| aN (uR r9_1.eq_1) <| aN (uA c9_4.eq_1) <| aN (uA c9_3.eq_1) <| aN (uR r9_2.eq_1) <| aN (uR r9_6.eq_1) <| aN (uR r9_7.eq_1) <| aN (uR r9_8.eq_1) <| s9.eq_1
theorem doI_ok (d : Dk) (w : DW) (hd : fineDk d) (hw : fineDW w) : ∃ r, DoR d w r ∧ (r.1.files.length ≤ 1000 ∧ r.1.names.length ≤ 1000 ∧ r.1.moves.length ≤ 1000) ∧ ∀ m1 m2 m3, ACallsF Try.prog 9 [tDk d, tDW w] (dkH 2101 2102 2103 m1 m2 m3 r.1) (oDkI 2101 0 2102 0 2103 0 r) := by
  obtain ⟨b, hb, hC⟩ := okI_ok d hd
  by_cases hD : DOk d
  rotate_left
  · have hbf : b = false := by cases hq : b with | false => rfl | true => exact absurd (hb.1 hq) hD
    rw [hbf] at hC
    refine ⟨_, .inr ⟨hD, rfl⟩, ⟨by simp, by simp, by simp⟩, fun m1 m2 m3 => ownNil3 (by decide) (ACallsF.intro ok9 follows fun X c0 => ?_)⟩
    simp only [RUX, Nat.reduceAdd, reduceIte, Nat.reduceEqDiff, Nat.reduceLT, Nat.reduceLeDiff, reduceCtorEq, eq_self, FIX, forall_const, endE_n, endE_r, CHT, disj, Nat.reduceBEq, beq_self_eq_true, APT, APX, forall_eq, ALT, UPs_1.d]
    refine callC hC rfl rfl rfl rfl ?_
    simp only [RUX, Nat.reduceAdd, reduceIte, Nat.reduceEqDiff, Nat.reduceLT, Nat.reduceLeDiff, reduceCtorEq, eq_self, FIX, forall_const, endE_n, endE_r, CHT, disj, Nat.reduceBEq, beq_self_eq_true, APT, APX, forall_eq, ALT, UPs_1.d]
  rw [hb.2 hD] at hC
  obtain ⟨hsm, hlen⟩ := small_do d w hD
  refine ⟨_, .inl ⟨hD, rfl⟩, hlen, fun m1 m2 m3 => ?_⟩
  have hcl := cloneDk_ok d hd.s 1001 1002 1003
  have hcl2 := cloneDk_ok (doS d w).1 hsm 2101 2102 2103
  refine ACallsF.intro ok9 follows fun X c0 => ?_
  simp only [RUX, Nat.reduceAdd, reduceIte, Nat.reduceEqDiff, Nat.reduceLT, Nat.reduceLeDiff, reduceCtorEq, eq_self, FIX, forall_const, endE_n, endE_r, CHT, disj, Nat.reduceBEq, beq_self_eq_true, APT, APX, forall_eq, ALT, UPs_1.d]
  refine callC hC rfl rfl rfl rfl ?_
  simp only [RUX, Nat.reduceAdd, reduceIte, Nat.reduceEqDiff, Nat.reduceLT, Nat.reduceLeDiff, reduceCtorEq, eq_self, FIX, forall_const, endE_n, endE_r, CHT, disj, Nat.reduceBEq, beq_self_eq_true, APT, APX, forall_eq, ALT, UPs_1.d]
  refine callDk (ws := []) (ns := []) hcl rfl rfl rfl (by decide) ⟨rfl, ?_⟩
  simp only [RUX, Nat.reduceAdd, reduceIte, Nat.reduceEqDiff, Nat.reduceLT, Nat.reduceLeDiff, reduceCtorEq, eq_self, FIX, forall_const, endE_n, endE_r, CHT, disj, Nat.reduceBEq, beq_self_eq_true, APT, APX, forall_eq, ALT, UPs_1.d]
  by_cases k5 : w.kind = 5
  · have hdo : doS d w = (keepD d (aft d.names d.moves), 0) := by
      have h51 : ¬ (5 : Int) = 1 := by omega
      simp only [doS, k5, h51, if_true, if_false]
    rw [hdo] at hcl2 ⊢
    have hal := aft_len d.moves d.names
    have hle : (aft d.names d.moves).length ≤ (aft d.names d.moves).length + (runI d.names d.moves).2.length := by omega
    have htk : List.take (aft d.names d.moves).length (en eF (List.map (fileOf d.files) (aft d.names d.moves))) = en eF (List.map (fileOf d.files) (aft d.names d.moves)) := List.take_of_length_le (by rw [en_len, List.length_map]; exact Nat.le_refl _)
    refine callDd (m0 := 6) (m1 := 1001) (m2 := 1002) (m3 := 1003) (m4 := 1010) (m5 := 1011) (writeD_ok d w hd hw hD k5 6 1001 1002 1003 1010 1011 _ _ _ _) rfl rfl rfl rfl (by decide) rfl rfl rfl rfl ⟨rfl, ?_⟩
    simp only [RUX, Nat.reduceAdd, reduceIte, Nat.reduceEqDiff, Nat.reduceLT, Nat.reduceLeDiff, reduceCtorEq, eq_self, FIX, forall_const, endE_n, endE_r, CHT, disj, Nat.reduceBEq, beq_self_eq_true, APT, APX, forall_eq, ALT, UPs_1.d]
    refine callDk (ws := [(1010, .arr (c0 + 4 + 3 + 4 + 1) false 3 58 (en eF (keepD d (aft d.names d.moves)).files)), (1011, .arr (c0 + 4 + 3 + 4 + 1) false 1 9 (en eS (aft d.names d.moves ++ (runI d.names d.moves).2)))]) (ns := [1010, 1011]) hcl2 rfl ?_ rfl (by decide) ⟨?_, ?_⟩
    · simp only [RUX, Nat.reduceAdd, reduceIte, Nat.reduceEqDiff, Nat.reduceLT, Nat.reduceLeDiff, reduceCtorEq, eq_self, FIX, forall_const, endE_n, endE_r, CHT, disj, Nat.reduceBEq, beq_self_eq_true, APT, APX, forall_eq, ALT, UPs_1.d, lendTs, lendT, keepD, en_take2, htk, hle, List.length_map]
      rfl
    · simp only [RUX, Nat.reduceAdd, reduceIte, Nat.reduceEqDiff, Nat.reduceLT, Nat.reduceLeDiff, reduceCtorEq, eq_self, FIX, forall_const, endE_n, endE_r, CHT, disj, Nat.reduceBEq, beq_self_eq_true, APT, APX, forall_eq, ALT, UPs_1.d]
    simp only [RUX, Nat.reduceAdd, reduceIte, Nat.reduceEqDiff, Nat.reduceLT, Nat.reduceLeDiff, reduceCtorEq, eq_self, FIX, forall_const, endE_n, endE_r, CHT, disj, Nat.reduceBEq, beq_self_eq_true, APT, APX, forall_eq, ALT, UPs_1.d, false_implies, and_self, imp_self]
  · refine callDw (m0 := 6) (m1 := 1001) (m2 := 1002) (m3 := 1003) (write_ok d w hd hw hD k5 6 1001 1002 1003 _ _ _ _) rfl rfl rfl rfl (by decide) rfl rfl rfl rfl ⟨rfl, ?_⟩
    simp only [RUX, Nat.reduceAdd, reduceIte, Nat.reduceEqDiff, Nat.reduceLT, Nat.reduceLeDiff, reduceCtorEq, eq_self, FIX, forall_const, endE_n, endE_r, CHT, disj, Nat.reduceBEq, beq_self_eq_true, APT, APX, forall_eq, ALT, UPs_1.d]
    refine callDk (ws := dkL 1001 (c0 + 4 + 3 + 4 + 1) 1002 (c0 + 4 + 3 + 4 + 1) 1003 (c0 + 4 + 3 + 4 + 1) (doS d w).1) (ns := [1001, 1002, 1003]) hcl2 rfl ?_ rfl (by decide) ⟨?_, ?_⟩
    · simp only [RUX, Nat.reduceAdd, reduceIte, Nat.reduceEqDiff, Nat.reduceLT, Nat.reduceLeDiff, reduceCtorEq, eq_self, FIX, forall_const, endE_n, endE_r, CHT, disj, Nat.reduceBEq, beq_self_eq_true, APT, APX, forall_eq, ALT, UPs_1.d, lendTs, lendT, dkL]
    · simp only [RUX, Nat.reduceAdd, reduceIte, Nat.reduceEqDiff, Nat.reduceLT, Nat.reduceLeDiff, reduceCtorEq, eq_self, FIX, forall_const, endE_n, endE_r, CHT, disj, Nat.reduceBEq, beq_self_eq_true, APT, APX, forall_eq, ALT, UPs_1.d]
    simp only [RUX, Nat.reduceAdd, reduceIte, Nat.reduceEqDiff, Nat.reduceLT, Nat.reduceLeDiff, reduceCtorEq, eq_self, FIX, forall_const, endE_n, endE_r, CHT, disj, Nat.reduceBEq, beq_self_eq_true, APT, APX, forall_eq, ALT, UPs_1.d, false_implies, and_self, imp_self]
end Go.V
set_option linter.unusedSimpArgs false
namespace Go.V
open Go.Proofs
theorem lendDk {H : HMap} {m1 m2 m3 v1 v2 v3 n1 n2 n3 : Nat} {w1 w2 w3 : Bool} {d : Dk} (h1 : H m1 = some (.arr v1 w1 3 58 (en eF d.files))) (h2 : H m2 = some (.arr v2 w2 1 9 (en eS d.names))) (h3 : H m3 = some (.arr v3 w3 2 60 (en eM d.moves))) (e1 : n1 = d.files.length) (e2 : n2 = d.names.length) (e3 : n3 = d.moves.length) :
    lendT H (tDk d) (.pt (.agg [.own m1 v1 n1, .own m2 v2 n2, .own m3 v3 n3])) = some (tDk d, dkL m1 v1 m2 v2 m3 v3 d, [m1, m2, m3]) := by
  subst e1 e2 e3
  simp only [lendT, lendCs, lendC, sealC, h1, h2, h3, en_len, en_take, Nat.le_refl, and_self, if_true, Option.map_some, List.cons_append, List.nil_append]
theorem lend1 {H : HMap} {m1 m2 m3 v1 v2 v3 n1 n2 n3 : Nat} {w1 w2 w3 : Bool} {d : Dk} {x : T} (h1 : H m1 = some (.arr v1 w1 3 58 (en eF d.files))) (h2 : H m2 = some (.arr v2 w2 1 9 (en eS d.names))) (h3 : H m3 = some (.arr v3 w3 2 60 (en eM d.moves))) (e1 : n1 = d.files.length) (e2 : n2 = d.names.length) (e3 : n3 = d.moves.length) (hx : closedA x = true) :
    lendTs H [tDk d, x] [.pt (.agg [.own m1 v1 n1, .own m2 v2 n2, .own m3 v3 n3]), x] = some ([tDk d, x], dkL m1 v1 m2 v2 m3 v3 d, [m1, m2, m3]) := by
  simp only [lendTs, lendDk h1 h2 h3 e1 e2 e3, (closed_A [] H x hx).1, List.append_nil]
theorem lend2 {H : HMap} {m1 m2 m3 v1 v2 v3 l1 l2 l3 u1 u2 u3 : Nat} {w1 w2 w3 x1 x2 x3 : Bool} {d d' : Dk} (h1 : H m1 = some (.arr v1 w1 3 58 (en eF d.files))) (h2 : H m2 = some (.arr v2 w2 1 9 (en eS d.names))) (h3 : H m3 = some (.arr v3 w3 2 60 (en eM d.moves)))
    (g1 : H l1 = some (.arr u1 x1 3 58 (en eF d'.files))) (g2 : H l2 = some (.arr u2 x2 1 9 (en eS d'.names))) (g3 : H l3 = some (.arr u3 x3 2 60 (en eM d'.moves))) :
    lendTs H [tDk d, tDk d'] [.pt (oDk m1 v1 m2 v2 m3 v3 d), .pt (oDk l1 u1 l2 u2 l3 u3 d')] = some ([tDk d, tDk d'], dkL m1 v1 m2 v2 m3 v3 d ++ dkL l1 u1 l2 u2 l3 u3 d', [m1, m2, m3, l1, l2, l3]) := by
  simp only [lendTs, lendDk h1 h2 h3 rfl rfl rfl, lendDk g1 g2 g3 rfl rfl rfl, List.append_nil, List.cons_append, List.nil_append]
/-- An act of a log. -/
structure LA where
  kind : Int
  data : ByteArray
  cuts : Bool
  after : Int
  moves : Int
  keep : List Int
abbrev tLA (a : LA) : T := .pt (.agg [.v (.s (.int .i64 a.kind)), .v (.s (.string a.data)), .v (.s (.bool a.cuts)), .v (.s (.int .i64 a.after)), .v (.s (.int .i64 a.moves)), .v (.sl (en eI a.keep))])
abbrev oLA (c v : Nat) (a : LA) : P1 := .agg [.v (.s (.int .i64 a.kind)), .v (.s (.string a.data)), .v (.s (.bool a.cuts)), .v (.s (.int .i64 a.after)), .v (.s (.int .i64 a.moves)), .own c v a.keep.length]
end Go.V
set_option linter.unusedSimpArgs false
namespace Go.V
open Go.Proofs
/-! What a write leaves ok. -/
structure DOk2 (d : Dk) : Prop where
  f : d.files.length ≤ 64
  n : d.names.length ≤ 64
  m : d.moves.length ≤ 128
  l : d.files.map DF.name = made d
  nd : (made d).Nodup
  good : ∀ f ∈ d.files, nameOk f.name = true ∧ f.data.size ≤ 20000 ∧ 0 ≤ f.kept ∧ f.kept ≤ f.data.size
  moves : ∀ (i : Nat) (m : DM), d.moves[i]? = some m → m.gone = true → m.name ∈ aft d.names (d.moves.take i)
theorem DOk.two {d : Dk} (h : DOk d) : DOk2 d := by
  refine ⟨h.f, h.n, h.m, List.ext_getElem? fun i => ?_, made_nodup h.l fun i f hf => ⟨(h.files i f hf).made, (h.files i f hf).one⟩, fun f hf => ?_, h.moves⟩
  · rw [List.getElem?_map]
    cases hi : d.files[i]? with
    | none =>
      have := h.l
      rw [List.getElem?_eq_none_iff] at hi
      exact (List.getElem?_eq_none (by omega)).symm
    | some f => exact (h.files i f hi).made.symm
  · obtain ⟨i, hi⟩ := List.mem_iff_getElem?.1 hf
    have := h.files i f hi
    exact ⟨this.name, this.data, this.lo, this.hi⟩
theorem DOk2.ok {d : Dk} (h : DOk2 d) : DOk d := by
  have hat : ∀ (i : Nat) (f : DF), d.files[i]? = some f → (made d)[i]? = some f.name := fun i f hf => by rw [← h.l, List.getElem?_map, hf]; rfl
  refine ⟨h.f, h.n, h.m, by rw [← h.l, List.length_map], fun i f hf => ?_, h.moves⟩
  obtain ⟨g1, g2, g3, g4⟩ := h.good f (List.mem_of_getElem? hf)
  refine ⟨g1, hat i f hf, g2, g3, g4, fnd_at hf rfl fun j hj g hg e => ?_⟩
  have a := hat i f hf
  have b := hat j g hg
  rw [e] at b
  obtain ⟨hi, ha⟩ := List.getElem?_eq_some_iff.1 a
  obtain ⟨hj2, hb⟩ := List.getElem?_eq_some_iff.1 b
  have := (List.pairwise_iff_getElem.1 h.nd) j i hj2 hi hj
  exact this (by rw [ha, hb])
theorem aft_len2 : ∀ (ms : List DM) (ns : List ByteArray), (aft ns ms).length ≤ ns.length + (mades ms).length
  | [], ns => by simp [aft, mades]
  | m :: ms, ns => by
    cases hg : m.gone with
    | true =>
      have h1 := aft_len2 ms (wo m.name ns)
      have h2 := wo_len m.name ns
      have e : mades (m :: ms) = mades ms := by simp [mades, hg]
      rw [e]
      simp only [aft, hg, if_true]
      omega
    | false =>
      have h1 := aft_len2 ms (ns ++ [m.name])
      have e : mades (m :: ms) = m.name :: mades ms := by simp [mades, hg]
      rw [e]
      simp only [aft, hg, Bool.false_eq_true, if_false]
      simp at h1 ⊢
      omega
theorem aft_moves {ns : List ByteArray} {ms : List DM} {m : DM} (h : ∀ (i : Nat) (x : DM), ms[i]? = some x → x.gone = true → x.name ∈ aft ns (ms.take i)) (hm : m.gone = true → m.name ∈ aft ns ms) : ∀ (i : Nat) (x : DM), (ms ++ [m])[i]? = some x → x.gone = true → x.name ∈ aft ns ((ms ++ [m]).take i) := by
  intro i x hx hg
  by_cases hi : i < ms.length
  · rw [List.getElem?_append_left hi] at hx
    rw [List.take_append_of_le_length (by omega)]
    exact h i x hx hg
  · have hlt := (List.getElem?_eq_some_iff.1 hx).1
    simp at hlt
    have e : i = ms.length := by omega
    subst e
    rw [List.getElem?_append_right (Nat.le_refl _)] at hx
    simp at hx
    subst hx
    rw [List.take_left' rfl]
    exact hm hg
theorem map_set_same {fs : List DF} {i : Nat} {f g : DF} (h : fs[i]? = some f) (hn : g.name = f.name) : (fs.set i g).map DF.name = fs.map DF.name := by
  rw [List.map_set]
  obtain ⟨hi, he⟩ := List.getElem?_eq_some_iff.1 h
  refine List.ext_getElem? fun j => ?_
  rw [List.getElem?_set]
  split
  · rename_i e
    subst e
    rw [if_pos (by simpa using hi), List.getElem?_map, h, hn]; rfl
  · rfl
theorem set_good {fs : List DF} {i : Nat} {g : DF} {Q : DF → Prop} (h : ∀ f ∈ fs, Q f) (hg : Q g) : ∀ f ∈ fs.set i g, Q f := fun f hf => by
  rcases List.mem_or_eq_of_mem_set hf with hf | rfl
  · exact h f hf
  · exact hg
/-- A write that is done leaves an ok disk. -/
theorem DOk.step {d : Dk} (w : DW) (h : DOk d) : DOk (doS d w).1 := by
  have h2 := h.two
  have hdone : DOk2 (doS d w).1 → DOk (doS d w).1 := DOk2.ok
  apply hdone
  unfold doS
  split
  · rename_i hk
    split
    · exact h2
    · rename_i hN
      split
      · exact h2
      · rename_i hL
        have hn : nameOk w.name = true := by
          cases hq : nameOk w.name with
          | true => rfl
          | false => exact absurd (.inl hq) hN
        have hmade : made ⟨d.files ++ [⟨w.name, ⟨#[]⟩, 0⟩], d.names, d.moves ++ [⟨false, w.name⟩]⟩ = made d ++ [w.name] := by simp [made, mades]
        have hnew : w.name ∉ made d := fun hm => by
          rw [← h2.l, List.mem_map] at hm
          obtain ⟨f, hf, e⟩ := hm
          obtain ⟨i, hi⟩ := List.mem_iff_getElem?.1 hf
          have := (fnd_le hi).1
          rw [e] at this
          exact hN (.inr this)
        refine ⟨by simp; omega, h2.n, by simp; omega, ?_, ?_, ?_, aft_moves h2.moves (by simp)⟩
        · rw [hmade, ← h2.l]; simp
        · rw [hmade, List.nodup_append]
          exact ⟨h2.nd, by simp, fun a ha b hb => by rw [List.mem_singleton] at hb; subst hb; intro e; subst e; exact hnew ha⟩
        · intro f hf
          rcases List.mem_append.1 hf with hf | hf
          · exact h2.good f hf
          · rw [List.mem_singleton] at hf
            subst hf
            exact ⟨hn, Nat.zero_le _, Int.le_refl _, Int.le_refl _⟩
  · rename_i hk
    split
    · have hnm : ∀ x ∈ aft d.names d.moves, x ∈ made d := fun x hx => DOk.aft_made (n := d.moves.length) (by rw [List.take_length]; exact hx)
      have hN := (nmI_aft h2.nd d.moves.length (Nat.le_refl _)).2
      rw [List.take_length, List.drop_length] at hN
      have hmade : made (keepD d (aft d.names d.moves)) = aft d.names d.moves := by simp [made, keepD, mades]
      have hl := aft_len2 d.moves d.names
      have hml : (made d).length = d.files.length := h.l
      have hm2 : (made d).length = d.names.length + (mades d.moves).length := by simp [made]
      have hf := h2.f
      refine ⟨by simp only [keepD, List.length_map]; omega, by simp only [keepD]; omega, by simp [keepD], ?_, ?_, ?_, fun i m hm => by simp [keepD] at hm⟩
      · rw [hmade]
        simp only [keepD, List.map_map]
        have : (aft d.names d.moves).map (DF.name ∘ fileOf d.files) = (aft d.names d.moves).map id := List.map_congr_left fun x hx => by
          obtain ⟨_, _, _, h4⟩ := h.find (hnm x hx)
          exact h4
        rw [this, List.map_id]
      · rw [hmade]; simpa [mades] using hN
      · intro f hf
        simp only [keepD, List.mem_map] at hf
        obtain ⟨x, hx, rfl⟩ := hf
        obtain ⟨i, _, h3, _⟩ := h.find (hnm x hx)
        exact h2.good _ (List.mem_of_getElem? h3)
    · rename_i hk5
      split
      · exact h2
      · rename_i hr
        split
        · exact h2
        · rename_i hh
          have hin : w.name ∈ aft d.names d.moves := has_true.1 (by cases hq : has (aft d.names d.moves) w.name with | true => rfl | false => exact absurd hq hh)
          obtain ⟨i, h3, h4, h5⟩ := h.find (DOk.aft_made (n := d.moves.length) (by rw [List.take_length]; exact hin))
          have hgd := h2.good _ (List.mem_of_getElem? h4)
          rw [h3, Int.toNat_natCast]
          split
          · split
            · exact h2
            · rename_i hsz
              refine ⟨by simp only [List.length_set]; exact h2.f, h2.n, h2.m, ?_, h2.nd, set_good h2.good ⟨hgd.1, ?_, hgd.2.2.1, ?_⟩, h2.moves⟩
              · exact (map_set_same (g := ⟨(fileOf d.files w.name).name, (fileOf d.files w.name).data ++ w.data, (fileOf d.files w.name).kept⟩) h4 rfl).trans h2.l
              · simp only [ByteArray.size_append]; omega
              · simp only [ByteArray.size_append]; have := hgd.2.2.2; omega
          · split
            · refine ⟨by simp only [List.length_set]; exact h2.f, h2.n, h2.m, ?_, h2.nd, set_good h2.good ⟨hgd.1, hgd.2.1, by simp, by simp⟩, h2.moves⟩
              exact (map_set_same (g := ⟨(fileOf d.files w.name).name, (fileOf d.files w.name).data, (fileOf d.files w.name).data.size⟩) h4 rfl).trans h2.l
            · split
              · exact h2
              · rename_i hL
                have hmade : made ⟨d.files, d.names, d.moves ++ [⟨true, w.name⟩]⟩ = made d := by simp [made, mades]
                refine ⟨h2.f, h2.n, by simp; omega, by rw [hmade]; exact h2.l, by rw [hmade]; exact h2.nd, h2.good, aft_moves h2.moves fun _ => hin⟩
theorem nameOk_len {s : ByteArray} (h : nameOk s = true) : s.size ≤ 8 := by
  simp only [nameOk, Bool.and_eq_true, decide_eq_true_eq] at h
  exact h.1.1.2
theorem DOk.fine {d : Dk} (h : DOk d) : fineDk d := by
  have h2 := h.two
  have l1 := h2.f
  have l2 := h2.n
  have l3 := h2.m
  have hm : ∀ x ∈ made d, x.size ≤ 8 := fun x hx => by
    rw [← h2.l, List.mem_map] at hx
    obtain ⟨f, hf, rfl⟩ := hx
    exact nameOk_len (h2.good f hf).1
  refine ⟨⟨by omega, by omega, by omega⟩, fun f hf => ?_, fun x hx => ?_, fun m hmm => ?_⟩
  · have a := h2.good f hf
    have b := nameOk_len a.1
    omega
  · have := hm x (List.mem_append.2 (.inl hx)); omega
  · have : m.name ∈ made d := by
      cases hg : m.gone with
      | false => exact List.mem_append.2 (.inr (List.mem_map.2 ⟨m, List.mem_filter.2 ⟨hmm, by simp [hg]⟩, rfl⟩))
      | true =>
        obtain ⟨i, hi⟩ := List.mem_iff_getElem?.1 hmm
        exact DOk.aft_made (h2.moves i m hi hg)
    have := hm _ this; omega
end Go.V
set_option linter.unusedSimpArgs false
namespace Go.V
open Go.Proofs
theorem lendN {H : HMap} {m1 m2 m3 m v1 v2 v3 v n1 n2 n3 n : Nat} {w1 w2 w3 w : Bool} {d : Dk} {ns : List ByteArray} (h1 : H m1 = some (.arr v1 w1 3 58 (en eF d.files))) (h2 : H m2 = some (.arr v2 w2 1 9 (en eS d.names))) (h3 : H m3 = some (.arr v3 w3 2 60 (en eM d.moves))) (h4 : H m = some (.arr v w 1 9 (en eS ns))) (e1 : n1 = d.files.length) (e2 : n2 = d.names.length) (e3 : n3 = d.moves.length) (e4 : n = ns.length) :
    lendTs H [tDk d, tL (en eS ns)] [.pt (.agg [.own m1 v1 n1, .own m2 v2 n2, .own m3 v3 n3]), .c (.own m v n)] = some ([tDk d, tL (en eS ns)], dkL m1 v1 m2 v2 m3 v3 d ++ [(m, .arr v false 1 9 (en eS ns))], [m1, m2, m3, m]) := by
  subst e4
  have a : lendT H (tL (en eS ns)) (.c (.own m v ns.length)) = some (tL (en eS ns), [(m, .arr v false 1 9 (en eS ns))], [m]) := by
    simp only [tL, T.c, lendT, lendC, sealC, h4, en_len, en_take, Nat.le_refl, and_self, if_true, Option.map_some]
  simp only [lendTs, lendDk h1 h2 h3 e1 e2 e3, a, List.append_nil, List.cons_append, List.nil_append]
/-! What a loss of power leaves of a disk. -/
def cutM (k : Int) (f : DF) : Int := if 0 < k then min k ((f.data.size : Int) - f.kept) else 0
def cutF (k : Int) (f : DF) : DF := ⟨f.name, f.data.extract 0 (f.kept + cutM k f).toNat, f.kept + cutM k f⟩
def keepAt (keep : List Int) (i : Nat) : Int := (keep[i]?).getD 0
def cutP (keep : List Int) (fs : List DF) (n : Nat) : List DF := fs.mapIdx fun i f => if i < n then cutF (keepAt keep i) f else f
theorem cutP_len (keep : List Int) (fs : List DF) (n : Nat) : (cutP keep fs n).length = fs.length := by simp [cutP]
theorem cutP_zero (keep : List Int) (fs : List DF) : cutP keep fs 0 = fs := by
  refine List.ext_getElem? fun i => ?_
  rw [cutP, List.getElem?_mapIdx]; cases fs[i]? <;> simp
theorem cutP_at (keep : List Int) {fs : List DF} {i : Nat} {f : DF} (h : fs[i]? = some f) (n : Nat) : (cutP keep fs n)[i]? = some (if i < n then cutF (keepAt keep i) f else f) := by
  rw [cutP, List.getElem?_mapIdx, h]; rfl
theorem cutP_set (keep : List Int) {fs : List DF} {i : Nat} {f : DF} (h : fs[i]? = some f) : (cutP keep fs i).set i (cutF (keepAt keep i) f) = cutP keep fs (i + 1) := by
  have hi := (List.getElem?_eq_some_iff.1 h).1
  refine List.ext_getElem? fun j => ?_
  rw [List.getElem?_set]
  split
  · rename_i e
    subst e
    rw [if_pos (by rw [cutP_len]; exact hi), cutP_at keep h, if_pos (Nat.lt_succ_self _)]
  · rename_i e
    cases hj : fs[j]? with
    | none =>
      have := List.getElem?_eq_none_iff.1 hj
      rw [List.getElem?_eq_none (by rw [cutP_len]; exact this), List.getElem?_eq_none (by rw [cutP_len]; exact this)]
    | some g =>
      rw [cutP_at keep hj, cutP_at keep hj]
      by_cases hlt : j < i
      · rw [if_pos hlt, if_pos (by omega)]
      · rw [if_neg hlt, if_neg (by omega)]
def cutA (keep : List Int) (d : Dk) : Dk := ⟨cutP keep d.files d.files.length, d.names, d.moves⟩
theorem cutM_le {k : Int} {f : DF} (_h0 : 0 ≤ f.kept) (h1 : f.kept ≤ f.data.size) : 0 ≤ cutM k f ∧ f.kept + cutM k f ≤ f.data.size := by
  unfold cutM; split <;> omega
theorem cut_size {k : Int} {f : DF} (h0 : 0 ≤ f.kept) (h1 : f.kept ≤ f.data.size) : ((f.data.extract 0 (f.kept + cutM k f).toNat).size : Int) = f.kept + cutM k f := by
  have := cutM_le (k := k) h0 h1
  rw [ByteArray.size_extract]; omega
theorem DOk.cutA {d : Dk} (keep : List Int) (h : DOk d) : DOk (cutA keep d) := by
  have h2 := h.two
  refine DOk2.ok ⟨by simp only [Go.V.cutA, cutP_len]; exact h2.f, h2.n, h2.m, Eq.trans ?_ h2.l, h2.nd, fun f hf => ?_, h2.moves⟩
  · refine List.ext_getElem? fun i => ?_
    rw [List.getElem?_map, List.getElem?_map]
    cases hi : d.files[i]? with
    | none => rw [List.getElem?_eq_none (by simp only [Go.V.cutA, cutP_len]; exact List.getElem?_eq_none_iff.1 hi)]
    | some f =>
      have : (Go.V.cutA keep d).files[i]? = _ := cutP_at keep hi d.files.length
      rw [this]
      split <;> rfl
  · obtain ⟨i, hi⟩ := List.mem_iff_getElem?.1 hf
    have hl := (List.getElem?_eq_some_iff.1 hi).1
    simp only [Go.V.cutA, cutP_len] at hl
    obtain ⟨g, hg⟩ : ∃ g, d.files[i]? = some g := ⟨_, List.getElem?_eq_getElem hl⟩
    have e : (Go.V.cutA keep d).files[i]? = _ := cutP_at keep hg d.files.length
    rw [hi, if_pos hl] at e
    have e := Option.some.inj e
    obtain ⟨g1, g2, g3, g4⟩ := h2.good g (List.mem_of_getElem? hg)
    have hM := cutM_le (k := keepAt keep i) g3 g4
    have hS := cut_size (k := keepAt keep i) g3 g4
    subst e
    have hz : (cutF (keepAt keep i) g).data.size = (g.data.extract 0 (g.kept + cutM (keepAt keep i) g).toNat).size := rfl
    have hk : (cutF (keepAt keep i) g).kept = g.kept + cutM (keepAt keep i) g := rfl
    exact ⟨g1, by omega, by omega, by omega⟩
def cutN (m : Int) (d : Dk) : Nat := (min (max m 0) (d.moves.length : Int)).toNat
def cutD (d : Dk) (m : Int) (keep : List Int) : Dk := keepD (cutA keep d) (aft d.names (d.moves.take (cutN m d)))
/- loop.example/teagle/spec.DiskCut -/
def r75_0 : List AOper := [ao 0 3 (.box 27 (.t 0)),
  ao 1 6 (.alloc 27 [.nil0, .nil0, .nil0])]
def r75_1 : List AOper := [ao 0 11 (.ld 3 true (.t 3)),
  ao 1 12 (.call (.k (.c (.fn 7 []))) [(.t 11)]),
  ao 2 13 (.un .not (.t 12))]
def r75_2 : List AOper := [ao 0 14 (.build [.nil0, .nil0, .nil0] []),
  an 1 (.st 3 (.t 6) (.t 14))]
def c75_3 : ACode := .seq (.reg r75_2) .ret
def c75_4 : ACode := .cond (.t 13) c75_3 .skip
def c75_5 : ACode := .seq (.reg r75_1) c75_4
def r75_6 : List AOper := [ao 0 15 (.mv (.t 1)),
  ao 1 16 (.bin .lss (.t 15) (.k (.i 0)))]
def r75_7 : List AOper := [ao 0 1 (.mv (.k (.i 0)))]
def c75_8 : ACode := .cond (.t 16) (.reg r75_7) .skip
def c75_9 : ACode := .seq (.reg r75_6) c75_8
def r75_10 : List AOper := [ao 0 17 (.mv (.t 1)),
  ao 1 18 (.fa 2 (.t 3)),
  ao 2 19 (.ld 1 false (.t 18)),
  ao 3 20 (.len (.t 19)),
  ao 4 21 (.bin .gtr (.t 17) (.t 20))]
def r75_11 : List AOper := [ao 0 22 (.fa 2 (.t 3)),
  ao 1 23 (.ld 1 false (.t 22)),
  ao 2 24 (.len (.t 23)),
  ao 3 1 (.mv (.t 24))]
def c75_12 : ACode := .cond (.t 21) (.reg r75_11) .skip
def c75_13 : ACode := .seq (.reg r75_10) c75_12
def r75_14 : List AOper := [ao 0 25 (.ld 3 true (.t 3)),
  ao 1 26 (.call (.k (.c (.fn 23 []))) [(.t 25)]),
  ao 2 7 (.alloc 27 [.nil0, .nil0, .nil0]),
  an 3 (.st 3 (.t 7) (.t 26))]
def r75_15 : List AOper := [ao 0 8 (.mv (.k (.i 0)))]
def r75_16 : List AOper := [ao 0 27 (.mv (.t 8)),
  ao 1 28 (.fa 0 (.t 3)),
  ao 2 29 (.ld 1 false (.t 28)),
  ao 3 30 (.len (.t 29)),
  ao 4 31 (.bin .lss (.t 27) (.t 30))]
def c75_17 : ACode := .cond (.t 31) .skip (.exit 0)
def c75_18 : ACode := .seq (.reg r75_16) c75_17
def r75_19 : List AOper := [ao 0 34 (.fa 0 (.t 3)),
  ao 1 35 (.ld 1 false (.t 34)),
  ao 2 36 (.mv (.t 8)),
  ao 3 37 (.ia 3 (.t 35) (.t 36)),
  ao 4 38 (.ld 3 true (.t 37)),
  ao 5 9 (.alloc 58 [(.v (.s (.string ⟨#[]⟩))), (.v (.s (.string ⟨#[]⟩))), (.v (.s (.int .i64 0)))]),
  an 6 (.st 3 (.t 9) (.t 38))]
def r75_20 : List AOper := [ao 0 10 (.mv (.k (.i 0)))]
def r75_21 : List AOper := [ao 0 39 (.mv (.t 8)),
  ao 1 40 (.mv (.t 2)),
  ao 2 41 (.len (.t 40)),
  ao 3 42 (.bin .lss (.t 39) (.t 41)),
  ao 4 43 (.mv (.t 42)),
  ag 5 44 43 true [] (.mv (.t 2)),
  ag 6 45 43 true [] (.mv (.t 8)),
  ag 7 46 43 true [] (.ia 1 (.t 44) (.t 45)),
  ag 8 47 43 true [] (.ld 1 false (.t 46)),
  ag 9 48 43 true [] (.bin .gtr (.t 47) (.k (.i 0))),
  ao 10 49 (.pick (.t 43) (.t 48) (.k (.b false)))]
def r75_22 : List AOper := [ao 0 50 (.fa 1 (.t 9)),
  ao 1 51 (.ld 1 false (.t 50)),
  ao 2 52 (.lenS (.t 51)),
  ao 3 53 (.fa 2 (.t 9)),
  ao 4 54 (.ld 1 false (.t 53)),
  ao 5 55 (.bin .sub (.t 52) (.t 54)),
  ao 6 10 (.mv (.t 55))]
def r75_23 : List AOper := [ao 0 56 (.mv (.t 2)),
  ao 1 57 (.mv (.t 8)),
  ao 2 58 (.ia 1 (.t 56) (.t 57)),
  ao 3 59 (.ld 1 false (.t 58)),
  ao 4 60 (.mv (.t 10)),
  ao 5 61 (.bin .lss (.t 59) (.t 60))]
def r75_24 : List AOper := [ao 0 62 (.mv (.t 2)),
  ao 1 63 (.mv (.t 8)),
  ao 2 64 (.ia 1 (.t 62) (.t 63)),
  ao 3 65 (.ld 1 false (.t 64)),
  ao 4 10 (.mv (.t 65))]
def c75_25 : ACode := .cond (.t 61) (.reg r75_24) .skip
def c75_26 : ACode := .seq (.reg r75_22) (.seq (.reg r75_23) c75_25)
def c75_27 : ACode := .cond (.t 49) c75_26 .skip
def c75_28 : ACode := .seq (.reg r75_21) c75_27
def r75_29 : List AOper := [ao 0 66 (.fa 0 (.t 7)),
  ao 1 67 (.ld 1 false (.t 66)),
  au 2 68 [0, 1] (.mv (.t 8)),
  au 3 69 (ru 3) (.fa 1 (.t 9)),
  au 4 70 (ru 3) (.ld 1 false (.t 69)),
  au 5 71 (ru 5) (.fa 2 (.t 9)),
  au 6 72 (ru 5) (.ld 1 false (.t 71)),
  au 7 73 (ru 7) (.mv (.t 10)),
  au 8 74 (ru 5) (.bin .add (.t 72) (.t 73)),
  au 9 75 (ru 3) (.slcS (.t 70) none (some (.t 74))),
  ao 10 76 (.ia 3 (.t 67) (.t 68)),
  ao 11 77 (.fa 1 (.t 76)),
  an 12 (.st 1 (.t 77) (.t 75))]
def r75_30 : List AOper := [ao 0 78 (.fa 0 (.t 7)),
  ao 1 79 (.ld 1 false (.t 78)),
  ao 2 80 (.mv (.t 8)),
  ao 3 81 (.fa 2 (.t 9)),
  ao 4 82 (.ld 1 false (.t 81)),
  ao 5 83 (.mv (.t 10)),
  ao 6 84 (.bin .add (.t 82) (.t 83)),
  ao 7 85 (.ia 3 (.t 79) (.t 80)),
  ao 8 86 (.fa 2 (.t 85)),
  an 9 (.st 1 (.t 86) (.t 84))]
def c75_31 : ACode := .seq (.reg r75_19) (.seq (.reg r75_20) (.seq c75_28 (.seq (.reg r75_29) (.reg r75_30))))
def c75_32 : ACode := .block 1 c75_31
def r75_33 : List AOper := [ao 0 32 (.mv (.t 8)),
  ao 1 33 (.bin .add (.t 32) (.k (.i 1))),
  ao 2 8 (.mv (.t 33))]
def c75_34 : ACode := .seq c75_18 (.seq c75_32 (.reg r75_33))
def c75_35 : ACode := .loop c75_34
def c75_36 : ACode := .block 0 c75_35
def c75_37 : ACode := .seq (.reg r75_15) c75_36
def r75_38 : List AOper := [ao 0 87 (.ld 3 true (.t 7)),
  au 1 88 [0] (.ld 3 true (.t 3)),
  au 2 89 [0, 1] (.mv (.t 1)),
  au 3 90 [0] (.call (.k (.c (.fn 31 []))) [(.t 88), (.t 89)]),
  ao 4 91 (.call (.k (.c (.fn 26 []))) [(.t 87), (.t 90)]),
  an 5 (.st 3 (.t 6) (.t 91))]
def c75 : ACode := .seq (.reg r75_0) (.seq c75_5 (.seq c75_9 (.seq c75_13 (.seq (.reg r75_14) (.seq c75_37 (.seq (.reg r75_38) .ret))))))
def s75 : List ARes := [.cell 6 3 true]
theorem ok75 : okF Try.prog 75 92 c75 s75 := ⟨Try.f75, Try.func75, Try.ntmps75, by kernel_rfl, by kernel_rfl, by kernel_rfl⟩
def inv75 (d : Dk) (keep : List Int) (n : Nat) (i : Nat) (σ : St) : Prop := (∃ u, σ.t 3 = .c (.ptr 3 u 0) ∧ σ.H 3 = some (.var u 27 [.v (.sl (en eF d.files)), .v (.sl (en eS d.names)), .v (.sl (en eM d.moves))])) ∧ σ.t 1 = .i n ∧ σ.t 2 = tL (en eI keep) ∧ (∃ u, σ.t 6 = .c (.ptr 6 u 0) ∧ σ.H 6 = some (.var u 27 [.nil0, .nil0, .nil0])) ∧
  (∃ u v, σ.t 7 = .c (.ptr 7 u 0) ∧ σ.H 7 = some (.var u 27 [.own 1001 v d.files.length, .own 1002 v d.names.length, .own 1003 v d.moves.length]) ∧ σ.H 1001 = some (.arr v true 3 58 (en eF (cutP keep d.files i))) ∧ σ.H 1002 = some (.arr v true 1 9 (en eS d.names)) ∧ σ.H 1003 = some (.arr v true 2 60 (en eM d.moves))) ∧ σ.t 8 = .i i
def UQd_1 := Bx.mk <|
  aN (uA c75.eq_1) <| aN (uR r75_0.eq_1) <| aN (uA c75_5.eq_1) <| aN (uR r75_1.eq_1) <| aN (uA c75_4.eq_1) <| aN (uA c75_3.eq_1) <| aN (uR r75_2.eq_1) <| aN (uA c75_9.eq_1) <| aN (uR r75_6.eq_1) <| aN (uA c75_8.eq_1) <| aN (uR r75_7.eq_1) <| aN (uA c75_13.eq_1) <| aN (uR r75_10.eq_1) <| aN (uA c75_12.eq_1) <| aN (uR r75_11.eq_1) <| aN (uR r75_14.eq_1) <| aN (uA c75_37.eq_1) <| aN (uR r75_15.eq_1) <| aN (uA c75_36.eq_1) <| aN (uA c75_35.eq_1) <| aN (uR r75_38.eq_1) <| s75.eq_1
def UQd_2 := Bx.mk <|
  aN (uA c75.eq_1) <| aN (uR r75_0.eq_1) <| aN (uA c75_5.eq_1) <| aN (uR r75_1.eq_1) <| aN (uA c75_4.eq_1) <| aN (uA c75_3.eq_1) <| aN (uR r75_2.eq_1) <| aN (uA c75_9.eq_1) <| aN (uR r75_6.eq_1) <| aN (uA c75_8.eq_1) <| aN (uR r75_7.eq_1) <| aN (uA c75_13.eq_1) <| aN (uR r75_10.eq_1) <| aN (uA c75_12.eq_1) <| aN (uR r75_11.eq_1) <| aN (uR r75_14.eq_1) <| aN (uA c75_37.eq_1) <| aN (uR r75_15.eq_1) <| aN (uR r75_38.eq_1) <| s75.eq_1
def UQd_3 := Bx.mk <|
  aN (uA c75_34.eq_1) <| aN (uA c75_18.eq_1) <| aN (uR r75_16.eq_1) <| aN (uA c75_17.eq_1) <| aN (uA c75_32.eq_1) <| aN (uA c75_31.eq_1) <| aN (uR r75_19.eq_1) <| aN (uR r75_20.eq_1) <| aN (uA c75_28.eq_1) <| aN (uR r75_21.eq_1) <| aN (uA c75_27.eq_1) <| aN (uA c75_26.eq_1) <| aN (uR r75_22.eq_1) <| aN (uR r75_23.eq_1) <| aN (uA c75_25.eq_1) <| aN (uR r75_24.eq_1) <| aN (uR r75_29.eq_1) <| aN (uR r75_30.eq_1) <| aN (uR r75_33.eq_1) <| aN (uA c75.eq_1) <| aN (uR r75_0.eq_1) <| aN (uA c75_5.eq_1) <| aN (uR r75_1.eq_1) <| aN (uA c75_4.eq_1) <| aN (uA c75_3.eq_1) <| aN (uR r75_2.eq_1) <| aN (uA c75_9.eq_1) <| aN (uR r75_6.eq_1) <| aN (uA c75_8.eq_1) <| aN (uR r75_7.eq_1) <| aN (uA c75_13.eq_1) <| aN (uR r75_10.eq_1) <| aN (uA c75_12.eq_1) <| aN (uR r75_11.eq_1) <| aN (uR r75_14.eq_1) <| aN (uA c75_37.eq_1) <| aN (uR r75_15.eq_1) <| aN (uA c75_36.eq_1) <| aN (uA c75_35.eq_1) <| aN (uR r75_38.eq_1) <| s75.eq_1
set_option maxRecDepth 20000 in
set_option maxHeartbeats 1000000 in
theorem cutS_ok (d : Dk) (hD : DOk d) (m : Int) (keep : List Int) : ACallsF Try.prog 75 [tDk d, .i m, tL (en eI keep)] [] (tDk (cutD d m keep)) := by
  have hd := hD.fine
  obtain ⟨b, hb, hC⟩ := okS_ok d hd
  rw [hb.2 hD] at hC
  have l1 := hD.f
  have l2 := hD.n
  have l3 := hD.m
  have hcp := copyDk_ok d hd.s 1001 1002 1003
  have hn := hD.cutA keep
  have loop : ∀ (n : Nat) (hn0 : n = cutN m d) (X : Ctx) (t : Nat → T) (H : HMap) (c : Nat), inv75 d keep n 0 ⟨t, H, c⟩ → wpa Try.prog X c75_36 (thenW Try.prog X (.seq (.reg r75_38) .ret) (endA (FinC s75 (tDk (cutD d m keep)) []))) ⟨t, H, c⟩ := by
    intro n hn0 X t H c h0
    have hnl : n ≤ d.moves.length := by rw [hn0, cutN]; omega
    simp only [RUX, Nat.reduceAdd, reduceIte, Nat.reduceEqDiff, Nat.reduceLT, Nat.reduceLeDiff, reduceCtorEq, eq_self, FIX, forall_const, endE_n, endE_r, CHT, disj, Nat.reduceBEq, beq_self_eq_true, APT, APX, forall_eq, ALT, UQd_1.d]
    refine AW.upto d.files.length (inv75 d keep n) h0 fun i t H c hi h => ?_
    obtain ⟨⟨u3, e3, eH3⟩, e1, e2, ⟨u6, e6, eH6⟩, ⟨u7, v, e7, eH7, eHf, eHn, eHm⟩, e8⟩ := h
    simp only [T.c, T.i, tL] at e3 eH3 e1 e2 e6 eH6 e7 eH7 eHf eHn eHm e8
    by_cases hlt : i < d.files.length
    · obtain ⟨f, hf⟩ : ∃ f, d.files[i]? = some f := ⟨_, List.getElem?_eq_getElem hlt⟩
      have hF := hD.files i f hf
      have g3 := hF.lo
      have g4 := hF.hi
      have g5 := hF.data
      have hM := cutM_le (k := keepAt keep i) g3 g4
      have ef := en_at eF hf
      have ep : (cutP keep d.files i)[i]? = some f := by rw [cutP_at keep hf, if_neg (Nat.lt_irrefl _)]
      have ep2 := en_at eF ep
      have hpl := cutP_len keep d.files i
      have k1 : (i : Int) < d.files.length := by omega
      have gz : (0 : Int) ≤ i := by omega
      have gw : IntKind.i64.wrap ((i : Int) + 1) = ((i + 1 : Nat) : Int) := wrap64 (x := (i : Int) + 1) ⟨by omega, by omega⟩
      have gs : IntKind.i64.wrap ((f.data.size : Int) - f.kept) = (f.data.size : Int) - f.kept := wrap64 ⟨by omega, by omega⟩
      have gm : IntKind.i64.wrap (f.kept + cutM (keepAt keep i) f) = f.kept + cutM (keepAt keep i) f := wrap64 ⟨by omega, by omega⟩
      have gh : (0 : Int) ≤ f.kept + cutM (keepAt keep i) f := by omega
      have gh2 : f.kept + cutM (keepAt keep i) f ≤ f.data.size := hM.2
      have hs : (en eF (cutP keep d.files i)).set i [.s (.string f.name), .s (.string (f.data.extract 0 (f.kept + cutM (keepAt keep i) f).toNat)), .s (.int .i64 (f.kept + cutM (keepAt keep i) f))] = en eF (cutP keep d.files (i + 1)) := by
        rw [← cutP_set keep hf]; exact en_set eF (cutP keep d.files i) i (cutF (keepAt keep i) f)
      by_cases hk : i < keep.length
      · obtain ⟨q, hq⟩ : ∃ q, keep[i]? = some q := ⟨_, List.getElem?_eq_getElem hk⟩
        have eq := en_at eI hq
        have hka : keepAt keep i = q := by rw [keepAt, hq]; rfl
        have k2 : (i : Int) < keep.length := by omega
        by_cases p1 : q > 0
        · by_cases p2 : q < (f.data.size : Int) - f.kept
          · have hcm : cutM (keepAt keep i) f = q := by rw [hka, cutM, if_pos (by omega)]; omega
            rw [hcm] at gm gh gh2 hs
            simp only [RUX, Nat.reduceAdd, reduceIte, Nat.reduceEqDiff, Nat.reduceLT, Nat.reduceLeDiff, reduceCtorEq, eq_self, FIX, forall_const, endE_n, endE_r, CHT, disj, Nat.reduceBEq, beq_self_eq_true, APT, APX, forall_eq, ALT, UQd_3.d, e3, eH3, e1, e2, e6, eH6, e7, eH7, eHf, eHn, eHm, e8, SET, en_len, hpl, k1, k2, gz, hlt, ef, ep2, eq, eF, eI, p1, p2, gs, gm, gh, gh2, lohi, Int.le_refl, Int.toNat_zero, gw]
            exact ⟨⟨u3, e3, eH3⟩, e1, e2, ⟨u6, e6, eH6⟩, ⟨u7, v, e7, eH7, congrArg (fun q => some (Blk.arr v true 3 58 q)) hs, eHn, eHm⟩, rfl⟩
          · have hcm : cutM (keepAt keep i) f = (f.data.size : Int) - f.kept := by rw [hka, cutM, if_pos (by omega)]; omega
            rw [hcm] at gm gh gh2 hs
            simp only [RUX, Nat.reduceAdd, reduceIte, Nat.reduceEqDiff, Nat.reduceLT, Nat.reduceLeDiff, reduceCtorEq, eq_self, FIX, forall_const, endE_n, endE_r, CHT, disj, Nat.reduceBEq, beq_self_eq_true, APT, APX, forall_eq, ALT, UQd_3.d, e3, eH3, e1, e2, e6, eH6, e7, eH7, eHf, eHn, eHm, e8, SET, en_len, hpl, k1, k2, gz, hlt, ef, ep2, eq, eF, eI, p1, p2, gs, gm, gh, gh2, lohi, Int.le_refl, Int.toNat_zero, gw]
            exact ⟨⟨u3, e3, eH3⟩, e1, e2, ⟨u6, e6, eH6⟩, ⟨u7, v, e7, eH7, congrArg (fun q => some (Blk.arr v true 3 58 q)) hs, eHn, eHm⟩, rfl⟩
        · have hcm : cutM (keepAt keep i) f = 0 := by rw [hka, cutM, if_neg (by omega)]
          rw [hcm] at gm gh gh2 hs
          simp only [RUX, Nat.reduceAdd, reduceIte, Nat.reduceEqDiff, Nat.reduceLT, Nat.reduceLeDiff, reduceCtorEq, eq_self, FIX, forall_const, endE_n, endE_r, CHT, disj, Nat.reduceBEq, beq_self_eq_true, APT, APX, forall_eq, ALT, UQd_3.d, e3, eH3, e1, e2, e6, eH6, e7, eH7, eHf, eHn, eHm, e8, SET, en_len, hpl, k1, k2, gz, hlt, ef, ep2, eq, eF, eI, p1, gs, gm, gh, gh2, lohi, Int.le_refl, Int.toNat_zero, gw]
          exact ⟨⟨u3, e3, eH3⟩, e1, e2, ⟨u6, e6, eH6⟩, ⟨u7, v, e7, eH7, congrArg (fun q => some (Blk.arr v true 3 58 q)) hs, eHn, eHm⟩, rfl⟩
      · have hka : keepAt keep i = 0 := by rw [keepAt, List.getElem?_eq_none (by omega)]; rfl
        have k2 : ¬ (i : Int) < keep.length := by omega
        have hcm : cutM (keepAt keep i) f = 0 := by rw [hka, cutM, if_neg (by omega)]
        rw [hcm] at gm gh gh2 hs
        simp only [RUX, Nat.reduceAdd, reduceIte, Nat.reduceEqDiff, Nat.reduceLT, Nat.reduceLeDiff, reduceCtorEq, eq_self, FIX, forall_const, endE_n, endE_r, CHT, disj, Nat.reduceBEq, beq_self_eq_true, APT, APX, forall_eq, ALT, UQd_3.d, e3, eH3, e1, e2, e6, eH6, e7, eH7, eHf, eHn, eHm, e8, SET, en_len, hpl, k1, k2, gz, hlt, ef, ep2, eF, eI, gs, gm, gh, gh2, lohi, Int.le_refl, Int.toNat_zero, gw]
        exact ⟨⟨u3, e3, eH3⟩, e1, e2, ⟨u6, e6, eH6⟩, ⟨u7, v, e7, eH7, congrArg (fun q => some (Blk.arr v true 3 58 q)) hs, eHn, eHm⟩, rfl⟩
    · have hi2 : i = d.files.length := by omega
      subst hi2
      have k1 : ¬ (d.files.length : Int) < d.files.length := by omega
      simp only [RUX, Nat.reduceAdd, reduceIte, Nat.reduceEqDiff, Nat.reduceLT, Nat.reduceLeDiff, reduceCtorEq, eq_self, FIX, forall_const, endE_n, endE_r, CHT, disj, Nat.reduceBEq, beq_self_eq_true, APT, APX, forall_eq, ALT, UQd_3.d, UQd_1.d, e3, eH3, e1, e2, e6, eH6, e7, eH7, eHf, eHn, eHm, e8, en_len, k1]
      refine callA1 (m := 2001) (ws := []) (ns := []) (after_ok d hd.s n hnl 2001) rfl rfl rfl (en_flat eS eS_flat _) ⟨rfl, ?_⟩
      simp only [RUX, Nat.reduceAdd, reduceIte, Nat.reduceEqDiff, Nat.reduceLT, Nat.reduceLeDiff, reduceCtorEq, eq_self, FIX, forall_const, endE_n, endE_r, CHT, disj, Nat.reduceBEq, beq_self_eq_true, APT, APX, forall_eq, ALT, UQd_3.d, UQd_1.d, e3, eH3, e1, e2, e6, eH6, e7, eH7, eHf, eHn, eHm, e8, en_len, k1]
      refine callL (ws := dkL 1001 _ 1002 _ 1003 _ (cutA keep d) ++ [(2001, .arr _ false 1 9 (en eS (aft d.names (d.moves.take n))))]) (ns := [1001, 1002, 1003, 2001]) (keep_ok (cutA keep d) hn.fine hn (aft d.names (d.moves.take n)) (by have := aft_len (d.moves.take n) d.names; rw [List.length_take] at this; omega) (fun x hx => DOk.aft_made (d := cutA keep d) (n := n) hx)) rfl (lendN (d := cutA keep d) (by exact eHf) (by exact eHn) (by exact eHm) rfl (by rw [Go.V.cutA, cutP_len]) rfl rfl rfl) rfl rfl ⟨?_, ?_⟩
      · simp only [RUX, Nat.reduceAdd, reduceIte, Nat.reduceEqDiff, Nat.reduceLT, Nat.reduceLeDiff, reduceCtorEq, eq_self, FIX, forall_const, endE_n, endE_r, CHT, disj, Nat.reduceBEq, beq_self_eq_true, APT, APX, forall_eq, ALT, UQd_1.d]
      subst hn0
      simp only [RUX, Nat.reduceAdd, reduceIte, Nat.reduceEqDiff, Nat.reduceLT, Nat.reduceLeDiff, reduceCtorEq, eq_self, FIX, forall_const, endE_n, endE_r, CHT, disj, Nat.reduceBEq, beq_self_eq_true, APT, APX, forall_eq, ALT, UQd_1.d, scalarT, scalarP, scalarC, e6, eH6, cutD, List.all_cons, Bool.false_and]
  have main : ∀ n, n = cutN m d → (m < 0 ∧ n = 0) ∨ (¬ m < 0 ∧ m > (d.moves.length : Int) ∧ n = d.moves.length) ∨ (¬ m < 0 ∧ ¬ m > (d.moves.length : Int) ∧ m = n) := by
    intro n hn; rw [cutN] at hn; omega
  have fin : ∀ (n : Nat) (X : Ctx) (t : Nat → T) (H : HMap) (c : Nat), (∃ u, t 3 = .c (.ptr 3 u 0) ∧ H 3 = some (.var u 27 [.v (.sl (en eF d.files)), .v (.sl (en eS d.names)), .v (.sl (en eM d.moves))])) → t 1 = .i n → t 2 = tL (en eI keep) → (∃ u, t 6 = .c (.ptr 6 u 0) ∧ H 6 = some (.var u 27 [.nil0, .nil0, .nil0])) → (∃ u v, t 7 = .c (.ptr 7 u 0) ∧ H 7 = some (.var u 27 [.own 1001 v d.files.length, .own 1002 v d.names.length, .own 1003 v d.moves.length]) ∧ H 1001 = some (.arr v true 3 58 (en eF d.files)) ∧ H 1002 = some (.arr v true 1 9 (en eS d.names)) ∧ H 1003 = some (.arr v true 2 60 (en eM d.moves))) → t 8 = .i 0 → inv75 d keep n 0 ⟨t, H, c⟩ := by
    intro n X t H c a1 a2 a3 a4 ⟨u, v, b1, b2, b3, b4, b5⟩ a6
    exact ⟨a1, a2, a3, a4, ⟨u, v, b1, b2, by rw [cutP_zero]; exact b3, b4, b5⟩, a6⟩
  have lz : (d.moves.length : Int) = ((d.moves.length : Nat) : Int) := rfl
  have l0 : (0 : Int) ≤ d.moves.length := by omega
  have n0 : ¬ (0 : Int) > d.moves.length := by omega
  rcases main _ rfl with ⟨c1, c2⟩ | ⟨c1, c2, c3⟩ | ⟨c1, c2, c3⟩
  · refine ACallsF.intro ok75 follows fun X c0 => ?_
    simp only [RUX, Nat.reduceAdd, reduceIte, Nat.reduceEqDiff, Nat.reduceLT, Nat.reduceLeDiff, reduceCtorEq, eq_self, FIX, forall_const, endE_n, endE_r, CHT, disj, Nat.reduceBEq, beq_self_eq_true, APT, APX, forall_eq, ALT, UQd_2.d]
    refine callC hC rfl rfl rfl rfl ?_
    simp only [RUX, Nat.reduceAdd, reduceIte, Nat.reduceEqDiff, Nat.reduceLT, Nat.reduceLeDiff, reduceCtorEq, eq_self, FIX, forall_const, endE_n, endE_r, CHT, disj, Nat.reduceBEq, beq_self_eq_true, APT, APX, forall_eq, ALT, UQd_2.d, c1, n0]
    refine callDk (ws := []) (ns := []) hcp rfl rfl rfl (by decide) ⟨rfl, ?_⟩
    simp only [RUX, Nat.reduceAdd, reduceIte, Nat.reduceEqDiff, Nat.reduceLT, Nat.reduceLeDiff, reduceCtorEq, eq_self, FIX, forall_const, endE_n, endE_r, CHT, disj, Nat.reduceBEq, beq_self_eq_true, APT, APX, forall_eq, ALT, UQd_2.d]
    exact loop 0 c2.symm X _ _ _ (fin 0 X _ _ _ ⟨_, rfl, rfl⟩ rfl rfl ⟨_, rfl, rfl⟩ ⟨_, _, rfl, rfl, rfl, rfl, rfl⟩ rfl)
  · refine ACallsF.intro ok75 follows fun X c0 => ?_
    simp only [RUX, Nat.reduceAdd, reduceIte, Nat.reduceEqDiff, Nat.reduceLT, Nat.reduceLeDiff, reduceCtorEq, eq_self, FIX, forall_const, endE_n, endE_r, CHT, disj, Nat.reduceBEq, beq_self_eq_true, APT, APX, forall_eq, ALT, UQd_2.d]
    refine callC hC rfl rfl rfl rfl ?_
    simp only [RUX, Nat.reduceAdd, reduceIte, Nat.reduceEqDiff, Nat.reduceLT, Nat.reduceLeDiff, reduceCtorEq, eq_self, FIX, forall_const, endE_n, endE_r, CHT, disj, Nat.reduceBEq, beq_self_eq_true, APT, APX, forall_eq, ALT, UQd_2.d, en_len, c1, c2]
    refine callDk (ws := []) (ns := []) hcp rfl rfl rfl (by decide) ⟨rfl, ?_⟩
    simp only [RUX, Nat.reduceAdd, reduceIte, Nat.reduceEqDiff, Nat.reduceLT, Nat.reduceLeDiff, reduceCtorEq, eq_self, FIX, forall_const, endE_n, endE_r, CHT, disj, Nat.reduceBEq, beq_self_eq_true, APT, APX, forall_eq, ALT, UQd_2.d]
    exact loop d.moves.length c3.symm X _ _ _ (fin _ X _ _ _ ⟨_, rfl, rfl⟩ rfl rfl ⟨_, rfl, rfl⟩ ⟨_, _, rfl, rfl, rfl, rfl, rfl⟩ rfl)
  · refine ACallsF.intro ok75 follows fun X c0 => ?_
    simp only [RUX, Nat.reduceAdd, reduceIte, Nat.reduceEqDiff, Nat.reduceLT, Nat.reduceLeDiff, reduceCtorEq, eq_self, FIX, forall_const, endE_n, endE_r, CHT, disj, Nat.reduceBEq, beq_self_eq_true, APT, APX, forall_eq, ALT, UQd_2.d]
    refine callC hC rfl rfl rfl rfl ?_
    simp only [RUX, Nat.reduceAdd, reduceIte, Nat.reduceEqDiff, Nat.reduceLT, Nat.reduceLeDiff, reduceCtorEq, eq_self, FIX, forall_const, endE_n, endE_r, CHT, disj, Nat.reduceBEq, beq_self_eq_true, APT, APX, forall_eq, ALT, UQd_2.d, en_len, c1, c2]
    refine callDk (ws := []) (ns := []) hcp rfl rfl rfl (by decide) ⟨rfl, ?_⟩
    simp only [RUX, Nat.reduceAdd, reduceIte, Nat.reduceEqDiff, Nat.reduceLT, Nat.reduceLeDiff, reduceCtorEq, eq_self, FIX, forall_const, endE_n, endE_r, CHT, disj, Nat.reduceBEq, beq_self_eq_true, APT, APX, forall_eq, ALT, UQd_2.d]
    exact loop (cutN m d) rfl X _ _ _ (fin _ X _ _ _ ⟨_, rfl, rfl⟩ (congrArg T.i c3) rfl ⟨_, rfl, rfl⟩ ⟨_, _, rfl, rfl, rfl, rfl, rfl⟩ rfl)
end Go.V

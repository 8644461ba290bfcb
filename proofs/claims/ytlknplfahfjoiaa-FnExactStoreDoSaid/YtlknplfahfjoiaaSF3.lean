/- It is proved that the law FnExactStoreDo returns true for every input and leaves its input as it was; no condition. -/
import Derived.Test.YtlknplfahfjoiaaSF2
set_option linter.unusedSimpArgs false
namespace Go.V
open Go.Proofs
/-- A call that cuts an array of the caller's. -/
theorem callCut {P : Program} {t : Nat → T} {H : HMap} {c : Nat} {f : Opd} {args : List Opd} {fid : FuncId} {n m v N N' st : Nat} {ty : TypeId} {es es' : List (List V)} {x y : T} {k : Nat} {d : Option Nat} {un : List Nat} {l : List AOper} {prev : List (Nat × List Nat × List Nat)} {K : St → Prop}
    (hC : ACallsF P fid [.c (.own n v N), x, y] [arH n m v st ty es es'] (.c (.own n v N'))) (hf : ev t f = .pt (.one (.fn fid []))) (hl : args.map (ev t) = [.c (.own m v N), x, y]) (hH : H m = some (.arr v true st ty es)) (hx : closedA x = true) (hy : closedA y = true)
    (hk : chk prev un ⟨.c (.own m v N'), [(m, .arr v true st ty es')], [m], [m]⟩ = true ∧ DRun P l ((k, [m], [m]) :: prev) K ⟨updD t d (.c (.own m v N')), upd H m (some (.arr v true st ty es')), c⟩) :
    step P k d un (.call f args) l prev K t H c := by
  have hN : renN [arH n m v st ty es es'] n = some (arH n m v st ty es es') := by simp [renN]
  obtain ⟨x1, x2⟩ := closed_A [arH n m v st ty es es'] H x hx
  obtain ⟨y1, y2⟩ := closed_A [arH n m v st ty es es'] H y hy
  refine callW (caps := []) («as» := [.c (.own m v N), x, y]) (ws := []) (ns := []) (r' := .c (.own m v N')) (ob := [(m, .arr v true st ty es')]) [arH n m v st ty es es'] hC hf ?_ ?_ ⟨?_, trivial⟩ (by simp) (by simp) ?_ ?_ ?_
  · rw [hl]
    have a1 : lendT H (T.c (.own n v N)) (T.c (.own m v N)) = some (T.c (.own m v N), [], []) := rfl
    simp only [List.map_nil, List.append_nil, lendTs, a1, x1, y1]
  · have a1 : renIT [arH n m v st ty es es'] (T.c (.own n v N)) = some (T.c (.own m v N)) := by simp only [T.c, renIT, renI, inN, hN, Option.bind_some, Option.map_some]
    simp only [renITs, a1, x2, y2]
  · show (match renIB [arH n m v st ty es es'] (.arr v true st ty es) with | some B => (updH H []) m = some B | none => False)
    simp only [renIB, updH]
    exact hH
  · simp only [T.c, renOT, renOP, renO, hN, Option.map_some, verOf, if_true, Blk.ver]
  · simp only [renOBs, renOB, verOf, if_true, Blk.ver]
  · have hq : quiet (.c (.own n v N')) [arH n m v st ty es es'] = false := by simp [quiet]
    simpa [hq, updH] using hk
/-- Names without the first that is this. -/
def er (ns : List ByteArray) (nm : ByteArray) : List ByteArray := match ns.findIdx? fun x => decide (x = nm) with
  | some i => del ns i
  | none => ns
theorem er_at {ns : List ByteArray} {nm : ByteArray} {i : Nat} (h : ix ns nm = i) : er ns nm = del ns i := by
  cases hq : ns.findIdx? fun x => decide (x = nm) with
  | none => simp only [ix, hq] at h; omega
  | some j => simp only [ix, hq] at h; simp only [er, hq]; congr 1; omega
theorem er_no {ns : List ByteArray} {nm : ByteArray} (h : ix ns nm = -1) : er ns nm = ns := by
  cases hq : ns.findIdx? fun x => decide (x = nm) with
  | none => simp only [er, hq]
  | some j => simp only [ix, hq] at h; omega
theorem er_len (ns : List ByteArray) (nm : ByteArray) : (er ns nm).length ≤ ns.length := by
  unfold er
  split
  · simp [del]; omega
  · exact Nat.le_refl _
def stI (p : List ByteArray × List ByteArray) (m : DM) : List ByteArray × List ByteArray :=
  if m.gone then (match p.1.findIdx? fun x => decide (x = m.name) with | some i => (del p.1 i, [zS] ++ p.2) | none => p) else (p.1 ++ [m.name], [])
def runI (ns : List ByteArray) (ms : List DM) : List ByteArray × List ByteArray := ms.foldl stI (ns, [])
abbrev nmI (ns : List ByteArray) (ms : List DM) : List ByteArray := (runI ns ms).1
theorem runI_take (ns : List ByteArray) {ms : List DM} {i : Nat} {m : DM} (h : ms[i]? = some m) : runI ns (ms.take (i + 1)) = stI (runI ns (ms.take i)) m := by
  rw [List.take_add_one, h, runI, List.foldl_append]; rfl
theorem stI_made (p : List ByteArray × List ByteArray) {m : DM} (h : m.gone = false) : stI p m = (p.1 ++ [m.name], []) := by unfold stI; rw [h]; rfl
theorem stI_at (p : List ByteArray × List ByteArray) {m : DM} (h : m.gone = true) {i : Nat} (hi : ix p.1 m.name = i) : stI p m = (del p.1 i, [zS] ++ p.2) := by
  unfold ix at hi
  unfold stI
  rw [h, if_pos rfl]
  split at hi
  · rename_i j hj; rw [hj]; have : j = i := by omega
    rw [this]
  · exact absurd hi (by omega)
theorem stI_no (p : List ByteArray × List ByteArray) {m : DM} (h : m.gone = true) (hi : ix p.1 m.name = -1) : stI p m = p := by
  unfold ix at hi
  unfold stI
  rw [h, if_pos rfl]
  split at hi
  · exact absurd hi (by omega)
  · rename_i hj; rw [hj]
theorem nmI_take (ns : List ByteArray) {ms : List DM} {i : Nat} {m : DM} (h : ms[i]? = some m) : nmI ns (ms.take (i + 1)) = if m.gone then er (nmI ns (ms.take i)) m.name else nmI ns (ms.take i) ++ [m.name] := by
  unfold nmI
  rw [runI_take ns h]
  cases hg : m.gone with
  | false => rw [stI_made _ hg]; rfl
  | true =>
    rcases ix_case (runI ns (ms.take i)).1 m.name with ⟨k, h1, _, _⟩ | ⟨h1, _⟩
    · rw [stI_at _ hg h1, if_pos rfl, er_at h1]
    · rw [stI_no _ hg h1, if_pos rfl, er_no h1]
theorem nmI_len (ns : List ByteArray) (ms : List DM) : ∀ i, i ≤ ms.length → (nmI ns (ms.take i)).length ≤ ns.length + i
  | 0, _ => Nat.le_refl _
  | i + 1, h => by
    obtain ⟨m, hm⟩ : ∃ m, ms[i]? = some m := ⟨_, List.getElem?_eq_getElem h⟩
    have := nmI_len ns ms i (by omega)
    rw [nmI_take ns hm]
    split
    · have h2 := er_len (nmI ns (ms.take i)) m.name; omega
    · rw [List.length_append, List.length_singleton]; omega
theorem en_take2 {α : Type} (f : α → List V) (xs ys : List α) : List.take xs.length (en f (xs ++ ys)) = en f xs := by
  rw [en_app, List.take_append_of_le_length (by rw [en_len]; exact Nat.le_refl _), en_take]
/- (loop.example/teagle/impl.Disk).names -/
def r103_0 : List AOper := [ao 0 2 (.box 34 (.t 0)),
  ao 1 4 (.mv (.k (.c .nil0)))]
def r103_1 : List AOper := [ao 0 9 (.fa 1 (.t 2)),
  ao 1 10 (.ld 1 false (.t 9)),
  ao 2 11 (.call (.k (.c (.fn 101 []))) [(.t 10)]),
  ao 3 5 (.mv (.t 11))]
def r103_2 : List AOper := [ao 0 12 (.fa 2 (.t 2)),
  ao 1 13 (.ld 1 false (.t 12)),
  ao 2 14 (.mv (.t 1)),
  ao 3 15 (.slc 2 (.t 13) none (some (.t 14))),
  ao 4 16 (.len (.t 15)),
  ao 5 17 (.mv (.k (.i 0)))]
def r103_3 : List AOper := [ao 0 18 (.bin .lss (.t 17) (.t 16))]
def c103_4 : ACode := .cond (.t 18) .skip (.exit 0)
def r103_5 : List AOper := [ao 0 19 (.ia 2 (.t 15) (.t 17)),
  ao 1 20 (.ld 2 true (.t 19)),
  ao 2 7 (.alloc 90 [(.v (.s (.bool false))), (.v (.s (.string ⟨#[]⟩)))]),
  an 3 (.st 2 (.t 7) (.t 20))]
def r103_6 : List AOper := [ao 0 21 (.fa 0 (.t 7)),
  ao 1 22 (.ld 1 false (.t 21)),
  ao 2 23 (.un .not (.t 22))]
def r103_7 : List AOper := [ao 0 24 (.mv (.t 5)),
  ao 1 25 (.fa 1 (.t 7)),
  ao 2 26 (.ld 1 false (.t 25)),
  ao 3 27 (.bsl 1 9 [(.t 26)]),
  ao 4 28 (.app 1 9 16 (.t 24) (.t 27)),
  ao 5 5 (.mv (.t 28))]
def c103_8 : ACode := .seq (.reg r103_7) (.exit 1)
def c103_9 : ACode := .cond (.t 23) c103_8 .skip
def c103_10 : ACode := .seq (.reg r103_6) c103_9
def r103_11 : List AOper := [ao 0 29 (.mv (.t 5)),
  ao 1 30 (.fa 1 (.t 7)),
  ao 2 31 (.ld 1 false (.t 30)),
  ao 3 32 (.call (.k (.c (.fn 151 []))) [(.t 29), (.t 31)]),
  ao 4 8 (.mv (.t 32))]
def r103_12 : List AOper := [ao 0 33 (.mv (.t 8)),
  ao 1 34 (.bin .geq (.t 33) (.k (.i 0)))]
def r103_13 : List AOper := [ao 0 35 (.mv (.t 5)),
  ao 1 36 (.mv (.t 8)),
  ao 2 37 (.mv (.t 8)),
  ao 3 38 (.bin .add (.t 37) (.k (.i 1))),
  ao 4 39 (.call (.k (.c (.fn 152 []))) [(.t 35), (.t 36), (.t 38)]),
  ao 5 5 (.mv (.t 39))]
def c103_14 : ACode := .cond (.t 34) (.reg r103_13) .skip
def c103_15 : ACode := .seq (.reg r103_5) (.seq c103_10 (.seq (.reg r103_11) (.seq (.reg r103_12) c103_14)))
def c103_16 : ACode := .block 1 c103_15
def r103_17 : List AOper := [ao 0 40 (.bin .add (.t 17) (.k (.i 1))),
  ao 1 17 (.mv (.t 40))]
def c103_18 : ACode := .seq (.reg r103_3) (.seq c103_4 (.seq c103_16 (.reg r103_17)))
def c103_19 : ACode := .loop c103_18
def c103_20 : ACode := .block 0 c103_19
def c103_21 : ACode := .seq (.reg r103_2) c103_20
def r103_22 : List AOper := [ao 0 41 (.mv (.t 5)),
  ao 1 4 (.mv (.t 41))]
def c103 : ACode := .seq (.reg r103_0) (.seq (.reg r103_1) (.seq c103_21 (.seq (.reg r103_22) .ret)))
def s103 : List ARes := [.tmp 4]
theorem ok103 : okF Try.prog 103 42 c103 s103 := ⟨Try.f103, Try.func103, Try.ntmps103, by kernel_rfl, by kernel_rfl, by kernel_rfl⟩
def inv103 (d : Dk) (n : Nat) (i : Nat) (σ : St) : Prop := σ.t 15 = tL (en eM (d.moves.take n)) ∧ σ.t 16 = .i n ∧ σ.t 17 = .i i ∧ ∃ v, σ.t 5 = .c (.own 5 v (runI d.names (d.moves.take i)).1.length) ∧ σ.H 5 = some (.arr v true 1 9 (en eS ((runI d.names (d.moves.take i)).1 ++ (runI d.names (d.moves.take i)).2)))
theorem UFn_1 : (type_of% (uA c103.eq_1)) ∧ (type_of% (uR r103_0.eq_1)) ∧ (type_of% (uR r103_1.eq_1)) ∧ (type_of% (uA c103_21.eq_1)) ∧ (type_of% (uR r103_2.eq_1)) ∧ (type_of% (uA c103_20.eq_1)) ∧ (type_of% (uA c103_19.eq_1)) ∧ (type_of% (uR r103_22.eq_1)) ∧ (type_of% s103.eq_1) :=
  ⟨uA c103.eq_1, uR r103_0.eq_1, uR r103_1.eq_1, uA c103_21.eq_1, uR r103_2.eq_1, uA c103_20.eq_1, uA c103_19.eq_1, uR r103_22.eq_1, s103.eq_1⟩
theorem UFn_3 : (type_of% (uA c103_18.eq_1)) ∧ (type_of% (uR r103_3.eq_1)) ∧ (type_of% (uA c103_4.eq_1)) ∧ (type_of% (uA c103_16.eq_1)) ∧ (type_of% (uA c103_15.eq_1)) ∧ (type_of% (uR r103_5.eq_1)) ∧ (type_of% (uA c103_10.eq_1)) ∧ (type_of% (uR r103_6.eq_1)) ∧ (type_of% (uA c103_9.eq_1)) ∧ (type_of% (uA c103_8.eq_1)) ∧ (type_of% (uR r103_7.eq_1)) ∧ (type_of% (uR r103_11.eq_1)) ∧ (type_of% (uR r103_12.eq_1)) ∧ (type_of% (uA c103_14.eq_1)) ∧ (type_of% (uR r103_13.eq_1)) ∧ (type_of% (uR r103_17.eq_1)) ∧ (type_of% (uA c103.eq_1)) ∧ (type_of% (uR r103_0.eq_1)) ∧ (type_of% (uR r103_1.eq_1)) ∧ (type_of% (uA c103_21.eq_1)) ∧ (type_of% (uR r103_2.eq_1)) ∧ (type_of% (uA c103_20.eq_1)) ∧ (type_of% (uA c103_19.eq_1)) ∧ (type_of% (uR r103_22.eq_1)) ∧ (type_of% s103.eq_1) :=
  ⟨uA c103_18.eq_1, uR r103_3.eq_1, uA c103_4.eq_1, uA c103_16.eq_1, uA c103_15.eq_1, uR r103_5.eq_1, uA c103_10.eq_1, uR r103_6.eq_1, uA c103_9.eq_1, uA c103_8.eq_1, uR r103_7.eq_1, uR r103_11.eq_1, uR r103_12.eq_1, uA c103_14.eq_1, uR r103_13.eq_1, uR r103_17.eq_1, uA c103.eq_1, uR r103_0.eq_1, uR r103_1.eq_1, uA c103_21.eq_1, uR r103_2.eq_1, uA c103_20.eq_1, uA c103_19.eq_1, uR r103_22.eq_1, s103.eq_1⟩
theorem namesI_ok (d : Dk) (hd : smallDk d) (n : Nat) (hn : n ≤ d.moves.length) (m : Nat) : ACallsF Try.prog 103 [tDk d, .i n] [newH 5 m 1 9 (en eS (nmI d.names (d.moves.take n) ++ (runI d.names (d.moves.take n)).2))] (.c (.own 5 0 (nmI d.names (d.moves.take n)).length)) := by
  have h1 := hd.n
  have h2 := hd.m
  have hl0 : (d.moves.take n).length = n := by rw [List.length_take]; omega
  have g1 : (0 : Int) ≤ n := by omega
  have g2 : (n : Int) ≤ d.moves.length := by omega
  refine ACallsF.intro ok103 follows fun X c0 => ?_
  simp only [RUN, core, T.c, T.s, T.b, T.i, sBin, sInt, sUn, isShift, asInt, P1.cells, loadT, ptrC, storeT, putC, fillP, Nat.reduceAdd, reduceIte, Nat.reduceEqDiff, Nat.reduceLT, Nat.reduceLeDiff, reduceCtorEq, eq_self, FIT, lendCs_map, verC_map, FinC, resPs, resP, lendPl, lendCs, lendC, sealC, partsT, finHs, tupT, verT, verP, verC, verB, verAt, Blk.ver, handsAre, forall_const, CHT, disj, Nat.reduceBEq, beq_self_eq_true, APT, srcOf, sealPs, sealCs, sealC, toVs, Option.map_some, List.mem_singleton, forall_eq, ALT, UFn_1]
  refine callA1 (m := 5) (ws := []) (ns := []) (cloneS_ok d.names (by omega) 5) rfl rfl rfl (en_flat eS eS_flat _) ⟨rfl, ?_⟩
  simp only [RUN, core, T.c, T.s, T.b, T.i, sBin, sInt, sUn, isShift, asInt, P1.cells, loadT, ptrC, storeT, putC, fillP, Nat.reduceAdd, reduceIte, Nat.reduceEqDiff, Nat.reduceLT, Nat.reduceLeDiff, reduceCtorEq, eq_self, FIT, lendCs_map, verC_map, FinC, resPs, resP, lendPl, lendCs, lendC, sealC, partsT, finHs, tupT, verT, verP, verC, verB, verAt, Blk.ver, handsAre, forall_const, CHT, disj, Nat.reduceBEq, beq_self_eq_true, APT, srcOf, sealPs, sealCs, sealC, toVs, Option.map_some, List.mem_singleton, forall_eq, ALT, UFn_1, lohi, g1, g2, Int.le_refl, Int.toNat_zero, List.drop_zero, Nat.sub_zero, en_cut, hl0]
  refine AW.upto n (inv103 d n) ?_ fun i t H c hi h => ?_
  · unfold inv103
    have e0 : runI d.names (d.moves.take 0) = (d.names, []) := rfl
    rw [e0, List.append_nil]
    exact ⟨rfl, rfl, rfl, _, rfl, rfl⟩
  obtain ⟨e15, e16, e17, v, e5, eH⟩ := h
  simp only [T.c, T.i, T.s, tL] at e15 e16 e17 e5 eH
  by_cases hlt : i < n
  · obtain ⟨x, hx⟩ : ∃ x, d.moves[i]? = some x := ⟨_, List.getElem?_eq_getElem (by omega)⟩
    have hx2 : (d.moves.take n)[i]? = some x := by rw [List.getElem?_take, if_pos hlt]; exact hx
    have ex := en_at eM hx2
    have k1 : (i : Int) < n := by omega
    have gz : (0 : Int) ≤ i := by omega
    have gw : IntKind.i64.wrap ((i : Int) + 1) = ((i + 1 : Nat) : Int) := wrap64 (x := (i : Int) + 1) ⟨by omega, by omega⟩
    have hr := runI_take d.names hx
    have hwl := nmI_len d.names d.moves i (by omega)
    unfold nmI at hwl
    generalize hp : runI d.names (d.moves.take i) = p at *
    obtain ⟨ns, rest⟩ := p
    simp only at hwl e5 eH
    have q3 : (ns.length + 1) * 16 ≤ 140737488355328 := by omega
    have q4 : ns.length + 1 ≤ 9223372036854775807 := by omega
    have ht2 := en_take2 eS ns rest
    have hle : ns.length ≤ ns.length + rest.length := by omega
    cases hg : x.gone with
    | false =>
      rw [stI_made _ hg] at hr
      simp only [RUN, core, T.c, T.s, T.b, T.i, sBin, sInt, sUn, isShift, asInt, P1.cells, loadT, ptrC, storeT, putC, fillP, Nat.reduceAdd, reduceIte, Nat.reduceEqDiff, Nat.reduceLT, Nat.reduceLeDiff, reduceCtorEq, eq_self, FIT, lendCs_map, verC_map, FinC, resPs, resP, lendPl, lendCs, lendC, sealC, partsT, finHs, tupT, verT, verP, verC, verB, verAt, Blk.ver, handsAre, forall_const, CHT, disj, Nat.reduceBEq, beq_self_eq_true, APT, srcOf, sealPs, sealCs, sealC, toVs, Option.map_some, List.mem_singleton, forall_eq, ALT, UFn_3, e15, e16, e17, e5, eH, en_len, k1, gz, ex, eM, hg, gw, q3, q4, ht2, hle]
      unfold inv103
      rw [hr, List.append_nil, en_snoc, List.length_append]
      exact ⟨hlt, e15, e16, rfl, _, rfl, rfl⟩
    | true =>
      simp only [RUN, core, T.c, T.s, T.b, T.i, sBin, sInt, sUn, isShift, asInt, P1.cells, loadT, ptrC, storeT, putC, fillP, Nat.reduceAdd, reduceIte, Nat.reduceEqDiff, Nat.reduceLT, Nat.reduceLeDiff, reduceCtorEq, eq_self, FIT, lendCs_map, verC_map, FinC, resPs, resP, lendPl, lendCs, lendC, sealC, partsT, finHs, tupT, verT, verP, verC, verB, verAt, Blk.ver, handsAre, forall_const, CHT, disj, Nat.reduceBEq, beq_self_eq_true, APT, srcOf, sealPs, sealCs, sealC, toVs, Option.map_some, List.mem_singleton, forall_eq, ALT, UFn_3, e15, e16, e17, e5, eH, en_len, k1, gz, ex, eM, hg]
      refine callL (ws := [(5, .arr v false 1 9 (en eS (ns ++ rest)))]) (ns := [5]) (index_ok ns x.name (by omega)) rfl ?_ rfl rfl ⟨?_, ?_⟩
      · simp only [RUN, core, T.c, T.s, T.b, T.i, sBin, sInt, sUn, isShift, asInt, P1.cells, loadT, ptrC, storeT, putC, fillP, Nat.reduceAdd, reduceIte, Nat.reduceEqDiff, Nat.reduceLT, Nat.reduceLeDiff, reduceCtorEq, eq_self, FIT, lendCs_map, verC_map, FinC, resPs, resP, lendPl, lendCs, lendC, sealC, partsT, finHs, tupT, verT, verP, verC, verB, verAt, Blk.ver, handsAre, forall_const, CHT, disj, Nat.reduceBEq, beq_self_eq_true, APT, srcOf, sealPs, sealCs, sealC, toVs, Option.map_some, List.mem_singleton, forall_eq, ALT, UFn_3, lendTs, lendT, e5, eH, ht2, hle]
      · simp only [RUN, core, T.c, T.s, T.b, T.i, sBin, sInt, sUn, isShift, asInt, P1.cells, loadT, ptrC, storeT, putC, fillP, Nat.reduceAdd, reduceIte, Nat.reduceEqDiff, Nat.reduceLT, Nat.reduceLeDiff, reduceCtorEq, eq_self, FIT, lendCs_map, verC_map, FinC, resPs, resP, lendPl, lendCs, lendC, sealC, partsT, finHs, tupT, verT, verP, verC, verB, verAt, Blk.ver, handsAre, forall_const, CHT, disj, Nat.reduceBEq, beq_self_eq_true, APT, srcOf, sealPs, sealCs, sealC, toVs, Option.map_some, List.mem_singleton, forall_eq, ALT, UFn_3, scalarT, scalarP, scalarC]
      rcases ix_case ns x.name with ⟨k, a1, a2, a3⟩ | ⟨a1, a2⟩
      · have hkl := (List.getElem?_eq_some_iff.1 a2).1
        have gk : (0 : Int) ≤ k := by omega
        have gw2 : IntKind.i64.wrap ((k : Int) + 1) = ((k + 1 : Nat) : Int) := wrap64 (x := (k : Int) + 1) ⟨by omega, by omega⟩
        rw [stI_at _ hg a1] at hr
        simp only [RUN, core, T.c, T.s, T.b, T.i, sBin, sInt, sUn, isShift, asInt, P1.cells, loadT, ptrC, storeT, putC, fillP, Nat.reduceAdd, reduceIte, Nat.reduceEqDiff, Nat.reduceLT, Nat.reduceLeDiff, reduceCtorEq, eq_self, FIT, lendCs_map, verC_map, FinC, resPs, resP, lendPl, lendCs, lendC, sealC, partsT, finHs, tupT, verT, verP, verC, verB, verAt, Blk.ver, handsAre, forall_const, CHT, disj, Nat.reduceBEq, beq_self_eq_true, APT, srcOf, sealPs, sealCs, sealC, toVs, Option.map_some, List.mem_singleton, forall_eq, ALT, UFn_3, scalarT, scalarP, scalarC, a1, ge_iff_le, gk, gw2, e5]
        refine callCut (m := 5) (delete_ok ns rest k hkl 5 5 v) rfl rfl eH rfl rfl ⟨?_, ?_⟩
        · simp only [RUN, core, T.c, T.s, T.b, T.i, sBin, sInt, sUn, isShift, asInt, P1.cells, loadT, ptrC, storeT, putC, fillP, Nat.reduceAdd, reduceIte, Nat.reduceEqDiff, Nat.reduceLT, Nat.reduceLeDiff, reduceCtorEq, eq_self, FIT, lendCs_map, verC_map, FinC, resPs, resP, lendPl, lendCs, lendC, sealC, partsT, finHs, tupT, verT, verP, verC, verB, verAt, Blk.ver, handsAre, forall_const, CHT, disj, Nat.reduceBEq, beq_self_eq_true, APT, srcOf, sealPs, sealCs, sealC, toVs, Option.map_some, List.mem_singleton, forall_eq, ALT, UFn_3]
        simp only [RUN, core, T.c, T.s, T.b, T.i, sBin, sInt, sUn, isShift, asInt, P1.cells, loadT, ptrC, storeT, putC, fillP, Nat.reduceAdd, reduceIte, Nat.reduceEqDiff, Nat.reduceLT, Nat.reduceLeDiff, reduceCtorEq, eq_self, FIT, lendCs_map, verC_map, FinC, resPs, resP, lendPl, lendCs, lendC, sealC, partsT, finHs, tupT, verT, verP, verC, verB, verAt, Blk.ver, handsAre, forall_const, CHT, disj, Nat.reduceBEq, beq_self_eq_true, APT, srcOf, sealPs, sealCs, sealC, toVs, Option.map_some, List.mem_singleton, forall_eq, ALT, UFn_3, e17, gw]
        unfold inv103
        rw [hr]
        exact ⟨hlt, e15, e16, rfl, _, rfl, rfl⟩
      · have gk : ¬ (0 : Int) ≤ -1 := by omega
        rw [stI_no _ hg a1] at hr
        simp only [RUN, core, T.c, T.s, T.b, T.i, sBin, sInt, sUn, isShift, asInt, P1.cells, loadT, ptrC, storeT, putC, fillP, Nat.reduceAdd, reduceIte, Nat.reduceEqDiff, Nat.reduceLT, Nat.reduceLeDiff, reduceCtorEq, eq_self, FIT, lendCs_map, verC_map, FinC, resPs, resP, lendPl, lendCs, lendC, sealC, partsT, finHs, tupT, verT, verP, verC, verB, verAt, Blk.ver, handsAre, forall_const, CHT, disj, Nat.reduceBEq, beq_self_eq_true, APT, srcOf, sealPs, sealCs, sealC, toVs, Option.map_some, List.mem_singleton, forall_eq, ALT, UFn_3, scalarT, scalarP, scalarC, a1, ge_iff_le, gk, e17, gw]
        unfold inv103
        rw [hr]
        exact ⟨hlt, e15, e16, rfl, v, e5, eH⟩
  · have k1 : ¬ (i : Int) < n := by omega
    have hi2 : i = n := by omega
    subst hi2
    simp only [RUN, core, T.c, T.s, T.b, T.i, sBin, sInt, sUn, isShift, asInt, P1.cells, loadT, ptrC, storeT, putC, fillP, Nat.reduceAdd, reduceIte, Nat.reduceEqDiff, Nat.reduceLT, Nat.reduceLeDiff, reduceCtorEq, eq_self, FIT, lendCs_map, verC_map, FinC, resPs, resP, lendPl, lendCs, lendC, sealC, partsT, finHs, tupT, verT, verP, verC, verB, verAt, Blk.ver, handsAre, forall_const, CHT, disj, Nat.reduceBEq, beq_self_eq_true, APT, srcOf, sealPs, sealCs, sealC, toVs, Option.map_some, List.mem_singleton, forall_eq, ALT, UFn_3, UFn_1, e15, e16, e17, e5, eH, k1, imp_self]
/- (loop.example/teagle/impl.Disk).there -/
def r111_0 : List AOper := [ao 0 1 (.box 34 (.t 0)),
  ao 1 2 (.mv (.k (.c .nil0)))]
def r111_1 : List AOper := [ao 0 3 (.ld 3 true (.t 1)),
  ao 1 4 (.fa 2 (.t 1)),
  ao 2 5 (.ld 1 false (.t 4)),
  ao 3 6 (.len (.t 5)),
  ao 4 7 (.call (.k (.c (.fn 103 []))) [(.t 3), (.t 6)]),
  ao 5 2 (.mv (.t 7))]
def c111 : ACode := .seq (.reg r111_0) (.seq (.reg r111_1) .ret)
def s111 : List ARes := [.tmp 2]
theorem ok111 : okF Try.prog 111 8 c111 s111 := ⟨Try.f111, Try.func111, Try.ntmps111, by kernel_rfl, by kernel_rfl, by kernel_rfl⟩
theorem UFn_2 : (type_of% (uA c111.eq_1)) ∧ (type_of% (uR r111_0.eq_1)) ∧ (type_of% (uR r111_1.eq_1)) ∧ (type_of% s111.eq_1) :=
  ⟨uA c111.eq_1, uR r111_0.eq_1, uR r111_1.eq_1, s111.eq_1⟩
theorem there_ok (d : Dk) (hd : smallDk d) (m : Nat) : ACallsF Try.prog 111 [tDk d] [newH 1009 m 1 9 (en eS (nmI d.names d.moves ++ (runI d.names d.moves).2))] (.c (.own 1009 0 (nmI d.names d.moves).length)) := by
  have hA := namesI_ok d hd d.moves.length (Nat.le_refl _) 1009
  rw [List.take_length] at hA
  refine ACallsF.intro ok111 follows fun X c0 => ?_
  simp only [RUN, core, T.c, T.s, T.b, T.i, sBin, sInt, sUn, isShift, asInt, P1.cells, loadT, ptrC, storeT, putC, fillP, Nat.reduceAdd, reduceIte, Nat.reduceEqDiff, Nat.reduceLT, Nat.reduceLeDiff, reduceCtorEq, eq_self, FIT, lendCs_map, verC_map, FinC, resPs, resP, lendPl, lendCs, lendC, sealC, partsT, finHs, tupT, verT, verP, verC, verB, verAt, Blk.ver, handsAre, forall_const, CHT, disj, Nat.reduceBEq, beq_self_eq_true, APT, srcOf, sealPs, sealCs, sealC, toVs, Option.map_some, List.mem_singleton, forall_eq, ALT, UFn_2]
  refine callA1 (m := 1009) (ws := []) (ns := []) hA rfl rfl rfl (en_flat eS eS_flat _) ⟨rfl, ?_⟩
  simp only [RUN, core, T.c, T.s, T.b, T.i, sBin, sInt, sUn, isShift, asInt, P1.cells, loadT, ptrC, storeT, putC, fillP, Nat.reduceAdd, reduceIte, Nat.reduceEqDiff, Nat.reduceLT, Nat.reduceLeDiff, reduceCtorEq, eq_self, FIT, lendCs_map, verC_map, FinC, resPs, resP, lendPl, lendCs, lendC, sealC, partsT, finHs, tupT, verT, verP, verC, verB, verAt, Blk.ver, handsAre, forall_const, CHT, disj, Nat.reduceBEq, beq_self_eq_true, APT, srcOf, sealPs, sealCs, sealC, toVs, Option.map_some, List.mem_singleton, forall_eq, ALT, UFn_2, imp_self]
end Go.V
set_option linter.unusedSimpArgs false
namespace Go.V
open Go.Proofs
/-- As callL, where an argument may be a function. -/
theorem callLf {P : Program} {t : Nat → T} {H : HMap} {c : Nat} {f : Opd} {args : List Opd} {fid : FuncId} {argsC : List T} {ws : List (Nat × Blk)} {ns : List Nat} {r : T} {k : Nat} {d : Option Nat} {un : List Nat} {l : List AOper} {prev : List (Nat × List Nat × List Nat)} {K : St → Prop}
    (hC : ACallsF P fid argsC [] r) (hf : ev t f = .pt (.one (.fn fid []))) (hl : lendTs H argsC (args.map (ev t)) = some (argsC, ws, ns)) (ha : renITs [] argsC = some argsC) (hr : closedT r = true)
    (hk : chk prev un ⟨r, (if scalarT r then [] else ws), ns, (if scalarT r then [] else ns)⟩ = true ∧ DRun P l ((k, ns, if scalarT r then [] else ns) :: prev) K ⟨updD t d r, updH H (if scalarT r then [] else ws), c⟩) :
    step P k d un (.call f args) l prev K t H c := by
  refine callW (caps := []) [] hC hf (by simpa using hl) ha trivial (by simp) (by simp) (closed_T [] r hr _) rfl ?_
  simpa [quiet, closed_flat r hr] using hk
theorem er_wo {ns : List ByteArray} (h : ns.Nodup) (nm : ByteArray) : er ns nm = wo nm ns := by
  have self : ∀ l : List ByteArray, nm ∉ l → wo nm l = l := fun l hl => List.filter_eq_self.2 fun x hx => by
    have : x ≠ nm := fun e => hl (e ▸ hx)
    simpa using this
  rcases ix_case ns nm with ⟨i, h1, h2, h3⟩ | ⟨h1, h2⟩
  · rw [er_at h1]
    have hil := (List.getElem?_eq_some_iff.1 h2).1
    have hie := (List.getElem?_eq_some_iff.1 h2).2
    have hsp : ns = ns.take i ++ nm :: ns.drop (i + 1) := by
      have := List.take_append_drop i ns
      rw [List.drop_eq_getElem_cons hil, hie] at this
      exact this.symm
    have hn2 := h
    rw [hsp, List.nodup_append] at hn2
    have hb : nm ∉ ns.take i := fun hm => hn2.2.2 nm hm nm (by simp) rfl
    have hc : nm ∉ ns.drop (i + 1) := (List.nodup_cons.1 hn2.2.1).1
    have e : wo nm ns = wo nm (ns.take i) ++ wo nm (nm :: ns.drop (i + 1)) := by
      conv => lhs; rw [hsp]
      exact List.filter_append _ _
    have e2 : wo nm (nm :: ns.drop (i + 1)) = wo nm (ns.drop (i + 1)) := by simp [wo]
    rw [e, e2, self _ hb, self _ hc, del]
  · rw [er_no h1, self _ h2]
theorem nmI_aft {ns : List ByteArray} {ms : List DM} (h : (ns ++ mades ms).Nodup) : ∀ i, i ≤ ms.length → nmI ns (ms.take i) = aft ns (ms.take i) ∧ (aft ns (ms.take i) ++ mades (ms.drop i)).Nodup
  | 0, _ => ⟨rfl, h⟩
  | i + 1, hi => by
    obtain ⟨m, hm⟩ : ∃ m, ms[i]? = some m := ⟨_, List.getElem?_eq_getElem hi⟩
    obtain ⟨h1, h2⟩ := nmI_aft h i (by omega)
    have hd : ms.drop i = m :: ms.drop (i + 1) := by rw [List.drop_eq_getElem_cons hi, (List.getElem?_eq_some_iff.1 hm).2]
    rw [nmI_take ns hm, aft_take ns hm, h1]
    rw [hd] at h2
    cases hg : m.gone with
    | true =>
      have e : mades (m :: ms.drop (i + 1)) = mades (ms.drop (i + 1)) := by simp [mades, hg]
      rw [e] at h2
      rw [if_pos rfl, if_pos rfl]
      refine ⟨er_wo (List.nodup_append.1 h2).1 _, ?_⟩
      exact h2.sublist (List.Sublist.append List.filter_sublist (List.Sublist.refl _))
    | false =>
      have e : mades (m :: ms.drop (i + 1)) = m.name :: mades (ms.drop (i + 1)) := by simp [mades, hg]
      rw [e] at h2
      rw [if_neg (by simp), if_neg (by simp)]
      exact ⟨rfl, by simpa using h2⟩
theorem fnd_le {fs : List DF} {i : Nat} {f : DF} (h : fs[i]? = some f) : 0 ≤ fnd fs f.name ∧ fnd fs f.name ≤ i := by
  unfold fnd
  split
  · rename_i j hj
    rw [List.findIdx?_eq_some_iff_getElem] at hj
    obtain ⟨a1, a2, a3⟩ := hj
    refine ⟨by omega, ?_⟩
    rcases Nat.lt_or_ge i j with hlt | hge
    · have hie := (List.getElem?_eq_some_iff.1 h).2
      have := a3 i hlt
      rw [hie] at this
      simp at this
    · omega
  · rename_i hj
    rw [List.findIdx?_eq_none_iff] at hj
    have := hj f (List.mem_of_getElem? h)
    simp at this
theorem made_nodup {d : Dk} (hl : (made d).length = d.files.length) (h : ∀ (i : Nat) (f : DF), d.files[i]? = some f → (made d)[i]? = some f.name ∧ fnd d.files f.name = i) : (made d).Nodup := by
  rw [List.Nodup, List.pairwise_iff_getElem]
  intro i j hi hj hij e
  obtain ⟨f, hf⟩ : ∃ f, d.files[i]? = some f := ⟨_, List.getElem?_eq_getElem (by omega)⟩
  obtain ⟨g, hg⟩ : ∃ g, d.files[j]? = some g := ⟨_, List.getElem?_eq_getElem (by omega)⟩
  have a := h i f hf
  have b := h j g hg
  have a1 := a.1
  have b1 := b.1
  rw [List.getElem?_eq_getElem hi] at a1
  rw [List.getElem?_eq_getElem hj] at b1
  have e' : f.name = g.name := by rw [← Option.some.inj a1, ← Option.some.inj b1]; exact e
  have := a.2
  rw [e', b.2] at this
  omega
theorem DOk.nmI {d : Dk} (h : DOk d) (i : Nat) (hi : i ≤ d.moves.length) : nmI d.names (d.moves.take i) = aft d.names (d.moves.take i) :=
  (nmI_aft (made_nodup h.l fun i f hf => ⟨(h.files i f hf).made, (h.files i f hf).one⟩) i hi).1
/- loop.example/teagle/impl.DiskOk -/
def r52_0 : List AOper := [ao 0 1 (.box 34 (.t 0)),
  ao 1 2 (.mv (.k (.b false)))]
def r52_1 : List AOper := [ao 0 8 (.fa 0 (.t 1)),
  ao 1 9 (.ld 1 false (.t 8)),
  ao 2 10 (.len (.t 9)),
  ao 3 11 (.bin .gtr (.t 10) (.k (.i 64))),
  ao 4 12 (.mv (.t 11)),
  ag 5 13 12 false [] (.fa 2 (.t 1)),
  ag 6 14 12 false [] (.ld 1 false (.t 13)),
  ag 7 15 12 false [] (.len (.t 14)),
  ag 8 16 12 false [] (.bin .gtr (.t 15) (.k (.i 128))),
  ao 9 17 (.pick (.t 12) (.k (.b true)) (.t 16))]
def r52_2 : List AOper := [ao 0 2 (.mv (.k (.b false)))]
def c52_3 : ACode := .seq (.reg r52_2) .ret
def c52_4 : ACode := .cond (.t 17) c52_3 .skip
def c52_5 : ACode := .seq (.reg r52_1) c52_4
def r52_6 : List AOper := [ao 0 18 (.fa 1 (.t 1)),
  ao 1 19 (.ld 1 false (.t 18)),
  ao 2 20 (.call (.k (.c (.fn 101 []))) [(.t 19)]),
  ao 3 3 (.mv (.t 20))]
def r52_7 : List AOper := [ao 0 21 (.fa 2 (.t 1)),
  ao 1 22 (.ld 1 false (.t 21)),
  ao 2 23 (.len (.t 22)),
  ao 3 24 (.mv (.k (.i 0)))]
def r52_8 : List AOper := [ao 0 25 (.bin .lss (.t 24) (.t 23))]
def c52_9 : ACode := .cond (.t 25) .skip (.exit 0)
def r52_10 : List AOper := [ao 0 26 (.mv (.t 24)),
  ao 1 27 (.ia 2 (.t 22) (.t 24)),
  ao 2 28 (.ld 2 true (.t 27)),
  ao 3 5 (.alloc 90 [(.v (.s (.bool false))), (.v (.s (.string ⟨#[]⟩)))]),
  ao 4 4 (.mv (.t 26)),
  an 5 (.st 2 (.t 5) (.t 28))]
def r52_11 : List AOper := [ao 0 29 (.fa 0 (.t 5)),
  ao 1 30 (.ld 1 false (.t 29)),
  ao 2 31 (.un .not (.t 30))]
def r52_12 : List AOper := [ao 0 32 (.mv (.t 3)),
  ao 1 33 (.fa 1 (.t 5)),
  ao 2 34 (.ld 1 false (.t 33)),
  ao 3 35 (.bsl 1 9 [(.t 34)]),
  ao 4 36 (.app 1 9 16 (.t 32) (.t 35)),
  ao 5 3 (.mv (.t 36))]
def r52_13 : List AOper := [ao 0 37 (.ld 3 true (.t 1)),
  au 1 38 [0] (.mv (.t 4)),
  ao 2 39 (.call (.k (.c (.fn 103 []))) [(.t 37), (.t 38)]),
  au 3 40 (ru 3) (.fa 1 (.t 5)),
  au 4 41 (ru 3) (.ld 1 false (.t 40)),
  ao 5 42 (.call (.k (.c (.fn 102 []))) [(.t 39), (.t 41)]),
  ao 6 43 (.un .not (.t 42))]
def r52_14 : List AOper := [ao 0 2 (.mv (.k (.b false)))]
def c52_15 : ACode := .seq (.reg r52_14) .ret
def c52_16 : ACode := .cond (.t 43) c52_15 .skip
def c52_17 : ACode := .seq (.reg r52_13) c52_16
def c52_18 : ACode := .cond (.t 31) (.reg r52_12) c52_17
def c52_19 : ACode := .seq (.reg r52_10) (.seq (.reg r52_11) c52_18)
def c52_20 : ACode := .block 1 c52_19
def r52_21 : List AOper := [ao 0 44 (.bin .add (.t 24) (.k (.i 1))),
  ao 1 24 (.mv (.t 44))]
def c52_22 : ACode := .seq (.reg r52_8) (.seq c52_9 (.seq c52_20 (.reg r52_21)))
def c52_23 : ACode := .loop c52_22
def c52_24 : ACode := .block 0 c52_23
def c52_25 : ACode := .seq (.reg r52_7) c52_24
def r52_26 : List AOper := [ao 0 45 (.fa 0 (.t 1)),
  ao 1 46 (.ld 1 false (.t 45)),
  ao 2 47 (.len (.t 46)),
  ao 3 48 (.mv (.k (.i 0)))]
def r52_27 : List AOper := [ao 0 49 (.bin .lss (.t 48) (.t 47))]
def c52_28 : ACode := .cond (.t 49) .skip (.exit 2)
def r52_29 : List AOper := [ao 0 50 (.mv (.t 48)),
  ao 1 51 (.ia 3 (.t 46) (.t 48)),
  ao 2 52 (.ld 3 true (.t 51)),
  ao 3 7 (.alloc 88 [(.v (.s (.string ⟨#[]⟩))), (.v (.s (.string ⟨#[]⟩))), (.v (.s (.int .i64 0)))]),
  ao 4 6 (.mv (.t 50)),
  an 5 (.st 3 (.t 7) (.t 52))]
def r52_30 : List AOper := [ao 0 53 (.fa 0 (.t 7)),
  ao 1 54 (.ld 1 false (.t 53)),
  ao 2 55 (.call (.k (.c (.fn 104 []))) [(.t 54)]),
  ao 3 56 (.un .not (.t 55)),
  ao 4 57 (.mv (.t 56)),
  ag 5 58 57 false [] (.ld 3 true (.t 1)),
  ag 6 59 57 false [] (.fa 0 (.t 7)),
  ag 7 60 57 false [] (.ld 1 false (.t 59)),
  ag 8 61 57 false [] (.call (.k (.c (.fn 105 []))) [(.t 58), (.t 60)]),
  ag 9 62 57 false [] (.mv (.t 6)),
  ag 10 63 57 false [] (.bin .lss (.t 61) (.t 62)),
  ao 11 64 (.pick (.t 57) (.k (.b true)) (.t 63)),
  ao 12 65 (.mv (.t 64)),
  ag 13 66 65 false [] (.fa 1 (.t 7)),
  ag 14 67 65 false [] (.ld 1 false (.t 66)),
  ag 15 68 65 false [] (.lenS (.t 67)),
  ag 16 69 65 false [] (.bin .gtr (.t 68) (.k (.i 20000))),
  ao 17 70 (.pick (.t 65) (.k (.b true)) (.t 69)),
  ao 18 71 (.mv (.t 70)),
  ag 19 72 71 false [] (.fa 2 (.t 7)),
  ag 20 73 71 false [] (.ld 1 false (.t 72)),
  ag 21 74 71 false [] (.fa 1 (.t 7)),
  ag 22 75 71 false [] (.ld 1 false (.t 74)),
  ag 23 76 71 false [] (.lenS (.t 75)),
  ag 24 77 71 false [] (.call (.k (.c (.fn 106 []))) [(.t 73), (.k (.i 0)), (.t 76)]),
  ag 25 78 71 false [] (.un .not (.t 77)),
  ao 26 79 (.pick (.t 71) (.k (.b true)) (.t 78))]
def r52_31 : List AOper := [ao 0 2 (.mv (.k (.b false)))]
def c52_32 : ACode := .seq (.reg r52_31) .ret
def c52_33 : ACode := .cond (.t 79) c52_32 .skip
def c52_34 : ACode := .seq (.reg r52_29) (.seq (.reg r52_30) c52_33)
def c52_35 : ACode := .block 3 c52_34
def r52_36 : List AOper := [ao 0 80 (.bin .add (.t 48) (.k (.i 1))),
  ao 1 48 (.mv (.t 80))]
def c52_37 : ACode := .seq (.reg r52_27) (.seq c52_28 (.seq c52_35 (.reg r52_36)))
def c52_38 : ACode := .loop c52_37
def c52_39 : ACode := .block 2 c52_38
def c52_40 : ACode := .seq (.reg r52_26) c52_39
def r52_41 : List AOper := [ao 0 81 (.fa 0 (.t 1)),
  ao 1 82 (.ld 1 false (.t 81)),
  ao 2 83 (.mv (.t 3)),
  ao 3 84 (.call (.k (.c (.fn 107 []))) [(.t 82), (.t 83), (.k (.c (.fn 108 [])))]),
  ao 4 2 (.mv (.t 84))]
def c52 : ACode := .seq (.reg r52_0) (.seq c52_5 (.seq (.reg r52_6) (.seq c52_25 (.seq c52_40 (.seq (.reg r52_41) .ret)))))
def s52 : List ARes := [.tmp 2]
theorem ok52 : okF Try.prog 52 85 c52 s52 := ⟨Try.f52, Try.func52, Try.ntmps52, by kernel_rfl, by kernel_rfl, by kernel_rfl⟩
def inv52 (d : Dk) (u : Nat) (i : Nat) (σ : St) : Prop := (∀ (j : Nat) (m : DM), j < i → d.moves[j]? = some m → m.gone = true → m.name ∈ Go.V.nmI d.names (d.moves.take j)) ∧ (σ.t 1 = .c (.ptr 1 u 0) ∧ σ.H 1 = some (.var u 34 [.v (.sl (en eF d.files)), .v (.sl (en eS d.names)), .v (.sl (en eM d.moves))])) ∧ (∃ v, σ.t 3 = .c (.own 1005 v (d.names ++ mades (d.moves.take i)).length) ∧ σ.H 1005 = some (.arr v true 1 9 (en eS (d.names ++ mades (d.moves.take i))))) ∧
  σ.t 22 = tL (en eM d.moves) ∧ σ.t 23 = .i d.moves.length ∧ σ.t 24 = .i i
def inv52b (d : Dk) (u v : Nat) (i : Nat) (σ : St) : Prop := (∀ (j : Nat) (f : DF), j < i → d.files[j]? = some f → nameOk f.name = true ∧ f.data.size ≤ 20000 ∧ 0 ≤ f.kept ∧ f.kept ≤ f.data.size ∧ fnd d.files f.name = j) ∧ (σ.t 1 = .c (.ptr 1 u 0) ∧ σ.H 1 = some (.var u 34 [.v (.sl (en eF d.files)), .v (.sl (en eS d.names)), .v (.sl (en eM d.moves))])) ∧ (σ.t 3 = .c (.own 1005 v (made d).length) ∧ σ.H 1005 = some (.arr v true 1 9 (en eS (made d)))) ∧
  σ.t 46 = tL (en eF d.files) ∧ σ.t 47 = .i d.files.length ∧ σ.t 48 = .i i
theorem UFo_1 : (type_of% (uA c52.eq_1)) ∧ (type_of% (uR r52_0.eq_1)) ∧ (type_of% (uA c52_5.eq_1)) ∧ (type_of% (uR r52_1.eq_1)) ∧ (type_of% (uA c52_4.eq_1)) ∧ (type_of% (uA c52_3.eq_1)) ∧ (type_of% (uR r52_2.eq_1)) ∧ (type_of% (uR r52_6.eq_1)) ∧ (type_of% (uA c52_25.eq_1)) ∧ (type_of% (uR r52_7.eq_1)) ∧ (type_of% (uA c52_24.eq_1)) ∧ (type_of% (uA c52_23.eq_1)) ∧ (type_of% (uA c52_40.eq_1)) ∧ (type_of% (uR r52_26.eq_1)) ∧ (type_of% (uA c52_39.eq_1)) ∧ (type_of% (uA c52_38.eq_1)) ∧ (type_of% (uR r52_41.eq_1)) ∧ (type_of% s52.eq_1) :=
  ⟨uA c52.eq_1, uR r52_0.eq_1, uA c52_5.eq_1, uR r52_1.eq_1, uA c52_4.eq_1, uA c52_3.eq_1, uR r52_2.eq_1, uR r52_6.eq_1, uA c52_25.eq_1, uR r52_7.eq_1, uA c52_24.eq_1, uA c52_23.eq_1, uA c52_40.eq_1, uR r52_26.eq_1, uA c52_39.eq_1, uA c52_38.eq_1, uR r52_41.eq_1, s52.eq_1⟩
theorem UFo_2 : (type_of% (uA c52_22.eq_1)) ∧ (type_of% (uR r52_8.eq_1)) ∧ (type_of% (uA c52_9.eq_1)) ∧ (type_of% (uA c52_20.eq_1)) ∧ (type_of% (uA c52_19.eq_1)) ∧ (type_of% (uR r52_10.eq_1)) ∧ (type_of% (uR r52_11.eq_1)) ∧ (type_of% (uA c52_18.eq_1)) ∧ (type_of% (uR r52_12.eq_1)) ∧ (type_of% (uA c52_17.eq_1)) ∧ (type_of% (uR r52_13.eq_1)) ∧ (type_of% (uA c52_16.eq_1)) ∧ (type_of% (uA c52_15.eq_1)) ∧ (type_of% (uR r52_14.eq_1)) ∧ (type_of% (uR r52_21.eq_1)) ∧ (type_of% (uA c52.eq_1)) ∧ (type_of% (uR r52_0.eq_1)) ∧ (type_of% (uA c52_5.eq_1)) ∧ (type_of% (uR r52_1.eq_1)) ∧ (type_of% (uA c52_4.eq_1)) ∧ (type_of% (uA c52_3.eq_1)) ∧ (type_of% (uR r52_2.eq_1)) ∧ (type_of% (uR r52_6.eq_1)) ∧ (type_of% (uA c52_25.eq_1)) ∧ (type_of% (uR r52_7.eq_1)) ∧ (type_of% (uA c52_24.eq_1)) ∧ (type_of% (uA c52_23.eq_1)) ∧ (type_of% (uA c52_40.eq_1)) ∧ (type_of% (uR r52_26.eq_1)) ∧ (type_of% (uA c52_39.eq_1)) ∧ (type_of% (uA c52_38.eq_1)) ∧ (type_of% (uR r52_41.eq_1)) ∧ (type_of% s52.eq_1) :=
  ⟨uA c52_22.eq_1, uR r52_8.eq_1, uA c52_9.eq_1, uA c52_20.eq_1, uA c52_19.eq_1, uR r52_10.eq_1, uR r52_11.eq_1, uA c52_18.eq_1, uR r52_12.eq_1, uA c52_17.eq_1, uR r52_13.eq_1, uA c52_16.eq_1, uA c52_15.eq_1, uR r52_14.eq_1, uR r52_21.eq_1, uA c52.eq_1, uR r52_0.eq_1, uA c52_5.eq_1, uR r52_1.eq_1, uA c52_4.eq_1, uA c52_3.eq_1, uR r52_2.eq_1, uR r52_6.eq_1, uA c52_25.eq_1, uR r52_7.eq_1, uA c52_24.eq_1, uA c52_23.eq_1, uA c52_40.eq_1, uR r52_26.eq_1, uA c52_39.eq_1, uA c52_38.eq_1, uR r52_41.eq_1, s52.eq_1⟩
theorem UFo_3 : (type_of% (uA c52_37.eq_1)) ∧ (type_of% (uR r52_27.eq_1)) ∧ (type_of% (uA c52_28.eq_1)) ∧ (type_of% (uA c52_35.eq_1)) ∧ (type_of% (uA c52_34.eq_1)) ∧ (type_of% (uR r52_29.eq_1)) ∧ (type_of% (uR r52_30.eq_1)) ∧ (type_of% (uA c52_33.eq_1)) ∧ (type_of% (uA c52_32.eq_1)) ∧ (type_of% (uR r52_31.eq_1)) ∧ (type_of% (uR r52_36.eq_1)) ∧ (type_of% (uA c52.eq_1)) ∧ (type_of% (uR r52_0.eq_1)) ∧ (type_of% (uA c52_5.eq_1)) ∧ (type_of% (uR r52_1.eq_1)) ∧ (type_of% (uA c52_4.eq_1)) ∧ (type_of% (uA c52_3.eq_1)) ∧ (type_of% (uR r52_2.eq_1)) ∧ (type_of% (uR r52_6.eq_1)) ∧ (type_of% (uA c52_25.eq_1)) ∧ (type_of% (uR r52_7.eq_1)) ∧ (type_of% (uA c52_24.eq_1)) ∧ (type_of% (uA c52_23.eq_1)) ∧ (type_of% (uA c52_40.eq_1)) ∧ (type_of% (uR r52_26.eq_1)) ∧ (type_of% (uA c52_39.eq_1)) ∧ (type_of% (uA c52_38.eq_1)) ∧ (type_of% (uR r52_41.eq_1)) ∧ (type_of% s52.eq_1) :=
  ⟨uA c52_37.eq_1, uR r52_27.eq_1, uA c52_28.eq_1, uA c52_35.eq_1, uA c52_34.eq_1, uR r52_29.eq_1, uR r52_30.eq_1, uA c52_33.eq_1, uA c52_32.eq_1, uR r52_31.eq_1, uR r52_36.eq_1, uA c52.eq_1, uR r52_0.eq_1, uA c52_5.eq_1, uR r52_1.eq_1, uA c52_4.eq_1, uA c52_3.eq_1, uR r52_2.eq_1, uR r52_6.eq_1, uA c52_25.eq_1, uR r52_7.eq_1, uA c52_24.eq_1, uA c52_23.eq_1, uA c52_40.eq_1, uR r52_26.eq_1, uA c52_39.eq_1, uA c52_38.eq_1, uR r52_41.eq_1, s52.eq_1⟩
set_option maxHeartbeats 1000000 in
theorem okI_ok (d : Dk) (hd : fineDk d) : ∃ b : Bool, (b = true ↔ DOk d) ∧ ACallsF Try.prog 52 [tDk d] [] (.b b) := by
  obtain ⟨b, hb⟩ : ∃ b : Bool, b = true ↔ DOk d := by
    by_cases h : DOk d
    · exact ⟨true, fun _ => h, fun _ => rfl⟩
    · exact ⟨false, fun e => (by cases e), fun e => absurd e h⟩
  refine ⟨b, hb, ?_⟩
  have no : ¬ DOk d → b = false := fun h => by cases hq : b with | false => rfl | true => exact absurd (hb.1 hq) h
  have s1 := hd.s.f
  have s2 := hd.s.n
  have s3 := hd.s.m
  refine ACallsF.intro ok52 follows fun X c0 => ?_
  by_cases hf : (d.files.length : Int) > 64
  · have hbf := no fun h => by have := h.f; omega
    simp only [RUN, core, T.c, T.s, T.b, T.i, sBin, sInt, sUn, isShift, asInt, P1.cells, loadT, ptrC, storeT, putC, fillP, Nat.reduceAdd, reduceIte, Nat.reduceEqDiff, Nat.reduceLT, Nat.reduceLeDiff, reduceCtorEq, eq_self, FIT, lendCs_map, verC_map, FinC, resPs, resP, lendPl, lendCs, lendC, sealC, partsT, finHs, tupT, verT, verP, verC, verB, verAt, Blk.ver, handsAre, forall_const, CHT, disj, Nat.reduceBEq, beq_self_eq_true, APT, srcOf, sealPs, sealCs, sealC, toVs, Option.map_some, List.mem_singleton, forall_eq, ALT, UFo_1, hf, hbf]
  by_cases hm : (d.moves.length : Int) > 128
  · have hbf := no fun h => by have := h.m; omega
    simp only [RUN, core, T.c, T.s, T.b, T.i, sBin, sInt, sUn, isShift, asInt, P1.cells, loadT, ptrC, storeT, putC, fillP, Nat.reduceAdd, reduceIte, Nat.reduceEqDiff, Nat.reduceLT, Nat.reduceLeDiff, reduceCtorEq, eq_self, FIT, lendCs_map, verC_map, FinC, resPs, resP, lendPl, lendCs, lendC, sealC, partsT, finHs, tupT, verT, verP, verC, verB, verAt, Blk.ver, handsAre, forall_const, CHT, disj, Nat.reduceBEq, beq_self_eq_true, APT, srcOf, sealPs, sealCs, sealC, toVs, Option.map_some, List.mem_singleton, forall_eq, ALT, UFo_1, hf, hm, hbf]
  simp only [RUN, core, T.c, T.s, T.b, T.i, sBin, sInt, sUn, isShift, asInt, P1.cells, loadT, ptrC, storeT, putC, fillP, Nat.reduceAdd, reduceIte, Nat.reduceEqDiff, Nat.reduceLT, Nat.reduceLeDiff, reduceCtorEq, eq_self, FIT, lendCs_map, verC_map, FinC, resPs, resP, lendPl, lendCs, lendC, sealC, partsT, finHs, tupT, verT, verP, verC, verB, verAt, Blk.ver, handsAre, forall_const, CHT, disj, Nat.reduceBEq, beq_self_eq_true, APT, srcOf, sealPs, sealCs, sealC, toVs, Option.map_some, List.mem_singleton, forall_eq, ALT, UFo_1, hf, hm]
  refine callA1 (m := 1005) (ws := []) (ns := []) (cloneS_ok d.names (by omega) 1005) rfl rfl rfl (en_flat eS eS_flat _) ⟨rfl, ?_⟩
  simp only [RUN, core, T.c, T.s, T.b, T.i, sBin, sInt, sUn, isShift, asInt, P1.cells, loadT, ptrC, storeT, putC, fillP, Nat.reduceAdd, reduceIte, Nat.reduceEqDiff, Nat.reduceLT, Nat.reduceLeDiff, reduceCtorEq, eq_self, FIT, lendCs_map, verC_map, FinC, resPs, resP, lendPl, lendCs, lendC, sealC, partsT, finHs, tupT, verT, verP, verC, verB, verAt, Blk.ver, handsAre, forall_const, CHT, disj, Nat.reduceBEq, beq_self_eq_true, APT, srcOf, sealPs, sealCs, sealC, toVs, Option.map_some, List.mem_singleton, forall_eq, ALT, UFo_1]
  refine AW.upto d.moves.length (inv52 d (c0 + 0)) ?_ fun i t H c hi h => ?_
  · unfold inv52
    have e0 : d.names ++ mades (d.moves.take 0) = d.names := by simp [mades]
    rw [e0]
    exact ⟨fun j f hj => absurd hj (Nat.not_lt_zero j), ⟨rfl, rfl⟩, ⟨_, rfl, rfl⟩, rfl, rfl, rfl⟩
  obtain ⟨g, ⟨e1, eH1⟩, ⟨v, e3, eH⟩, e22, e23, e24⟩ := h
  simp only [T.c, T.i, T.s, tL] at e1 eH1 e3 eH e22 e23 e24
  by_cases hlt : i < d.moves.length
  · obtain ⟨x, hx⟩ : ∃ x, d.moves[i]? = some x := ⟨_, List.getElem?_eq_getElem hlt⟩
    have ex := en_at eM hx
    have k1 : (i : Int) < d.moves.length := by omega
    have gz : (0 : Int) ≤ i := by omega
    have gw : IntKind.i64.wrap ((i : Int) + 1) = ((i + 1 : Nat) : Int) := wrap64 (x := (i : Int) + 1) ⟨by omega, by omega⟩
    have hwl := mades_len (d.moves.take i)
    rw [List.length_take] at hwl
    have hnext : (x.gone = true → x.name ∈ Go.V.nmI d.names (d.moves.take i)) → ∀ (j : Nat) (m : DM), j < i + 1 → d.moves[j]? = some m → m.gone = true → m.name ∈ Go.V.nmI d.names (d.moves.take j) := fun hh j m hj hm hgm => by
      rcases Nat.lt_succ_iff_lt_or_eq.1 hj with hj | rfl
      · exact g j m hj hm hgm
      · rw [hx] at hm; cases hm; exact hh hgm
    cases hg : x.gone with
    | false =>
      have ht2 : d.names ++ mades (d.moves.take (i + 1)) = d.names ++ mades (d.moves.take i) ++ [x.name] := by rw [mades_take hx, hg, if_neg (by simp), List.append_assoc]
      have hl : (d.names ++ mades (d.moves.take i)).length ≤ 3000000 := by rw [List.length_append]; omega
      generalize hq : d.names ++ mades (d.moves.take i) = q at *
      have q3 : (q.length + 1) * 16 ≤ 140737488355328 := by omega
      have q4 : q.length + 1 ≤ 9223372036854775807 := by omega
      simp only [RUN, core, T.c, T.s, T.b, T.i, sBin, sInt, sUn, isShift, asInt, P1.cells, loadT, ptrC, storeT, putC, fillP, Nat.reduceAdd, reduceIte, Nat.reduceEqDiff, Nat.reduceLT, Nat.reduceLeDiff, reduceCtorEq, eq_self, FIT, lendCs_map, verC_map, FinC, resPs, resP, lendPl, lendCs, lendC, sealC, partsT, finHs, tupT, verT, verP, verC, verB, verAt, Blk.ver, handsAre, forall_const, CHT, disj, Nat.reduceBEq, beq_self_eq_true, APT, srcOf, sealPs, sealCs, sealC, toVs, Option.map_some, List.mem_singleton, forall_eq, ALT, UFo_2, e22, e23, e24, e3, eH, en_len, k1, gz, ex, eM, hg, gw, q3, q4]
      unfold inv52
      rw [ht2, en_snoc, List.length_append]
      exact ⟨hlt, hnext fun h => (by rw [hg] at h; cases h), ⟨e1, eH1⟩, ⟨_, rfl, rfl⟩, e22, e23, rfl⟩
    | true =>
      have ht2 : mades (d.moves.take (i + 1)) = mades (d.moves.take i) := by rw [mades_take hx, hg, if_pos rfl]
      have hnl := nmI_len d.names d.moves i (by omega)
      have hle : (Go.V.nmI d.names (d.moves.take i)).length ≤ (Go.V.nmI d.names (d.moves.take i)).length + (runI d.names (d.moves.take i)).2.length := by omega
      simp only [RUN, core, T.c, T.s, T.b, T.i, sBin, sInt, sUn, isShift, asInt, P1.cells, loadT, ptrC, storeT, putC, fillP, Nat.reduceAdd, reduceIte, Nat.reduceEqDiff, Nat.reduceLT, Nat.reduceLeDiff, reduceCtorEq, eq_self, FIT, lendCs_map, verC_map, FinC, resPs, resP, lendPl, lendCs, lendC, sealC, partsT, finHs, tupT, verT, verP, verC, verB, verAt, Blk.ver, handsAre, forall_const, CHT, disj, Nat.reduceBEq, beq_self_eq_true, APT, srcOf, sealPs, sealCs, sealC, toVs, Option.map_some, List.mem_singleton, forall_eq, ALT, UFo_2, e1, eH1, e22, e23, e24, en_len, k1, gz, ex, eM, hg]
      refine callA1 (m := 1006) (ws := []) (ns := []) (namesI_ok d hd.s i (by omega) 1006) rfl rfl rfl (en_flat eS eS_flat _) ⟨?_, ?_⟩
      · simp only [RUN, core, T.c, T.s, T.b, T.i, sBin, sInt, sUn, isShift, asInt, P1.cells, loadT, ptrC, storeT, putC, fillP, Nat.reduceAdd, reduceIte, Nat.reduceEqDiff, Nat.reduceLT, Nat.reduceLeDiff, reduceCtorEq, eq_self, FIT, lendCs_map, verC_map, FinC, resPs, resP, lendPl, lendCs, lendC, sealC, partsT, finHs, tupT, verT, verP, verC, verB, verAt, Blk.ver, handsAre, forall_const, CHT, disj, Nat.reduceBEq, beq_self_eq_true, APT, srcOf, sealPs, sealCs, sealC, toVs, Option.map_some, List.mem_singleton, forall_eq, ALT, UFo_2]
      simp only [RUN, core, T.c, T.s, T.b, T.i, sBin, sInt, sUn, isShift, asInt, P1.cells, loadT, ptrC, storeT, putC, fillP, Nat.reduceAdd, reduceIte, Nat.reduceEqDiff, Nat.reduceLT, Nat.reduceLeDiff, reduceCtorEq, eq_self, FIT, lendCs_map, verC_map, FinC, resPs, resP, lendPl, lendCs, lendC, sealC, partsT, finHs, tupT, verT, verP, verC, verB, verAt, Blk.ver, handsAre, forall_const, CHT, disj, Nat.reduceBEq, beq_self_eq_true, APT, srcOf, sealPs, sealCs, sealC, toVs, Option.map_some, List.mem_singleton, forall_eq, ALT, UFo_2]
      refine callL (ws := [(1006, .arr (c + 1 + 6 + 3 + 2) false 1 9 (en eS (Go.V.nmI d.names (d.moves.take i) ++ (runI d.names (d.moves.take i)).2)))]) (ns := [1006]) (contains_ok (Go.V.nmI d.names (d.moves.take i)) x.name (by omega)) rfl ?_ rfl rfl ⟨?_, ?_⟩
      · simp only [RUN, core, T.c, T.s, T.b, T.i, sBin, sInt, sUn, isShift, asInt, P1.cells, loadT, ptrC, storeT, putC, fillP, Nat.reduceAdd, reduceIte, Nat.reduceEqDiff, Nat.reduceLT, Nat.reduceLeDiff, reduceCtorEq, eq_self, FIT, lendCs_map, verC_map, FinC, resPs, resP, lendPl, lendCs, lendC, sealC, partsT, finHs, tupT, verT, verP, verC, verB, verAt, Blk.ver, handsAre, forall_const, CHT, disj, Nat.reduceBEq, beq_self_eq_true, APT, srcOf, sealPs, sealCs, sealC, toVs, Option.map_some, List.mem_singleton, forall_eq, ALT, UFo_2, lendTs, lendT, en_take2, hle]
      · simp only [RUN, core, T.c, T.s, T.b, T.i, sBin, sInt, sUn, isShift, asInt, P1.cells, loadT, ptrC, storeT, putC, fillP, Nat.reduceAdd, reduceIte, Nat.reduceEqDiff, Nat.reduceLT, Nat.reduceLeDiff, reduceCtorEq, eq_self, FIT, lendCs_map, verC_map, FinC, resPs, resP, lendPl, lendCs, lendC, sealC, partsT, finHs, tupT, verT, verP, verC, verB, verAt, Blk.ver, handsAre, forall_const, CHT, disj, Nat.reduceBEq, beq_self_eq_true, APT, srcOf, sealPs, sealCs, sealC, toVs, Option.map_some, List.mem_singleton, forall_eq, ALT, UFo_2, scalarT, scalarP, scalarC]
      cases hh : has (Go.V.nmI d.names (d.moves.take i)) x.name with
      | true =>
        simp only [RUN, core, T.c, T.s, T.b, T.i, sBin, sInt, sUn, isShift, asInt, P1.cells, loadT, ptrC, storeT, putC, fillP, Nat.reduceAdd, reduceIte, Nat.reduceEqDiff, Nat.reduceLT, Nat.reduceLeDiff, reduceCtorEq, eq_self, FIT, lendCs_map, verC_map, FinC, resPs, resP, lendPl, lendCs, lendC, sealC, partsT, finHs, tupT, verT, verP, verC, verB, verAt, Blk.ver, handsAre, forall_const, CHT, disj, Nat.reduceBEq, beq_self_eq_true, APT, srcOf, sealPs, sealCs, sealC, toVs, Option.map_some, List.mem_singleton, forall_eq, ALT, UFo_2, scalarT, scalarP, scalarC, e24, gw]
        unfold inv52
        rw [ht2]
        exact ⟨hlt, hnext fun _ => has_true.1 hh, ⟨e1, eH1⟩, ⟨v, e3, eH⟩, e22, e23, rfl⟩
      | false =>
        have hbf := no fun hD => has_false.1 hh (by rw [hD.nmI i (by omega)]; exact hD.moves i x hx hg)
        simp only [RUN, core, T.c, T.s, T.b, T.i, sBin, sInt, sUn, isShift, asInt, P1.cells, loadT, ptrC, storeT, putC, fillP, Nat.reduceAdd, reduceIte, Nat.reduceEqDiff, Nat.reduceLT, Nat.reduceLeDiff, reduceCtorEq, eq_self, FIT, lendCs_map, verC_map, FinC, resPs, resP, lendPl, lendCs, lendC, sealC, partsT, finHs, tupT, verT, verP, verC, verB, verAt, Blk.ver, handsAre, forall_const, CHT, disj, Nat.reduceBEq, beq_self_eq_true, APT, srcOf, sealPs, sealCs, sealC, toVs, Option.map_some, List.mem_singleton, forall_eq, ALT, UFo_2, UFo_1, scalarT, scalarP, scalarC, hbf]
  · have k1 : ¬ (i : Int) < d.moves.length := by omega
    have hi2 : i = d.moves.length := by omega
    subst hi2
    rw [List.take_length] at e3 eH
    have hmade : d.names ++ mades d.moves = made d := rfl
    rw [hmade] at e3 eH
    simp only [RUN, core, T.c, T.s, T.b, T.i, sBin, sInt, sUn, isShift, asInt, P1.cells, loadT, ptrC, storeT, putC, fillP, Nat.reduceAdd, reduceIte, Nat.reduceEqDiff, Nat.reduceLT, Nat.reduceLeDiff, reduceCtorEq, eq_self, FIT, lendCs_map, verC_map, FinC, resPs, resP, lendPl, lendCs, lendC, sealC, partsT, finHs, tupT, verT, verP, verC, verB, verAt, Blk.ver, handsAre, forall_const, CHT, disj, Nat.reduceBEq, beq_self_eq_true, APT, srcOf, sealPs, sealCs, sealC, toVs, Option.map_some, List.mem_singleton, forall_eq, ALT, UFo_2, UFo_1, e1, eH1, e23, e24, en_len, k1]
    refine AW.upto d.files.length (inv52b d (c0 + 0) v) ⟨fun j f hj => absurd hj (Nat.not_lt_zero j), ⟨e1, eH1⟩, ⟨e3, eH⟩, rfl, rfl, rfl⟩ fun i t H c hi h => ?_
    clear e1 eH1 e3 eH e22 e23 e24
    obtain ⟨g2, ⟨e1, eH1⟩, ⟨e3, eH⟩, e46, e47, e48⟩ := h
    simp only [T.c, T.i, T.s, tL] at e1 eH1 e3 eH e46 e47 e48
    by_cases hlt : i < d.files.length
    · obtain ⟨f, hx⟩ : ∃ f, d.files[i]? = some f := ⟨_, List.getElem?_eq_getElem hlt⟩
      have ex := en_at eF hx
      have hfm := hd.f f (List.mem_of_getElem? hx)
      have k1 : (i : Int) < d.files.length := by omega
      have gz : (0 : Int) ≤ i := by omega
      have gw : IntKind.i64.wrap ((i : Int) + 1) = ((i + 1 : Nat) : Int) := wrap64 (x := (i : Int) + 1) ⟨by omega, by omega⟩
      have bad : ¬ FOk d i f → b = false := fun h => no fun hD => h (hD.files i f hx)
      obtain ⟨f0, f1⟩ := fnd_le hx
      simp only [RUN, core, T.c, T.s, T.b, T.i, sBin, sInt, sUn, isShift, asInt, P1.cells, loadT, ptrC, storeT, putC, fillP, Nat.reduceAdd, reduceIte, Nat.reduceEqDiff, Nat.reduceLT, Nat.reduceLeDiff, reduceCtorEq, eq_self, FIT, lendCs_map, verC_map, FinC, resPs, resP, lendPl, lendCs, lendC, sealC, partsT, finHs, tupT, verT, verP, verC, verB, verAt, Blk.ver, handsAre, forall_const, CHT, disj, Nat.reduceBEq, beq_self_eq_true, APT, srcOf, sealPs, sealCs, sealC, toVs, Option.map_some, List.mem_singleton, forall_eq, ALT, UFo_3, e46, e47, e48, en_len, k1, gz, ex, eF]
      refine callC (isName_ok f.name (by omega)) rfl rfl rfl rfl ?_
      cases p1 : nameOk f.name with
      | false =>
        have hbf := bad fun h => by have := h.name; rw [p1] at this; cases this
        simp only [RUN, core, T.c, T.s, T.b, T.i, sBin, sInt, sUn, isShift, asInt, P1.cells, loadT, ptrC, storeT, putC, fillP, Nat.reduceAdd, reduceIte, Nat.reduceEqDiff, Nat.reduceLT, Nat.reduceLeDiff, reduceCtorEq, eq_self, FIT, lendCs_map, verC_map, FinC, resPs, resP, lendPl, lendCs, lendC, sealC, partsT, finHs, tupT, verT, verP, verC, verB, verAt, Blk.ver, handsAre, forall_const, CHT, disj, Nat.reduceBEq, beq_self_eq_true, APT, srcOf, sealPs, sealCs, sealC, toVs, Option.map_some, List.mem_singleton, forall_eq, ALT, UFo_3, UFo_1, hbf]
      | true =>
        simp only [RUN, core, T.c, T.s, T.b, T.i, sBin, sInt, sUn, isShift, asInt, P1.cells, loadT, ptrC, storeT, putC, fillP, Nat.reduceAdd, reduceIte, Nat.reduceEqDiff, Nat.reduceLT, Nat.reduceLeDiff, reduceCtorEq, eq_self, FIT, lendCs_map, verC_map, FinC, resPs, resP, lendPl, lendCs, lendC, sealC, partsT, finHs, tupT, verT, verP, verC, verB, verAt, Blk.ver, handsAre, forall_const, CHT, disj, Nat.reduceBEq, beq_self_eq_true, APT, srcOf, sealPs, sealCs, sealC, toVs, Option.map_some, List.mem_singleton, forall_eq, ALT, UFo_3, e1, eH1]
        refine callC (fileAt_ok d f.name (by omega)) rfl rfl rfl rfl ?_
        by_cases p2 : fnd d.files f.name < i
        · have hbf := bad fun h => by have := h.one; omega
          simp only [RUN, core, T.c, T.s, T.b, T.i, sBin, sInt, sUn, isShift, asInt, P1.cells, loadT, ptrC, storeT, putC, fillP, Nat.reduceAdd, reduceIte, Nat.reduceEqDiff, Nat.reduceLT, Nat.reduceLeDiff, reduceCtorEq, eq_self, FIT, lendCs_map, verC_map, FinC, resPs, resP, lendPl, lendCs, lendC, sealC, partsT, finHs, tupT, verT, verP, verC, verB, verAt, Blk.ver, handsAre, forall_const, CHT, disj, Nat.reduceBEq, beq_self_eq_true, APT, srcOf, sealPs, sealCs, sealC, toVs, Option.map_some, List.mem_singleton, forall_eq, ALT, UFo_3, UFo_1, e48, p2, hbf]
        by_cases p3 : (f.data.size : Int) > 20000
        · have hbf := bad fun h => by have := h.data; omega
          simp only [RUN, core, T.c, T.s, T.b, T.i, sBin, sInt, sUn, isShift, asInt, P1.cells, loadT, ptrC, storeT, putC, fillP, Nat.reduceAdd, reduceIte, Nat.reduceEqDiff, Nat.reduceLT, Nat.reduceLeDiff, reduceCtorEq, eq_self, FIT, lendCs_map, verC_map, FinC, resPs, resP, lendPl, lendCs, lendC, sealC, partsT, finHs, tupT, verT, verP, verC, verB, verAt, Blk.ver, handsAre, forall_const, CHT, disj, Nat.reduceBEq, beq_self_eq_true, APT, srcOf, sealPs, sealCs, sealC, toVs, Option.map_some, List.mem_singleton, forall_eq, ALT, UFo_3, UFo_1, e48, p2, p3, hbf]
        simp only [RUN, core, T.c, T.s, T.b, T.i, sBin, sInt, sUn, isShift, asInt, P1.cells, loadT, ptrC, storeT, putC, fillP, Nat.reduceAdd, reduceIte, Nat.reduceEqDiff, Nat.reduceLT, Nat.reduceLeDiff, reduceCtorEq, eq_self, FIT, lendCs_map, verC_map, FinC, resPs, resP, lendPl, lendCs, lendC, sealC, partsT, finHs, tupT, verT, verP, verC, verB, verAt, Blk.ver, handsAre, forall_const, CHT, disj, Nat.reduceBEq, beq_self_eq_true, APT, srcOf, sealPs, sealCs, sealC, toVs, Option.map_some, List.mem_singleton, forall_eq, ALT, UFo_3, e48, p2, p3]
        refine callC (inRange_ok _ _ _) rfl rfl rfl rfl ?_
        by_cases p4 : (0 : Int) ≤ f.kept
        rotate_left
        · have hbf := bad fun h => p4 h.lo
          simp only [RUN, core, T.c, T.s, T.b, T.i, sBin, sInt, sUn, isShift, asInt, P1.cells, loadT, ptrC, storeT, putC, fillP, Nat.reduceAdd, reduceIte, Nat.reduceEqDiff, Nat.reduceLT, Nat.reduceLeDiff, reduceCtorEq, eq_self, FIT, lendCs_map, verC_map, FinC, resPs, resP, lendPl, lendCs, lendC, sealC, partsT, finHs, tupT, verT, verP, verC, verB, verAt, Blk.ver, handsAre, forall_const, CHT, disj, Nat.reduceBEq, beq_self_eq_true, APT, srcOf, sealPs, sealCs, sealC, toVs, Option.map_some, List.mem_singleton, forall_eq, ALT, UFo_3, UFo_1, p4, hbf]
        by_cases p5 : f.kept ≤ (f.data.size : Int)
        rotate_left
        · have hbf := bad fun h => p5 h.hi
          simp only [RUN, core, T.c, T.s, T.b, T.i, sBin, sInt, sUn, isShift, asInt, P1.cells, loadT, ptrC, storeT, putC, fillP, Nat.reduceAdd, reduceIte, Nat.reduceEqDiff, Nat.reduceLT, Nat.reduceLeDiff, reduceCtorEq, eq_self, FIT, lendCs_map, verC_map, FinC, resPs, resP, lendPl, lendCs, lendC, sealC, partsT, finHs, tupT, verT, verP, verC, verB, verAt, Blk.ver, handsAre, forall_const, CHT, disj, Nat.reduceBEq, beq_self_eq_true, APT, srcOf, sealPs, sealCs, sealC, toVs, Option.map_some, List.mem_singleton, forall_eq, ALT, UFo_3, UFo_1, p4, p5, hbf]
        simp only [RUN, core, T.c, T.s, T.b, T.i, sBin, sInt, sUn, isShift, asInt, P1.cells, loadT, ptrC, storeT, putC, fillP, Nat.reduceAdd, reduceIte, Nat.reduceEqDiff, Nat.reduceLT, Nat.reduceLeDiff, reduceCtorEq, eq_self, FIT, lendCs_map, verC_map, FinC, resPs, resP, lendPl, lendCs, lendC, sealC, partsT, finHs, tupT, verT, verP, verC, verB, verAt, Blk.ver, handsAre, forall_const, CHT, disj, Nat.reduceBEq, beq_self_eq_true, APT, srcOf, sealPs, sealCs, sealC, toVs, Option.map_some, List.mem_singleton, forall_eq, ALT, UFo_3, p4, p5, e48, gw]
        exact ⟨hlt, fun j f' hj hf' => (by rcases Nat.lt_succ_iff_lt_or_eq.1 hj with hj | rfl; exact g2 j f' hj hf'; rw [hx] at hf'; cases hf'; exact ⟨p1, by omega, p4, p5, by omega⟩), ⟨e1, eH1⟩, ⟨e3, eH⟩, e46, e47, rfl⟩
    · have k2 : ¬ (i : Int) < d.files.length := by omega
      obtain ⟨b', hb', hC'⟩ := equalF_ok d.files (made d) (by omega)
      have hbb : b' = b := by
        have hiff : b' = true ↔ b = true := by
          rw [hb', hb]
          constructor
          · rintro ⟨l1, l2⟩
            have gg : ∀ (j : Nat) (f : DF), d.files[j]? = some f → nameOk f.name = true ∧ f.data.size ≤ 20000 ∧ 0 ≤ f.kept ∧ f.kept ≤ f.data.size ∧ fnd d.files f.name = j := fun j f hf => g2 j f (by have := (List.getElem?_eq_some_iff.1 hf).1; omega) hf
            have hnd := made_nodup l1 fun j f hf => ⟨l2 j f hf, (gg j f hf).2.2.2.2⟩
            have hlen : (made d).length = d.names.length + (mades d.moves).length := List.length_append
            refine ⟨by omega, by omega, by omega, l1, fun j f hf => ?_, fun j m hm hgm => ?_⟩
            · obtain ⟨a1, a2, a3, a4, a5⟩ := gg j f hf
              exact ⟨a1, l2 j f hf, a2, a3, a4, a5⟩
            · have hjl := (List.getElem?_eq_some_iff.1 hm).1
              rw [← (nmI_aft hnd j (by omega)).1]
              exact g j m hjl hm hgm
          · intro hD
            exact ⟨hD.l, fun j f hf => (hD.files j f hf).made⟩
        cases b' <;> cases b <;> simp_all
      subst hbb
      simp only [RUN, core, T.c, T.s, T.b, T.i, sBin, sInt, sUn, isShift, asInt, P1.cells, loadT, ptrC, storeT, putC, fillP, Nat.reduceAdd, reduceIte, Nat.reduceEqDiff, Nat.reduceLT, Nat.reduceLeDiff, reduceCtorEq, eq_self, FIT, lendCs_map, verC_map, FinC, resPs, resP, lendPl, lendCs, lendC, sealC, partsT, finHs, tupT, verT, verP, verC, verB, verAt, Blk.ver, handsAre, forall_const, CHT, disj, Nat.reduceBEq, beq_self_eq_true, APT, srcOf, sealPs, sealCs, sealC, toVs, Option.map_some, List.mem_singleton, forall_eq, ALT, UFo_3, UFo_1, e1, eH1, e3, eH, e47, e48, k2]
      refine callLf (ws := [(1005, .arr v false 1 9 (en eS (made d)))]) (ns := [1005]) hC' rfl ?_ rfl rfl ⟨?_, ?_⟩
      · simp only [RUN, core, T.c, T.s, T.b, T.i, sBin, sInt, sUn, isShift, asInt, P1.cells, loadT, ptrC, storeT, putC, fillP, Nat.reduceAdd, reduceIte, Nat.reduceEqDiff, Nat.reduceLT, Nat.reduceLeDiff, reduceCtorEq, eq_self, FIT, lendCs_map, verC_map, FinC, resPs, resP, lendPl, lendCs, lendC, sealC, partsT, finHs, tupT, verT, verP, verC, verB, verAt, Blk.ver, handsAre, forall_const, CHT, disj, Nat.reduceBEq, beq_self_eq_true, APT, srcOf, sealPs, sealCs, sealC, toVs, Option.map_some, List.mem_singleton, forall_eq, ALT, UFo_1, lendTs, lendT, e3, eH]
      · simp only [RUN, core, T.c, T.s, T.b, T.i, sBin, sInt, sUn, isShift, asInt, P1.cells, loadT, ptrC, storeT, putC, fillP, Nat.reduceAdd, reduceIte, Nat.reduceEqDiff, Nat.reduceLT, Nat.reduceLeDiff, reduceCtorEq, eq_self, FIT, lendCs_map, verC_map, FinC, resPs, resP, lendPl, lendCs, lendC, sealC, partsT, finHs, tupT, verT, verP, verC, verB, verAt, Blk.ver, handsAre, forall_const, CHT, disj, Nat.reduceBEq, beq_self_eq_true, APT, srcOf, sealPs, sealCs, sealC, toVs, Option.map_some, List.mem_singleton, forall_eq, ALT, UFo_1, scalarT, scalarP, scalarC]
      simp only [RUN, core, T.c, T.s, T.b, T.i, sBin, sInt, sUn, isShift, asInt, P1.cells, loadT, ptrC, storeT, putC, fillP, Nat.reduceAdd, reduceIte, Nat.reduceEqDiff, Nat.reduceLT, Nat.reduceLeDiff, reduceCtorEq, eq_self, FIT, lendCs_map, verC_map, FinC, resPs, resP, lendPl, lendCs, lendC, sealC, partsT, finHs, tupT, verT, verP, verC, verB, verAt, Blk.ver, handsAre, forall_const, CHT, disj, Nat.reduceBEq, beq_self_eq_true, APT, srcOf, sealPs, sealCs, sealC, toVs, Option.map_some, List.mem_singleton, forall_eq, ALT, UFo_1, scalarT, scalarP, scalarC]
end Go.V
set_option linter.unusedSimpArgs false
namespace Go.V
open Go.Proofs
abbrev oC (c1 v1 c2 v2 c3 v3 : Nat) (d : Dk) : List C := [.own c1 v1 d.files.length, .own c2 v2 d.names.length, .own c3 v3 d.moves.length]
/-- A disk that is written in place, and its arrays. -/
abbrev dkW (m0 m1 m2 m3 u v1 v2 v3 : Nat) (d d' : Dk) : List Hand := [⟨4001, m0, some (.var u 34 (oC 1001 v1 1002 v2 1003 v3 d)), .var u 34 (oC 1001 0 1002 0 1003 0 d'), true⟩,
  ⟨1001, m1, some (.arr v1 true 3 88 (en eF d.files)), .arr 0 true 3 88 (en eF d'.files), false⟩, ⟨1002, m2, some (.arr v2 true 1 9 (en eS d.names)), .arr 0 true 1 9 (en eS d'.names), false⟩, ⟨1003, m3, some (.arr v3 true 2 90 (en eM d.moves)), .arr 0 true 2 90 (en eM d'.moves), false⟩]
/-- As dkW, where the directory is made sure: the files and the names are arrays anew. -/
abbrev dkD (m0 m1 m2 m3 m4 m5 u v1 v2 v3 : Nat) (d : Dk) (F : List DF) (N rest : List ByteArray) : List Hand := [⟨4001, m0, some (.var u 34 (oC 1001 v1 1002 v2 1003 v3 d)), .var u 34 [.own 10 0 F.length, .own 7001 0 N.length, .nil0], true⟩,
  arH 1001 m1 v1 3 88 (en eF d.files) (en eF d.files), arH 1002 m2 v2 1 9 (en eS d.names) (en eS d.names), arH 1003 m3 v3 2 90 (en eM d.moves) (en eM d.moves), newH 10 m4 3 88 (en eF F), newH 7001 m5 1 9 (en eS (N ++ rest))]
section
variable {P : Program} {t : Nat → T} {H : HMap} {c : Nat} {f : Opd} {args : List Opd} {fid : FuncId} {al : List T} {m0 m1 m2 m3 m4 m5 u v1 v2 v3 : Nat} {dk dk' : Dk} {F : List DF} {N rest : List ByteArray} {r : T} {k : Nat} {d : Option Nat} {un : List Nat} {l : List AOper} {prev : List (Nat × List Nat × List Nat)} {K : St → Prop}
theorem callDw (hC : ACallsF P fid (.c (.ptr 4001 u 0) :: al) (dkW m0 m1 m2 m3 u v1 v2 v3 dk dk') r) (hf : ev t f = .pt (.one (.fn fid []))) (hl : args.map (ev t) = .c (.ptr m0 u 0) :: al) (ha : al.all closedA = true) (hr : closedT r = true)
    (hm : m0 ≠ m1 ∧ m0 ≠ m2 ∧ m0 ≠ m3 ∧ m1 ≠ m2 ∧ m1 ≠ m3 ∧ m2 ≠ m3)
    (h0 : H m0 = some (.var u 34 (oC m1 v1 m2 v2 m3 v3 dk))) (h1 : H m1 = some (.arr v1 true 3 88 (en eF dk.files))) (h2 : H m2 = some (.arr v2 true 1 9 (en eS dk.names))) (h3 : H m3 = some (.arr v3 true 2 90 (en eM dk.moves)))
    (hk : chk prev un ⟨r, [(m0, .var u 34 (oC m1 (c + k) m2 (c + k) m3 (c + k) dk')), (m1, .arr (c + k) true 3 88 (en eF dk'.files)), (m2, .arr (c + k) true 1 9 (en eS dk'.names)), (m3, .arr (c + k) true 2 90 (en eM dk'.moves))], [m0, m1, m2, m3], [m0, m1, m2, m3]⟩ = true ∧
      DRun P l ((k, [m0, m1, m2, m3], [m0, m1, m2, m3]) :: prev) K ⟨updD t d r, upd (upd (upd (upd H m0 (some (.var u 34 (oC m1 (c + k) m2 (c + k) m3 (c + k) dk')))) m1 (some (.arr (c + k) true 3 88 (en eF dk'.files)))) m2 (some (.arr (c + k) true 1 9 (en eS dk'.names)))) m3 (some (.arr (c + k) true 2 90 (en eM dk'.moves))), c⟩) :
    step P k d un (.call f args) l prev K t H c := by
  generalize hhs : dkW m0 m1 m2 m3 u v1 v2 v3 dk dk' = hs at hC
  have R0 : renN hs 4001 = some ⟨4001, m0, some (.var u 34 (oC 1001 v1 1002 v2 1003 v3 dk)), .var u 34 (oC 1001 0 1002 0 1003 0 dk'), true⟩ := by rw [← hhs]; rfl
  have R1 : renN hs 1001 = some ⟨1001, m1, some (.arr v1 true 3 88 (en eF dk.files)), .arr 0 true 3 88 (en eF dk'.files), false⟩ := by rw [← hhs]; rfl
  have R2 : renN hs 1002 = some ⟨1002, m2, some (.arr v2 true 1 9 (en eS dk.names)), .arr 0 true 1 9 (en eS dk'.names), false⟩ := by rw [← hhs]; rfl
  have R3 : renN hs 1003 = some ⟨1003, m3, some (.arr v3 true 2 90 (en eM dk.moves)), .arr 0 true 2 90 (en eM dk'.moves), false⟩ := by rw [← hhs]; rfl
  have I0 : inN hs 4001 = some m0 := by simp [inN, R0]
  have I1 : inN hs 1001 = some m1 := by simp [inN, R1]
  have I2 : inN hs 1002 = some m2 := by simp [inN, R2]
  have I3 : inN hs 1003 = some m3 := by simp [inN, R3]
  obtain ⟨x1, x2⟩ := closed_As hs H al ha
  obtain ⟨g1, g2, g3, g4, g5, g6⟩ := hm
  refine callW (caps := []) («as» := .c (.ptr m0 u 0) :: al) (ws := []) (ns := []) (r' := r) (ob := [(m0, .var u 34 (oC m1 (c + k) m2 (c + k) m3 (c + k) dk')), (m1, .arr (c + k) true 3 88 (en eF dk'.files)), (m2, .arr (c + k) true 1 9 (en eS dk'.names)), (m3, .arr (c + k) true 2 90 (en eM dk'.moves))]) hs hC hf ?_ ?_ ?_ (by rw [← hhs]; simp [g1, g2, g3, g4, g5, g6]) (by rw [← hhs]; simp) (closed_T _ r hr _) ?_ ?_
  · have a1 : lendT H (T.c (.ptr 4001 u 0)) (T.c (.ptr m0 u 0)) = some (T.c (.ptr m0 u 0), [], []) := rfl
    rw [hl]
    simp only [List.map_nil, List.append_nil, lendTs, a1, x1]
  · have a1 : renIT hs (T.c (.ptr 4001 u 0)) = some (T.c (.ptr m0 u 0)) := by simp only [T.c, renIT, renI, I0, Option.map_some]
    simp only [renITs, a1, x2]
  · have B0 : renIB hs (.var u 34 (oC 1001 v1 1002 v2 1003 v3 dk)) = some (.var u 34 (oC m1 v1 m2 v2 m3 v3 dk)) := by simp only [renIB, renIs, renI, I1, I2, I3, Option.map_some]
    have B1 : ∀ v wr st ty es, renIB hs (.arr v wr st ty es) = some (.arr v wr st ty es) := fun _ _ _ _ _ => rfl
    have key : handsIn (updH H []) hs (dkW m0 m1 m2 m3 u v1 v2 v3 dk dk') := by
      simp only [handsIn, B0, B1, updH, h0, h1, h2, h3, and_self]
    rw [hhs] at key
    exact key
  · have key : renOBs hs (c + k) (dkW m0 m1 m2 m3 u v1 v2 v3 dk dk') = some [(m0, .var u 34 (oC m1 (c + k) m2 (c + k) m3 (c + k) dk')), (m1, .arr (c + k) true 3 88 (en eF dk'.files)), (m2, .arr (c + k) true 1 9 (en eS dk'.names)), (m3, .arr (c + k) true 2 90 (en eM dk'.moves))] := by
      simp only [renOBs, renOB, renOs, renO, R1, R2, R3, Option.map_some, verOf, if_true, Bool.false_eq_true, if_false, Blk.ver]
    rw [hhs] at key
    exact key
  · have hq : quiet r hs = false := by rw [← hhs]; simp [quiet]
    have hms : hs.map (·.m) = [m0, m1, m2, m3] := by rw [← hhs]; rfl
    rw [hq, hms]
    simpa [updH] using hk
theorem callDd (hC : ACallsF P fid (.c (.ptr 4001 u 0) :: al) (dkD m0 m1 m2 m3 m4 m5 u v1 v2 v3 dk F N rest) r) (hf : ev t f = .pt (.one (.fn fid []))) (hl : args.map (ev t) = .c (.ptr m0 u 0) :: al) (ha : al.all closedA = true) (hr : closedT r = true)
    (hm : [m0, m1, m2, m3, m4, m5].Nodup)
    (h0 : H m0 = some (.var u 34 (oC m1 v1 m2 v2 m3 v3 dk))) (h1 : H m1 = some (.arr v1 true 3 88 (en eF dk.files))) (h2 : H m2 = some (.arr v2 true 1 9 (en eS dk.names))) (h3 : H m3 = some (.arr v3 true 2 90 (en eM dk.moves)))
    (hk : chk prev un ⟨r, [(m0, .var u 34 [.own m4 (c + k) F.length, .own m5 (c + k) N.length, .nil0]), (m1, .arr v1 true 3 88 (en eF dk.files)), (m2, .arr v2 true 1 9 (en eS dk.names)), (m3, .arr v3 true 2 90 (en eM dk.moves)), (m4, .arr (c + k) true 3 88 (en eF F)), (m5, .arr (c + k) true 1 9 (en eS (N ++ rest)))], [m0, m1, m2, m3, m4, m5], [m0, m1, m2, m3, m4, m5]⟩ = true ∧
      DRun P l ((k, [m0, m1, m2, m3, m4, m5], [m0, m1, m2, m3, m4, m5]) :: prev) K ⟨updD t d r, upd (upd (upd (upd (upd (upd H m0 (some (.var u 34 [.own m4 (c + k) F.length, .own m5 (c + k) N.length, .nil0]))) m1 (some (.arr v1 true 3 88 (en eF dk.files)))) m2 (some (.arr v2 true 1 9 (en eS dk.names)))) m3 (some (.arr v3 true 2 90 (en eM dk.moves)))) m4 (some (.arr (c + k) true 3 88 (en eF F)))) m5 (some (.arr (c + k) true 1 9 (en eS (N ++ rest)))), c⟩) :
    step P k d un (.call f args) l prev K t H c := by
  generalize hhs : dkD m0 m1 m2 m3 m4 m5 u v1 v2 v3 dk F N rest = hs at hC
  have R0 : renN hs 4001 = some ⟨4001, m0, some (.var u 34 (oC 1001 v1 1002 v2 1003 v3 dk)), .var u 34 [.own 10 0 F.length, .own 7001 0 N.length, .nil0], true⟩ := by rw [← hhs]; rfl
  have R1 : renN hs 1001 = some (arH 1001 m1 v1 3 88 (en eF dk.files) (en eF dk.files)) := by rw [← hhs]; rfl
  have R2 : renN hs 1002 = some (arH 1002 m2 v2 1 9 (en eS dk.names) (en eS dk.names)) := by rw [← hhs]; rfl
  have R3 : renN hs 1003 = some (arH 1003 m3 v3 2 90 (en eM dk.moves) (en eM dk.moves)) := by rw [← hhs]; rfl
  have R4 : renN hs 10 = some (newH 10 m4 3 88 (en eF F)) := by rw [← hhs]; rfl
  have R5 : renN hs 7001 = some (newH 7001 m5 1 9 (en eS (N ++ rest))) := by rw [← hhs]; rfl
  have I0 : inN hs 4001 = some m0 := by simp [inN, R0]
  have I1 : inN hs 1001 = some m1 := by simp [inN, R1]
  have I2 : inN hs 1002 = some m2 := by simp [inN, R2]
  have I3 : inN hs 1003 = some m3 := by simp [inN, R3]
  obtain ⟨x1, x2⟩ := closed_As hs H al ha
  refine callW (caps := []) («as» := .c (.ptr m0 u 0) :: al) (ws := []) (ns := []) (r' := r) (ob := [(m0, .var u 34 [.own m4 (c + k) F.length, .own m5 (c + k) N.length, .nil0]), (m1, .arr v1 true 3 88 (en eF dk.files)), (m2, .arr v2 true 1 9 (en eS dk.names)), (m3, .arr v3 true 2 90 (en eM dk.moves)), (m4, .arr (c + k) true 3 88 (en eF F)), (m5, .arr (c + k) true 1 9 (en eS (N ++ rest)))]) hs hC hf ?_ ?_ ?_ (by rw [← hhs]; exact hm) (by rw [← hhs]; simp) (closed_T _ r hr _) ?_ ?_
  · have a1 : lendT H (T.c (.ptr 4001 u 0)) (T.c (.ptr m0 u 0)) = some (T.c (.ptr m0 u 0), [], []) := rfl
    rw [hl]
    simp only [List.map_nil, List.append_nil, lendTs, a1, x1]
  · have a1 : renIT hs (T.c (.ptr 4001 u 0)) = some (T.c (.ptr m0 u 0)) := by simp only [T.c, renIT, renI, I0, Option.map_some]
    simp only [renITs, a1, x2]
  · have B0 : renIB hs (.var u 34 (oC 1001 v1 1002 v2 1003 v3 dk)) = some (.var u 34 (oC m1 v1 m2 v2 m3 v3 dk)) := by simp only [renIB, renIs, renI, I1, I2, I3, Option.map_some]
    have B1 : ∀ v wr st ty es, renIB hs (.arr v wr st ty es) = some (.arr v wr st ty es) := fun _ _ _ _ _ => rfl
    have key : handsIn (updH H []) hs (dkD m0 m1 m2 m3 m4 m5 u v1 v2 v3 dk F N rest) := by
      simp only [handsIn, B0, B1, updH, h0, h1, h2, h3, and_self]
    rw [hhs] at key
    exact key
  · have key : renOBs hs (c + k) (dkD m0 m1 m2 m3 m4 m5 u v1 v2 v3 dk F N rest) = some [(m0, .var u 34 [.own m4 (c + k) F.length, .own m5 (c + k) N.length, .nil0]), (m1, .arr v1 true 3 88 (en eF dk.files)), (m2, .arr v2 true 1 9 (en eS dk.names)), (m3, .arr v3 true 2 90 (en eM dk.moves)), (m4, .arr (c + k) true 3 88 (en eF F)), (m5, .arr (c + k) true 1 9 (en eS (N ++ rest)))] := by
      simp only [renOBs, renOB, renOs, renO, R4, R5, Option.map_some, verOf, if_true, Bool.false_eq_true, if_false, Blk.ver]
    rw [hhs] at key
    exact key
  · have hq : quiet r hs = false := by rw [← hhs]; simp [quiet]
    have hms : hs.map (·.m) = [m0, m1, m2, m3, m4, m5] := by rw [← hhs]; rfl
    rw [hq, hms]
    simpa [updH] using hk
end
/- (*loop.example/teagle/impl.Disk).move -/
def r113_0 : List AOper := [ao 0 6 (.mv (.t 0)),
  ao 1 7 (.mv (.t 0)),
  ao 2 8 (.nck (.t 7)),
  ao 3 9 (.fa 2 (.t 8)),
  ao 4 10 (.ld 1 false (.t 9)),
  ao 5 11 (.mv (.t 2)),
  ao 6 12 (.mv (.t 1)),
  ao 7 13 (.build [(.v (.s (.bool false))), (.v (.s (.string ⟨#[]⟩)))] [(0, 1, (.t 11)), (1, 1, (.t 12))]),
  ao 8 14 (.bsl 2 90 [(.t 13)]),
  ao 9 15 (.app 2 90 24 (.t 10) (.t 14)),
  ao 10 16 (.nck (.t 6)),
  ao 11 17 (.fa 2 (.t 16)),
  an 12 (.st 1 (.t 17) (.t 15))]
def c113 : ACode := (.reg r113_0)
def s113 : List ARes := []
theorem ok113 : okF Try.prog 113 18 c113 s113 := ⟨Try.f113, Try.func113, Try.ntmps113, by kernel_rfl, by kernel_rfl, by kernel_rfl⟩
theorem UFp_1 : (type_of% (uA c113.eq_1)) ∧ (type_of% (uR r113_0.eq_1)) ∧ (type_of% s113.eq_1) :=
  ⟨uA c113.eq_1, uR r113_0.eq_1, s113.eq_1⟩
theorem move_ok (d : Dk) (hd : smallDk d) (nm : ByteArray) (g : Bool) (m0 m1 m2 m3 u v1 v2 v3 : Nat) : ACallsF Try.prog 113 [.c (.ptr 4001 u 0), tS nm, .b g] (dkW m0 m1 m2 m3 u v1 v2 v3 d ⟨d.files, d.names, d.moves ++ [⟨g, nm⟩]⟩) (.tup []) := by
  have h3 := hd.m
  have q3 : (d.moves.length + 1) * 24 ≤ 140737488355328 := by omega
  have q4 : d.moves.length + 1 ≤ 9223372036854775807 := by omega
  refine ACallsF.intro ok113 follows fun X c0 => ?_
  simp only [RUN, core, T.c, T.s, T.b, T.i, sBin, sInt, sUn, isShift, asInt, P1.cells, loadT, ptrC, storeT, putC, fillP, Nat.reduceAdd, reduceIte, Nat.reduceEqDiff, Nat.reduceLT, Nat.reduceLeDiff, reduceCtorEq, eq_self, FIT, lendCs_map, verC_map, FinC, resPs, resP, lendPl, lendCs, lendC, sealC, partsT, finHs, tupT, verT, verP, verC, verB, verAt, Blk.ver, handsAre, forall_const, CHT, disj, Nat.reduceBEq, beq_self_eq_true, APT, srcOf, sealPs, sealCs, sealC, toVs, Option.map_some, List.mem_singleton, forall_eq, ALT, UFp_1, q3, q4, en_snoc, eM, false_implies, and_self]
end Go.V
set_option linter.unusedSimpArgs false
namespace Go.V
open Go.Proofs
/-- A disk's arrays, lent. -/
abbrev dkL (c1 v1 c2 v2 c3 v3 : Nat) (d : Dk) : List (Nat × Blk) := [(c1, .arr v1 false 3 88 (en eF d.files)), (c2, .arr v2 false 1 9 (en eS d.names)), (c3, .arr v3 false 2 90 (en eM d.moves))]
/- (*loop.example/teagle/impl.Disk).dirs -/
def r112_0 : List AOper := [ao 0 6 (.mv (.t 0)),
  ao 1 7 (.nck (.t 6)),
  ao 2 8 (.ld 3 true (.t 7)),
  ao 3 9 (.call (.k (.c (.fn 111 []))) [(.t 8)]),
  ao 4 10 (.bsl 3 88 []),
  ao 5 2 (.mv (.t 9)),
  ao 6 3 (.mv (.t 10))]
def r112_1 : List AOper := [ao 0 11 (.mv (.t 2)),
  ao 1 12 (.len (.t 11)),
  ao 2 13 (.mv (.k (.i 0)))]
def r112_2 : List AOper := [ao 0 14 (.bin .lss (.t 13) (.t 12))]
def c112_3 : ACode := .cond (.t 14) .skip (.exit 0)
def r112_4 : List AOper := [ao 0 15 (.ia 1 (.t 11) (.t 13)),
  ao 1 16 (.ld 1 false (.t 15)),
  ao 2 5 (.mv (.t 16))]
def r112_5 : List AOper := [ao 0 17 (.mv (.t 3)),
  au 1 18 [0] (.mv (.t 0)),
  au 2 19 [0] (.nck (.t 18)),
  au 3 20 [0] (.fa 0 (.t 19)),
  au 4 21 [0] (.ld 1 false (.t 20)),
  au 5 22 (ru 5) (.mv (.t 0)),
  au 6 23 (ru 5) (.nck (.t 22)),
  au 7 24 (ru 5) (.ld 3 true (.t 23)),
  au 8 25 (ru 8) (.mv (.t 5)),
  au 9 26 (ru 5) (.call (.k (.c (.fn 105 []))) [(.t 24), (.t 25)]),
  au 10 27 [0] (.ia 3 (.t 21) (.t 26)),
  au 11 28 [0] (.ld 3 true (.t 27)),
  au 12 29 [0] (.bsl 3 88 [(.t 28)]),
  ao 13 30 (.app 3 88 40 (.t 17) (.t 29)),
  ao 14 3 (.mv (.t 30))]
def c112_6 : ACode := .seq (.reg r112_4) (.reg r112_5)
def c112_7 : ACode := .block 1 c112_6
def r112_8 : List AOper := [ao 0 31 (.bin .add (.t 13) (.k (.i 1))),
  ao 1 13 (.mv (.t 31))]
def c112_9 : ACode := .seq (.reg r112_2) (.seq c112_3 (.seq c112_7 (.reg r112_8)))
def c112_10 : ACode := .loop c112_9
def c112_11 : ACode := .block 0 c112_10
def c112_12 : ACode := .seq (.reg r112_1) c112_11
def r112_13 : List AOper := [ao 0 32 (.mv (.t 0)),
  ao 1 33 (.mv (.t 0)),
  ao 2 34 (.mv (.t 0)),
  ao 3 35 (.mv (.t 3)),
  ao 4 36 (.mv (.t 2)),
  ao 5 37 (.nck (.t 32)),
  ao 6 38 (.fa 0 (.t 37)),
  an 7 (.st 1 (.t 38) (.t 35)),
  ao 8 39 (.nck (.t 33)),
  ao 9 40 (.fa 1 (.t 39)),
  an 10 (.st 1 (.t 40) (.t 36)),
  ao 11 41 (.nck (.t 34)),
  ao 12 42 (.fa 2 (.t 41)),
  an 13 (.st 1 (.t 42) (.k (.c .nil0)))]
def c112 : ACode := .seq (.reg r112_0) (.seq c112_12 (.reg r112_13))
def s112 : List ARes := []
theorem ok112 : okF Try.prog 112 43 c112 s112 := ⟨Try.f112, Try.func112, Try.ntmps112, by kernel_rfl, by kernel_rfl, by kernel_rfl⟩
def inv112 (d : Dk) (N rest : List ByteArray) (u v1 v2 v3 w : Nat) (i : Nat) (σ : St) : Prop := σ.t 0 = .c (.ptr 4001 u 0) ∧ σ.H 4001 = some (.var u 34 (oC 1001 v1 1002 v2 1003 v3 d)) ∧ σ.H 1001 = some (.arr v1 true 3 88 (en eF d.files)) ∧ σ.H 1002 = some (.arr v2 true 1 9 (en eS d.names)) ∧ σ.H 1003 = some (.arr v3 true 2 90 (en eM d.moves)) ∧
  (σ.t 2 = .c (.own 7001 w N.length) ∧ σ.t 11 = .c (.own 7001 w N.length) ∧ σ.H 7001 = some (.arr w true 1 9 (en eS (N ++ rest)))) ∧ (∃ v, σ.t 3 = .c (.own 10 v ((N.take i).map (fileOf d.files)).length) ∧ σ.H 10 = some (.arr v true 3 88 (en eF ((N.take i).map (fileOf d.files))))) ∧ σ.t 12 = .i N.length ∧ σ.t 13 = .i i
theorem UFq_1 : (type_of% (uA c112.eq_1)) ∧ (type_of% (uR r112_0.eq_1)) ∧ (type_of% (uA c112_12.eq_1)) ∧ (type_of% (uR r112_1.eq_1)) ∧ (type_of% (uA c112_11.eq_1)) ∧ (type_of% (uA c112_10.eq_1)) ∧ (type_of% (uR r112_13.eq_1)) ∧ (type_of% s112.eq_1) :=
  ⟨uA c112.eq_1, uR r112_0.eq_1, uA c112_12.eq_1, uR r112_1.eq_1, uA c112_11.eq_1, uA c112_10.eq_1, uR r112_13.eq_1, s112.eq_1⟩
theorem UFq_2 : (type_of% (uA c112_9.eq_1)) ∧ (type_of% (uR r112_2.eq_1)) ∧ (type_of% (uA c112_3.eq_1)) ∧ (type_of% (uA c112_7.eq_1)) ∧ (type_of% (uA c112_6.eq_1)) ∧ (type_of% (uR r112_4.eq_1)) ∧ (type_of% (uR r112_5.eq_1)) ∧ (type_of% (uR r112_8.eq_1)) ∧ (type_of% (uA c112.eq_1)) ∧ (type_of% (uR r112_0.eq_1)) ∧ (type_of% (uA c112_12.eq_1)) ∧ (type_of% (uR r112_1.eq_1)) ∧ (type_of% (uA c112_11.eq_1)) ∧ (type_of% (uA c112_10.eq_1)) ∧ (type_of% (uR r112_13.eq_1)) ∧ (type_of% s112.eq_1) :=
  ⟨uA c112_9.eq_1, uR r112_2.eq_1, uA c112_3.eq_1, uA c112_7.eq_1, uA c112_6.eq_1, uR r112_4.eq_1, uR r112_5.eq_1, uR r112_8.eq_1, uA c112.eq_1, uR r112_0.eq_1, uA c112_12.eq_1, uR r112_1.eq_1, uA c112_11.eq_1, uA c112_10.eq_1, uR r112_13.eq_1, s112.eq_1⟩
theorem dirs_ok (d : Dk) (hd : fineDk d) (hD : DOk d) (m0 m1 m2 m3 m4 m5 u v1 v2 v3 : Nat) : ACallsF Try.prog 112 [.c (.ptr 4001 u 0)] (dkD m0 m1 m2 m3 m4 m5 u v1 v2 v3 d ((aft d.names d.moves).map (fileOf d.files)) (aft d.names d.moves) (runI d.names d.moves).2) (.tup []) := by
  have hN := hD.nmI d.moves.length (Nat.le_refl _)
  rw [List.take_length] at hN
  have hT := there_ok d hd.s 7001
  rw [hN] at hT
  have hal := aft_len d.moves d.names
  have s1 := hd.s.f
  have s2 := hd.s.n
  have s3 := hd.s.m
  have hmem : ∀ x ∈ aft d.names d.moves, x ∈ made d := fun x hx => DOk.aft_made (n := d.moves.length) (by rw [List.take_length]; exact hx)
  generalize aft d.names d.moves = N at *
  generalize (runI d.names d.moves).2 = rest at *
  refine ACallsF.intro ok112 follows fun X c0 => ?_
  simp only [RUN, core, T.c, T.s, T.b, T.i, sBin, sInt, sUn, isShift, asInt, P1.cells, loadT, ptrC, storeT, putC, fillP, Nat.reduceAdd, reduceIte, Nat.reduceEqDiff, Nat.reduceLT, Nat.reduceLeDiff, reduceCtorEq, eq_self, FIT, lendCs_map, verC_map, FinC, resPs, resP, lendPl, lendCs, lendC, sealC, partsT, finHs, tupT, verT, verP, verC, verB, verAt, Blk.ver, handsAre, forall_const, CHT, disj, Nat.reduceBEq, beq_self_eq_true, APT, srcOf, sealPs, sealCs, sealC, toVs, Option.map_some, List.mem_singleton, forall_eq, ALT, UFq_1]
  refine callA1 (m := 7001) (ws := dkL 1001 v1 1002 v2 1003 v3 d) (ns := [1001, 1002, 1003]) hT rfl ?_ rfl (en_flat eS eS_flat _) ⟨?_, ?_⟩
  · simp only [RUN, core, T.c, T.s, T.b, T.i, sBin, sInt, sUn, isShift, asInt, P1.cells, loadT, ptrC, storeT, putC, fillP, Nat.reduceAdd, reduceIte, Nat.reduceEqDiff, Nat.reduceLT, Nat.reduceLeDiff, reduceCtorEq, eq_self, FIT, lendCs_map, verC_map, FinC, resPs, resP, lendPl, lendCs, lendC, sealC, partsT, finHs, tupT, verT, verP, verC, verB, verAt, Blk.ver, handsAre, forall_const, CHT, disj, Nat.reduceBEq, beq_self_eq_true, APT, srcOf, sealPs, sealCs, sealC, toVs, Option.map_some, List.mem_singleton, forall_eq, ALT, UFq_1, lendTs, lendT, dkL]
  · simp only [RUN, core, T.c, T.s, T.b, T.i, sBin, sInt, sUn, isShift, asInt, P1.cells, loadT, ptrC, storeT, putC, fillP, Nat.reduceAdd, reduceIte, Nat.reduceEqDiff, Nat.reduceLT, Nat.reduceLeDiff, reduceCtorEq, eq_self, FIT, lendCs_map, verC_map, FinC, resPs, resP, lendPl, lendCs, lendC, sealC, partsT, finHs, tupT, verT, verP, verC, verB, verAt, Blk.ver, handsAre, forall_const, CHT, disj, Nat.reduceBEq, beq_self_eq_true, APT, srcOf, sealPs, sealCs, sealC, toVs, Option.map_some, List.mem_singleton, forall_eq, ALT, UFq_1]
  simp only [RUN, core, T.c, T.s, T.b, T.i, sBin, sInt, sUn, isShift, asInt, P1.cells, loadT, ptrC, storeT, putC, fillP, Nat.reduceAdd, reduceIte, Nat.reduceEqDiff, Nat.reduceLT, Nat.reduceLeDiff, reduceCtorEq, eq_self, FIT, lendCs_map, verC_map, FinC, resPs, resP, lendPl, lendCs, lendC, sealC, partsT, finHs, tupT, verT, verP, verC, verB, verAt, Blk.ver, handsAre, forall_const, CHT, disj, Nat.reduceBEq, beq_self_eq_true, APT, srcOf, sealPs, sealCs, sealC, toVs, Option.map_some, List.mem_singleton, forall_eq, ALT, UFq_1]
  refine AW.upto N.length (inv112 d N rest u v1 v2 v3 (c0 + 3)) ⟨rfl, rfl, rfl, rfl, rfl, ⟨rfl, rfl, rfl⟩, ⟨_, rfl, rfl⟩, rfl, rfl⟩ fun i t H c hi h => ?_
  obtain ⟨e0, eH0, eH1, eH2, eH3, ⟨e2, e11, eHn⟩, ⟨v, e3, eHf⟩, e12, e13⟩ := h
  simp only [T.c, T.i, T.s, tL, oC] at e0 eH0 eH1 eH2 eH3 e2 e11 eHn e3 eHf e12 e13
  by_cases hlt : i < N.length
  · obtain ⟨x, hx⟩ : ∃ x, N[i]? = some x := ⟨_, List.getElem?_eq_getElem hlt⟩
    have hx2 : (N ++ rest)[i]? = some x := by rw [List.getElem?_append_left hlt]; exact hx
    obtain ⟨j, hj1, hj2, hj3⟩ := hD.find (hmem x (List.mem_of_getElem? hx))
    have hjl := (List.getElem?_eq_some_iff.1 hj2).1
    have ex := en_at eS hx2
    have ef := en_at eF hj2
    have k1 : (i : Int) < N.length := by omega
    have k2 : (j : Int) < d.files.length := by omega
    have gz : (0 : Int) ≤ i := by omega
    have gj : (0 : Int) ≤ j := by omega
    have hle : N.length ≤ N.length + rest.length := by omega
    have gw : IntKind.i64.wrap ((i : Int) + 1) = ((i + 1 : Nat) : Int) := wrap64 (x := (i : Int) + 1) ⟨by omega, by omega⟩
    have ht : (N.take (i + 1)).map (fileOf d.files) = (N.take i).map (fileOf d.files) ++ [fileOf d.files x] := by rw [List.take_add_one, hx]; simp
    have hl : ((N.take i).map (fileOf d.files)).length ≤ 3000000 := by rw [List.length_map, List.length_take]; omega
    generalize hq : (N.take i).map (fileOf d.files) = q at *
    have q3 : (q.length + 1) * 40 ≤ 140737488355328 := by omega
    have q4 : q.length + 1 ≤ 9223372036854775807 := by omega
    have hfo := fileAt_ok d x (by omega)
    rw [hj1] at hfo
    simp only [RUN, core, T.c, T.s, T.b, T.i, sBin, sInt, sUn, isShift, asInt, P1.cells, loadT, ptrC, storeT, putC, fillP, Nat.reduceAdd, reduceIte, Nat.reduceEqDiff, Nat.reduceLT, Nat.reduceLeDiff, reduceCtorEq, eq_self, FIT, lendCs_map, verC_map, FinC, resPs, resP, lendPl, lendCs, lendC, sealC, partsT, finHs, tupT, verT, verP, verC, verB, verAt, Blk.ver, handsAre, forall_const, CHT, disj, Nat.reduceBEq, beq_self_eq_true, APT, srcOf, sealPs, sealCs, sealC, toVs, Option.map_some, List.mem_singleton, forall_eq, ALT, UFq_2, e0, eH0, eH1, eH2, eH3, e2, e11, eHn, e12, e13, en_len, k1, gz, ex, eS, hle]
    refine callL (ws := dkL 1001 v1 1002 v2 1003 v3 d) (ns := [1001, 1002, 1003]) hfo rfl ?_ rfl rfl ⟨?_, ?_⟩
    · simp only [RUN, core, T.c, T.s, T.b, T.i, sBin, sInt, sUn, isShift, asInt, P1.cells, loadT, ptrC, storeT, putC, fillP, Nat.reduceAdd, reduceIte, Nat.reduceEqDiff, Nat.reduceLT, Nat.reduceLeDiff, reduceCtorEq, eq_self, FIT, lendCs_map, verC_map, FinC, resPs, resP, lendPl, lendCs, lendC, sealC, partsT, finHs, tupT, verT, verP, verC, verB, verAt, Blk.ver, handsAre, forall_const, CHT, disj, Nat.reduceBEq, beq_self_eq_true, APT, srcOf, sealPs, sealCs, sealC, toVs, Option.map_some, List.mem_singleton, forall_eq, ALT, UFq_2, lendTs, lendT, dkL, eH1, eH2, eH3]
    · simp only [RUN, core, T.c, T.s, T.b, T.i, sBin, sInt, sUn, isShift, asInt, P1.cells, loadT, ptrC, storeT, putC, fillP, Nat.reduceAdd, reduceIte, Nat.reduceEqDiff, Nat.reduceLT, Nat.reduceLeDiff, reduceCtorEq, eq_self, FIT, lendCs_map, verC_map, FinC, resPs, resP, lendPl, lendCs, lendC, sealC, partsT, finHs, tupT, verT, verP, verC, verB, verAt, Blk.ver, handsAre, forall_const, CHT, disj, Nat.reduceBEq, beq_self_eq_true, APT, srcOf, sealPs, sealCs, sealC, toVs, Option.map_some, List.mem_singleton, forall_eq, ALT, UFq_2, scalarT, scalarP, scalarC]
    simp only [RUN, core, T.c, T.s, T.b, T.i, sBin, sInt, sUn, isShift, asInt, P1.cells, loadT, ptrC, storeT, putC, fillP, Nat.reduceAdd, reduceIte, Nat.reduceEqDiff, Nat.reduceLT, Nat.reduceLeDiff, reduceCtorEq, eq_self, FIT, lendCs_map, verC_map, FinC, resPs, resP, lendPl, lendCs, lendC, sealC, partsT, finHs, tupT, verT, verP, verC, verB, verAt, Blk.ver, handsAre, forall_const, CHT, disj, Nat.reduceBEq, beq_self_eq_true, APT, srcOf, sealPs, sealCs, sealC, toVs, Option.map_some, List.mem_singleton, forall_eq, ALT, UFq_2, scalarT, scalarP, scalarC, e3, eHf, eH1, e13, gj, k2, ef, eF, gw, q3, q4]
    unfold inv112
    rw [ht, en_snoc, List.length_append]
    exact ⟨hlt, e0, eH0, eH1, eH2, eH3, ⟨e2, e11, eHn⟩, ⟨_, rfl, rfl⟩, e12, rfl⟩
  · have k1 : ¬ (i : Int) < N.length := by omega
    have hi2 : i = N.length := by omega
    subst hi2
    rw [List.take_length] at e3 eHf
    simp only [RUN, core, T.c, T.s, T.b, T.i, sBin, sInt, sUn, isShift, asInt, P1.cells, loadT, ptrC, storeT, putC, fillP, Nat.reduceAdd, reduceIte, Nat.reduceEqDiff, Nat.reduceLT, Nat.reduceLeDiff, reduceCtorEq, eq_self, FIT, lendCs_map, verC_map, FinC, resPs, resP, lendPl, lendCs, lendC, sealC, partsT, finHs, tupT, verT, verP, verC, verB, verAt, Blk.ver, handsAre, forall_const, CHT, disj, Nat.reduceBEq, beq_self_eq_true, APT, srcOf, sealPs, sealCs, sealC, toVs, Option.map_some, List.mem_singleton, forall_eq, ALT, UFq_2, UFq_1, e0, eH0, eH1, eH2, eH3, e2, eHn, e3, eHf, e12, e13, k1, false_implies, and_self, List.length_map]
end Go.V
set_option linter.unusedSimpArgs false
namespace Go.V
open Go.Proofs
/- (*loop.example/teagle/impl.Disk).write -/
def r54_0 : List AOper := [ao 0 3 (.box 38 (.t 1)),
  ao 1 4 (.mv (.k (.i 0)))]
def r54_1 : List AOper := [ao 0 8 (.mv (.t 0)),
  ao 1 9 (.nck (.t 8)),
  ao 2 10 (.fa 2 (.t 9)),
  ao 3 11 (.ld 1 false (.t 10)),
  ao 4 12 (.len (.t 11)),
  ao 5 13 (.bin .eql (.t 12) (.k (.i 128))),
  ao 6 5 (.mv (.t 13))]
def r54_2 : List AOper := [ao 0 14 (.mv (.t 0)),
  ao 1 15 (.nck (.t 14)),
  ao 2 16 (.ld 3 true (.t 15)),
  au 3 17 (ru 3) (.fa 1 (.t 3)),
  au 4 18 (ru 3) (.ld 1 false (.t 17)),
  ao 5 19 (.call (.k (.c (.fn 105 []))) [(.t 16), (.t 18)]),
  au 6 20 (ru 6) (.mv (.t 0)),
  au 7 21 (ru 6) (.nck (.t 20)),
  au 8 22 (ru 6) (.ld 3 true (.t 21)),
  ao 9 23 (.call (.k (.c (.fn 111 []))) [(.t 22)]),
  au 10 24 (ru 10) (.fa 1 (.t 3)),
  au 11 25 (ru 10) (.ld 1 false (.t 24)),
  ao 12 26 (.call (.k (.c (.fn 102 []))) [(.t 23), (.t 25)]),
  ao 13 6 (.mv (.t 19)),
  ao 14 7 (.mv (.t 26))]
def r54_3 : List AOper := [ao 0 28 (.fa 0 (.t 3)),
  ao 1 29 (.ld 1 false (.t 28)),
  ao 2 30 (.call (.k (.c (.fn 106 []))) [(.t 29), (.k (.i 1)), (.k (.i 5))]),
  ao 3 31 (.un .not (.t 30)),
  ao 4 27 (.mv (.t 31))]
def r54_4 : List AOper := [ao 0 4 (.mv (.k (.i 5)))]
def c54_5 : ACode := .seq (.reg r54_4) .ret
def r54_6 : List AOper := [ao 0 33 (.fa 0 (.t 3)),
  ao 1 34 (.ld 1 false (.t 33)),
  ao 2 35 (.bin .eql (.t 34) (.k (.i 5))),
  ao 3 32 (.mv (.t 35))]
def r54_7 : List AOper := [ao 0 36 (.mv (.t 0)),
  ao 1 37 (.call (.k (.c (.fn 112 []))) [(.t 36)])]
def r54_8 : List AOper := [ao 0 4 (.mv (.k (.i 0)))]
def c54_9 : ACode := .seq (.reg r54_7) (.seq (.reg r54_8) .ret)
def r54_10 : List AOper := [ao 0 39 (.fa 0 (.t 3)),
  ao 1 40 (.ld 1 false (.t 39)),
  ao 2 41 (.bin .eql (.t 40) (.k (.i 1))),
  ao 3 42 (.mv (.t 41)),
  ag 4 43 42 true [] (.fa 1 (.t 3)),
  ag 5 44 42 true [] (.ld 1 false (.t 43)),
  ag 6 45 42 true [] (.call (.k (.c (.fn 104 []))) [(.t 44)]),
  ag 7 46 42 true [] (.un .not (.t 45)),
  ag 8 47 42 true [] (.mv (.t 46)),
  ag 9 48 47 false [] (.mv (.t 6)),
  ag 10 49 47 false [] (.bin .geq (.t 48) (.k (.i 0))),
  ag 11 50 42 true [] (.pick (.t 47) (.k (.b true)) (.t 49)),
  ao 12 51 (.pick (.t 42) (.t 50) (.k (.b false))),
  ao 13 38 (.mv (.t 51))]
def r54_11 : List AOper := [ao 0 4 (.mv (.k (.i 3)))]
def c54_12 : ACode := .seq (.reg r54_11) .ret
def r54_13 : List AOper := [ao 0 53 (.fa 0 (.t 3)),
  ao 1 54 (.ld 1 false (.t 53)),
  ao 2 55 (.bin .neq (.t 54) (.k (.i 1))),
  ao 3 56 (.mv (.t 55)),
  ag 4 57 56 true [] (.mv (.t 7)),
  ag 5 58 56 true [] (.un .not (.t 57)),
  ao 6 59 (.pick (.t 56) (.t 58) (.k (.b false))),
  ao 7 52 (.mv (.t 59))]
def r54_14 : List AOper := [ao 0 4 (.mv (.k (.i 2)))]
def c54_15 : ACode := .seq (.reg r54_14) .ret
def r54_16 : List AOper := [ao 0 61 (.fa 0 (.t 3)),
  ao 1 62 (.ld 1 false (.t 61)),
  ao 2 63 (.bin .eql (.t 62) (.k (.i 1))),
  ao 3 64 (.mv (.t 63)),
  ag 4 65 64 true [] (.mv (.t 5)),
  ag 5 66 64 true [] (.mv (.t 65)),
  ag 6 67 66 false [] (.mv (.t 0)),
  ag 7 68 66 false [] (.nck (.t 67)),
  ag 8 69 66 false [] (.fa 0 (.t 68)),
  ag 9 70 66 false [] (.ld 1 false (.t 69)),
  ag 10 71 66 false [] (.len (.t 70)),
  ag 11 72 66 false [] (.bin .eql (.t 71) (.k (.i 64))),
  ag 12 73 64 true [] (.pick (.t 66) (.k (.b true)) (.t 72)),
  ao 13 74 (.pick (.t 64) (.t 73) (.k (.b false))),
  ao 14 60 (.mv (.t 74))]
def r54_17 : List AOper := [ao 0 75 (.fa 0 (.t 3)),
  ao 1 76 (.ld 1 false (.t 75)),
  ao 2 77 (.bin .eql (.t 76) (.k (.i 4))),
  ao 3 78 (.mv (.t 77)),
  ag 4 79 78 true [] (.mv (.t 5)),
  ao 5 80 (.pick (.t 78) (.t 79) (.k (.b false))),
  ao 6 60 (.mv (.t 80))]
def c54_18 : ACode := .cond (.t 60) .skip (.reg r54_17)
def c54_19 : ACode := .seq (.reg r54_16) c54_18
def r54_20 : List AOper := [ao 0 4 (.mv (.k (.i 4)))]
def c54_21 : ACode := .seq (.reg r54_20) .ret
def r54_22 : List AOper := [ao 0 82 (.fa 0 (.t 3)),
  ao 1 83 (.ld 1 false (.t 82)),
  ao 2 84 (.bin .eql (.t 83) (.k (.i 2))),
  ao 3 85 (.mv (.t 84)),
  ag 4 86 85 true [] (.mv (.t 0)),
  ag 5 87 85 true [] (.nck (.t 86)),
  ag 6 88 85 true [] (.fa 0 (.t 87)),
  ag 7 89 85 true [] (.ld 1 false (.t 88)),
  ag 8 90 85 true [4, 5, 6, 7] (.mv (.t 6)),
  ag 9 91 85 true [] (.ia 3 (.t 89) (.t 90)),
  ag 10 92 85 true [] (.fa 1 (.t 91)),
  ag 11 93 85 true [] (.ld 1 false (.t 92)),
  ag 12 94 85 true [] (.lenS (.t 93)),
  ag 13 95 85 true [4, 5, 6, 7, 8, 9, 10, 11, 12] (.fa 2 (.t 3)),
  ag 14 96 85 true [4, 5, 6, 7, 8, 9, 10, 11, 12] (.ld 1 false (.t 95)),
  ag 15 97 85 true [4, 5, 6, 7, 8, 9, 10, 11, 12] (.lenS (.t 96)),
  ag 16 98 85 true [] (.bin .add (.t 94) (.t 97)),
  ag 17 99 85 true [] (.bin .gtr (.t 98) (.k (.i 20000))),
  ao 18 100 (.pick (.t 85) (.t 99) (.k (.b false))),
  ao 19 81 (.mv (.t 100))]
def r54_23 : List AOper := [ao 0 4 (.mv (.k (.i 4)))]
def c54_24 : ACode := .seq (.reg r54_23) .ret
def c54_25 : ACode := .cond (.t 81) c54_24 .skip
def c54_26 : ACode := .seq (.reg r54_22) c54_25
def c54_27 : ACode := .cond (.t 60) c54_21 c54_26
def c54_28 : ACode := .seq c54_19 c54_27
def c54_29 : ACode := .cond (.t 52) c54_15 c54_28
def c54_30 : ACode := .seq (.reg r54_13) c54_29
def c54_31 : ACode := .cond (.t 38) c54_12 c54_30
def c54_32 : ACode := .seq (.reg r54_10) c54_31
def c54_33 : ACode := .cond (.t 32) c54_9 c54_32
def c54_34 : ACode := .seq (.reg r54_6) c54_33
def c54_35 : ACode := .cond (.t 27) c54_5 c54_34
def c54_36 : ACode := .seq (.reg r54_3) c54_35
def c54_37 : ACode := .block 0 c54_36
def r54_38 : List AOper := [ao 0 101 (.fa 0 (.t 3)),
  ao 1 102 (.ld 1 false (.t 101))]
def r54_39 : List AOper := [ao 0 108 (.bin .eql (.t 102) (.k (.i 1))),
  ao 1 107 (.mv (.t 108))]
def r54_40 : List AOper := [ao 0 109 (.mv (.t 0)),
  au 1 110 [0] (.mv (.t 0)),
  au 2 111 [0] (.nck (.t 110)),
  au 3 112 [0] (.fa 0 (.t 111)),
  au 4 113 [0] (.ld 1 false (.t 112)),
  au 5 114 (ru 5) (.fa 1 (.t 3)),
  au 6 115 (ru 5) (.ld 1 false (.t 114)),
  au 7 116 (ru 5) (.build [(.v (.s (.string ⟨#[]⟩))), (.v (.s (.string ⟨#[]⟩))), (.v (.s (.int .i64 0)))] [(0, 1, (.t 115))]),
  au 8 117 (ru 5) (.bsl 3 88 [(.t 116)]),
  au 9 118 [0] (.app 3 88 40 (.t 113) (.t 117)),
  ao 10 119 (.nck (.t 109)),
  ao 11 120 (.fa 0 (.t 119)),
  an 12 (.st 1 (.t 120) (.t 118))]
def r54_41 : List AOper := [ao 0 121 (.mv (.t 0)),
  ao 1 122 (.fa 1 (.t 3)),
  ao 2 123 (.ld 1 false (.t 122)),
  ao 3 124 (.call (.k (.c (.fn 113 []))) [(.t 121), (.t 123), (.k (.b false))])]
def c54_42 : ACode := .seq (.reg r54_40) (.reg r54_41)
def r54_43 : List AOper := [ao 0 126 (.bin .eql (.t 102) (.k (.i 2))),
  ao 1 125 (.mv (.t 126))]
def r54_44 : List AOper := [ao 0 127 (.mv (.t 0)),
  ao 1 128 (.nck (.t 127)),
  ao 2 129 (.fa 0 (.t 128)),
  ao 3 130 (.ld 1 false (.t 129)),
  au 4 131 (ru 4) (.mv (.t 6)),
  ao 5 132 (.ia 3 (.t 130) (.t 131)),
  ao 6 133 (.fa 1 (.t 132)),
  ao 7 134 (.ld 1 false (.t 133)),
  au 8 135 (ru 8) (.fa 2 (.t 3)),
  au 9 136 (ru 8) (.ld 1 false (.t 135)),
  ao 10 137 (.bin .add (.t 134) (.t 136)),
  ao 11 138 (.ia 3 (.t 130) (.t 131)),
  ao 12 139 (.fa 1 (.t 138)),
  an 13 (.st 1 (.t 139) (.t 137))]
def r54_45 : List AOper := [ao 0 141 (.bin .eql (.t 102) (.k (.i 3))),
  ao 1 140 (.mv (.t 141))]
def r54_46 : List AOper := [ao 0 142 (.mv (.t 0)),
  ao 1 143 (.nck (.t 142)),
  ao 2 144 (.fa 0 (.t 143)),
  ao 3 145 (.ld 1 false (.t 144)),
  au 4 146 (ru 4) (.mv (.t 6)),
  au 5 147 (ru 5) (.mv (.t 0)),
  au 6 148 (ru 5) (.nck (.t 147)),
  au 7 149 (ru 5) (.fa 0 (.t 148)),
  au 8 150 (ru 5) (.ld 1 false (.t 149)),
  au 9 151 (ru 9) (.mv (.t 6)),
  au 10 152 (ru 5) (.ia 3 (.t 150) (.t 151)),
  au 11 153 (ru 5) (.fa 1 (.t 152)),
  au 12 154 (ru 5) (.ld 1 false (.t 153)),
  au 13 155 (ru 5) (.lenS (.t 154)),
  ao 14 156 (.ia 3 (.t 145) (.t 146)),
  ao 15 157 (.fa 2 (.t 156)),
  an 16 (.st 1 (.t 157) (.t 155))]
def r54_47 : List AOper := [ao 0 103 (.mv (.t 0)),
  ao 1 104 (.fa 1 (.t 3)),
  ao 2 105 (.ld 1 false (.t 104)),
  ao 3 106 (.call (.k (.c (.fn 113 []))) [(.t 103), (.t 105), (.k (.b true))])]
def c54_48 : ACode := .cond (.t 140) (.reg r54_46) (.reg r54_47)
def c54_49 : ACode := .seq (.reg r54_45) c54_48
def c54_50 : ACode := .cond (.t 125) (.reg r54_44) c54_49
def c54_51 : ACode := .seq (.reg r54_43) c54_50
def c54_52 : ACode := .cond (.t 107) c54_42 c54_51
def c54_53 : ACode := .seq (.reg r54_39) c54_52
def c54_54 : ACode := .block 1 c54_53
def c54_55 : ACode := .seq (.reg r54_38) c54_54
def r54_56 : List AOper := [ao 0 4 (.mv (.k (.i 0)))]
def c54 : ACode := .seq (.reg r54_0) (.seq (.reg r54_1) (.seq (.reg r54_2) (.seq c54_37 (.seq c54_55 (.seq (.reg r54_56) .ret)))))
def s54 : List ARes := [.tmp 4]
theorem ok54 : okF Try.prog 54 158 c54 s54 := ⟨Try.f54, Try.func54, Try.ntmps54, by kernel_rfl, by kernel_rfl, by kernel_rfl⟩
theorem UFr_1 : (type_of% (uA c54.eq_1)) ∧ (type_of% (uR r54_0.eq_1)) ∧ (type_of% (uR r54_1.eq_1)) ∧ (type_of% (uR r54_2.eq_1)) ∧ (type_of% (uA c54_37.eq_1)) ∧ (type_of% (uA c54_36.eq_1)) ∧ (type_of% (uR r54_3.eq_1)) ∧ (type_of% (uA c54_35.eq_1)) ∧ (type_of% (uA c54_5.eq_1)) ∧ (type_of% (uR r54_4.eq_1)) ∧ (type_of% (uA c54_34.eq_1)) ∧ (type_of% (uR r54_6.eq_1)) ∧ (type_of% (uA c54_33.eq_1)) ∧ (type_of% (uA c54_9.eq_1)) ∧ (type_of% (uR r54_7.eq_1)) ∧ (type_of% (uR r54_8.eq_1)) ∧ (type_of% (uA c54_32.eq_1)) ∧ (type_of% (uR r54_10.eq_1)) ∧ (type_of% (uA c54_31.eq_1)) ∧ (type_of% (uA c54_12.eq_1)) ∧ (type_of% (uR r54_11.eq_1)) ∧ (type_of% (uA c54_30.eq_1)) ∧ (type_of% (uR r54_13.eq_1)) ∧ (type_of% (uA c54_29.eq_1)) ∧ (type_of% (uA c54_15.eq_1)) ∧ (type_of% (uR r54_14.eq_1)) ∧ (type_of% (uA c54_28.eq_1)) ∧ (type_of% (uA c54_19.eq_1)) ∧ (type_of% (uR r54_16.eq_1)) ∧ (type_of% (uA c54_18.eq_1)) ∧ (type_of% (uR r54_17.eq_1)) ∧ (type_of% (uA c54_27.eq_1)) ∧ (type_of% (uA c54_21.eq_1)) ∧ (type_of% (uR r54_20.eq_1)) ∧ (type_of% (uA c54_26.eq_1)) ∧ (type_of% (uR r54_22.eq_1)) ∧ (type_of% (uA c54_25.eq_1)) ∧ (type_of% (uA c54_24.eq_1)) ∧ (type_of% (uR r54_23.eq_1)) ∧ (type_of% (uA c54_55.eq_1)) ∧ (type_of% (uR r54_38.eq_1)) ∧ (type_of% (uA c54_54.eq_1)) ∧ (type_of% (uA c54_53.eq_1)) ∧ (type_of% (uR r54_39.eq_1)) ∧ (type_of% (uA c54_52.eq_1)) ∧ (type_of% (uA c54_42.eq_1)) ∧ (type_of% (uR r54_40.eq_1)) ∧ (type_of% (uR r54_41.eq_1)) ∧ (type_of% (uA c54_51.eq_1)) ∧ (type_of% (uR r54_43.eq_1)) ∧ (type_of% (uA c54_50.eq_1)) ∧ (type_of% (uR r54_44.eq_1)) ∧ (type_of% (uA c54_49.eq_1)) ∧ (type_of% (uR r54_45.eq_1)) ∧ (type_of% (uA c54_48.eq_1)) ∧ (type_of% (uR r54_46.eq_1)) ∧ (type_of% (uR r54_47.eq_1)) ∧ (type_of% (uR r54_56.eq_1)) ∧ (type_of% s54.eq_1) :=
  ⟨uA c54.eq_1, uR r54_0.eq_1, uR r54_1.eq_1, uR r54_2.eq_1, uA c54_37.eq_1, uA c54_36.eq_1, uR r54_3.eq_1, uA c54_35.eq_1, uA c54_5.eq_1, uR r54_4.eq_1, uA c54_34.eq_1, uR r54_6.eq_1, uA c54_33.eq_1, uA c54_9.eq_1, uR r54_7.eq_1, uR r54_8.eq_1, uA c54_32.eq_1, uR r54_10.eq_1, uA c54_31.eq_1, uA c54_12.eq_1, uR r54_11.eq_1, uA c54_30.eq_1, uR r54_13.eq_1, uA c54_29.eq_1, uA c54_15.eq_1, uR r54_14.eq_1, uA c54_28.eq_1, uA c54_19.eq_1, uR r54_16.eq_1, uA c54_18.eq_1, uR r54_17.eq_1, uA c54_27.eq_1, uA c54_21.eq_1, uR r54_20.eq_1, uA c54_26.eq_1, uR r54_22.eq_1, uA c54_25.eq_1, uA c54_24.eq_1, uR r54_23.eq_1, uA c54_55.eq_1, uR r54_38.eq_1, uA c54_54.eq_1, uA c54_53.eq_1, uR r54_39.eq_1, uA c54_52.eq_1, uA c54_42.eq_1, uR r54_40.eq_1, uR r54_41.eq_1, uA c54_51.eq_1, uR r54_43.eq_1, uA c54_50.eq_1, uR r54_44.eq_1, uA c54_49.eq_1, uR r54_45.eq_1, uA c54_48.eq_1, uR r54_46.eq_1, uR r54_47.eq_1, uR r54_56.eq_1, s54.eq_1⟩
set_option maxRecDepth 20000 in
set_option maxHeartbeats 2000000 in
theorem writeD_ok (d : Dk) (w : DW) (hd : fineDk d) (_hw : fineDW w) (hD : DOk d) (k5 : w.kind = 5) (m0 m1 m2 m3 m4 m5 u v1 v2 v3 : Nat) :
    ACallsF Try.prog 54 [.c (.ptr 4001 u 0), tDW w] (dkD m0 m1 m2 m3 m4 m5 u v1 v2 v3 d ((aft d.names d.moves).map (fileOf d.files)) (aft d.names d.moves) (runI d.names d.moves).2) (.i 0) := by
  have s1 := hd.s.f
  have s2 := hd.s.n
  have s3 := hd.s.m
  have hN := hD.nmI d.moves.length (Nat.le_refl _)
  rw [List.take_length] at hN
  have hT := there_ok d hd.s 7002
  rw [hN] at hT
  have hal := aft_len d.moves d.names
  have hle : (aft d.names d.moves).length ≤ (aft d.names d.moves).length + (runI d.names d.moves).2.length := by omega
  have hin := inRange_ok w.kind 1 5
  have hx : (decide ((1 : Int) ≤ w.kind) && decide (w.kind ≤ 5)) = true := by rw [k5]; rfl
  rw [hx] at hin
  have b5 : (w.kind == 5) = true := by simp [k5]
  refine ACallsF.intro ok54 follows fun X c0 => ?_
  simp only [RUN, core, T.c, T.s, T.b, T.i, sBin, sInt, sUn, isShift, asInt, P1.cells, loadT, ptrC, storeT, putC, fillP, Nat.reduceAdd, reduceIte, Nat.reduceEqDiff, Nat.reduceLT, Nat.reduceLeDiff, reduceCtorEq, eq_self, FIT, lendCs_map, verC_map, FinC, resPs, resP, lendPl, lendCs, lendC, sealC, partsT, finHs, tupT, verT, verP, verC, verB, verAt, Blk.ver, handsAre, forall_const, CHT, disj, Nat.reduceBEq, beq_self_eq_true, APT, srcOf, sealPs, sealCs, sealC, toVs, Option.map_some, List.mem_singleton, forall_eq, ALT, UFr_1]
  refine callL (ws := dkL 1001 v1 1002 v2 1003 v3 d) (ns := [1001, 1002, 1003]) (fileAt_ok d w.name (by omega)) rfl ?_ rfl rfl ⟨?_, ?_⟩
  · simp only [RUN, core, T.c, T.s, T.b, T.i, sBin, sInt, sUn, isShift, asInt, P1.cells, loadT, ptrC, storeT, putC, fillP, Nat.reduceAdd, reduceIte, Nat.reduceEqDiff, Nat.reduceLT, Nat.reduceLeDiff, reduceCtorEq, eq_self, FIT, lendCs_map, verC_map, FinC, resPs, resP, lendPl, lendCs, lendC, sealC, partsT, finHs, tupT, verT, verP, verC, verB, verAt, Blk.ver, handsAre, forall_const, CHT, disj, Nat.reduceBEq, beq_self_eq_true, APT, srcOf, sealPs, sealCs, sealC, toVs, Option.map_some, List.mem_singleton, forall_eq, ALT, UFr_1, lendTs, lendT, dkL]
  · simp only [RUN, core, T.c, T.s, T.b, T.i, sBin, sInt, sUn, isShift, asInt, P1.cells, loadT, ptrC, storeT, putC, fillP, Nat.reduceAdd, reduceIte, Nat.reduceEqDiff, Nat.reduceLT, Nat.reduceLeDiff, reduceCtorEq, eq_self, FIT, lendCs_map, verC_map, FinC, resPs, resP, lendPl, lendCs, lendC, sealC, partsT, finHs, tupT, verT, verP, verC, verB, verAt, Blk.ver, handsAre, forall_const, CHT, disj, Nat.reduceBEq, beq_self_eq_true, APT, srcOf, sealPs, sealCs, sealC, toVs, Option.map_some, List.mem_singleton, forall_eq, ALT, UFr_1, scalarT, scalarP, scalarC]
  simp only [RUN, core, T.c, T.s, T.b, T.i, sBin, sInt, sUn, isShift, asInt, P1.cells, loadT, ptrC, storeT, putC, fillP, Nat.reduceAdd, reduceIte, Nat.reduceEqDiff, Nat.reduceLT, Nat.reduceLeDiff, reduceCtorEq, eq_self, FIT, lendCs_map, verC_map, FinC, resPs, resP, lendPl, lendCs, lendC, sealC, partsT, finHs, tupT, verT, verP, verC, verB, verAt, Blk.ver, handsAre, forall_const, CHT, disj, Nat.reduceBEq, beq_self_eq_true, APT, srcOf, sealPs, sealCs, sealC, toVs, Option.map_some, List.mem_singleton, forall_eq, ALT, UFr_1, scalarT, scalarP, scalarC]
  refine callA1 (m := 7002) (ws := dkL 1001 v1 1002 v2 1003 v3 d) (ns := [1001, 1002, 1003]) hT rfl ?_ rfl (en_flat eS eS_flat _) ⟨?_, ?_⟩
  · simp only [RUN, core, T.c, T.s, T.b, T.i, sBin, sInt, sUn, isShift, asInt, P1.cells, loadT, ptrC, storeT, putC, fillP, Nat.reduceAdd, reduceIte, Nat.reduceEqDiff, Nat.reduceLT, Nat.reduceLeDiff, reduceCtorEq, eq_self, FIT, lendCs_map, verC_map, FinC, resPs, resP, lendPl, lendCs, lendC, sealC, partsT, finHs, tupT, verT, verP, verC, verB, verAt, Blk.ver, handsAre, forall_const, CHT, disj, Nat.reduceBEq, beq_self_eq_true, APT, srcOf, sealPs, sealCs, sealC, toVs, Option.map_some, List.mem_singleton, forall_eq, ALT, UFr_1, lendTs, lendT, dkL]
  · simp only [RUN, core, T.c, T.s, T.b, T.i, sBin, sInt, sUn, isShift, asInt, P1.cells, loadT, ptrC, storeT, putC, fillP, Nat.reduceAdd, reduceIte, Nat.reduceEqDiff, Nat.reduceLT, Nat.reduceLeDiff, reduceCtorEq, eq_self, FIT, lendCs_map, verC_map, FinC, resPs, resP, lendPl, lendCs, lendC, sealC, partsT, finHs, tupT, verT, verP, verC, verB, verAt, Blk.ver, handsAre, forall_const, CHT, disj, Nat.reduceBEq, beq_self_eq_true, APT, srcOf, sealPs, sealCs, sealC, toVs, Option.map_some, List.mem_singleton, forall_eq, ALT, UFr_1]
  simp only [RUN, core, T.c, T.s, T.b, T.i, sBin, sInt, sUn, isShift, asInt, P1.cells, loadT, ptrC, storeT, putC, fillP, Nat.reduceAdd, reduceIte, Nat.reduceEqDiff, Nat.reduceLT, Nat.reduceLeDiff, reduceCtorEq, eq_self, FIT, lendCs_map, verC_map, FinC, resPs, resP, lendPl, lendCs, lendC, sealC, partsT, finHs, tupT, verT, verP, verC, verB, verAt, Blk.ver, handsAre, forall_const, CHT, disj, Nat.reduceBEq, beq_self_eq_true, APT, srcOf, sealPs, sealCs, sealC, toVs, Option.map_some, List.mem_singleton, forall_eq, ALT, UFr_1]
  refine callL (ws := [(7002, .arr (c0 + 2 + 7 + 9) false 1 9 (en eS (aft d.names d.moves ++ (runI d.names d.moves).2)))]) (ns := [7002]) (contains_ok (aft d.names d.moves) w.name (by omega)) rfl ?_ rfl rfl ⟨?_, ?_⟩
  · simp only [RUN, core, T.c, T.s, T.b, T.i, sBin, sInt, sUn, isShift, asInt, P1.cells, loadT, ptrC, storeT, putC, fillP, Nat.reduceAdd, reduceIte, Nat.reduceEqDiff, Nat.reduceLT, Nat.reduceLeDiff, reduceCtorEq, eq_self, FIT, lendCs_map, verC_map, FinC, resPs, resP, lendPl, lendCs, lendC, sealC, partsT, finHs, tupT, verT, verP, verC, verB, verAt, Blk.ver, handsAre, forall_const, CHT, disj, Nat.reduceBEq, beq_self_eq_true, APT, srcOf, sealPs, sealCs, sealC, toVs, Option.map_some, List.mem_singleton, forall_eq, ALT, UFr_1, lendTs, lendT, en_take2, hle]
  · simp only [RUN, core, T.c, T.s, T.b, T.i, sBin, sInt, sUn, isShift, asInt, P1.cells, loadT, ptrC, storeT, putC, fillP, Nat.reduceAdd, reduceIte, Nat.reduceEqDiff, Nat.reduceLT, Nat.reduceLeDiff, reduceCtorEq, eq_self, FIT, lendCs_map, verC_map, FinC, resPs, resP, lendPl, lendCs, lendC, sealC, partsT, finHs, tupT, verT, verP, verC, verB, verAt, Blk.ver, handsAre, forall_const, CHT, disj, Nat.reduceBEq, beq_self_eq_true, APT, srcOf, sealPs, sealCs, sealC, toVs, Option.map_some, List.mem_singleton, forall_eq, ALT, UFr_1, scalarT, scalarP, scalarC]
  simp only [RUN, core, T.c, T.s, T.b, T.i, sBin, sInt, sUn, isShift, asInt, P1.cells, loadT, ptrC, storeT, putC, fillP, Nat.reduceAdd, reduceIte, Nat.reduceEqDiff, Nat.reduceLT, Nat.reduceLeDiff, reduceCtorEq, eq_self, FIT, lendCs_map, verC_map, FinC, resPs, resP, lendPl, lendCs, lendC, sealC, partsT, finHs, tupT, verT, verP, verC, verB, verAt, Blk.ver, handsAre, forall_const, CHT, disj, Nat.reduceBEq, beq_self_eq_true, APT, srcOf, sealPs, sealCs, sealC, toVs, Option.map_some, List.mem_singleton, forall_eq, ALT, UFr_1, scalarT, scalarP, scalarC]
  refine callC hin rfl rfl rfl rfl ?_
  simp only [RUN, core, T.c, T.s, T.b, T.i, sBin, sInt, sUn, isShift, asInt, P1.cells, loadT, ptrC, storeT, putC, fillP, Nat.reduceAdd, reduceIte, Nat.reduceEqDiff, Nat.reduceLT, Nat.reduceLeDiff, reduceCtorEq, eq_self, FIT, lendCs_map, verC_map, FinC, resPs, resP, lendPl, lendCs, lendC, sealC, partsT, finHs, tupT, verT, verP, verC, verB, verAt, Blk.ver, handsAre, forall_const, CHT, disj, Nat.reduceBEq, beq_self_eq_true, APT, srcOf, sealPs, sealCs, sealC, toVs, Option.map_some, List.mem_singleton, forall_eq, ALT, UFr_1, b5]
  refine callDd (m0 := 4001) (m1 := 1001) (m2 := 1002) (m3 := 1003) (m4 := 10) (m5 := 7001) (dirs_ok d hd hD 4001 1001 1002 1003 10 7001 u v1 v2 v3) rfl rfl rfl rfl (by decide) rfl rfl rfl rfl ⟨rfl, ?_⟩
  simp only [RUN, core, T.c, T.s, T.b, T.i, sBin, sInt, sUn, isShift, asInt, P1.cells, loadT, ptrC, storeT, putC, fillP, Nat.reduceAdd, reduceIte, Nat.reduceEqDiff, Nat.reduceLT, Nat.reduceLeDiff, reduceCtorEq, eq_self, FIT, lendCs_map, verC_map, FinC, resPs, resP, lendPl, lendCs, lendC, sealC, partsT, finHs, tupT, verT, verP, verC, verB, verAt, Blk.ver, handsAre, forall_const, CHT, disj, Nat.reduceBEq, beq_self_eq_true, APT, srcOf, sealPs, sealCs, sealC, toVs, Option.map_some, List.mem_singleton, forall_eq, ALT, UFr_1, false_implies, and_self, imp_self]
theorem UFr_2 : (type_of% (uA c54.eq_1)) ∧ (type_of% (uR r54_0.eq_1)) ∧ (type_of% (uR r54_1.eq_1)) ∧ (type_of% (uR r54_2.eq_1)) ∧ (type_of% (uA c54_55.eq_1)) ∧ (type_of% (uR r54_38.eq_1)) ∧ (type_of% (uA c54_54.eq_1)) ∧ (type_of% (uA c54_53.eq_1)) ∧ (type_of% (uR r54_39.eq_1)) ∧ (type_of% (uA c54_52.eq_1)) ∧ (type_of% (uA c54_42.eq_1)) ∧ (type_of% (uR r54_40.eq_1)) ∧ (type_of% (uR r54_41.eq_1)) ∧ (type_of% (uA c54_51.eq_1)) ∧ (type_of% (uR r54_43.eq_1)) ∧ (type_of% (uA c54_50.eq_1)) ∧ (type_of% (uR r54_44.eq_1)) ∧ (type_of% (uA c54_49.eq_1)) ∧ (type_of% (uR r54_45.eq_1)) ∧ (type_of% (uA c54_48.eq_1)) ∧ (type_of% (uR r54_46.eq_1)) ∧ (type_of% (uR r54_47.eq_1)) ∧ (type_of% (uR r54_56.eq_1)) ∧ (type_of% s54.eq_1) :=
  ⟨uA c54.eq_1, uR r54_0.eq_1, uR r54_1.eq_1, uR r54_2.eq_1, uA c54_55.eq_1, uR r54_38.eq_1, uA c54_54.eq_1, uA c54_53.eq_1, uR r54_39.eq_1, uA c54_52.eq_1, uA c54_42.eq_1, uR r54_40.eq_1, uR r54_41.eq_1, uA c54_51.eq_1, uR r54_43.eq_1, uA c54_50.eq_1, uR r54_44.eq_1, uA c54_49.eq_1, uR r54_45.eq_1, uA c54_48.eq_1, uR r54_46.eq_1, uR r54_47.eq_1, uR r54_56.eq_1, s54.eq_1⟩
set_option maxRecDepth 20000 in
set_option maxHeartbeats 2000000 in
theorem write_ok (d : Dk) (w : DW) (hd : fineDk d) (hw : fineDW w) (hD : DOk d) (k5 : w.kind ≠ 5) (m0 m1 m2 m3 u v1 v2 v3 : Nat) :
    ACallsF Try.prog 54 [.c (.ptr 4001 u 0), tDW w] (dkW m0 m1 m2 m3 u v1 v2 v3 d (doS d w).1) (.i (doS d w).2) := by
  have s1 := hd.s.f
  have s2 := hd.s.n
  have s3 := hd.s.m
  have l1 := hD.f
  have l3 := hD.m
  have hN := hD.nmI d.moves.length (Nat.le_refl _)
  rw [List.take_length] at hN
  have hT := there_ok d hd.s 7002
  rw [hN] at hT
  have hal := aft_len d.moves d.names
  have hle : (aft d.names d.moves).length ≤ (aft d.names d.moves).length + (runI d.names d.moves).2.length := by omega
  have hin := inRange_ok w.kind 1 5
  have b5 : (w.kind == 5) = false := by simp [k5]
  have pre : ∀ r, doS d w = r → (∀ (X : Ctx) (t1 : Nat → T) (H : HMap) (c u3 : Nat), t1 0 = .c (.ptr 4001 u 0) → H 4001 = some (.var u 34 (oC 1001 v1 1002 v2 1003 v3 d)) → H 1001 = some (.arr v1 true 3 88 (en eF d.files)) → H 1002 = some (.arr v2 true 1 9 (en eS d.names)) → H 1003 = some (.arr v3 true 2 90 (en eM d.moves)) →
      t1 3 = .c (.ptr 3 u3 0) → H 3 = some (.var u3 38 [.v (.s (.int .i64 w.kind)), .v (.s (.string w.name)), .v (.s (.string w.data))]) → t1 5 = .b ((d.moves.length : Int) == 128) → t1 6 = .i (fnd d.files w.name) → t1 7 = .b (has (aft d.names d.moves) w.name) →
      wpa Try.prog X c54_37 (thenW Try.prog X (.seq c54_55 (.seq (.reg r54_56) .ret)) (endA (FinC s54 (.i r.2) (dkW m0 m1 m2 m3 u v1 v2 v3 d r.1)))) ⟨t1, H, c⟩) → ACallsF Try.prog 54 [.c (.ptr 4001 u 0), tDW w] (dkW m0 m1 m2 m3 u v1 v2 v3 d (doS d w).1) (.i (doS d w).2) := by
    intro r hr hrest
    rw [hr]
    refine ACallsF.intro ok54 follows fun X c0 => ?_
    simp only [RUN, core, T.c, T.s, T.b, T.i, sBin, sInt, sUn, isShift, asInt, P1.cells, loadT, ptrC, storeT, putC, fillP, Nat.reduceAdd, reduceIte, Nat.reduceEqDiff, Nat.reduceLT, Nat.reduceLeDiff, reduceCtorEq, eq_self, FIT, lendCs_map, verC_map, FinC, resPs, resP, lendPl, lendCs, lendC, sealC, partsT, finHs, tupT, verT, verP, verC, verB, verAt, Blk.ver, handsAre, forall_const, CHT, disj, Nat.reduceBEq, beq_self_eq_true, APT, srcOf, sealPs, sealCs, sealC, toVs, Option.map_some, List.mem_singleton, forall_eq, ALT, UFr_2]
    refine callL (ws := dkL 1001 v1 1002 v2 1003 v3 d) (ns := [1001, 1002, 1003]) (fileAt_ok d w.name (by omega)) rfl ?_ rfl rfl ⟨?_, ?_⟩
    · simp only [RUN, core, T.c, T.s, T.b, T.i, sBin, sInt, sUn, isShift, asInt, P1.cells, loadT, ptrC, storeT, putC, fillP, Nat.reduceAdd, reduceIte, Nat.reduceEqDiff, Nat.reduceLT, Nat.reduceLeDiff, reduceCtorEq, eq_self, FIT, lendCs_map, verC_map, FinC, resPs, resP, lendPl, lendCs, lendC, sealC, partsT, finHs, tupT, verT, verP, verC, verB, verAt, Blk.ver, handsAre, forall_const, CHT, disj, Nat.reduceBEq, beq_self_eq_true, APT, srcOf, sealPs, sealCs, sealC, toVs, Option.map_some, List.mem_singleton, forall_eq, ALT, UFr_2, lendTs, lendT, dkL]
    · simp only [RUN, core, T.c, T.s, T.b, T.i, sBin, sInt, sUn, isShift, asInt, P1.cells, loadT, ptrC, storeT, putC, fillP, Nat.reduceAdd, reduceIte, Nat.reduceEqDiff, Nat.reduceLT, Nat.reduceLeDiff, reduceCtorEq, eq_self, FIT, lendCs_map, verC_map, FinC, resPs, resP, lendPl, lendCs, lendC, sealC, partsT, finHs, tupT, verT, verP, verC, verB, verAt, Blk.ver, handsAre, forall_const, CHT, disj, Nat.reduceBEq, beq_self_eq_true, APT, srcOf, sealPs, sealCs, sealC, toVs, Option.map_some, List.mem_singleton, forall_eq, ALT, UFr_2, scalarT, scalarP, scalarC]
    simp only [RUN, core, T.c, T.s, T.b, T.i, sBin, sInt, sUn, isShift, asInt, P1.cells, loadT, ptrC, storeT, putC, fillP, Nat.reduceAdd, reduceIte, Nat.reduceEqDiff, Nat.reduceLT, Nat.reduceLeDiff, reduceCtorEq, eq_self, FIT, lendCs_map, verC_map, FinC, resPs, resP, lendPl, lendCs, lendC, sealC, partsT, finHs, tupT, verT, verP, verC, verB, verAt, Blk.ver, handsAre, forall_const, CHT, disj, Nat.reduceBEq, beq_self_eq_true, APT, srcOf, sealPs, sealCs, sealC, toVs, Option.map_some, List.mem_singleton, forall_eq, ALT, UFr_2, scalarT, scalarP, scalarC]
    refine callA1 (m := 7002) (ws := dkL 1001 v1 1002 v2 1003 v3 d) (ns := [1001, 1002, 1003]) hT rfl ?_ rfl (en_flat eS eS_flat _) ⟨?_, ?_⟩
    · simp only [RUN, core, T.c, T.s, T.b, T.i, sBin, sInt, sUn, isShift, asInt, P1.cells, loadT, ptrC, storeT, putC, fillP, Nat.reduceAdd, reduceIte, Nat.reduceEqDiff, Nat.reduceLT, Nat.reduceLeDiff, reduceCtorEq, eq_self, FIT, lendCs_map, verC_map, FinC, resPs, resP, lendPl, lendCs, lendC, sealC, partsT, finHs, tupT, verT, verP, verC, verB, verAt, Blk.ver, handsAre, forall_const, CHT, disj, Nat.reduceBEq, beq_self_eq_true, APT, srcOf, sealPs, sealCs, sealC, toVs, Option.map_some, List.mem_singleton, forall_eq, ALT, UFr_2, lendTs, lendT, dkL]
    · simp only [RUN, core, T.c, T.s, T.b, T.i, sBin, sInt, sUn, isShift, asInt, P1.cells, loadT, ptrC, storeT, putC, fillP, Nat.reduceAdd, reduceIte, Nat.reduceEqDiff, Nat.reduceLT, Nat.reduceLeDiff, reduceCtorEq, eq_self, FIT, lendCs_map, verC_map, FinC, resPs, resP, lendPl, lendCs, lendC, sealC, partsT, finHs, tupT, verT, verP, verC, verB, verAt, Blk.ver, handsAre, forall_const, CHT, disj, Nat.reduceBEq, beq_self_eq_true, APT, srcOf, sealPs, sealCs, sealC, toVs, Option.map_some, List.mem_singleton, forall_eq, ALT, UFr_2]
    simp only [RUN, core, T.c, T.s, T.b, T.i, sBin, sInt, sUn, isShift, asInt, P1.cells, loadT, ptrC, storeT, putC, fillP, Nat.reduceAdd, reduceIte, Nat.reduceEqDiff, Nat.reduceLT, Nat.reduceLeDiff, reduceCtorEq, eq_self, FIT, lendCs_map, verC_map, FinC, resPs, resP, lendPl, lendCs, lendC, sealC, partsT, finHs, tupT, verT, verP, verC, verB, verAt, Blk.ver, handsAre, forall_const, CHT, disj, Nat.reduceBEq, beq_self_eq_true, APT, srcOf, sealPs, sealCs, sealC, toVs, Option.map_some, List.mem_singleton, forall_eq, ALT, UFr_2]
    refine callL (ws := [(7002, .arr (c0 + 2 + 7 + 9) false 1 9 (en eS (aft d.names d.moves ++ (runI d.names d.moves).2)))]) (ns := [7002]) (contains_ok (aft d.names d.moves) w.name (by omega)) rfl ?_ rfl rfl ⟨?_, ?_⟩
    · simp only [RUN, core, T.c, T.s, T.b, T.i, sBin, sInt, sUn, isShift, asInt, P1.cells, loadT, ptrC, storeT, putC, fillP, Nat.reduceAdd, reduceIte, Nat.reduceEqDiff, Nat.reduceLT, Nat.reduceLeDiff, reduceCtorEq, eq_self, FIT, lendCs_map, verC_map, FinC, resPs, resP, lendPl, lendCs, lendC, sealC, partsT, finHs, tupT, verT, verP, verC, verB, verAt, Blk.ver, handsAre, forall_const, CHT, disj, Nat.reduceBEq, beq_self_eq_true, APT, srcOf, sealPs, sealCs, sealC, toVs, Option.map_some, List.mem_singleton, forall_eq, ALT, UFr_2, lendTs, lendT, en_take2, hle]
    · simp only [RUN, core, T.c, T.s, T.b, T.i, sBin, sInt, sUn, isShift, asInt, P1.cells, loadT, ptrC, storeT, putC, fillP, Nat.reduceAdd, reduceIte, Nat.reduceEqDiff, Nat.reduceLT, Nat.reduceLeDiff, reduceCtorEq, eq_self, FIT, lendCs_map, verC_map, FinC, resPs, resP, lendPl, lendCs, lendC, sealC, partsT, finHs, tupT, verT, verP, verC, verB, verAt, Blk.ver, handsAre, forall_const, CHT, disj, Nat.reduceBEq, beq_self_eq_true, APT, srcOf, sealPs, sealCs, sealC, toVs, Option.map_some, List.mem_singleton, forall_eq, ALT, UFr_2, scalarT, scalarP, scalarC]
    simp only [RUN, core, T.c, T.s, T.b, T.i, sBin, sInt, sUn, isShift, asInt, P1.cells, loadT, ptrC, storeT, putC, fillP, Nat.reduceAdd, reduceIte, Nat.reduceEqDiff, Nat.reduceLT, Nat.reduceLeDiff, reduceCtorEq, eq_self, FIT, lendCs_map, verC_map, FinC, resPs, resP, lendPl, lendCs, lendC, sealC, partsT, finHs, tupT, verT, verP, verC, verB, verAt, Blk.ver, handsAre, forall_const, CHT, disj, Nat.reduceBEq, beq_self_eq_true, APT, srcOf, sealPs, sealCs, sealC, toVs, Option.map_some, List.mem_singleton, forall_eq, ALT, UFr_2, scalarT, scalarP, scalarC]
    exact hrest X _ _ _ _ rfl rfl rfl rfl rfl rfl rfl rfl rfl rfl
  have fin : (False → True) = True := by simp
  by_cases kr : 1 ≤ w.kind ∧ w.kind ≤ 5
  rotate_left
  · have k1 : w.kind ≠ 1 := by omega
    have hx : (decide ((1 : Int) ≤ w.kind) && decide (w.kind ≤ 5)) = false := by
      rw [← Bool.decide_and]; exact decide_eq_false kr
    rw [hx] at hin
    refine pre (d, 5) (by simp only [doS, k1, k5, kr, if_true, if_false, not_false_eq_true]) ?_
    rintro X t1 H c u3 e0 eH0 eH1 eH2 eH3 e3 eH3v e5 e6 e7
    simp only [T.c, T.i, T.b, oC] at e0 eH0 eH1 eH2 eH3 e3 eH3v e5 e6 e7
    simp only [RUN, core, T.c, T.s, T.b, T.i, sBin, sInt, sUn, isShift, asInt, P1.cells, loadT, ptrC, storeT, putC, fillP, Nat.reduceAdd, reduceIte, Nat.reduceEqDiff, Nat.reduceLT, Nat.reduceLeDiff, reduceCtorEq, eq_self, FIT, lendCs_map, verC_map, FinC, resPs, resP, lendPl, lendCs, lendC, sealC, partsT, finHs, tupT, verT, verP, verC, verB, verAt, Blk.ver, handsAre, forall_const, CHT, disj, Nat.reduceBEq, beq_self_eq_true, APT, srcOf, sealPs, sealCs, sealC, toVs, Option.map_some, List.mem_singleton, forall_eq, ALT, UFr_1, e3, eH3v]
    refine callC hin rfl rfl rfl rfl ?_
    simp only [RUN, core, T.c, T.s, T.b, T.i, sBin, sInt, sUn, isShift, asInt, P1.cells, loadT, ptrC, storeT, putC, fillP, Nat.reduceAdd, reduceIte, Nat.reduceEqDiff, Nat.reduceLT, Nat.reduceLeDiff, reduceCtorEq, eq_self, FIT, lendCs_map, verC_map, FinC, resPs, resP, lendPl, lendCs, lendC, sealC, partsT, finHs, tupT, verT, verP, verC, verB, verAt, Blk.ver, handsAre, forall_const, CHT, disj, Nat.reduceBEq, beq_self_eq_true, APT, srcOf, sealPs, sealCs, sealC, toVs, Option.map_some, List.mem_singleton, forall_eq, ALT, UFr_1, e0, eH0, eH1, eH2, eH3, e3, eH3v, e5, e6, e7, false_implies, and_self, imp_self]
  have hx : (decide ((1 : Int) ≤ w.kind) && decide (w.kind ≤ 5)) = true := by
    rw [← Bool.decide_and]; exact decide_eq_true kr
  rw [hx] at hin
  by_cases k1 : w.kind = 1
  · have b1 : (w.kind == 1) = true := by simp [k1]
    have b1' : (w.kind != 1) = false := by simp [k1]
    have b2 : (w.kind == 2) = false := by simp [k1]
    have b4 : (w.kind == 4) = false := by simp [k1]
    by_cases n1 : nameOk w.name = false
    · refine pre (d, 3) (by simp only [doS, k1, n1, if_true, true_or]) ?_
      rintro X t1 H c u3 e0 eH0 eH1 eH2 eH3 e3 eH3v e5 e6 e7
      simp only [T.c, T.i, T.b, oC] at e0 eH0 eH1 eH2 eH3 e3 eH3v e5 e6 e7
      simp only [RUN, core, T.c, T.s, T.b, T.i, sBin, sInt, sUn, isShift, asInt, P1.cells, loadT, ptrC, storeT, putC, fillP, Nat.reduceAdd, reduceIte, Nat.reduceEqDiff, Nat.reduceLT, Nat.reduceLeDiff, reduceCtorEq, eq_self, FIT, lendCs_map, verC_map, FinC, resPs, resP, lendPl, lendCs, lendC, sealC, partsT, finHs, tupT, verT, verP, verC, verB, verAt, Blk.ver, handsAre, forall_const, CHT, disj, Nat.reduceBEq, beq_self_eq_true, APT, srcOf, sealPs, sealCs, sealC, toVs, Option.map_some, List.mem_singleton, forall_eq, ALT, UFr_1, e3, eH3v]
      refine callC hin rfl rfl rfl rfl ?_
      simp only [RUN, core, T.c, T.s, T.b, T.i, sBin, sInt, sUn, isShift, asInt, P1.cells, loadT, ptrC, storeT, putC, fillP, Nat.reduceAdd, reduceIte, Nat.reduceEqDiff, Nat.reduceLT, Nat.reduceLeDiff, reduceCtorEq, eq_self, FIT, lendCs_map, verC_map, FinC, resPs, resP, lendPl, lendCs, lendC, sealC, partsT, finHs, tupT, verT, verP, verC, verB, verAt, Blk.ver, handsAre, forall_const, CHT, disj, Nat.reduceBEq, beq_self_eq_true, APT, srcOf, sealPs, sealCs, sealC, toVs, Option.map_some, List.mem_singleton, forall_eq, ALT, UFr_1, e3, eH3v, b5, b1]
      refine callC (isName_ok w.name (by have := hw.1; omega)) rfl rfl rfl rfl ?_
      simp only [RUN, core, T.c, T.s, T.b, T.i, sBin, sInt, sUn, isShift, asInt, P1.cells, loadT, ptrC, storeT, putC, fillP, Nat.reduceAdd, reduceIte, Nat.reduceEqDiff, Nat.reduceLT, Nat.reduceLeDiff, reduceCtorEq, eq_self, FIT, lendCs_map, verC_map, FinC, resPs, resP, lendPl, lendCs, lendC, sealC, partsT, finHs, tupT, verT, verP, verC, verB, verAt, Blk.ver, handsAre, forall_const, CHT, disj, Nat.reduceBEq, beq_self_eq_true, APT, srcOf, sealPs, sealCs, sealC, toVs, Option.map_some, List.mem_singleton, forall_eq, ALT, UFr_1, e0, eH0, eH1, eH2, eH3, e3, eH3v, e5, e6, e7, n1, false_implies, and_self, imp_self]
    have n1' : nameOk w.name = true := by cases h : nameOk w.name with | true => rfl | false => exact absurd h n1
    by_cases n2 : 0 ≤ fnd d.files w.name
    · refine pre (d, 3) (by simp only [doS, k1, n2, if_true, or_true]) ?_
      rintro X t1 H c u3 e0 eH0 eH1 eH2 eH3 e3 eH3v e5 e6 e7
      simp only [T.c, T.i, T.b, oC] at e0 eH0 eH1 eH2 eH3 e3 eH3v e5 e6 e7
      simp only [RUN, core, T.c, T.s, T.b, T.i, sBin, sInt, sUn, isShift, asInt, P1.cells, loadT, ptrC, storeT, putC, fillP, Nat.reduceAdd, reduceIte, Nat.reduceEqDiff, Nat.reduceLT, Nat.reduceLeDiff, reduceCtorEq, eq_self, FIT, lendCs_map, verC_map, FinC, resPs, resP, lendPl, lendCs, lendC, sealC, partsT, finHs, tupT, verT, verP, verC, verB, verAt, Blk.ver, handsAre, forall_const, CHT, disj, Nat.reduceBEq, beq_self_eq_true, APT, srcOf, sealPs, sealCs, sealC, toVs, Option.map_some, List.mem_singleton, forall_eq, ALT, UFr_1, e3, eH3v]
      refine callC hin rfl rfl rfl rfl ?_
      simp only [RUN, core, T.c, T.s, T.b, T.i, sBin, sInt, sUn, isShift, asInt, P1.cells, loadT, ptrC, storeT, putC, fillP, Nat.reduceAdd, reduceIte, Nat.reduceEqDiff, Nat.reduceLT, Nat.reduceLeDiff, reduceCtorEq, eq_self, FIT, lendCs_map, verC_map, FinC, resPs, resP, lendPl, lendCs, lendC, sealC, partsT, finHs, tupT, verT, verP, verC, verB, verAt, Blk.ver, handsAre, forall_const, CHT, disj, Nat.reduceBEq, beq_self_eq_true, APT, srcOf, sealPs, sealCs, sealC, toVs, Option.map_some, List.mem_singleton, forall_eq, ALT, UFr_1, e3, eH3v, b5, b1]
      refine callC (isName_ok w.name (by have := hw.1; omega)) rfl rfl rfl rfl ?_
      simp only [RUN, core, T.c, T.s, T.b, T.i, sBin, sInt, sUn, isShift, asInt, P1.cells, loadT, ptrC, storeT, putC, fillP, Nat.reduceAdd, reduceIte, Nat.reduceEqDiff, Nat.reduceLT, Nat.reduceLeDiff, reduceCtorEq, eq_self, FIT, lendCs_map, verC_map, FinC, resPs, resP, lendPl, lendCs, lendC, sealC, partsT, finHs, tupT, verT, verP, verC, verB, verAt, Blk.ver, handsAre, forall_const, CHT, disj, Nat.reduceBEq, beq_self_eq_true, APT, srcOf, sealPs, sealCs, sealC, toVs, Option.map_some, List.mem_singleton, forall_eq, ALT, UFr_1, e0, eH0, eH1, eH2, eH3, e3, eH3v, e5, e6, e7, n1', ge_iff_le, n2, false_implies, and_self, imp_self]
    by_cases n3 : 64 ≤ d.files.length ∨ 128 ≤ d.moves.length
    · refine pre (d, 4) (by simp only [doS, k1, n1', n2, n3, if_true, if_false, or_self, Bool.true_eq_false]) ?_
      rintro X t1 H c u3 e0 eH0 eH1 eH2 eH3 e3 eH3v e5 e6 e7
      simp only [T.c, T.i, T.b, oC] at e0 eH0 eH1 eH2 eH3 e3 eH3v e5 e6 e7
      simp only [RUN, core, T.c, T.s, T.b, T.i, sBin, sInt, sUn, isShift, asInt, P1.cells, loadT, ptrC, storeT, putC, fillP, Nat.reduceAdd, reduceIte, Nat.reduceEqDiff, Nat.reduceLT, Nat.reduceLeDiff, reduceCtorEq, eq_self, FIT, lendCs_map, verC_map, FinC, resPs, resP, lendPl, lendCs, lendC, sealC, partsT, finHs, tupT, verT, verP, verC, verB, verAt, Blk.ver, handsAre, forall_const, CHT, disj, Nat.reduceBEq, beq_self_eq_true, APT, srcOf, sealPs, sealCs, sealC, toVs, Option.map_some, List.mem_singleton, forall_eq, ALT, UFr_1, e3, eH3v]
      refine callC hin rfl rfl rfl rfl ?_
      simp only [RUN, core, T.c, T.s, T.b, T.i, sBin, sInt, sUn, isShift, asInt, P1.cells, loadT, ptrC, storeT, putC, fillP, Nat.reduceAdd, reduceIte, Nat.reduceEqDiff, Nat.reduceLT, Nat.reduceLeDiff, reduceCtorEq, eq_self, FIT, lendCs_map, verC_map, FinC, resPs, resP, lendPl, lendCs, lendC, sealC, partsT, finHs, tupT, verT, verP, verC, verB, verAt, Blk.ver, handsAre, forall_const, CHT, disj, Nat.reduceBEq, beq_self_eq_true, APT, srcOf, sealPs, sealCs, sealC, toVs, Option.map_some, List.mem_singleton, forall_eq, ALT, UFr_1, e3, eH3v, b5, b1]
      refine callC (isName_ok w.name (by have := hw.1; omega)) rfl rfl rfl rfl ?_
      by_cases n4 : d.moves.length = 128
      · have n5 : ((d.moves.length : Int) == 128) = true := by simp [n4]
        simp only [RUN, core, T.c, T.s, T.b, T.i, sBin, sInt, sUn, isShift, asInt, P1.cells, loadT, ptrC, storeT, putC, fillP, Nat.reduceAdd, reduceIte, Nat.reduceEqDiff, Nat.reduceLT, Nat.reduceLeDiff, reduceCtorEq, eq_self, FIT, lendCs_map, verC_map, FinC, resPs, resP, lendPl, lendCs, lendC, sealC, partsT, finHs, tupT, verT, verP, verC, verB, verAt, Blk.ver, handsAre, forall_const, CHT, disj, Nat.reduceBEq, beq_self_eq_true, APT, srcOf, sealPs, sealCs, sealC, toVs, Option.map_some, List.mem_singleton, forall_eq, ALT, UFr_1, e0, eH0, eH1, eH2, eH3, e3, eH3v, e5, e6, e7, n1', ge_iff_le, n2, b1, b1', n5, false_implies, and_self, imp_self]
      · have n5 : ((d.moves.length : Int) == 128) = false := by simp; omega
        have n6 : ((d.files.length : Int) == 64) = true := by simp; omega
        simp only [RUN, core, T.c, T.s, T.b, T.i, sBin, sInt, sUn, isShift, asInt, P1.cells, loadT, ptrC, storeT, putC, fillP, Nat.reduceAdd, reduceIte, Nat.reduceEqDiff, Nat.reduceLT, Nat.reduceLeDiff, reduceCtorEq, eq_self, FIT, lendCs_map, verC_map, FinC, resPs, resP, lendPl, lendCs, lendC, sealC, partsT, finHs, tupT, verT, verP, verC, verB, verAt, Blk.ver, handsAre, forall_const, CHT, disj, Nat.reduceBEq, beq_self_eq_true, APT, srcOf, sealPs, sealCs, sealC, toVs, Option.map_some, List.mem_singleton, forall_eq, ALT, UFr_1, e0, eH0, eH1, eH2, eH3, e3, eH3v, e5, e6, e7, n1', ge_iff_le, n2, b1, b1', n5, n6, false_implies, and_self, imp_self]
    · refine pre (⟨d.files ++ [⟨w.name, ⟨#[]⟩, 0⟩], d.names, d.moves ++ [⟨false, w.name⟩]⟩, 0) (by simp only [doS, k1, n1', n2, n3, if_true, if_false, or_self, Bool.true_eq_false]) ?_
      rintro X t1 H c u3 e0 eH0 eH1 eH2 eH3 e3 eH3v e5 e6 e7
      simp only [T.c, T.i, T.b, oC] at e0 eH0 eH1 eH2 eH3 e3 eH3v e5 e6 e7
      have n5 : ((d.moves.length : Int) == 128) = false := by simp; omega
      have n6 : ((d.files.length : Int) == 64) = false := by simp; omega
      have q1 : (d.files.length + 1) * 40 ≤ 140737488355328 := by omega
      have q2 : d.files.length + 1 ≤ 9223372036854775807 := by omega
      have hmv := fun v1' => move_ok ⟨d.files ++ [⟨w.name, ⟨#[]⟩, 0⟩], d.names, d.moves⟩ ⟨by simp only [List.length_append, List.length_singleton]; omega, s2, s3⟩ w.name false 4001 1001 1002 1003 u v1' v2 v3
      simp only [RUN, core, T.c, T.s, T.b, T.i, sBin, sInt, sUn, isShift, asInt, P1.cells, loadT, ptrC, storeT, putC, fillP, Nat.reduceAdd, reduceIte, Nat.reduceEqDiff, Nat.reduceLT, Nat.reduceLeDiff, reduceCtorEq, eq_self, FIT, lendCs_map, verC_map, FinC, resPs, resP, lendPl, lendCs, lendC, sealC, partsT, finHs, tupT, verT, verP, verC, verB, verAt, Blk.ver, handsAre, forall_const, CHT, disj, Nat.reduceBEq, beq_self_eq_true, APT, srcOf, sealPs, sealCs, sealC, toVs, Option.map_some, List.mem_singleton, forall_eq, ALT, UFr_1, e3, eH3v]
      refine callC hin rfl rfl rfl rfl ?_
      simp only [RUN, core, T.c, T.s, T.b, T.i, sBin, sInt, sUn, isShift, asInt, P1.cells, loadT, ptrC, storeT, putC, fillP, Nat.reduceAdd, reduceIte, Nat.reduceEqDiff, Nat.reduceLT, Nat.reduceLeDiff, reduceCtorEq, eq_self, FIT, lendCs_map, verC_map, FinC, resPs, resP, lendPl, lendCs, lendC, sealC, partsT, finHs, tupT, verT, verP, verC, verB, verAt, Blk.ver, handsAre, forall_const, CHT, disj, Nat.reduceBEq, beq_self_eq_true, APT, srcOf, sealPs, sealCs, sealC, toVs, Option.map_some, List.mem_singleton, forall_eq, ALT, UFr_1, e3, eH3v, b5, b1]
      refine callC (isName_ok w.name (by have := hw.1; omega)) rfl rfl rfl rfl ?_
      simp only [RUN, core, T.c, T.s, T.b, T.i, sBin, sInt, sUn, isShift, asInt, P1.cells, loadT, ptrC, storeT, putC, fillP, Nat.reduceAdd, reduceIte, Nat.reduceEqDiff, Nat.reduceLT, Nat.reduceLeDiff, reduceCtorEq, eq_self, FIT, lendCs_map, verC_map, FinC, resPs, resP, lendPl, lendCs, lendC, sealC, partsT, finHs, tupT, verT, verP, verC, verB, verAt, Blk.ver, handsAre, forall_const, CHT, disj, Nat.reduceBEq, beq_self_eq_true, APT, srcOf, sealPs, sealCs, sealC, toVs, Option.map_some, List.mem_singleton, forall_eq, ALT, UFr_1, e0, eH0, eH1, eH2, eH3, e3, eH3v, e5, e6, e7, n1', ge_iff_le, n2, b1, b1', b2, b4, n5, n6, q1, q2]
      refine callDw (m0 := 4001) (m1 := 1001) (m2 := 1002) (m3 := 1003) (hmv (c + 5 + 4 + 14 + 8 + 15 + 7 + 20 + 2 + 2 + 9)) rfl rfl rfl rfl (by decide) ?_ ?_ ?_ ?_ ⟨rfl, ?_⟩
      · simp only [RUN, core, T.c, T.s, T.b, T.i, sBin, sInt, sUn, isShift, asInt, P1.cells, loadT, ptrC, storeT, putC, fillP, Nat.reduceAdd, reduceIte, Nat.reduceEqDiff, Nat.reduceLT, Nat.reduceLeDiff, reduceCtorEq, eq_self, FIT, lendCs_map, verC_map, FinC, resPs, resP, lendPl, lendCs, lendC, sealC, partsT, finHs, tupT, verT, verP, verC, verB, verAt, Blk.ver, handsAre, forall_const, CHT, disj, Nat.reduceBEq, beq_self_eq_true, APT, srcOf, sealPs, sealCs, sealC, toVs, Option.map_some, List.mem_singleton, forall_eq, ALT, UFr_1, oC]
      · simp only [RUN, core, T.c, T.s, T.b, T.i, sBin, sInt, sUn, isShift, asInt, P1.cells, loadT, ptrC, storeT, putC, fillP, Nat.reduceAdd, reduceIte, Nat.reduceEqDiff, Nat.reduceLT, Nat.reduceLeDiff, reduceCtorEq, eq_self, FIT, lendCs_map, verC_map, FinC, resPs, resP, lendPl, lendCs, lendC, sealC, partsT, finHs, tupT, verT, verP, verC, verB, verAt, Blk.ver, handsAre, forall_const, CHT, disj, Nat.reduceBEq, beq_self_eq_true, APT, srcOf, sealPs, sealCs, sealC, toVs, Option.map_some, List.mem_singleton, forall_eq, ALT, UFr_1, en_snoc, eF]
      · simp only [RUN, core, T.c, T.s, T.b, T.i, sBin, sInt, sUn, isShift, asInt, P1.cells, loadT, ptrC, storeT, putC, fillP, Nat.reduceAdd, reduceIte, Nat.reduceEqDiff, Nat.reduceLT, Nat.reduceLeDiff, reduceCtorEq, eq_self, FIT, lendCs_map, verC_map, FinC, resPs, resP, lendPl, lendCs, lendC, sealC, partsT, finHs, tupT, verT, verP, verC, verB, verAt, Blk.ver, handsAre, forall_const, CHT, disj, Nat.reduceBEq, beq_self_eq_true, APT, srcOf, sealPs, sealCs, sealC, toVs, Option.map_some, List.mem_singleton, forall_eq, ALT, UFr_1, eH2]
      · simp only [RUN, core, T.c, T.s, T.b, T.i, sBin, sInt, sUn, isShift, asInt, P1.cells, loadT, ptrC, storeT, putC, fillP, Nat.reduceAdd, reduceIte, Nat.reduceEqDiff, Nat.reduceLT, Nat.reduceLeDiff, reduceCtorEq, eq_self, FIT, lendCs_map, verC_map, FinC, resPs, resP, lendPl, lendCs, lendC, sealC, partsT, finHs, tupT, verT, verP, verC, verB, verAt, Blk.ver, handsAre, forall_const, CHT, disj, Nat.reduceBEq, beq_self_eq_true, APT, srcOf, sealPs, sealCs, sealC, toVs, Option.map_some, List.mem_singleton, forall_eq, ALT, UFr_1, eH3]
      simp only [RUN, core, T.c, T.s, T.b, T.i, sBin, sInt, sUn, isShift, asInt, P1.cells, loadT, ptrC, storeT, putC, fillP, Nat.reduceAdd, reduceIte, Nat.reduceEqDiff, Nat.reduceLT, Nat.reduceLeDiff, reduceCtorEq, eq_self, FIT, lendCs_map, verC_map, FinC, resPs, resP, lendPl, lendCs, lendC, sealC, partsT, finHs, tupT, verT, verP, verC, verB, verAt, Blk.ver, handsAre, forall_const, CHT, disj, Nat.reduceBEq, beq_self_eq_true, APT, srcOf, sealPs, sealCs, sealC, toVs, Option.map_some, List.mem_singleton, forall_eq, ALT, UFr_1, false_implies, and_self, imp_self]
  have b1 : (w.kind == 1) = false := by simp [k1]
  have b1' : (w.kind != 1) = true := by simp [k1]
  cases hh : has (aft d.names d.moves) w.name with
  | false =>
    refine pre (d, 2) (by simp only [doS, k1, k5, kr, hh, if_true, if_false, not_true_eq_false, and_self]) ?_
    rintro X t1 H c u3 e0 eH0 eH1 eH2 eH3 e3 eH3v e5 e6 e7
    simp only [T.c, T.i, T.b, oC] at e0 eH0 eH1 eH2 eH3 e3 eH3v e5 e6 e7
    rw [hh] at e7
    simp only [RUN, core, T.c, T.s, T.b, T.i, sBin, sInt, sUn, isShift, asInt, P1.cells, loadT, ptrC, storeT, putC, fillP, Nat.reduceAdd, reduceIte, Nat.reduceEqDiff, Nat.reduceLT, Nat.reduceLeDiff, reduceCtorEq, eq_self, FIT, lendCs_map, verC_map, FinC, resPs, resP, lendPl, lendCs, lendC, sealC, partsT, finHs, tupT, verT, verP, verC, verB, verAt, Blk.ver, handsAre, forall_const, CHT, disj, Nat.reduceBEq, beq_self_eq_true, APT, srcOf, sealPs, sealCs, sealC, toVs, Option.map_some, List.mem_singleton, forall_eq, ALT, UFr_1, e3, eH3v]
    refine callC hin rfl rfl rfl rfl ?_
    simp only [RUN, core, T.c, T.s, T.b, T.i, sBin, sInt, sUn, isShift, asInt, P1.cells, loadT, ptrC, storeT, putC, fillP, Nat.reduceAdd, reduceIte, Nat.reduceEqDiff, Nat.reduceLT, Nat.reduceLeDiff, reduceCtorEq, eq_self, FIT, lendCs_map, verC_map, FinC, resPs, resP, lendPl, lendCs, lendC, sealC, partsT, finHs, tupT, verT, verP, verC, verB, verAt, Blk.ver, handsAre, forall_const, CHT, disj, Nat.reduceBEq, beq_self_eq_true, APT, srcOf, sealPs, sealCs, sealC, toVs, Option.map_some, List.mem_singleton, forall_eq, ALT, UFr_1, e0, eH0, eH1, eH2, eH3, e3, eH3v, e5, e6, e7, b5, b1, b1', false_implies, and_self, imp_self]
  | true =>
  obtain ⟨i, hi1, hi2, hi3⟩ := hD.find (DOk.aft_made (n := d.moves.length) (x := w.name) (by rw [List.take_length]; exact has_true.1 hh))
  generalize hf : fileOf d.files w.name = f at *
  have hF := hD.files i f hi2
  have hfs := hF.data
  have ei := en_at eF hi2
  have gi : (0 : Int) ≤ i := by omega
  have gil := (List.getElem?_eq_some_iff.1 hi2).1
  have gil2 : (i : Int) < d.files.length := by omega
  have hwd := hw.2
  have gw : IntKind.i64.wrap ((f.data.size : Int) + (w.data.size : Int)) = ((f.data.size + w.data.size : Nat) : Int) := (wrap64 (x := (f.data.size : Int) + (w.data.size : Int)) ⟨by omega, by omega⟩).trans (by omega)
  by_cases k2 : w.kind = 2
  · have b2 : (w.kind == 2) = true := by simp [k2]
    have b4 : (w.kind == 4) = false := by simp [k2]
    by_cases p : 20000 < f.data.size + w.data.size
    · refine pre (d, 4) (by have h21 : ¬ (2 : Int) = 1 := (by omega); have h25 : ¬ (2 : Int) = 5 := (by omega); have hr2 : (1 : Int) ≤ 2 ∧ (2 : Int) ≤ 5 := (by omega); simp only [doS, k2, h21, h25, hr2, hh, hf, p, if_true, if_false, not_true_eq_false, and_self, Bool.true_eq_false]) ?_
      rintro X t1 H c u3 e0 eH0 eH1 eH2 eH3 e3 eH3v e5 e6 e7
      simp only [T.c, T.i, T.b, oC] at e0 eH0 eH1 eH2 eH3 e3 eH3v e5 e6 e7
      rw [hh] at e7
      rw [hi1] at e6
      have p' : ((f.data.size + w.data.size : Nat) : Int) > 20000 := by omega
      simp only [RUN, core, T.c, T.s, T.b, T.i, sBin, sInt, sUn, isShift, asInt, P1.cells, loadT, ptrC, storeT, putC, fillP, Nat.reduceAdd, reduceIte, Nat.reduceEqDiff, Nat.reduceLT, Nat.reduceLeDiff, reduceCtorEq, eq_self, FIT, lendCs_map, verC_map, FinC, resPs, resP, lendPl, lendCs, lendC, sealC, partsT, finHs, tupT, verT, verP, verC, verB, verAt, Blk.ver, handsAre, forall_const, CHT, disj, Nat.reduceBEq, beq_self_eq_true, APT, srcOf, sealPs, sealCs, sealC, toVs, Option.map_some, List.mem_singleton, forall_eq, ALT, UFr_1, e3, eH3v]
      refine callC hin rfl rfl rfl rfl ?_
      simp only [RUN, core, T.c, T.s, T.b, T.i, sBin, sInt, sUn, isShift, asInt, P1.cells, loadT, ptrC, storeT, putC, fillP, Nat.reduceAdd, reduceIte, Nat.reduceEqDiff, Nat.reduceLT, Nat.reduceLeDiff, reduceCtorEq, eq_self, FIT, lendCs_map, verC_map, FinC, resPs, resP, lendPl, lendCs, lendC, sealC, partsT, finHs, tupT, verT, verP, verC, verB, verAt, Blk.ver, handsAre, forall_const, CHT, disj, Nat.reduceBEq, beq_self_eq_true, APT, srcOf, sealPs, sealCs, sealC, toVs, Option.map_some, List.mem_singleton, forall_eq, ALT, UFr_1, e0, eH0, eH1, eH2, eH3, e3, eH3v, e5, e6, e7, b5, b1, b1', b2, b4, gi, gil2, ei, eF, gw, p', false_implies, and_self, imp_self]
    · refine pre (⟨d.files.set i ⟨f.name, f.data ++ w.data, f.kept⟩, d.names, d.moves⟩, 0) (by have h21 : ¬ (2 : Int) = 1 := (by omega); have h25 : ¬ (2 : Int) = 5 := (by omega); have hr2 : (1 : Int) ≤ 2 ∧ (2 : Int) ≤ 5 := (by omega); simp only [doS, k2, h21, h25, hr2, hh, hf, p, hi1, Int.toNat_natCast, if_true, if_false, not_true_eq_false, and_self, Bool.true_eq_false]) ?_
      rintro X t1 H c u3 e0 eH0 eH1 eH2 eH3 e3 eH3v e5 e6 e7
      simp only [T.c, T.i, T.b, oC] at e0 eH0 eH1 eH2 eH3 e3 eH3v e5 e6 e7
      rw [hh] at e7
      rw [hi1] at e6
      have p' : ¬ ((f.data.size + w.data.size : Nat) : Int) > 20000 := by omega
      have hsz : f.data.size + w.data.size ≤ 9223372036854775807 := by omega
      have hn : (en eF d.files).set i [.s (.string f.name), .s (.string (f.data ++ w.data)), .s (.int .i64 f.kept)] = en eF (d.files.set i ⟨f.name, f.data ++ w.data, f.kept⟩) := en_set eF d.files i ⟨f.name, f.data ++ w.data, f.kept⟩
      simp only [RUN, core, T.c, T.s, T.b, T.i, sBin, sInt, sUn, isShift, asInt, P1.cells, loadT, ptrC, storeT, putC, fillP, Nat.reduceAdd, reduceIte, Nat.reduceEqDiff, Nat.reduceLT, Nat.reduceLeDiff, reduceCtorEq, eq_self, FIT, lendCs_map, verC_map, FinC, resPs, resP, lendPl, lendCs, lendC, sealC, partsT, finHs, tupT, verT, verP, verC, verB, verAt, Blk.ver, handsAre, forall_const, CHT, disj, Nat.reduceBEq, beq_self_eq_true, APT, srcOf, sealPs, sealCs, sealC, toVs, Option.map_some, List.mem_singleton, forall_eq, ALT, UFr_1, e3, eH3v]
      refine callC hin rfl rfl rfl rfl ?_
      simp only [RUN, core, T.c, T.s, T.b, T.i, sBin, sInt, sUn, isShift, asInt, P1.cells, loadT, ptrC, storeT, putC, fillP, Nat.reduceAdd, reduceIte, Nat.reduceEqDiff, Nat.reduceLT, Nat.reduceLeDiff, reduceCtorEq, eq_self, FIT, lendCs_map, verC_map, FinC, resPs, resP, lendPl, lendCs, lendC, sealC, partsT, finHs, tupT, verT, verP, verC, verB, verAt, Blk.ver, handsAre, forall_const, CHT, disj, Nat.reduceBEq, beq_self_eq_true, APT, srcOf, sealPs, sealCs, sealC, toVs, Option.map_some, List.mem_singleton, forall_eq, ALT, UFr_1, e0, eH0, eH1, eH2, eH3, e3, eH3v, e5, e6, e7, b5, b1, b1', b2, b4, gi, gil2, ei, eF, gw, p', sStr, hsz, hn, List.length_set, false_implies, and_self, imp_self]
  have b2 : (w.kind == 2) = false := by simp [k2]
  by_cases k3 : w.kind = 3
  · have b3 : (w.kind == 3) = true := by simp [k3]
    have b4 : (w.kind == 4) = false := by simp [k3]
    refine pre (⟨d.files.set i ⟨f.name, f.data, f.data.size⟩, d.names, d.moves⟩, 0) (by have h21 : ¬ (3 : Int) = 1 := (by omega); have h25 : ¬ (3 : Int) = 5 := (by omega); have h32 : ¬ (3 : Int) = 2 := (by omega); have hr2 : (1 : Int) ≤ 3 ∧ (3 : Int) ≤ 5 := (by omega); simp only [doS, k3, h21, h25, h32, hr2, hh, hf, hi1, Int.toNat_natCast, if_true, if_false, not_true_eq_false, and_self, Bool.true_eq_false]) ?_
    rintro X t1 H c u3 e0 eH0 eH1 eH2 eH3 e3 eH3v e5 e6 e7
    simp only [T.c, T.i, T.b, oC] at e0 eH0 eH1 eH2 eH3 e3 eH3v e5 e6 e7
    rw [hh] at e7
    rw [hi1] at e6
    have hn : (en eF d.files).set i [.s (.string f.name), .s (.string f.data), .s (.int .i64 (f.data.size : Int))] = en eF (d.files.set i ⟨f.name, f.data, f.data.size⟩) := en_set eF d.files i ⟨f.name, f.data, f.data.size⟩
    simp only [RUN, core, T.c, T.s, T.b, T.i, sBin, sInt, sUn, isShift, asInt, P1.cells, loadT, ptrC, storeT, putC, fillP, Nat.reduceAdd, reduceIte, Nat.reduceEqDiff, Nat.reduceLT, Nat.reduceLeDiff, reduceCtorEq, eq_self, FIT, lendCs_map, verC_map, FinC, resPs, resP, lendPl, lendCs, lendC, sealC, partsT, finHs, tupT, verT, verP, verC, verB, verAt, Blk.ver, handsAre, forall_const, CHT, disj, Nat.reduceBEq, beq_self_eq_true, APT, srcOf, sealPs, sealCs, sealC, toVs, Option.map_some, List.mem_singleton, forall_eq, ALT, UFr_1, e3, eH3v]
    refine callC hin rfl rfl rfl rfl ?_
    simp only [RUN, core, T.c, T.s, T.b, T.i, sBin, sInt, sUn, isShift, asInt, P1.cells, loadT, ptrC, storeT, putC, fillP, Nat.reduceAdd, reduceIte, Nat.reduceEqDiff, Nat.reduceLT, Nat.reduceLeDiff, reduceCtorEq, eq_self, FIT, lendCs_map, verC_map, FinC, resPs, resP, lendPl, lendCs, lendC, sealC, partsT, finHs, tupT, verT, verP, verC, verB, verAt, Blk.ver, handsAre, forall_const, CHT, disj, Nat.reduceBEq, beq_self_eq_true, APT, srcOf, sealPs, sealCs, sealC, toVs, Option.map_some, List.mem_singleton, forall_eq, ALT, UFr_1, e0, eH0, eH1, eH2, eH3, e3, eH3v, e5, e6, e7, b5, b1, b1', b2, b3, b4, gi, gil2, ei, eF, hn, List.length_set, false_implies, and_self, imp_self]
  have b3 : (w.kind == 3) = false := by simp [k3]
  have b4 : (w.kind == 4) = true := by have : w.kind = 4 := by omega
                                       simp [this]
  by_cases p : 128 ≤ d.moves.length
  · refine pre (d, 4) (by simp only [doS, k1, k5, k2, k3, kr, hh, p, if_true, if_false, not_true_eq_false, and_self, Bool.true_eq_false]) ?_
    rintro X t1 H c u3 e0 eH0 eH1 eH2 eH3 e3 eH3v e5 e6 e7
    simp only [T.c, T.i, T.b, oC] at e0 eH0 eH1 eH2 eH3 e3 eH3v e5 e6 e7
    rw [hh] at e7
    have n5 : ((d.moves.length : Int) == 128) = true := by simp; omega
    simp only [RUN, core, T.c, T.s, T.b, T.i, sBin, sInt, sUn, isShift, asInt, P1.cells, loadT, ptrC, storeT, putC, fillP, Nat.reduceAdd, reduceIte, Nat.reduceEqDiff, Nat.reduceLT, Nat.reduceLeDiff, reduceCtorEq, eq_self, FIT, lendCs_map, verC_map, FinC, resPs, resP, lendPl, lendCs, lendC, sealC, partsT, finHs, tupT, verT, verP, verC, verB, verAt, Blk.ver, handsAre, forall_const, CHT, disj, Nat.reduceBEq, beq_self_eq_true, APT, srcOf, sealPs, sealCs, sealC, toVs, Option.map_some, List.mem_singleton, forall_eq, ALT, UFr_1, e3, eH3v]
    refine callC hin rfl rfl rfl rfl ?_
    simp only [RUN, core, T.c, T.s, T.b, T.i, sBin, sInt, sUn, isShift, asInt, P1.cells, loadT, ptrC, storeT, putC, fillP, Nat.reduceAdd, reduceIte, Nat.reduceEqDiff, Nat.reduceLT, Nat.reduceLeDiff, reduceCtorEq, eq_self, FIT, lendCs_map, verC_map, FinC, resPs, resP, lendPl, lendCs, lendC, sealC, partsT, finHs, tupT, verT, verP, verC, verB, verAt, Blk.ver, handsAre, forall_const, CHT, disj, Nat.reduceBEq, beq_self_eq_true, APT, srcOf, sealPs, sealCs, sealC, toVs, Option.map_some, List.mem_singleton, forall_eq, ALT, UFr_1, e0, eH0, eH1, eH2, eH3, e3, eH3v, e5, e6, e7, b5, b1, b1', b2, b3, b4, n5, false_implies, and_self, imp_self]
  · refine pre (⟨d.files, d.names, d.moves ++ [⟨true, w.name⟩]⟩, 0) (by simp only [doS, k1, k5, k2, k3, kr, hh, p, if_true, if_false, not_true_eq_false, and_self, Bool.true_eq_false]) ?_
    rintro X t1 H c u3 e0 eH0 eH1 eH2 eH3 e3 eH3v e5 e6 e7
    simp only [T.c, T.i, T.b, oC] at e0 eH0 eH1 eH2 eH3 e3 eH3v e5 e6 e7
    rw [hh] at e7
    have n5 : ((d.moves.length : Int) == 128) = false := by simp; omega
    simp only [RUN, core, T.c, T.s, T.b, T.i, sBin, sInt, sUn, isShift, asInt, P1.cells, loadT, ptrC, storeT, putC, fillP, Nat.reduceAdd, reduceIte, Nat.reduceEqDiff, Nat.reduceLT, Nat.reduceLeDiff, reduceCtorEq, eq_self, FIT, lendCs_map, verC_map, FinC, resPs, resP, lendPl, lendCs, lendC, sealC, partsT, finHs, tupT, verT, verP, verC, verB, verAt, Blk.ver, handsAre, forall_const, CHT, disj, Nat.reduceBEq, beq_self_eq_true, APT, srcOf, sealPs, sealCs, sealC, toVs, Option.map_some, List.mem_singleton, forall_eq, ALT, UFr_1, e3, eH3v]
    refine callC hin rfl rfl rfl rfl ?_
    simp only [RUN, core, T.c, T.s, T.b, T.i, sBin, sInt, sUn, isShift, asInt, P1.cells, loadT, ptrC, storeT, putC, fillP, Nat.reduceAdd, reduceIte, Nat.reduceEqDiff, Nat.reduceLT, Nat.reduceLeDiff, reduceCtorEq, eq_self, FIT, lendCs_map, verC_map, FinC, resPs, resP, lendPl, lendCs, lendC, sealC, partsT, finHs, tupT, verT, verP, verC, verB, verAt, Blk.ver, handsAre, forall_const, CHT, disj, Nat.reduceBEq, beq_self_eq_true, APT, srcOf, sealPs, sealCs, sealC, toVs, Option.map_some, List.mem_singleton, forall_eq, ALT, UFr_1, e0, eH0, eH1, eH2, eH3, e3, eH3v, e5, e6, e7, b5, b1, b1', b2, b3, b4, n5]
    refine callDw (m0 := 4001) (m1 := 1001) (m2 := 1002) (m3 := 1003) (move_ok d hd.s w.name true 4001 1001 1002 1003 u v1 v2 v3) rfl rfl rfl rfl (by decide) ?_ ?_ ?_ ?_ ⟨rfl, ?_⟩
    · simp only [RUN, core, T.c, T.s, T.b, T.i, sBin, sInt, sUn, isShift, asInt, P1.cells, loadT, ptrC, storeT, putC, fillP, Nat.reduceAdd, reduceIte, Nat.reduceEqDiff, Nat.reduceLT, Nat.reduceLeDiff, reduceCtorEq, eq_self, FIT, lendCs_map, verC_map, FinC, resPs, resP, lendPl, lendCs, lendC, sealC, partsT, finHs, tupT, verT, verP, verC, verB, verAt, Blk.ver, handsAre, forall_const, CHT, disj, Nat.reduceBEq, beq_self_eq_true, APT, srcOf, sealPs, sealCs, sealC, toVs, Option.map_some, List.mem_singleton, forall_eq, ALT, UFr_1, eH0, oC]
    · simp only [RUN, core, T.c, T.s, T.b, T.i, sBin, sInt, sUn, isShift, asInt, P1.cells, loadT, ptrC, storeT, putC, fillP, Nat.reduceAdd, reduceIte, Nat.reduceEqDiff, Nat.reduceLT, Nat.reduceLeDiff, reduceCtorEq, eq_self, FIT, lendCs_map, verC_map, FinC, resPs, resP, lendPl, lendCs, lendC, sealC, partsT, finHs, tupT, verT, verP, verC, verB, verAt, Blk.ver, handsAre, forall_const, CHT, disj, Nat.reduceBEq, beq_self_eq_true, APT, srcOf, sealPs, sealCs, sealC, toVs, Option.map_some, List.mem_singleton, forall_eq, ALT, UFr_1, eH1]
    · simp only [RUN, core, T.c, T.s, T.b, T.i, sBin, sInt, sUn, isShift, asInt, P1.cells, loadT, ptrC, storeT, putC, fillP, Nat.reduceAdd, reduceIte, Nat.reduceEqDiff, Nat.reduceLT, Nat.reduceLeDiff, reduceCtorEq, eq_self, FIT, lendCs_map, verC_map, FinC, resPs, resP, lendPl, lendCs, lendC, sealC, partsT, finHs, tupT, verT, verP, verC, verB, verAt, Blk.ver, handsAre, forall_const, CHT, disj, Nat.reduceBEq, beq_self_eq_true, APT, srcOf, sealPs, sealCs, sealC, toVs, Option.map_some, List.mem_singleton, forall_eq, ALT, UFr_1, eH2]
    · simp only [RUN, core, T.c, T.s, T.b, T.i, sBin, sInt, sUn, isShift, asInt, P1.cells, loadT, ptrC, storeT, putC, fillP, Nat.reduceAdd, reduceIte, Nat.reduceEqDiff, Nat.reduceLT, Nat.reduceLeDiff, reduceCtorEq, eq_self, FIT, lendCs_map, verC_map, FinC, resPs, resP, lendPl, lendCs, lendC, sealC, partsT, finHs, tupT, verT, verP, verC, verB, verAt, Blk.ver, handsAre, forall_const, CHT, disj, Nat.reduceBEq, beq_self_eq_true, APT, srcOf, sealPs, sealCs, sealC, toVs, Option.map_some, List.mem_singleton, forall_eq, ALT, UFr_1, eH3]
    simp only [RUN, core, T.c, T.s, T.b, T.i, sBin, sInt, sUn, isShift, asInt, P1.cells, loadT, ptrC, storeT, putC, fillP, Nat.reduceAdd, reduceIte, Nat.reduceEqDiff, Nat.reduceLT, Nat.reduceLeDiff, reduceCtorEq, eq_self, FIT, lendCs_map, verC_map, FinC, resPs, resP, lendPl, lendCs, lendC, sealC, partsT, finHs, tupT, verT, verP, verC, verB, verAt, Blk.ver, handsAre, forall_const, CHT, disj, Nat.reduceBEq, beq_self_eq_true, APT, srcOf, sealPs, sealCs, sealC, toVs, Option.map_some, List.mem_singleton, forall_eq, ALT, UFr_1, false_implies, and_self, imp_self]
end Go.V
set_option linter.unusedSimpArgs false
namespace Go.V
open Go.Proofs
/-- An empty disk of nil slices is one of empty arrays, too. -/
theorem ownNil3 {P : Program} {f : FuncId} {args : List T} {c1 c2 c3 m1 m2 m3 : Nat} {n : Int} (hcs : c1 ≠ c2 ∧ c1 ≠ c3 ∧ c2 ≠ c3) (h : ACallsF P f args [] (.tup [.agg [.nil0, .nil0, .nil0], .one (.v (.s (.int .i64 n)))])) :
    ACallsF P f args (dkH c1 c2 c3 m1 m2 m3 ⟨[], [], []⟩) (.tup [oDk c1 0 c2 0 c3 0 ⟨[], [], []⟩, .one (.v (.s (.int .i64 n)))]) := by
  obtain ⟨h12, h13, h23⟩ := hcs
  refine ⟨h.1, fun w imm L c vs hH hT => ?_⟩
  have e0 : hinOf (dkH c1 c2 c3 m1 m2 m3 ⟨[], [], []⟩) = hinOf [] := by
    funext k; simp only [hinOf_cons, hinOf_nil]; split; rfl; split; rfl; split <;> rfl
  rw [e0] at hH hT ⊢
  refine (h.2 w imm L c vs hH hT).mono ?_
  rintro e w' ⟨x, r, h', imm', L', c', he, ⟨ν, hr, _⟩, hx, hHo, hS, hN, hE⟩
  subst hr
  obtain ⟨xs, rfl, hxl, hxp⟩ : ∃ xs : List Value, x = .tuple xs.toArray ∧ xs.length = 2 ∧ ∀ (k : Nat) u y, xs[k]? = some u → [P1.agg [.nil0, .nil0, .nil0], .one (.v (.s (.int .i64 n)))][k]? = some y → PRep w' imm' h' L' (· < c') u y := hx
  obtain ⟨a, b, rfl⟩ : ∃ a b, xs = [a, b] := by
    match xs, hxl with
    | [a, b], _ => exact ⟨a, b, rfl⟩
  obtain ⟨ys, rfl, hyl, hyp⟩ : ∃ ys : List Value, a = .agg ys.toArray ∧ CsRep w' imm' h' L' (· < c') ys [.nil0, .nil0, .nil0] := hxp 0 a _ rfl rfl
  obtain ⟨y1, y2, y3, rfl⟩ : ∃ y1 y2 y3, ys = [y1, y2, y3] := by
    match ys, hyl with
    | [y1, y2, y3], _ => exact ⟨y1, y2, y3, rfl⟩
  obtain ⟨a1, rfl⟩ : ∃ a, y1 = .slice a 0 0 := hyp 0 y1 _ rfl rfl
  obtain ⟨a2, rfl⟩ : ∃ a, y2 = .slice a 0 0 := hyp 1 y2 _ rfl rfl
  obtain ⟨a3, rfl⟩ : ∃ a, y3 = .slice a 0 0 := hyp 2 y3 _ rfl rfl
  have hb : PRep w' imm' h' L' (· < c') b (.one (.v (.s (.int .i64 n)))) := hxp 1 b _ rfl rfl
  have hcc : c ≤ c' := by
    rcases Nat.eq_zero_or_pos c with h0 | h0
    · omega
    · have := hE.use (c - 1) (by omega); omega
  let hn : HMap := fun k => if k = c1 then some (.arr c' true 3 88 []) else if k = c2 then some (.arr c' true 1 9 []) else if k = c3 then some (.arr c' true 2 90 []) else none
  have hnk : ∀ k B, hn k = some B → ∃ st ty, 0 < st ∧ B = .arr c' true st ty [] := fun k B hk => by
    simp only [hn] at hk
    split at hk
    · cases hk; exact ⟨3, 88, by decide, rfl⟩
    · split at hk
      · cases hk; exact ⟨1, 9, by decide, rfl⟩
      · split at hk
        · cases hk; exact ⟨2, 90, by decide, rfl⟩
        · cases hk
  have own : ∀ a cc, CRep w' imm' hn (fun _ => none) (· < c' + 1) (.slice a 0 0) (.own cc c' 0) := fun a cc =>
    ⟨Nat.lt_succ_self _, ⟨a, 0, rfl, Nat.le_refl _⟩, fun wr st' ty' es hes => ⟨Nat.zero_le _, .inl ⟨a, rfl, rfl⟩⟩⟩
  refine ⟨.tuple #[.agg #[.slice a1 0 0, .slice a2 0 0, .slice a3 0 0], b], .tup [oDk c1 c' c2 c' c3 c' ⟨[], [], []⟩, .one (.v (.s (.int .i64 n)))], hn, imm', fun _ => none, c' + 1, he, ⟨fun _ => c', rfl, fun k hd hh => ?_⟩, ?_, ⟨fun k B hB => ?_, fun _ _ g _ _ hg => (by cases hg), hHo.imm⟩, hS, fun _ g _ hg => (by cases hg), ⟨fun v hv => ?_, fun k ver ty' cs hu hk => ?_, fun k ver wr st' ty' es hu hk => ?_, fun k ver wr st' ty' es g cur hu hk hg => (by cases hg)⟩⟩
  · obtain ⟨h1, h2⟩ := renN_mem hh
    simp only [List.mem_cons, List.not_mem_nil, or_false] at h1
    rcases h1 with rfl | rfl | rfl
    · have : c1 = k := h2
      subst this; simp [hn, newH, verB, en_nil]
    · have : c2 = k := h2
      subst this; simp [hn, newH, verB, en_nil, h12.symm]
    · have : c3 = k := h2
      subst this; simp [hn, newH, verB, en_nil, h13.symm, h23.symm]
  · refine ⟨[.agg #[.slice a1 0 0, .slice a2 0 0, .slice a3 0 0], b], rfl, rfl, fun k u y hu hy => ?_⟩
    cases k with
    | zero =>
      simp only [List.getElem?_cons_zero, Option.some.injEq] at hu hy
      subst hu hy
      refine ⟨[.slice a1 0 0, .slice a2 0 0, .slice a3 0 0], rfl, rfl, fun j x y hx hy => ?_⟩
      match j, hx, hy with
      | 0, hx, hy => cases hx; cases hy; exact own _ _
      | 1, hx, hy => cases hx; cases hy; exact own _ _
      | 2, hx, hy => cases hx; cases hy; exact own _ _
      | j + 3, hx, hy => simp at hx
    | succ k =>
      cases k with
      | zero =>
        simp only [List.getElem?_cons_succ, List.getElem?_cons_zero, Option.some.injEq] at hu hy
        subst hu hy
        exact PRep.scalar hb rfl
      | succ k => simp at hu
  · obtain ⟨st, ty, h1, rfl⟩ := hnk k B hB
    exact ⟨Nat.lt_succ_self _, h1, fun e he => (by cases he), .inl ⟨rfl, rfl⟩⟩
  · have := hE.use v hv; omega
  · obtain ⟨st, ty, _, h2⟩ := hnk k _ hk; cases h2
  · obtain ⟨st, ty, _, h2⟩ := hnk k _ hk
    cases h2; omega
/- loop.example/teagle/impl.DiskDo -/
def r12_0 : List AOper := [ao 0 2 (.box 34 (.t 0)),
  ao 1 3 (.box 38 (.t 1)),
  ao 2 4 (.alloc 34 [.nil0, .nil0, .nil0]),
  ao 3 5 (.mv (.k (.i 0)))]
def r12_1 : List AOper := [ao 0 8 (.ld 3 true (.t 2)),
  ao 1 9 (.call (.k (.c (.fn 52 []))) [(.t 8)]),
  ao 2 10 (.un .not (.t 9))]
def r12_2 : List AOper := [ao 0 11 (.build [.nil0, .nil0, .nil0] []),
  an 1 (.st 3 (.t 4) (.t 11)),
  ao 2 5 (.mv (.k (.i 1)))]
def c12_3 : ACode := .seq (.reg r12_2) .ret
def c12_4 : ACode := .cond (.t 10) c12_3 .skip
def c12_5 : ACode := .seq (.reg r12_1) c12_4
def r12_6 : List AOper := [ao 0 12 (.ld 3 true (.t 2)),
  ao 1 13 (.call (.k (.c (.fn 53 []))) [(.t 12)]),
  ao 2 6 (.alloc 34 [.nil0, .nil0, .nil0]),
  an 3 (.st 3 (.t 6) (.t 13))]
def r12_7 : List AOper := [ao 0 14 (.ld 3 true (.t 3)),
  ao 1 15 (.call (.k (.c (.fn 54 []))) [(.t 6), (.t 14)]),
  ao 2 7 (.mv (.t 15))]
def r12_8 : List AOper := [ao 0 16 (.ld 3 true (.t 6)),
  ao 1 17 (.call (.k (.c (.fn 53 []))) [(.t 16)]),
  ao 2 18 (.mv (.t 7)),
  an 3 (.st 3 (.t 4) (.t 17)),
  ao 4 5 (.mv (.t 18))]
def c12 : ACode := .seq (.reg r12_0) (.seq c12_5 (.seq (.reg r12_6) (.seq (.reg r12_7) (.seq (.reg r12_8) .ret))))
def s12 : List ARes := [.cell 4 3 true, .tmp 5]
theorem ok12 : okF Try.prog 12 19 c12 s12 := ⟨Try.f12, Try.func12, Try.ntmps12, by kernel_rfl, by kernel_rfl, by kernel_rfl⟩
theorem small_do (d : Dk) (w : DW) (hD : DOk d) : smallDk (doS d w).1 ∧ (doS d w).1.files.length ≤ 1000 ∧ (doS d w).1.names.length ≤ 1000 ∧ (doS d w).1.moves.length ≤ 1000 := by
  have l1 := hD.f
  have l2 := hD.n
  have l3 := hD.m
  have hal := aft_len d.moves d.names
  have key : (doS d w).1.files.length ≤ 1000 ∧ (doS d w).1.names.length ≤ 1000 ∧ (doS d w).1.moves.length ≤ 1000 := by
    unfold doS
    split
    · split
      · exact ⟨by simp only; omega, by simp only; omega, by simp only; omega⟩
      · split
        · exact ⟨by simp only; omega, by simp only; omega, by simp only; omega⟩
        · simp only [List.length_append, List.length_singleton]; omega
    · split
      · simp only [keepD, List.length_map, List.length_nil]; omega
      · split
        · exact ⟨by simp only; omega, by simp only; omega, by simp only; omega⟩
        · split
          · exact ⟨by simp only; omega, by simp only; omega, by simp only; omega⟩
          · split
            · split
              · exact ⟨by simp only; omega, by simp only; omega, by simp only; omega⟩
              · simp only [List.length_set]; omega
            · split
              · simp only [List.length_set]; omega
              · split
                · exact ⟨by simp only; omega, by simp only; omega, by simp only; omega⟩
                · simp only [List.length_append, List.length_singleton]; omega
  exact ⟨⟨by omega, by omega, by omega⟩, key⟩
abbrev oDkI (c1 v1 c2 v2 c3 v3 : Nat) (r : Dk × Int) : T := .tup [oDk c1 v1 c2 v2 c3 v3 r.1, .one (.v (.s (.int .i64 r.2)))]
theorem UFs_1 : (type_of% (uA c12.eq_1)) ∧ (type_of% (uR r12_0.eq_1)) ∧ (type_of% (uA c12_5.eq_1)) ∧ (type_of% (uR r12_1.eq_1)) ∧ (type_of% (uA c12_4.eq_1)) ∧ (type_of% (uA c12_3.eq_1)) ∧ (type_of% (uR r12_2.eq_1)) ∧ (type_of% (uR r12_6.eq_1)) ∧ (type_of% (uR r12_7.eq_1)) ∧ (type_of% (uR r12_8.eq_1)) ∧ (type_of% s12.eq_1) :=
  ⟨uA c12.eq_1, uR r12_0.eq_1, uA c12_5.eq_1, uR r12_1.eq_1, uA c12_4.eq_1, uA c12_3.eq_1, uR r12_2.eq_1, uR r12_6.eq_1, uR r12_7.eq_1, uR r12_8.eq_1, s12.eq_1⟩
theorem doI_ok (d : Dk) (w : DW) (hd : fineDk d) (hw : fineDW w) : ∃ r, DoR d w r ∧ (r.1.files.length ≤ 1000 ∧ r.1.names.length ≤ 1000 ∧ r.1.moves.length ≤ 1000) ∧ ∀ m1 m2 m3, ACallsF Try.prog 12 [tDk d, tDW w] (dkH 2101 2102 2103 m1 m2 m3 r.1) (oDkI 2101 0 2102 0 2103 0 r) := by
  obtain ⟨b, hb, hC⟩ := okI_ok d hd
  by_cases hD : DOk d
  rotate_left
  · have hbf : b = false := by cases hq : b with | false => rfl | true => exact absurd (hb.1 hq) hD
    rw [hbf] at hC
    refine ⟨_, .inr ⟨hD, rfl⟩, ⟨by simp, by simp, by simp⟩, fun m1 m2 m3 => ownNil3 (by decide) (ACallsF.intro ok12 follows fun X c0 => ?_)⟩
    simp only [RUN, core, T.c, T.s, T.b, T.i, sBin, sInt, sUn, isShift, asInt, P1.cells, loadT, ptrC, storeT, putC, fillP, Nat.reduceAdd, reduceIte, Nat.reduceEqDiff, Nat.reduceLT, Nat.reduceLeDiff, reduceCtorEq, eq_self, FIT, lendCs_map, verC_map, FinC, resPs, resP, lendPl, lendCs, lendC, sealC, partsT, finHs, tupT, verT, verP, verC, verB, verAt, Blk.ver, handsAre, forall_const, CHT, disj, Nat.reduceBEq, beq_self_eq_true, APT, srcOf, sealPs, sealCs, sealC, toVs, Option.map_some, List.mem_singleton, forall_eq, ALT, UFs_1]
    refine callC hC rfl rfl rfl rfl ?_
    simp only [RUN, core, T.c, T.s, T.b, T.i, sBin, sInt, sUn, isShift, asInt, P1.cells, loadT, ptrC, storeT, putC, fillP, Nat.reduceAdd, reduceIte, Nat.reduceEqDiff, Nat.reduceLT, Nat.reduceLeDiff, reduceCtorEq, eq_self, FIT, lendCs_map, verC_map, FinC, resPs, resP, lendPl, lendCs, lendC, sealC, partsT, finHs, tupT, verT, verP, verC, verB, verAt, Blk.ver, handsAre, forall_const, CHT, disj, Nat.reduceBEq, beq_self_eq_true, APT, srcOf, sealPs, sealCs, sealC, toVs, Option.map_some, List.mem_singleton, forall_eq, ALT, UFs_1]
  rw [hb.2 hD] at hC
  obtain ⟨hsm, hlen⟩ := small_do d w hD
  refine ⟨_, .inl ⟨hD, rfl⟩, hlen, fun m1 m2 m3 => ?_⟩
  have hcl := cloneDk_ok d hd.s 1001 1002 1003
  have hcl2 := cloneDk_ok (doS d w).1 hsm 2101 2102 2103
  refine ACallsF.intro ok12 follows fun X c0 => ?_
  simp only [RUN, core, T.c, T.s, T.b, T.i, sBin, sInt, sUn, isShift, asInt, P1.cells, loadT, ptrC, storeT, putC, fillP, Nat.reduceAdd, reduceIte, Nat.reduceEqDiff, Nat.reduceLT, Nat.reduceLeDiff, reduceCtorEq, eq_self, FIT, lendCs_map, verC_map, FinC, resPs, resP, lendPl, lendCs, lendC, sealC, partsT, finHs, tupT, verT, verP, verC, verB, verAt, Blk.ver, handsAre, forall_const, CHT, disj, Nat.reduceBEq, beq_self_eq_true, APT, srcOf, sealPs, sealCs, sealC, toVs, Option.map_some, List.mem_singleton, forall_eq, ALT, UFs_1]
  refine callC hC rfl rfl rfl rfl ?_
  simp only [RUN, core, T.c, T.s, T.b, T.i, sBin, sInt, sUn, isShift, asInt, P1.cells, loadT, ptrC, storeT, putC, fillP, Nat.reduceAdd, reduceIte, Nat.reduceEqDiff, Nat.reduceLT, Nat.reduceLeDiff, reduceCtorEq, eq_self, FIT, lendCs_map, verC_map, FinC, resPs, resP, lendPl, lendCs, lendC, sealC, partsT, finHs, tupT, verT, verP, verC, verB, verAt, Blk.ver, handsAre, forall_const, CHT, disj, Nat.reduceBEq, beq_self_eq_true, APT, srcOf, sealPs, sealCs, sealC, toVs, Option.map_some, List.mem_singleton, forall_eq, ALT, UFs_1]
  refine callDk (ws := []) (ns := []) hcl rfl rfl rfl (by decide) ⟨rfl, ?_⟩
  simp only [RUN, core, T.c, T.s, T.b, T.i, sBin, sInt, sUn, isShift, asInt, P1.cells, loadT, ptrC, storeT, putC, fillP, Nat.reduceAdd, reduceIte, Nat.reduceEqDiff, Nat.reduceLT, Nat.reduceLeDiff, reduceCtorEq, eq_self, FIT, lendCs_map, verC_map, FinC, resPs, resP, lendPl, lendCs, lendC, sealC, partsT, finHs, tupT, verT, verP, verC, verB, verAt, Blk.ver, handsAre, forall_const, CHT, disj, Nat.reduceBEq, beq_self_eq_true, APT, srcOf, sealPs, sealCs, sealC, toVs, Option.map_some, List.mem_singleton, forall_eq, ALT, UFs_1]
  by_cases k5 : w.kind = 5
  · have hdo : doS d w = (keepD d (aft d.names d.moves), 0) := by
      have h51 : ¬ (5 : Int) = 1 := by omega
      simp only [doS, k5, h51, if_true, if_false]
    rw [hdo] at hcl2 ⊢
    have hal := aft_len d.moves d.names
    have hle : (aft d.names d.moves).length ≤ (aft d.names d.moves).length + (runI d.names d.moves).2.length := by omega
    have htk : List.take (aft d.names d.moves).length (en eF (List.map (fileOf d.files) (aft d.names d.moves))) = en eF (List.map (fileOf d.files) (aft d.names d.moves)) := List.take_of_length_le (by rw [en_len, List.length_map]; exact Nat.le_refl _)
    refine callDd (m0 := 6) (m1 := 1001) (m2 := 1002) (m3 := 1003) (m4 := 1010) (m5 := 1011) (writeD_ok d w hd hw hD k5 6 1001 1002 1003 1010 1011 _ _ _ _) rfl rfl rfl rfl (by decide) rfl rfl rfl rfl ⟨rfl, ?_⟩
    simp only [RUN, core, T.c, T.s, T.b, T.i, sBin, sInt, sUn, isShift, asInt, P1.cells, loadT, ptrC, storeT, putC, fillP, Nat.reduceAdd, reduceIte, Nat.reduceEqDiff, Nat.reduceLT, Nat.reduceLeDiff, reduceCtorEq, eq_self, FIT, lendCs_map, verC_map, FinC, resPs, resP, lendPl, lendCs, lendC, sealC, partsT, finHs, tupT, verT, verP, verC, verB, verAt, Blk.ver, handsAre, forall_const, CHT, disj, Nat.reduceBEq, beq_self_eq_true, APT, srcOf, sealPs, sealCs, sealC, toVs, Option.map_some, List.mem_singleton, forall_eq, ALT, UFs_1]
    refine callDk (ws := [(1010, .arr (c0 + 4 + 3 + 4 + 1) false 3 88 (en eF (keepD d (aft d.names d.moves)).files)), (1011, .arr (c0 + 4 + 3 + 4 + 1) false 1 9 (en eS (aft d.names d.moves ++ (runI d.names d.moves).2)))]) (ns := [1010, 1011]) hcl2 rfl ?_ rfl (by decide) ⟨?_, ?_⟩
    · simp only [RUN, core, T.c, T.s, T.b, T.i, sBin, sInt, sUn, isShift, asInt, P1.cells, loadT, ptrC, storeT, putC, fillP, Nat.reduceAdd, reduceIte, Nat.reduceEqDiff, Nat.reduceLT, Nat.reduceLeDiff, reduceCtorEq, eq_self, FIT, lendCs_map, verC_map, FinC, resPs, resP, lendPl, lendCs, lendC, sealC, partsT, finHs, tupT, verT, verP, verC, verB, verAt, Blk.ver, handsAre, forall_const, CHT, disj, Nat.reduceBEq, beq_self_eq_true, APT, srcOf, sealPs, sealCs, sealC, toVs, Option.map_some, List.mem_singleton, forall_eq, ALT, UFs_1, lendTs, lendT, keepD, en_take2, htk, hle, List.length_map]
      rfl
    · simp only [RUN, core, T.c, T.s, T.b, T.i, sBin, sInt, sUn, isShift, asInt, P1.cells, loadT, ptrC, storeT, putC, fillP, Nat.reduceAdd, reduceIte, Nat.reduceEqDiff, Nat.reduceLT, Nat.reduceLeDiff, reduceCtorEq, eq_self, FIT, lendCs_map, verC_map, FinC, resPs, resP, lendPl, lendCs, lendC, sealC, partsT, finHs, tupT, verT, verP, verC, verB, verAt, Blk.ver, handsAre, forall_const, CHT, disj, Nat.reduceBEq, beq_self_eq_true, APT, srcOf, sealPs, sealCs, sealC, toVs, Option.map_some, List.mem_singleton, forall_eq, ALT, UFs_1]
    simp only [RUN, core, T.c, T.s, T.b, T.i, sBin, sInt, sUn, isShift, asInt, P1.cells, loadT, ptrC, storeT, putC, fillP, Nat.reduceAdd, reduceIte, Nat.reduceEqDiff, Nat.reduceLT, Nat.reduceLeDiff, reduceCtorEq, eq_self, FIT, lendCs_map, verC_map, FinC, resPs, resP, lendPl, lendCs, lendC, sealC, partsT, finHs, tupT, verT, verP, verC, verB, verAt, Blk.ver, handsAre, forall_const, CHT, disj, Nat.reduceBEq, beq_self_eq_true, APT, srcOf, sealPs, sealCs, sealC, toVs, Option.map_some, List.mem_singleton, forall_eq, ALT, UFs_1, false_implies, and_self, imp_self]
  · refine callDw (m0 := 6) (m1 := 1001) (m2 := 1002) (m3 := 1003) (write_ok d w hd hw hD k5 6 1001 1002 1003 _ _ _ _) rfl rfl rfl rfl (by decide) rfl rfl rfl rfl ⟨rfl, ?_⟩
    simp only [RUN, core, T.c, T.s, T.b, T.i, sBin, sInt, sUn, isShift, asInt, P1.cells, loadT, ptrC, storeT, putC, fillP, Nat.reduceAdd, reduceIte, Nat.reduceEqDiff, Nat.reduceLT, Nat.reduceLeDiff, reduceCtorEq, eq_self, FIT, lendCs_map, verC_map, FinC, resPs, resP, lendPl, lendCs, lendC, sealC, partsT, finHs, tupT, verT, verP, verC, verB, verAt, Blk.ver, handsAre, forall_const, CHT, disj, Nat.reduceBEq, beq_self_eq_true, APT, srcOf, sealPs, sealCs, sealC, toVs, Option.map_some, List.mem_singleton, forall_eq, ALT, UFs_1]
    refine callDk (ws := dkL 1001 (c0 + 4 + 3 + 4 + 1) 1002 (c0 + 4 + 3 + 4 + 1) 1003 (c0 + 4 + 3 + 4 + 1) (doS d w).1) (ns := [1001, 1002, 1003]) hcl2 rfl ?_ rfl (by decide) ⟨?_, ?_⟩
    · simp only [RUN, core, T.c, T.s, T.b, T.i, sBin, sInt, sUn, isShift, asInt, P1.cells, loadT, ptrC, storeT, putC, fillP, Nat.reduceAdd, reduceIte, Nat.reduceEqDiff, Nat.reduceLT, Nat.reduceLeDiff, reduceCtorEq, eq_self, FIT, lendCs_map, verC_map, FinC, resPs, resP, lendPl, lendCs, lendC, sealC, partsT, finHs, tupT, verT, verP, verC, verB, verAt, Blk.ver, handsAre, forall_const, CHT, disj, Nat.reduceBEq, beq_self_eq_true, APT, srcOf, sealPs, sealCs, sealC, toVs, Option.map_some, List.mem_singleton, forall_eq, ALT, UFs_1, lendTs, lendT, dkL]
    · simp only [RUN, core, T.c, T.s, T.b, T.i, sBin, sInt, sUn, isShift, asInt, P1.cells, loadT, ptrC, storeT, putC, fillP, Nat.reduceAdd, reduceIte, Nat.reduceEqDiff, Nat.reduceLT, Nat.reduceLeDiff, reduceCtorEq, eq_self, FIT, lendCs_map, verC_map, FinC, resPs, resP, lendPl, lendCs, lendC, sealC, partsT, finHs, tupT, verT, verP, verC, verB, verAt, Blk.ver, handsAre, forall_const, CHT, disj, Nat.reduceBEq, beq_self_eq_true, APT, srcOf, sealPs, sealCs, sealC, toVs, Option.map_some, List.mem_singleton, forall_eq, ALT, UFs_1]
    simp only [RUN, core, T.c, T.s, T.b, T.i, sBin, sInt, sUn, isShift, asInt, P1.cells, loadT, ptrC, storeT, putC, fillP, Nat.reduceAdd, reduceIte, Nat.reduceEqDiff, Nat.reduceLT, Nat.reduceLeDiff, reduceCtorEq, eq_self, FIT, lendCs_map, verC_map, FinC, resPs, resP, lendPl, lendCs, lendC, sealC, partsT, finHs, tupT, verT, verP, verC, verB, verAt, Blk.ver, handsAre, forall_const, CHT, disj, Nat.reduceBEq, beq_self_eq_true, APT, srcOf, sealPs, sealCs, sealC, toVs, Option.map_some, List.mem_singleton, forall_eq, ALT, UFs_1, false_implies, and_self, imp_self]
end Go.V
set_option linter.unusedSimpArgs false
namespace Go.V
open Go.Proofs
section
variable {P : Program} {t : Nat → T} {H : HMap} {c : Nat} {f : Opd} {args : List Opd} {fid : FuncId} {argsC : List T} {ws : List (Nat × Blk)} {ns : List Nat} {k : Nat} {d : Option Nat} {un : List Nat} {l : List AOper} {prev : List (Nat × List Nat × List Nat)} {K : St → Prop}
/-- A call that makes a disk's three arrays, and a number. -/
theorem callDkI {c1 c2 c3 m1 m2 m3 : Nat} {r : Dk × Int} (hC : ACallsF P fid argsC (dkH c1 c2 c3 m1 m2 m3 r.1) (oDkI c1 0 c2 0 c3 0 r)) (hf : ev t f = .pt (.one (.fn fid []))) (hl : lendTs H argsC (args.map (ev t)) = some (argsC, ws, ns)) (ha : argsC.all closedA = true)
    (hcs : (c1 ≠ c2 ∧ c1 ≠ c3 ∧ c2 ≠ c3) ∧ m1 ≠ m2 ∧ m1 ≠ m3 ∧ m2 ≠ m3)
    (hk : chk prev un ⟨oDkI m1 (c + k) m2 (c + k) m3 (c + k) r, [(m1, .arr (c + k) true 3 88 (en eF r.1.files)), (m2, .arr (c + k) true 1 9 (en eS r.1.names)), (m3, .arr (c + k) true 2 90 (en eM r.1.moves))], ns ++ [m1, m2, m3], [m1, m2, m3]⟩ = true ∧
      DRun P l ((k, ns ++ [m1, m2, m3], [m1, m2, m3]) :: prev) K ⟨updD t d (oDkI m1 (c + k) m2 (c + k) m3 (c + k) r), upd (upd (upd H m1 (some (.arr (c + k) true 3 88 (en eF r.1.files)))) m2 (some (.arr (c + k) true 1 9 (en eS r.1.names)))) m3 (some (.arr (c + k) true 2 90 (en eM r.1.moves))), c⟩) :
    step P k d un (.call f args) l prev K t H c := by
  obtain ⟨⟨h1, h2, h3⟩, g1, g2, g3⟩ := hcs
  have N1 : renN (dkH c1 c2 c3 m1 m2 m3 r.1) c1 = some (newH c1 m1 3 88 (en eF r.1.files)) := by simp [renN]
  have N2 : renN (dkH c1 c2 c3 m1 m2 m3 r.1) c2 = some (newH c2 m2 1 9 (en eS r.1.names)) := by simp [renN, h1]
  have N3 : renN (dkH c1 c2 c3 m1 m2 m3 r.1) c3 = some (newH c3 m3 2 90 (en eM r.1.moves)) := by simp [renN, h2, h3]
  refine callF (r' := oDkI m1 (c + k) m2 (c + k) m3 (c + k) r) (ob := [(m1, .arr (c + k) true 3 88 (en eF r.1.files)), (m2, .arr (c + k) true 1 9 (en eS r.1.names)), (m3, .arr (c + k) true 2 90 (en eM r.1.moves))]) _ hC hf hl ha (by simp) (by simp [g1, g2, g3]) (by simp [h1, h2, h3]) ?_ ?_ ?_ ?_
  · simp only [quiet, List.all_cons, List.all_nil, flatB, en_flat eF eF_flat, en_flat eS eS_flat, en_flat eM eM_flat]; rfl
  · simp only [renOT, renOPs, renOP, renOs, renO, N1, N2, N3, Option.map_some, verOf]; rfl
  · simp only [renOBs, renOB, verOf]; rfl
  · simpa [updH] using hk
/-- A call that marks a disk of the caller's. -/
theorem callMk {m1 m2 m3 v1 v2 v3 : Nat} {dk dk' : Dk} {x r : T} (hC : ACallsF P fid [.pt (oDk 2001 v1 2002 v2 2003 v3 dk), x] (dkM m1 m2 m3 v1 v2 v3 dk dk') r) (hf : ev t f = .pt (.one (.fn fid []))) (hl : args.map (ev t) = [.pt (oDk m1 v1 m2 v2 m3 v3 dk), x]) (hx : closedA x = true) (hr : closedT r = true)
    (hm : m1 ≠ m2 ∧ m1 ≠ m3 ∧ m2 ≠ m3) (h1 : H m1 = some (.arr v1 true 3 88 (en eF dk.files))) (h2 : H m2 = some (.arr v2 true 1 9 (en eS dk.names))) (h3 : H m3 = some (.arr v3 true 2 90 (en eM dk.moves)))
    (hk : chk prev un ⟨r, [(m1, .arr v1 true 3 88 (en eF dk'.files)), (m2, .arr v2 true 1 9 (en eS dk'.names)), (m3, .arr v3 true 2 90 (en eM dk'.moves))], [m1, m2, m3], [m1, m2, m3]⟩ = true ∧
      DRun P l ((k, [m1, m2, m3], [m1, m2, m3]) :: prev) K ⟨updD t d r, upd (upd (upd H m1 (some (.arr v1 true 3 88 (en eF dk'.files)))) m2 (some (.arr v2 true 1 9 (en eS dk'.names)))) m3 (some (.arr v3 true 2 90 (en eM dk'.moves))), c⟩) :
    step P k d un (.call f args) l prev K t H c := by
  generalize hhs : dkM m1 m2 m3 v1 v2 v3 dk dk' = hs at hC
  have R1 : renN hs 2001 = some (arH 2001 m1 v1 3 88 (en eF dk.files) (en eF dk'.files)) := by rw [← hhs]; rfl
  have R2 : renN hs 2002 = some (arH 2002 m2 v2 1 9 (en eS dk.names) (en eS dk'.names)) := by rw [← hhs]; rfl
  have R3 : renN hs 2003 = some (arH 2003 m3 v3 2 90 (en eM dk.moves) (en eM dk'.moves)) := by rw [← hhs]; rfl
  have I1 : inN hs 2001 = some m1 := by simp [inN, R1]
  have I2 : inN hs 2002 = some m2 := by simp [inN, R2]
  have I3 : inN hs 2003 = some m3 := by simp [inN, R3]
  obtain ⟨x1, x2⟩ := closed_A hs H x hx
  obtain ⟨g1, g2, g3⟩ := hm
  refine callW (caps := []) («as» := [.pt (oDk m1 v1 m2 v2 m3 v3 dk), x]) (ws := []) (ns := []) (r' := r) (ob := [(m1, .arr v1 true 3 88 (en eF dk'.files)), (m2, .arr v2 true 1 9 (en eS dk'.names)), (m3, .arr v3 true 2 90 (en eM dk'.moves))]) hs hC hf ?_ ?_ ?_ (by rw [← hhs]; simp [g1, g2, g3]) (by rw [← hhs]; simp) (closed_T _ r hr _) ?_ ?_
  · have a1 : lendT H (.pt (oDk 2001 v1 2002 v2 2003 v3 dk)) (.pt (oDk m1 v1 m2 v2 m3 v3 dk)) = some (.pt (oDk m1 v1 m2 v2 m3 v3 dk), [], []) := rfl
    rw [hl]
    simp only [List.map_nil, List.append_nil, lendTs, a1, x1]
  · have a1 : renIT hs (.pt (oDk 2001 v1 2002 v2 2003 v3 dk)) = some (.pt (oDk m1 v1 m2 v2 m3 v3 dk)) := by simp only [renIT, renIs, renI, I1, I2, I3, Option.map_some]
    simp only [renITs, a1, x2]
  · have B1 : ∀ v wr st ty es, renIB hs (.arr v wr st ty es) = some (.arr v wr st ty es) := fun _ _ _ _ _ => rfl
    have key : handsIn (updH H []) hs (dkM m1 m2 m3 v1 v2 v3 dk dk') := by
      simp only [handsIn, B1, updH, h1, h2, h3, and_self]
    rw [hhs] at key
    exact key
  · have key : renOBs hs (c + k) (dkM m1 m2 m3 v1 v2 v3 dk dk') = some [(m1, .arr v1 true 3 88 (en eF dk'.files)), (m2, .arr v2 true 1 9 (en eS dk'.names)), (m3, .arr v3 true 2 90 (en eM dk'.moves))] := by
      simp only [renOBs, renOB, verOf, if_true, Blk.ver]
    rw [hhs] at key
    exact key
  · have hq : quiet r hs = false := by rw [← hhs]; simp [quiet]
    have hms : hs.map (·.m) = [m1, m2, m3] := by rw [← hhs]; rfl
    rw [hq, hms]
    simpa [updH] using hk
end
theorem take_marks {α : Type} (e : α → List V) (m : Nat → α) (s k n : Nat) : List.take n (en e (marks m s k n)) = en e (marks m s k n) := List.take_of_length_le (by rw [en_len, marks_len]; exact Nat.le_refl _)
theorem lendDk {H : HMap} {m1 m2 m3 v1 v2 v3 n1 n2 n3 : Nat} {w1 w2 w3 : Bool} {d : Dk} (h1 : H m1 = some (.arr v1 w1 3 88 (en eF d.files))) (h2 : H m2 = some (.arr v2 w2 1 9 (en eS d.names))) (h3 : H m3 = some (.arr v3 w3 2 90 (en eM d.moves))) (e1 : n1 = d.files.length) (e2 : n2 = d.names.length) (e3 : n3 = d.moves.length) :
    lendT H (tDk d) (.pt (.agg [.own m1 v1 n1, .own m2 v2 n2, .own m3 v3 n3])) = some (tDk d, dkL m1 v1 m2 v2 m3 v3 d, [m1, m2, m3]) := by
  subst e1 e2 e3
  simp only [lendT, lendCs, lendC, sealC, h1, h2, h3, en_len, en_take, Nat.le_refl, and_self, if_true, Option.map_some, List.cons_append, List.nil_append]
theorem lend1 {H : HMap} {m1 m2 m3 v1 v2 v3 n1 n2 n3 : Nat} {w1 w2 w3 : Bool} {d : Dk} {x : T} (h1 : H m1 = some (.arr v1 w1 3 88 (en eF d.files))) (h2 : H m2 = some (.arr v2 w2 1 9 (en eS d.names))) (h3 : H m3 = some (.arr v3 w3 2 90 (en eM d.moves))) (e1 : n1 = d.files.length) (e2 : n2 = d.names.length) (e3 : n3 = d.moves.length) (hx : closedA x = true) :
    lendTs H [tDk d, x] [.pt (.agg [.own m1 v1 n1, .own m2 v2 n2, .own m3 v3 n3]), x] = some ([tDk d, x], dkL m1 v1 m2 v2 m3 v3 d, [m1, m2, m3]) := by
  simp only [lendTs, lendDk h1 h2 h3 e1 e2 e3, (closed_A [] H x hx).1, List.append_nil]
theorem lend2 {H : HMap} {m1 m2 m3 v1 v2 v3 l1 l2 l3 u1 u2 u3 : Nat} {w1 w2 w3 x1 x2 x3 : Bool} {d d' : Dk} (h1 : H m1 = some (.arr v1 w1 3 88 (en eF d.files))) (h2 : H m2 = some (.arr v2 w2 1 9 (en eS d.names))) (h3 : H m3 = some (.arr v3 w3 2 90 (en eM d.moves)))
    (g1 : H l1 = some (.arr u1 x1 3 88 (en eF d'.files))) (g2 : H l2 = some (.arr u2 x2 1 9 (en eS d'.names))) (g3 : H l3 = some (.arr u3 x3 2 90 (en eM d'.moves))) :
    lendTs H [tDk d, tDk d'] [.pt (oDk m1 v1 m2 v2 m3 v3 d), .pt (oDk l1 u1 l2 u2 l3 u3 d')] = some ([tDk d, tDk d'], dkL m1 v1 m2 v2 m3 v3 d ++ dkL l1 u1 l2 u2 l3 u3 d', [m1, m2, m3, l1, l2, l3]) := by
  simp only [lendTs, lendDk h1 h2 h3 rfl rfl rfl, lendDk g1 g2 g3 rfl rfl rfl, List.append_nil, List.cons_append, List.nil_append]
theorem mk_len (k : Nat) (d : Dk) : d.files.length = (mkDk k d).files.length ∧ d.names.length = (mkDk k d).names.length ∧ d.moves.length = (mkDk k d).moves.length := by simp [mkDk, marks_len]
/-- A disk as an argument may be. -/
structure argDk (d : Dk) : Prop where
  f : d.files.length ≤ 9223372036854775807 ∧ ∀ x ∈ d.files, okDF x
  n : d.names.length ≤ 9223372036854775807 ∧ ∀ x ∈ d.names, okS x
  m : d.moves.length ≤ 9223372036854775807 ∧ ∀ x ∈ d.moves, okDM x
theorem fine_of {d : Dk} (h : ((d.files.length + wsum wF d.files + (d.names.length + wsum wS d.names) + (d.moves.length + wsum wM d.moves) : Nat) : Int) ≤ 1048576) : fineDk d := by
  refine ⟨⟨by omega, by omega, by omega⟩, fun f hf => ?_, fun x hx => ?_, fun m hm => ?_⟩
  · have := wsum_mem wF hf
    have e : wF f = f.name.size + f.data.size := rfl
    omega
  · have := wsum_mem wS hx
    have e : wS x = x.size := rfl
    omega
  · have := wsum_mem wM hm
    have e : wM m = m.name.size := rfl
    omega
/- loop.example/teagle/laws.FnExactDiskDo -/
def r3_0 : List AOper := [ao 0 2 (.box 26 (.t 0)),
  ao 1 3 (.box 28 (.t 1)),
  ao 2 4 (.mv (.k (.b false)))]
def r3_1 : List AOper := [ao 0 5 (.mv (.k (.i 1048576)))]
def r3_2 : List AOper := [ao 0 16 (.ld 3 true (.t 2)),
  ao 1 17 (.mv (.t 5)),
  ao 2 18 (.call (.k (.c (.fn 7 []))) [(.t 16), (.t 17)]),
  ao 3 5 (.mv (.t 18))]
def r3_3 : List AOper := [ao 0 19 (.mv (.t 5)),
  ao 1 20 (.bin .lss (.t 19) (.k (.i 0)))]
def r3_4 : List AOper := [ao 0 4 (.mv (.k (.b true)))]
def c3_5 : ACode := .seq (.reg r3_4) .ret
def c3_6 : ACode := .cond (.t 20) c3_5 .skip
def c3_7 : ACode := .seq (.reg r3_3) c3_6
def r3_8 : List AOper := [ao 0 21 (.ld 3 true (.t 3)),
  ao 1 22 (.mv (.t 5)),
  ao 2 23 (.call (.k (.c (.fn 8 []))) [(.t 21), (.t 22)]),
  ao 3 5 (.mv (.t 23))]
def r3_9 : List AOper := [ao 0 24 (.mv (.t 5)),
  ao 1 25 (.bin .lss (.t 24) (.k (.i 0)))]
def r3_10 : List AOper := [ao 0 4 (.mv (.k (.b true)))]
def c3_11 : ACode := .seq (.reg r3_10) .ret
def c3_12 : ACode := .cond (.t 25) c3_11 .skip
def c3_13 : ACode := .seq (.reg r3_9) c3_12
def r3_14 : List AOper := [ao 0 27 (.ld 3 true (.t 2)),
  ao 1 28 (.call (.k (.c (.fn 10 []))) [(.t 27)]),
  au 2 29 [0, 1] (.ld 3 true (.t 3)),
  ao 3 30 (.call (.k (.c (.fn 11 []))) [(.t 29)]),
  ao 4 31 (.call (.k (.c (.fn 9 []))) [(.t 28), (.t 30)]),
  ao 5 26 (.mv (.t 31)),
  ao 6 32 (.ext 0 (.t 26)),
  au 7 33 [6] (.ext 1 (.t 26)),
  au 8 6 (ru 8) (.alloc 34 [.nil0, .nil0, .nil0]),
  ax 9 none none [7] (.st 3 (.t 6) (.t 32)),
  ao 10 7 (.mv (.t 33))]
def r3_15 : List AOper := [ao 0 34 (.ld 3 true (.t 2)),
  ao 1 35 (.call (.k (.c (.fn 10 []))) [(.t 34)]),
  ao 2 8 (.alloc 34 [.nil0, .nil0, .nil0]),
  an 3 (.st 3 (.t 8) (.t 35))]
def r3_16 : List AOper := [ao 0 37 (.ld 3 true (.t 8)),
  au 1 38 [0] (.ld 3 true (.t 3)),
  au 2 39 [0] (.call (.k (.c (.fn 11 []))) [(.t 38)]),
  ao 3 40 (.call (.k (.c (.fn 12 []))) [(.t 37), (.t 39)]),
  ao 4 36 (.mv (.t 40)),
  ao 5 41 (.ext 0 (.t 36)),
  au 6 42 [5] (.ext 1 (.t 36)),
  au 7 9 (ru 7) (.alloc 34 [.nil0, .nil0, .nil0]),
  ax 8 none none [6] (.st 3 (.t 9) (.t 41)),
  ao 9 10 (.mv (.t 42))]
def r3_17 : List AOper := [ao 0 43 (.ld 3 true (.t 9)),
  ao 1 44 (.ld 3 true (.t 6)),
  ao 2 45 (.call (.k (.c (.fn 13 []))) [(.t 43), (.t 44)]),
  ao 3 46 (.un .not (.t 45)),
  ao 4 47 (.mv (.t 46)),
  ag 5 48 47 false [] (.mv (.t 10)),
  ag 6 49 47 false [] (.mv (.t 7)),
  ag 7 50 47 false [] (.bin .neq (.t 48) (.t 49)),
  ao 8 51 (.pick (.t 47) (.k (.b true)) (.t 50))]
def r3_18 : List AOper := [ao 0 4 (.mv (.k (.b false)))]
def c3_19 : ACode := .seq (.reg r3_18) .ret
def c3_20 : ACode := .cond (.t 51) c3_19 .skip
def c3_21 : ACode := .seq (.reg r3_17) c3_20
def r3_22 : List AOper := [ao 0 52 (.ld 3 true (.t 8)),
  au 1 53 [0] (.ld 3 true (.t 2)),
  au 2 54 [0] (.call (.k (.c (.fn 10 []))) [(.t 53)]),
  ao 3 55 (.call (.k (.c (.fn 13 []))) [(.t 52), (.t 54)]),
  ao 4 56 (.un .not (.t 55))]
def r3_23 : List AOper := [ao 0 4 (.mv (.k (.b false)))]
def c3_24 : ACode := .seq (.reg r3_23) .ret
def c3_25 : ACode := .cond (.t 56) c3_24 .skip
def c3_26 : ACode := .seq (.reg r3_22) c3_25
def r3_27 : List AOper := [ao 0 11 (.mv (.k (.i 1)))]
def r3_28 : List AOper := [ao 0 57 (.ld 3 true (.t 8)),
  ao 1 58 (.mv (.t 11)),
  ao 2 59 (.call (.k (.c (.fn 14 []))) [(.t 57), (.t 58)]),
  ao 3 11 (.mv (.t 59))]
def r3_29 : List AOper := [ao 0 60 (.mv (.t 11)),
  ao 1 61 (.bin .lss (.t 60) (.k (.i 0))),
  ao 2 62 (.mv (.t 61)),
  ag 3 63 62 false [] (.ld 3 true (.t 9)),
  ag 4 64 62 false [] (.ld 3 true (.t 6)),
  ag 5 65 62 false [] (.call (.k (.c (.fn 13 []))) [(.t 63), (.t 64)]),
  ag 6 66 62 false [] (.un .not (.t 65)),
  ao 7 67 (.pick (.t 62) (.k (.b true)) (.t 66)),
  ao 8 68 (.mv (.t 67)),
  ag 9 69 68 false [] (.mv (.t 10)),
  ag 10 70 68 false [] (.mv (.t 7)),
  ag 11 71 68 false [] (.bin .neq (.t 69) (.t 70)),
  ao 12 72 (.pick (.t 68) (.k (.b true)) (.t 71))]
def r3_30 : List AOper := [ao 0 4 (.mv (.k (.b false)))]
def c3_31 : ACode := .seq (.reg r3_30) .ret
def c3_32 : ACode := .cond (.t 72) c3_31 .skip
def c3_33 : ACode := .seq (.reg r3_29) c3_32
def r3_34 : List AOper := [ao 0 12 (.mv (.k (.i 1)))]
def r3_35 : List AOper := [ao 0 73 (.ld 3 true (.t 9)),
  ao 1 74 (.mv (.t 12)),
  ao 2 75 (.call (.k (.c (.fn 14 []))) [(.t 73), (.t 74)]),
  ao 3 12 (.mv (.t 75))]
def r3_36 : List AOper := [ao 0 13 (.mv (.k (.i 1)))]
def r3_37 : List AOper := [ao 0 76 (.ld 3 true (.t 9)),
  ao 1 77 (.mv (.t 13)),
  ao 2 78 (.call (.k (.c (.fn 15 []))) [(.t 76), (.t 77)]),
  ao 3 13 (.mv (.t 78))]
def r3_38 : List AOper := [ao 0 79 (.mv (.t 13)),
  ao 1 80 (.bin .lss (.t 79) (.k (.i 0)))]
def r3_39 : List AOper := [ao 0 4 (.mv (.k (.b false)))]
def c3_40 : ACode := .seq (.reg r3_39) .ret
def c3_41 : ACode := .cond (.t 80) c3_40 .skip
def c3_42 : ACode := .seq (.reg r3_38) c3_41
def r3_43 : List AOper := [ao 0 81 (.mv (.t 13)),
  ao 1 82 (.mv (.t 12)),
  ao 2 83 (.bin .neq (.t 81) (.t 82))]
def r3_44 : List AOper := [ao 0 4 (.mv (.k (.b false)))]
def c3_45 : ACode := .seq (.reg r3_44) .ret
def c3_46 : ACode := .cond (.t 83) c3_45 .skip
def c3_47 : ACode := .seq (.reg r3_43) c3_46
def r3_48 : List AOper := [ao 0 85 (.ld 3 true (.t 2)),
  ao 1 86 (.call (.k (.c (.fn 10 []))) [(.t 85)]),
  au 2 87 [0, 1] (.ld 3 true (.t 3)),
  ao 3 88 (.call (.k (.c (.fn 11 []))) [(.t 87)]),
  ao 4 89 (.call (.k (.c (.fn 12 []))) [(.t 86), (.t 88)]),
  ao 5 84 (.mv (.t 89)),
  ao 6 90 (.ext 0 (.t 84)),
  au 7 91 [6] (.ext 1 (.t 84)),
  au 8 14 (ru 8) (.alloc 34 [.nil0, .nil0, .nil0]),
  ax 9 none none [7] (.st 3 (.t 14) (.t 90)),
  ao 10 15 (.mv (.t 91))]
def r3_49 : List AOper := [ao 0 92 (.ld 3 true (.t 14)),
  ao 1 93 (.ld 3 true (.t 6)),
  ao 2 94 (.call (.k (.c (.fn 13 []))) [(.t 92), (.t 93)]),
  ao 3 95 (.un .not (.t 94)),
  ao 4 96 (.mv (.t 95)),
  ag 5 97 96 false [] (.mv (.t 15)),
  ag 6 98 96 false [] (.mv (.t 7)),
  ag 7 99 96 false [] (.bin .neq (.t 97) (.t 98)),
  ao 8 100 (.pick (.t 96) (.k (.b true)) (.t 99))]
def r3_50 : List AOper := [ao 0 4 (.mv (.k (.b false)))]
def c3_51 : ACode := .seq (.reg r3_50) .ret
def c3_52 : ACode := .cond (.t 100) c3_51 .skip
def c3_53 : ACode := .seq (.reg r3_49) c3_52
def r3_54 : List AOper := [ao 0 13 (.mv (.k (.i 1)))]
def r3_55 : List AOper := [ao 0 101 (.ld 3 true (.t 9)),
  ao 1 102 (.mv (.t 13)),
  ao 2 103 (.call (.k (.c (.fn 15 []))) [(.t 101), (.t 102)]),
  ao 3 13 (.mv (.t 103))]
def r3_56 : List AOper := [ao 0 104 (.mv (.t 13)),
  ao 1 105 (.bin .lss (.t 104) (.k (.i 0)))]
def r3_57 : List AOper := [ao 0 4 (.mv (.k (.b false)))]
def c3_58 : ACode := .seq (.reg r3_57) .ret
def c3_59 : ACode := .cond (.t 105) c3_58 .skip
def c3_60 : ACode := .seq (.reg r3_56) c3_59
def r3_61 : List AOper := [ao 0 106 (.mv (.t 13)),
  ao 1 107 (.mv (.t 12)),
  ao 2 108 (.bin .neq (.t 106) (.t 107))]
def r3_62 : List AOper := [ao 0 4 (.mv (.k (.b false)))]
def c3_63 : ACode := .seq (.reg r3_62) .ret
def c3_64 : ACode := .cond (.t 108) c3_63 .skip
def c3_65 : ACode := .seq (.reg r3_61) c3_64
def r3_66 : List AOper := [ao 0 4 (.mv (.k (.b true)))]
def c3 : ACode := .seq (.reg r3_0) (.seq (.reg r3_1) (.seq (.reg r3_2) (.seq c3_7 (.seq (.reg r3_8) (.seq c3_13 (.seq (.reg r3_14) (.seq (.reg r3_15) (.seq (.reg r3_16) (.seq c3_21 (.seq c3_26 (.seq (.reg r3_27) (.seq (.reg r3_28) (.seq c3_33 (.seq (.reg r3_34) (.seq (.reg r3_35) (.seq (.reg r3_36) (.seq (.reg r3_37) (.seq c3_42 (.seq c3_47 (.seq (.reg r3_48) (.seq c3_53 (.seq (.reg r3_54) (.seq (.reg r3_55) (.seq c3_60 (.seq c3_65 (.seq (.reg r3_66) .ret))))))))))))))))))))))))))
def s3 : List ARes := [.tmp 4]
theorem ok3 : okF Try.prog 3 109 c3 s3 := ⟨Try.f3, Try.func3, Try.ntmps3, by kernel_rfl, by kernel_rfl, by kernel_rfl⟩
theorem UFt_1 : (type_of% (uA c3.eq_1)) ∧ (type_of% (uR r3_0.eq_1)) ∧ (type_of% (uR r3_1.eq_1)) ∧ (type_of% (uR r3_2.eq_1)) ∧ (type_of% (uA c3_7.eq_1)) ∧ (type_of% (uR r3_3.eq_1)) ∧ (type_of% (uA c3_6.eq_1)) ∧ (type_of% (uA c3_5.eq_1)) ∧ (type_of% (uR r3_4.eq_1)) ∧ (type_of% (uR r3_8.eq_1)) ∧ (type_of% (uA c3_13.eq_1)) ∧ (type_of% (uR r3_9.eq_1)) ∧ (type_of% (uA c3_12.eq_1)) ∧ (type_of% (uA c3_11.eq_1)) ∧ (type_of% (uR r3_10.eq_1)) ∧ (type_of% (uR r3_14.eq_1)) ∧ (type_of% (uR r3_15.eq_1)) ∧ (type_of% (uR r3_16.eq_1)) ∧ (type_of% (uA c3_21.eq_1)) ∧ (type_of% (uR r3_17.eq_1)) ∧ (type_of% (uA c3_20.eq_1)) ∧ (type_of% (uA c3_19.eq_1)) ∧ (type_of% (uR r3_18.eq_1)) ∧ (type_of% (uA c3_26.eq_1)) ∧ (type_of% (uR r3_22.eq_1)) ∧ (type_of% (uA c3_25.eq_1)) ∧ (type_of% (uA c3_24.eq_1)) ∧ (type_of% (uR r3_23.eq_1)) ∧ (type_of% (uR r3_27.eq_1)) ∧ (type_of% (uR r3_28.eq_1)) ∧ (type_of% (uA c3_33.eq_1)) ∧ (type_of% (uR r3_29.eq_1)) ∧ (type_of% (uA c3_32.eq_1)) ∧ (type_of% (uA c3_31.eq_1)) ∧ (type_of% (uR r3_30.eq_1)) ∧ (type_of% (uR r3_34.eq_1)) ∧ (type_of% (uR r3_35.eq_1)) ∧ (type_of% (uR r3_36.eq_1)) ∧ (type_of% (uR r3_37.eq_1)) ∧ (type_of% (uA c3_42.eq_1)) ∧ (type_of% (uR r3_38.eq_1)) ∧ (type_of% (uA c3_41.eq_1)) ∧ (type_of% (uA c3_40.eq_1)) ∧ (type_of% (uR r3_39.eq_1)) ∧ (type_of% (uA c3_47.eq_1)) ∧ (type_of% (uR r3_43.eq_1)) ∧ (type_of% (uA c3_46.eq_1)) ∧ (type_of% (uA c3_45.eq_1)) ∧ (type_of% (uR r3_44.eq_1)) ∧ (type_of% (uR r3_48.eq_1)) ∧ (type_of% (uA c3_53.eq_1)) ∧ (type_of% (uR r3_49.eq_1)) ∧ (type_of% (uA c3_52.eq_1)) ∧ (type_of% (uA c3_51.eq_1)) ∧ (type_of% (uR r3_50.eq_1)) ∧ (type_of% (uR r3_54.eq_1)) ∧ (type_of% (uR r3_55.eq_1)) ∧ (type_of% (uA c3_60.eq_1)) ∧ (type_of% (uR r3_56.eq_1)) ∧ (type_of% (uA c3_59.eq_1)) ∧ (type_of% (uA c3_58.eq_1)) ∧ (type_of% (uR r3_57.eq_1)) ∧ (type_of% (uA c3_65.eq_1)) ∧ (type_of% (uR r3_61.eq_1)) ∧ (type_of% (uA c3_64.eq_1)) ∧ (type_of% (uA c3_63.eq_1)) ∧ (type_of% (uR r3_62.eq_1)) ∧ (type_of% (uR r3_66.eq_1)) ∧ (type_of% s3.eq_1) :=
  ⟨uA c3.eq_1, uR r3_0.eq_1, uR r3_1.eq_1, uR r3_2.eq_1, uA c3_7.eq_1, uR r3_3.eq_1, uA c3_6.eq_1, uA c3_5.eq_1, uR r3_4.eq_1, uR r3_8.eq_1, uA c3_13.eq_1, uR r3_9.eq_1, uA c3_12.eq_1, uA c3_11.eq_1, uR r3_10.eq_1, uR r3_14.eq_1, uR r3_15.eq_1, uR r3_16.eq_1, uA c3_21.eq_1, uR r3_17.eq_1, uA c3_20.eq_1, uA c3_19.eq_1, uR r3_18.eq_1, uA c3_26.eq_1, uR r3_22.eq_1, uA c3_25.eq_1, uA c3_24.eq_1, uR r3_23.eq_1, uR r3_27.eq_1, uR r3_28.eq_1, uA c3_33.eq_1, uR r3_29.eq_1, uA c3_32.eq_1, uA c3_31.eq_1, uR r3_30.eq_1, uR r3_34.eq_1, uR r3_35.eq_1, uR r3_36.eq_1, uR r3_37.eq_1, uA c3_42.eq_1, uR r3_38.eq_1, uA c3_41.eq_1, uA c3_40.eq_1, uR r3_39.eq_1, uA c3_47.eq_1, uR r3_43.eq_1, uA c3_46.eq_1, uA c3_45.eq_1, uR r3_44.eq_1, uR r3_48.eq_1, uA c3_53.eq_1, uR r3_49.eq_1, uA c3_52.eq_1, uA c3_51.eq_1, uR r3_50.eq_1, uR r3_54.eq_1, uR r3_55.eq_1, uA c3_60.eq_1, uR r3_56.eq_1, uA c3_59.eq_1, uA c3_58.eq_1, uR r3_57.eq_1, uA c3_65.eq_1, uR r3_61.eq_1, uA c3_64.eq_1, uA c3_63.eq_1, uR r3_62.eq_1, uR r3_66.eq_1, s3.eq_1⟩
set_option maxRecDepth 20000 in
set_option maxHeartbeats 4000000 in
theorem lawDD_ok (d : Dk) (w : DW) (ha : argDk d) (hw : okDW w) : ACallsF Try.prog 3 [tDk d, tDW w] [] (.b true) := by
  obtain ⟨q, hq, hC1⟩ := szDk_ok d 1048576 (by omega) ha.f ha.n ha.m
  rcases hq with rfl | ⟨q0, q1, q2⟩
  · refine ACallsF.intro ok3 follows fun X c0 => ?_
    simp only [RUN, core, T.c, T.s, T.b, T.i, sBin, sInt, sUn, isShift, asInt, P1.cells, loadT, ptrC, storeT, putC, fillP, Nat.reduceAdd, reduceIte, Nat.reduceEqDiff, Nat.reduceLT, Nat.reduceLeDiff, reduceCtorEq, eq_self, FIT, lendCs_map, verC_map, FinC, resPs, resP, lendPl, lendCs, lendC, sealC, partsT, finHs, tupT, verT, verP, verC, verB, verAt, Blk.ver, handsAre, forall_const, CHT, disj, Nat.reduceBEq, beq_self_eq_true, APT, srcOf, sealPs, sealCs, sealC, toVs, Option.map_some, List.mem_singleton, forall_eq, ALT, UFt_1]
    refine callC hC1 rfl rfl rfl rfl ?_
    simp only [RUN, core, T.c, T.s, T.b, T.i, sBin, sInt, sUn, isShift, asInt, P1.cells, loadT, ptrC, storeT, putC, fillP, Nat.reduceAdd, reduceIte, Nat.reduceEqDiff, Nat.reduceLT, Nat.reduceLeDiff, reduceCtorEq, eq_self, FIT, lendCs_map, verC_map, FinC, resPs, resP, lendPl, lendCs, lendC, sealC, partsT, finHs, tupT, verT, verP, verC, verB, verAt, Blk.ver, handsAre, forall_const, CHT, disj, Nat.reduceBEq, beq_self_eq_true, APT, srcOf, sealPs, sealCs, sealC, toVs, Option.map_some, List.mem_singleton, forall_eq, ALT, UFt_1, Int.reduceLT]
  have hd := fine_of q2
  have nq : ¬ q < 0 := by omega
  have hC2 := szDW_ok w q ⟨q0, q1⟩ hw
  by_cases hA : ((wW w : Nat) : Int) ≤ q
  rotate_left
  · have e2 : sub1 q (wW w) = -1 := by rw [sub1, if_neg hA]
    rw [e2] at hC2
    refine ACallsF.intro ok3 follows fun X c0 => ?_
    simp only [RUN, core, T.c, T.s, T.b, T.i, sBin, sInt, sUn, isShift, asInt, P1.cells, loadT, ptrC, storeT, putC, fillP, Nat.reduceAdd, reduceIte, Nat.reduceEqDiff, Nat.reduceLT, Nat.reduceLeDiff, reduceCtorEq, eq_self, FIT, lendCs_map, verC_map, FinC, resPs, resP, lendPl, lendCs, lendC, sealC, partsT, finHs, tupT, verT, verP, verC, verB, verAt, Blk.ver, handsAre, forall_const, CHT, disj, Nat.reduceBEq, beq_self_eq_true, APT, srcOf, sealPs, sealCs, sealC, toVs, Option.map_some, List.mem_singleton, forall_eq, ALT, UFt_1]
    refine callC hC1 rfl rfl rfl rfl ?_
    simp only [RUN, core, T.c, T.s, T.b, T.i, sBin, sInt, sUn, isShift, asInt, P1.cells, loadT, ptrC, storeT, putC, fillP, Nat.reduceAdd, reduceIte, Nat.reduceEqDiff, Nat.reduceLT, Nat.reduceLeDiff, reduceCtorEq, eq_self, FIT, lendCs_map, verC_map, FinC, resPs, resP, lendPl, lendCs, lendC, sealC, partsT, finHs, tupT, verT, verP, verC, verB, verAt, Blk.ver, handsAre, forall_const, CHT, disj, Nat.reduceBEq, beq_self_eq_true, APT, srcOf, sealPs, sealCs, sealC, toVs, Option.map_some, List.mem_singleton, forall_eq, ALT, UFt_1, nq]
    refine callC hC2 rfl rfl rfl rfl ?_
    simp only [RUN, core, T.c, T.s, T.b, T.i, sBin, sInt, sUn, isShift, asInt, P1.cells, loadT, ptrC, storeT, putC, fillP, Nat.reduceAdd, reduceIte, Nat.reduceEqDiff, Nat.reduceLT, Nat.reduceLeDiff, reduceCtorEq, eq_self, FIT, lendCs_map, verC_map, FinC, resPs, resP, lendPl, lendCs, lendC, sealC, partsT, finHs, tupT, verT, verP, verC, verB, verAt, Blk.ver, handsAre, forall_const, CHT, disj, Nat.reduceBEq, beq_self_eq_true, APT, srcOf, sealPs, sealCs, sealC, toVs, Option.map_some, List.mem_singleton, forall_eq, ALT, UFt_1, Int.reduceLT]
  have e2 : sub1 q (wW w) = q - (wW w : Int) := by rw [sub1, if_pos hA]
  rw [e2] at hC2
  have nq2 : ¬ q - (wW w : Int) < 0 := by omega
  have hwW : wW w = w.name.size + w.data.size := rfl
  have hw' : fineDW w := ⟨by omega, by omega⟩
  obtain ⟨r, hr, hCS⟩ := doS_ok d w hd hw'
  obtain ⟨r', hr', hlen, hCI⟩ := doI_ok d w hd hw'
  cases do_det hr hr'
  have hto := toDk_ok d hd.s
  have htw := toDW_ok w
  have hrs : smallDk r.1 := ⟨by omega, by omega, by omega⟩
  have hE1 := eqDk_ok r.1 hrs
  have hE2 := eqDk_ok d hd.s
  have hds := hd.s
  have s1 := hds.f
  have s2 := hds.n
  have s3 := hds.m
  have hkx : mkN 1 d ≤ 100000000 := by unfold mkN; omega
  have hkg : mkN 1 r.1 ≤ 100000000 := by unfold mkN; omega
  have nkx : ¬ ((mkN 1 d : Nat) : Int) < 0 := by omega
  have nkg : ¬ ((mkN 1 r.1 : Nat) : Int) < 0 := by omega
  have hH := heldDk_ok r.1 1 (by omega) hkg
  have nn : (r.2 != r.2) = false := by simp
  have nm : (((mkN 1 r.1 : Nat) : Int) != ((mkN 1 r.1 : Nat) : Int)) = false := by simp
  obtain ⟨rd, rc⟩ := r
  refine ACallsF.intro ok3 follows fun X c0 => ?_
  simp only [RUN, core, T.c, T.s, T.b, T.i, sBin, sInt, sUn, isShift, asInt, P1.cells, loadT, ptrC, storeT, putC, fillP, Nat.reduceAdd, reduceIte, Nat.reduceEqDiff, Nat.reduceLT, Nat.reduceLeDiff, reduceCtorEq, eq_self, FIT, lendCs_map, verC_map, FinC, resPs, resP, lendPl, lendCs, lendC, sealC, partsT, finHs, tupT, verT, verP, verC, verB, verAt, Blk.ver, handsAre, forall_const, CHT, disj, Nat.reduceBEq, beq_self_eq_true, APT, srcOf, sealPs, sealCs, sealC, toVs, Option.map_some, List.mem_singleton, forall_eq, ALT, UFt_1]
  refine callC hC1 rfl rfl rfl rfl ?_
  simp only [RUN, core, T.c, T.s, T.b, T.i, sBin, sInt, sUn, isShift, asInt, P1.cells, loadT, ptrC, storeT, putC, fillP, Nat.reduceAdd, reduceIte, Nat.reduceEqDiff, Nat.reduceLT, Nat.reduceLeDiff, reduceCtorEq, eq_self, FIT, lendCs_map, verC_map, FinC, resPs, resP, lendPl, lendCs, lendC, sealC, partsT, finHs, tupT, verT, verP, verC, verB, verAt, Blk.ver, handsAre, forall_const, CHT, disj, Nat.reduceBEq, beq_self_eq_true, APT, srcOf, sealPs, sealCs, sealC, toVs, Option.map_some, List.mem_singleton, forall_eq, ALT, UFt_1, nq]
  refine callC hC2 rfl rfl rfl rfl ?_
  simp only [RUN, core, T.c, T.s, T.b, T.i, sBin, sInt, sUn, isShift, asInt, P1.cells, loadT, ptrC, storeT, putC, fillP, Nat.reduceAdd, reduceIte, Nat.reduceEqDiff, Nat.reduceLT, Nat.reduceLeDiff, reduceCtorEq, eq_self, FIT, lendCs_map, verC_map, FinC, resPs, resP, lendPl, lendCs, lendC, sealC, partsT, finHs, tupT, verT, verP, verC, verB, verAt, Blk.ver, handsAre, forall_const, CHT, disj, Nat.reduceBEq, beq_self_eq_true, APT, srcOf, sealPs, sealCs, sealC, toVs, Option.map_some, List.mem_singleton, forall_eq, ALT, UFt_1, nq2]
  refine callDk (ws := []) (ns := []) (hto 1001 1002 1003) rfl rfl rfl (by decide) ⟨rfl, ?_⟩
  simp only [RUN, core, T.c, T.s, T.b, T.i, sBin, sInt, sUn, isShift, asInt, P1.cells, loadT, ptrC, storeT, putC, fillP, Nat.reduceAdd, reduceIte, Nat.reduceEqDiff, Nat.reduceLT, Nat.reduceLeDiff, reduceCtorEq, eq_self, FIT, lendCs_map, verC_map, FinC, resPs, resP, lendPl, lendCs, lendC, sealC, partsT, finHs, tupT, verT, verP, verC, verB, verAt, Blk.ver, handsAre, forall_const, CHT, disj, Nat.reduceBEq, beq_self_eq_true, APT, srcOf, sealPs, sealCs, sealC, toVs, Option.map_some, List.mem_singleton, forall_eq, ALT, UFt_1]
  refine callC htw rfl rfl rfl rfl ?_
  simp only [RUN, core, T.c, T.s, T.b, T.i, sBin, sInt, sUn, isShift, asInt, P1.cells, loadT, ptrC, storeT, putC, fillP, Nat.reduceAdd, reduceIte, Nat.reduceEqDiff, Nat.reduceLT, Nat.reduceLeDiff, reduceCtorEq, eq_self, FIT, lendCs_map, verC_map, FinC, resPs, resP, lendPl, lendCs, lendC, sealC, partsT, finHs, tupT, verT, verP, verC, verB, verAt, Blk.ver, handsAre, forall_const, CHT, disj, Nat.reduceBEq, beq_self_eq_true, APT, srcOf, sealPs, sealCs, sealC, toVs, Option.map_some, List.mem_singleton, forall_eq, ALT, UFt_1]
  refine callL (ws := dkL 1001 _ 1002 _ 1003 _ d) (ns := [1001, 1002, 1003]) hCS rfl (lend1 rfl rfl rfl rfl rfl rfl rfl) rfl rfl ⟨?_, ?_⟩
  · simp only [RUN, core, T.c, T.s, T.b, T.i, sBin, sInt, sUn, isShift, asInt, P1.cells, loadT, ptrC, storeT, putC, fillP, Nat.reduceAdd, reduceIte, Nat.reduceEqDiff, Nat.reduceLT, Nat.reduceLeDiff, reduceCtorEq, eq_self, FIT, lendCs_map, verC_map, FinC, resPs, resP, lendPl, lendCs, lendC, sealC, partsT, finHs, tupT, verT, verP, verC, verB, verAt, Blk.ver, handsAre, forall_const, CHT, disj, Nat.reduceBEq, beq_self_eq_true, APT, srcOf, sealPs, sealCs, sealC, toVs, Option.map_some, List.mem_singleton, forall_eq, ALT, UFt_1]
  simp only [RUN, core, T.c, T.s, T.b, T.i, sBin, sInt, sUn, isShift, asInt, P1.cells, loadT, ptrC, storeT, putC, fillP, Nat.reduceAdd, reduceIte, Nat.reduceEqDiff, Nat.reduceLT, Nat.reduceLeDiff, reduceCtorEq, eq_self, FIT, lendCs_map, verC_map, FinC, resPs, resP, lendPl, lendCs, lendC, sealC, partsT, finHs, tupT, verT, verP, verC, verB, verAt, Blk.ver, handsAre, forall_const, CHT, disj, Nat.reduceBEq, beq_self_eq_true, APT, srcOf, sealPs, sealCs, sealC, toVs, Option.map_some, List.mem_singleton, forall_eq, ALT, UFt_1, scalarT, scalarP, scalarC, List.all_cons, Bool.false_and]
  refine callDk (ws := []) (ns := []) (hto 1101 1102 1103) rfl rfl rfl (by decide) ⟨rfl, ?_⟩
  simp only [RUN, core, T.c, T.s, T.b, T.i, sBin, sInt, sUn, isShift, asInt, P1.cells, loadT, ptrC, storeT, putC, fillP, Nat.reduceAdd, reduceIte, Nat.reduceEqDiff, Nat.reduceLT, Nat.reduceLeDiff, reduceCtorEq, eq_self, FIT, lendCs_map, verC_map, FinC, resPs, resP, lendPl, lendCs, lendC, sealC, partsT, finHs, tupT, verT, verP, verC, verB, verAt, Blk.ver, handsAre, forall_const, CHT, disj, Nat.reduceBEq, beq_self_eq_true, APT, srcOf, sealPs, sealCs, sealC, toVs, Option.map_some, List.mem_singleton, forall_eq, ALT, UFt_1]
  refine callC htw rfl rfl rfl rfl ?_
  simp only [RUN, core, T.c, T.s, T.b, T.i, sBin, sInt, sUn, isShift, asInt, P1.cells, loadT, ptrC, storeT, putC, fillP, Nat.reduceAdd, reduceIte, Nat.reduceEqDiff, Nat.reduceLT, Nat.reduceLeDiff, reduceCtorEq, eq_self, FIT, lendCs_map, verC_map, FinC, resPs, resP, lendPl, lendCs, lendC, sealC, partsT, finHs, tupT, verT, verP, verC, verB, verAt, Blk.ver, handsAre, forall_const, CHT, disj, Nat.reduceBEq, beq_self_eq_true, APT, srcOf, sealPs, sealCs, sealC, toVs, Option.map_some, List.mem_singleton, forall_eq, ALT, UFt_1]
  refine callDkI (ws := dkL 1101 _ 1102 _ 1103 _ d) (ns := [1101, 1102, 1103]) (hCI 1201 1202 1203) rfl (lend1 rfl rfl rfl rfl rfl rfl rfl) rfl (by decide) ⟨?_, ?_⟩
  · simp only [RUN, core, T.c, T.s, T.b, T.i, sBin, sInt, sUn, isShift, asInt, P1.cells, loadT, ptrC, storeT, putC, fillP, Nat.reduceAdd, reduceIte, Nat.reduceEqDiff, Nat.reduceLT, Nat.reduceLeDiff, reduceCtorEq, eq_self, FIT, lendCs_map, verC_map, FinC, resPs, resP, lendPl, lendCs, lendC, sealC, partsT, finHs, tupT, verT, verP, verC, verB, verAt, Blk.ver, handsAre, forall_const, CHT, disj, Nat.reduceBEq, beq_self_eq_true, APT, srcOf, sealPs, sealCs, sealC, toVs, Option.map_some, List.mem_singleton, forall_eq, ALT, UFt_1]
  simp only [RUN, core, T.c, T.s, T.b, T.i, sBin, sInt, sUn, isShift, asInt, P1.cells, loadT, ptrC, storeT, putC, fillP, Nat.reduceAdd, reduceIte, Nat.reduceEqDiff, Nat.reduceLT, Nat.reduceLeDiff, reduceCtorEq, eq_self, FIT, lendCs_map, verC_map, FinC, resPs, resP, lendPl, lendCs, lendC, sealC, partsT, finHs, tupT, verT, verP, verC, verB, verAt, Blk.ver, handsAre, forall_const, CHT, disj, Nat.reduceBEq, beq_self_eq_true, APT, srcOf, sealPs, sealCs, sealC, toVs, Option.map_some, List.mem_singleton, forall_eq, ALT, UFt_1]
  refine callL (ws := dkL 1201 _ 1202 _ 1203 _ rd) (ns := [1201, 1202, 1203]) hE1 rfl (lend1 rfl rfl rfl rfl rfl rfl rfl) rfl rfl ⟨?_, ?_⟩
  · simp only [RUN, core, T.c, T.s, T.b, T.i, sBin, sInt, sUn, isShift, asInt, P1.cells, loadT, ptrC, storeT, putC, fillP, Nat.reduceAdd, reduceIte, Nat.reduceEqDiff, Nat.reduceLT, Nat.reduceLeDiff, reduceCtorEq, eq_self, FIT, lendCs_map, verC_map, FinC, resPs, resP, lendPl, lendCs, lendC, sealC, partsT, finHs, tupT, verT, verP, verC, verB, verAt, Blk.ver, handsAre, forall_const, CHT, disj, Nat.reduceBEq, beq_self_eq_true, APT, srcOf, sealPs, sealCs, sealC, toVs, Option.map_some, List.mem_singleton, forall_eq, ALT, UFt_1, scalarT, scalarP, scalarC]
  simp only [RUN, core, T.c, T.s, T.b, T.i, sBin, sInt, sUn, isShift, asInt, P1.cells, loadT, ptrC, storeT, putC, fillP, Nat.reduceAdd, reduceIte, Nat.reduceEqDiff, Nat.reduceLT, Nat.reduceLeDiff, reduceCtorEq, eq_self, FIT, lendCs_map, verC_map, FinC, resPs, resP, lendPl, lendCs, lendC, sealC, partsT, finHs, tupT, verT, verP, verC, verB, verAt, Blk.ver, handsAre, forall_const, CHT, disj, Nat.reduceBEq, beq_self_eq_true, APT, srcOf, sealPs, sealCs, sealC, toVs, Option.map_some, List.mem_singleton, forall_eq, ALT, UFt_1, scalarT, scalarP, scalarC, nn]
  refine callDk (ws := []) (ns := []) (hto 1301 1302 1303) rfl rfl rfl (by decide) ⟨?_, ?_⟩
  · simp only [RUN, core, T.c, T.s, T.b, T.i, sBin, sInt, sUn, isShift, asInt, P1.cells, loadT, ptrC, storeT, putC, fillP, Nat.reduceAdd, reduceIte, Nat.reduceEqDiff, Nat.reduceLT, Nat.reduceLeDiff, reduceCtorEq, eq_self, FIT, lendCs_map, verC_map, FinC, resPs, resP, lendPl, lendCs, lendC, sealC, partsT, finHs, tupT, verT, verP, verC, verB, verAt, Blk.ver, handsAre, forall_const, CHT, disj, Nat.reduceBEq, beq_self_eq_true, APT, srcOf, sealPs, sealCs, sealC, toVs, Option.map_some, List.mem_singleton, forall_eq, ALT, UFt_1]
  simp only [RUN, core, T.c, T.s, T.b, T.i, sBin, sInt, sUn, isShift, asInt, P1.cells, loadT, ptrC, storeT, putC, fillP, Nat.reduceAdd, reduceIte, Nat.reduceEqDiff, Nat.reduceLT, Nat.reduceLeDiff, reduceCtorEq, eq_self, FIT, lendCs_map, verC_map, FinC, resPs, resP, lendPl, lendCs, lendC, sealC, partsT, finHs, tupT, verT, verP, verC, verB, verAt, Blk.ver, handsAre, forall_const, CHT, disj, Nat.reduceBEq, beq_self_eq_true, APT, srcOf, sealPs, sealCs, sealC, toVs, Option.map_some, List.mem_singleton, forall_eq, ALT, UFt_1]
  refine callL (ws := dkL 1101 _ 1102 _ 1103 _ d ++ dkL 1301 _ 1302 _ 1303 _ d) (ns := [1101, 1102, 1103, 1301, 1302, 1303]) hE2 rfl (lend2 rfl rfl rfl rfl rfl rfl) rfl rfl ⟨?_, ?_⟩
  · simp only [RUN, core, T.c, T.s, T.b, T.i, sBin, sInt, sUn, isShift, asInt, P1.cells, loadT, ptrC, storeT, putC, fillP, Nat.reduceAdd, reduceIte, Nat.reduceEqDiff, Nat.reduceLT, Nat.reduceLeDiff, reduceCtorEq, eq_self, FIT, lendCs_map, verC_map, FinC, resPs, resP, lendPl, lendCs, lendC, sealC, partsT, finHs, tupT, verT, verP, verC, verB, verAt, Blk.ver, handsAre, forall_const, CHT, disj, Nat.reduceBEq, beq_self_eq_true, APT, srcOf, sealPs, sealCs, sealC, toVs, Option.map_some, List.mem_singleton, forall_eq, ALT, UFt_1, scalarT, scalarP, scalarC]
  simp only [RUN, core, T.c, T.s, T.b, T.i, sBin, sInt, sUn, isShift, asInt, P1.cells, loadT, ptrC, storeT, putC, fillP, Nat.reduceAdd, reduceIte, Nat.reduceEqDiff, Nat.reduceLT, Nat.reduceLeDiff, reduceCtorEq, eq_self, FIT, lendCs_map, verC_map, FinC, resPs, resP, lendPl, lendCs, lendC, sealC, partsT, finHs, tupT, verT, verP, verC, verB, verAt, Blk.ver, handsAre, forall_const, CHT, disj, Nat.reduceBEq, beq_self_eq_true, APT, srcOf, sealPs, sealCs, sealC, toVs, Option.map_some, List.mem_singleton, forall_eq, ALT, UFt_1, scalarT, scalarP, scalarC]
  refine callMk (markDk_ok d 1 (by omega) hkx 1101 1102 1103 _ _ _) rfl rfl rfl rfl (by decide) rfl rfl rfl ⟨rfl, ?_⟩
  simp only [RUN, core, T.c, T.s, T.b, T.i, sBin, sInt, sUn, isShift, asInt, P1.cells, loadT, ptrC, storeT, putC, fillP, Nat.reduceAdd, reduceIte, Nat.reduceEqDiff, Nat.reduceLT, Nat.reduceLeDiff, reduceCtorEq, eq_self, FIT, lendCs_map, verC_map, FinC, resPs, resP, lendPl, lendCs, lendC, sealC, partsT, finHs, tupT, verT, verP, verC, verB, verAt, Blk.ver, handsAre, forall_const, CHT, disj, Nat.reduceBEq, beq_self_eq_true, APT, srcOf, sealPs, sealCs, sealC, toVs, Option.map_some, List.mem_singleton, forall_eq, ALT, UFt_1, nkx]
  refine callL (ws := dkL 1201 _ 1202 _ 1203 _ rd) (ns := [1201, 1202, 1203]) hE1 rfl (lend1 rfl rfl rfl rfl rfl rfl rfl) rfl rfl ⟨?_, ?_⟩
  · simp only [RUN, core, T.c, T.s, T.b, T.i, sBin, sInt, sUn, isShift, asInt, P1.cells, loadT, ptrC, storeT, putC, fillP, Nat.reduceAdd, reduceIte, Nat.reduceEqDiff, Nat.reduceLT, Nat.reduceLeDiff, reduceCtorEq, eq_self, FIT, lendCs_map, verC_map, FinC, resPs, resP, lendPl, lendCs, lendC, sealC, partsT, finHs, tupT, verT, verP, verC, verB, verAt, Blk.ver, handsAre, forall_const, CHT, disj, Nat.reduceBEq, beq_self_eq_true, APT, srcOf, sealPs, sealCs, sealC, toVs, Option.map_some, List.mem_singleton, forall_eq, ALT, UFt_1, scalarT, scalarP, scalarC]
  simp only [RUN, core, T.c, T.s, T.b, T.i, sBin, sInt, sUn, isShift, asInt, P1.cells, loadT, ptrC, storeT, putC, fillP, Nat.reduceAdd, reduceIte, Nat.reduceEqDiff, Nat.reduceLT, Nat.reduceLeDiff, reduceCtorEq, eq_self, FIT, lendCs_map, verC_map, FinC, resPs, resP, lendPl, lendCs, lendC, sealC, partsT, finHs, tupT, verT, verP, verC, verB, verAt, Blk.ver, handsAre, forall_const, CHT, disj, Nat.reduceBEq, beq_self_eq_true, APT, srcOf, sealPs, sealCs, sealC, toVs, Option.map_some, List.mem_singleton, forall_eq, ALT, UFt_1, scalarT, scalarP, scalarC, nn]
  refine callMk (markDk_ok rd 1 (by omega) hkg 1201 1202 1203 _ _ _) rfl rfl rfl rfl (by decide) rfl rfl rfl ⟨rfl, ?_⟩
  simp only [RUN, core, T.c, T.s, T.b, T.i, sBin, sInt, sUn, isShift, asInt, P1.cells, loadT, ptrC, storeT, putC, fillP, Nat.reduceAdd, reduceIte, Nat.reduceEqDiff, Nat.reduceLT, Nat.reduceLeDiff, reduceCtorEq, eq_self, FIT, lendCs_map, verC_map, FinC, resPs, resP, lendPl, lendCs, lendC, sealC, partsT, finHs, tupT, verT, verP, verC, verB, verAt, Blk.ver, handsAre, forall_const, CHT, disj, Nat.reduceBEq, beq_self_eq_true, APT, srcOf, sealPs, sealCs, sealC, toVs, Option.map_some, List.mem_singleton, forall_eq, ALT, UFt_1]
  refine callL (ws := dkL 1201 _ 1202 _ 1203 _ (mkDk 1 rd)) (ns := [1201, 1202, 1203]) hH rfl (lend1 rfl rfl rfl (mk_len 1 rd).1 (mk_len 1 rd).2.1 (mk_len 1 rd).2.2 rfl) rfl rfl ⟨?_, ?_⟩
  · simp only [RUN, core, T.c, T.s, T.b, T.i, sBin, sInt, sUn, isShift, asInt, P1.cells, loadT, ptrC, storeT, putC, fillP, Nat.reduceAdd, reduceIte, Nat.reduceEqDiff, Nat.reduceLT, Nat.reduceLeDiff, reduceCtorEq, eq_self, FIT, lendCs_map, verC_map, FinC, resPs, resP, lendPl, lendCs, lendC, sealC, partsT, finHs, tupT, verT, verP, verC, verB, verAt, Blk.ver, handsAre, forall_const, CHT, disj, Nat.reduceBEq, beq_self_eq_true, APT, srcOf, sealPs, sealCs, sealC, toVs, Option.map_some, List.mem_singleton, forall_eq, ALT, UFt_1, scalarT, scalarP, scalarC]
  simp only [RUN, core, T.c, T.s, T.b, T.i, sBin, sInt, sUn, isShift, asInt, P1.cells, loadT, ptrC, storeT, putC, fillP, Nat.reduceAdd, reduceIte, Nat.reduceEqDiff, Nat.reduceLT, Nat.reduceLeDiff, reduceCtorEq, eq_self, FIT, lendCs_map, verC_map, FinC, resPs, resP, lendPl, lendCs, lendC, sealC, partsT, finHs, tupT, verT, verP, verC, verB, verAt, Blk.ver, handsAre, forall_const, CHT, disj, Nat.reduceBEq, beq_self_eq_true, APT, srcOf, sealPs, sealCs, sealC, toVs, Option.map_some, List.mem_singleton, forall_eq, ALT, UFt_1, scalarT, scalarP, scalarC, nkg, nm]
  refine callDk (ws := []) (ns := []) (hto 1401 1402 1403) rfl rfl rfl (by decide) ⟨?_, ?_⟩
  · simp only [RUN, core, T.c, T.s, T.b, T.i, sBin, sInt, sUn, isShift, asInt, P1.cells, loadT, ptrC, storeT, putC, fillP, Nat.reduceAdd, reduceIte, Nat.reduceEqDiff, Nat.reduceLT, Nat.reduceLeDiff, reduceCtorEq, eq_self, FIT, lendCs_map, verC_map, FinC, resPs, resP, lendPl, lendCs, lendC, sealC, partsT, finHs, tupT, verT, verP, verC, verB, verAt, Blk.ver, handsAre, forall_const, CHT, disj, Nat.reduceBEq, beq_self_eq_true, APT, srcOf, sealPs, sealCs, sealC, toVs, Option.map_some, List.mem_singleton, forall_eq, ALT, UFt_1]
  simp only [RUN, core, T.c, T.s, T.b, T.i, sBin, sInt, sUn, isShift, asInt, P1.cells, loadT, ptrC, storeT, putC, fillP, Nat.reduceAdd, reduceIte, Nat.reduceEqDiff, Nat.reduceLT, Nat.reduceLeDiff, reduceCtorEq, eq_self, FIT, lendCs_map, verC_map, FinC, resPs, resP, lendPl, lendCs, lendC, sealC, partsT, finHs, tupT, verT, verP, verC, verB, verAt, Blk.ver, handsAre, forall_const, CHT, disj, Nat.reduceBEq, beq_self_eq_true, APT, srcOf, sealPs, sealCs, sealC, toVs, Option.map_some, List.mem_singleton, forall_eq, ALT, UFt_1]
  refine callC htw rfl rfl rfl rfl ?_
  simp only [RUN, core, T.c, T.s, T.b, T.i, sBin, sInt, sUn, isShift, asInt, P1.cells, loadT, ptrC, storeT, putC, fillP, Nat.reduceAdd, reduceIte, Nat.reduceEqDiff, Nat.reduceLT, Nat.reduceLeDiff, reduceCtorEq, eq_self, FIT, lendCs_map, verC_map, FinC, resPs, resP, lendPl, lendCs, lendC, sealC, partsT, finHs, tupT, verT, verP, verC, verB, verAt, Blk.ver, handsAre, forall_const, CHT, disj, Nat.reduceBEq, beq_self_eq_true, APT, srcOf, sealPs, sealCs, sealC, toVs, Option.map_some, List.mem_singleton, forall_eq, ALT, UFt_1]
  refine callDkI (ws := dkL 1401 _ 1402 _ 1403 _ d) (ns := [1401, 1402, 1403]) (hCI 1501 1502 1503) rfl (lend1 rfl rfl rfl rfl rfl rfl rfl) rfl (by decide) ⟨?_, ?_⟩
  · simp only [RUN, core, T.c, T.s, T.b, T.i, sBin, sInt, sUn, isShift, asInt, P1.cells, loadT, ptrC, storeT, putC, fillP, Nat.reduceAdd, reduceIte, Nat.reduceEqDiff, Nat.reduceLT, Nat.reduceLeDiff, reduceCtorEq, eq_self, FIT, lendCs_map, verC_map, FinC, resPs, resP, lendPl, lendCs, lendC, sealC, partsT, finHs, tupT, verT, verP, verC, verB, verAt, Blk.ver, handsAre, forall_const, CHT, disj, Nat.reduceBEq, beq_self_eq_true, APT, srcOf, sealPs, sealCs, sealC, toVs, Option.map_some, List.mem_singleton, forall_eq, ALT, UFt_1]
  simp only [RUN, core, T.c, T.s, T.b, T.i, sBin, sInt, sUn, isShift, asInt, P1.cells, loadT, ptrC, storeT, putC, fillP, Nat.reduceAdd, reduceIte, Nat.reduceEqDiff, Nat.reduceLT, Nat.reduceLeDiff, reduceCtorEq, eq_self, FIT, lendCs_map, verC_map, FinC, resPs, resP, lendPl, lendCs, lendC, sealC, partsT, finHs, tupT, verT, verP, verC, verB, verAt, Blk.ver, handsAre, forall_const, CHT, disj, Nat.reduceBEq, beq_self_eq_true, APT, srcOf, sealPs, sealCs, sealC, toVs, Option.map_some, List.mem_singleton, forall_eq, ALT, UFt_1]
  refine callL (ws := dkL 1501 _ 1502 _ 1503 _ rd) (ns := [1501, 1502, 1503]) hE1 rfl (lend1 rfl rfl rfl rfl rfl rfl rfl) rfl rfl ⟨?_, ?_⟩
  · simp only [RUN, core, T.c, T.s, T.b, T.i, sBin, sInt, sUn, isShift, asInt, P1.cells, loadT, ptrC, storeT, putC, fillP, Nat.reduceAdd, reduceIte, Nat.reduceEqDiff, Nat.reduceLT, Nat.reduceLeDiff, reduceCtorEq, eq_self, FIT, lendCs_map, verC_map, FinC, resPs, resP, lendPl, lendCs, lendC, sealC, partsT, finHs, tupT, verT, verP, verC, verB, verAt, Blk.ver, handsAre, forall_const, CHT, disj, Nat.reduceBEq, beq_self_eq_true, APT, srcOf, sealPs, sealCs, sealC, toVs, Option.map_some, List.mem_singleton, forall_eq, ALT, UFt_1, scalarT, scalarP, scalarC]
  simp only [RUN, core, T.c, T.s, T.b, T.i, sBin, sInt, sUn, isShift, asInt, P1.cells, loadT, ptrC, storeT, putC, fillP, Nat.reduceAdd, reduceIte, Nat.reduceEqDiff, Nat.reduceLT, Nat.reduceLeDiff, reduceCtorEq, eq_self, FIT, lendCs_map, verC_map, FinC, resPs, resP, lendPl, lendCs, lendC, sealC, partsT, finHs, tupT, verT, verP, verC, verB, verAt, Blk.ver, handsAre, forall_const, CHT, disj, Nat.reduceBEq, beq_self_eq_true, APT, srcOf, sealPs, sealCs, sealC, toVs, Option.map_some, List.mem_singleton, forall_eq, ALT, UFt_1, scalarT, scalarP, scalarC, nn]
  refine callL (ws := dkL 1201 _ 1202 _ 1203 _ (mkDk 1 rd)) (ns := [1201, 1202, 1203]) hH rfl (lend1 rfl rfl rfl (mk_len 1 rd).1 (mk_len 1 rd).2.1 (mk_len 1 rd).2.2 rfl) rfl rfl ⟨?_, ?_⟩
  · simp only [RUN, core, T.c, T.s, T.b, T.i, sBin, sInt, sUn, isShift, asInt, P1.cells, loadT, ptrC, storeT, putC, fillP, Nat.reduceAdd, reduceIte, Nat.reduceEqDiff, Nat.reduceLT, Nat.reduceLeDiff, reduceCtorEq, eq_self, FIT, lendCs_map, verC_map, FinC, resPs, resP, lendPl, lendCs, lendC, sealC, partsT, finHs, tupT, verT, verP, verC, verB, verAt, Blk.ver, handsAre, forall_const, CHT, disj, Nat.reduceBEq, beq_self_eq_true, APT, srcOf, sealPs, sealCs, sealC, toVs, Option.map_some, List.mem_singleton, forall_eq, ALT, UFt_1, scalarT, scalarP, scalarC]
  simp only [RUN, core, T.c, T.s, T.b, T.i, sBin, sInt, sUn, isShift, asInt, P1.cells, loadT, ptrC, storeT, putC, fillP, Nat.reduceAdd, reduceIte, Nat.reduceEqDiff, Nat.reduceLT, Nat.reduceLeDiff, reduceCtorEq, eq_self, FIT, lendCs_map, verC_map, FinC, resPs, resP, lendPl, lendCs, lendC, sealC, partsT, finHs, tupT, verT, verP, verC, verB, verAt, Blk.ver, handsAre, forall_const, CHT, disj, Nat.reduceBEq, beq_self_eq_true, APT, srcOf, sealPs, sealCs, sealC, toVs, Option.map_some, List.mem_singleton, forall_eq, ALT, UFt_1, scalarT, scalarP, scalarC, nkg, nm]
end Go.V

/- It is proved that the law FnKindJoin returns true for every input and leaves its input as it was; no condition. -/
import Derived.Test.YtejcaodogbmpdaaJK2
set_option linter.unusedSimpArgs false
namespace Go.V
open Go.Proofs
theorem lendT_closed (hs : List Hand) (H : HMap) {x : T} (h : closedA x = true) : lendT H x x = some (x, [], []) ∧ renIT hs x = some x := by
  cases x with
  | pt p =>
    cases p with
    | one c => obtain ⟨h1, h2, _⟩ := closed_C hs H c h; exact ⟨by simp [lendT, h1], by simp [renIT, h2]⟩
    | agg cs => obtain ⟨h1, h2, _⟩ := closed_Cs hs H cs h; exact ⟨by simp [lendT, h1], by simp [renIT, h2]⟩
  | junk => simp [closedA] at h
  | undef => simp [closedA] at h
  | tup ps => simp [closedA] at h
theorem lendTs_snoc (hs : List Hand) (H : HMap) (n m v j : Nat) (hI : inN hs n = some m) : ∀ (ac : List T), ac.all closedA = true → lendTs H (ac ++ [.c (.ptr n v j)]) (ac ++ [.c (.ptr m v j)]) = some (ac ++ [.c (.ptr m v j)], [], []) ∧ renITs hs (ac ++ [.c (.ptr n v j)]) = some (ac ++ [.c (.ptr m v j)])
  | [], _ => ⟨by simp [lendTs, lendT, lendC, T.c], by simp [renITs, renIT, renI, hI, T.c]⟩
  | x :: ac, h => by
    simp only [List.all_cons, Bool.and_eq_true] at h
    obtain ⟨h1, h2⟩ := lendT_closed hs H h.1
    obtain ⟨h3, h4⟩ := lendTs_snoc hs H n m v j hI ac h.2
    exact ⟨by simp only [List.cons_append, lendTs, h1, h3, List.nil_append], by simp only [List.cons_append, renITs, h2, h4]⟩
/-- A call that hands on a variable by a pointer to it, the last argument, beside closed values. -/
theorem callP {P : Program} {t : Nat → T} {H : HMap} {c : Nat} {f : Opd} {args : List Opd} {fid : FuncId} {n m v : Nat} {ty : TypeId} {xs ys : List V} {argsC : List T} {r : T} {k : Nat} {d : Option Nat} {un : List Nat} {l : List AOper} {prev : List (Nat × List Nat × List Nat)} {K : St → Prop}
    (hC : ACallsF P fid (argsC ++ [.c (.ptr n v 0)]) [⟨n, m, some (.var v ty (xs.map .v)), .var v ty (ys.map .v), true⟩] r) (hf : ev t f = .pt (.one (.fn fid []))) (hl : args.map (ev t) = argsC ++ [.c (.ptr m v 0)])
    (ha : argsC.all closedA = true) (hr : closedT r = true) (hH : H m = some (.var v ty (xs.map .v)))
    (hk : chk prev un ⟨r, [(m, .var v ty (ys.map .v))], [m], [m]⟩ = true ∧ DRun P l ((k, [m], [m]) :: prev) K ⟨updD t d r, upd H m (some (.var v ty (ys.map .v))), c⟩) :
    step P k d un (.call f args) l prev K t H c := by
  let hs : List Hand := [⟨n, m, some (.var v ty (xs.map .v)), .var v ty (ys.map .v), true⟩]
  have hcl : ∀ xs : List V, (xs.map C.v).all closedC = true := by intro xs; simp [closedC]
  have hN : renN hs n = some ⟨n, m, some (.var v ty (xs.map .v)), .var v ty (ys.map .v), true⟩ := by simp [hs, renN]
  have hI : inN hs n = some m := by simp [inN, hN]
  obtain ⟨h1, h2⟩ := lendTs_snoc hs H n m v 0 hI argsC ha
  refine callW (caps := []) (ws := []) (ns := []) hs hC hf (by rw [hl]; simpa using h1) h2 ⟨?_, trivial⟩ (by simp [hs]) (by simp [hs]) (closed_T hs r hr _) (ob := [(m, .var v ty (ys.map .v))]) ?_ ?_
  · simp only [renIB, (closed_Cs hs H (xs.map .v) (hcl _)).2.1, Option.map_some]
    exact hH
  · simp only [hs, renOBs, renOB, verOf, Blk.ver]
    rw [(closed_Cs _ H (ys.map .v) (hcl _)).2.2]
    rfl
  · have hq : quiet r hs = false := by simp [quiet, hs]
    simpa [hq, hs, updH] using hk
/- (loop.example/teagle/impl.Kind).shapeOk -/
def r98_0 : List AOper := [ao 0 1 (.box 26 (.t 0)),
  ao 1 2 (.mv (.k (.b false)))]
def r98_1 : List AOper := [ao 0 3 (.fa 0 (.t 1)),
  ao 1 4 (.ld 1 false (.t 3))]
def r98_2 : List AOper := [ao 0 6 (.bin .eql (.t 4) (.k (.i 1))),
  ao 1 5 (.mv (.t 6))]
def r98_3 : List AOper := [ao 0 7 (.bin .eql (.t 4) (.k (.i 2))),
  ao 1 5 (.mv (.t 7))]
def r98_4 : List AOper := [ao 0 8 (.bin .eql (.t 4) (.k (.i 3))),
  ao 1 5 (.mv (.t 8))]
def c98_5 : ACode := .cond (.t 5) .skip (.reg r98_4)
def c98_6 : ACode := .seq (.reg r98_3) c98_5
def c98_7 : ACode := .cond (.t 5) .skip c98_6
def c98_8 : ACode := .seq (.reg r98_2) c98_7
def r98_9 : List AOper := [ao 0 9 (.fa 1 (.t 1)),
  ao 1 10 (.ld 1 false (.t 9)),
  ao 2 11 (.len (.t 10)),
  ao 3 12 (.fa 2 (.t 1)),
  ao 4 13 (.ld 1 false (.t 12)),
  ao 5 14 (.len (.t 13)),
  ao 6 15 (.bin .add (.t 11) (.t 14)),
  ao 7 16 (.bin .eql (.t 15) (.k (.i 0))),
  ao 8 2 (.mv (.t 16))]
def c98_10 : ACode := .seq (.reg r98_9) .ret
def r98_11 : List AOper := [ao 0 18 (.bin .eql (.t 4) (.k (.i 4))),
  ao 1 17 (.mv (.t 18))]
def r98_12 : List AOper := [ao 0 19 (.bin .eql (.t 4) (.k (.i 6))),
  ao 1 17 (.mv (.t 19))]
def c98_13 : ACode := .cond (.t 17) .skip (.reg r98_12)
def c98_14 : ACode := .seq (.reg r98_11) c98_13
def r98_15 : List AOper := [ao 0 20 (.fa 1 (.t 1)),
  ao 1 21 (.ld 1 false (.t 20)),
  ao 2 22 (.len (.t 21)),
  ao 3 23 (.bin .eql (.t 22) (.k (.i 0))),
  ao 4 24 (.mv (.t 23)),
  ag 5 25 24 true [] (.fa 2 (.t 1)),
  ag 6 26 24 true [] (.ld 1 false (.t 25)),
  ag 7 27 24 true [] (.len (.t 26)),
  ag 8 28 24 true [] (.bin .eql (.t 27) (.k (.i 1))),
  ao 9 29 (.pick (.t 24) (.t 28) (.k (.b false))),
  ao 10 2 (.mv (.t 29))]
def c98_16 : ACode := .seq (.reg r98_15) .ret
def c98_17 : ACode := .cond (.t 17) c98_16 .skip
def c98_18 : ACode := .seq c98_14 c98_17
def c98_19 : ACode := .cond (.t 5) c98_10 c98_18
def c98_20 : ACode := .seq c98_8 c98_19
def c98_21 : ACode := .block 0 c98_20
def c98_22 : ACode := .seq (.reg r98_1) c98_21
def r98_23 : List AOper := [ao 0 30 (.fa 0 (.t 1)),
  ao 1 31 (.ld 1 false (.t 30)),
  ao 2 32 (.bin .eql (.t 31) (.k (.i 5))),
  ao 3 33 (.mv (.t 32)),
  ag 4 34 33 true [] (.fa 1 (.t 1)),
  ag 5 35 33 true [] (.ld 1 false (.t 34)),
  ag 6 36 33 true [] (.call (.k (.c (.fn 106 []))) [(.t 35)]),
  ao 7 37 (.pick (.t 33) (.t 36) (.k (.b false))),
  ao 8 38 (.mv (.t 37)),
  ag 9 39 38 true [] (.fa 1 (.t 1)),
  ag 10 40 38 true [] (.ld 1 false (.t 39)),
  ag 11 41 38 true [] (.len (.t 40)),
  ag 12 42 38 true [] (.fa 2 (.t 1)),
  ag 13 43 38 true [] (.ld 1 false (.t 42)),
  ag 14 44 38 true [] (.len (.t 43)),
  ag 15 45 38 true [] (.bin .eql (.t 41) (.t 44)),
  ao 16 46 (.pick (.t 38) (.t 45) (.k (.b false))),
  ao 17 2 (.mv (.t 46))]
def c98 : ACode := .seq (.reg r98_0) (.seq c98_22 (.seq (.reg r98_23) .ret))
def s98 : List ARes := [.tmp 2]
theorem ok98 : okF Try.prog 98 47 c98 s98 := ⟨Try.f98, Try.func98, Try.ntmps98, by kernel_rfl, by kernel_rfl, by kernel_rfl⟩
noncomputable def shapeB (s : Int) (ns : List ByteArray) (ks : List Kd) : Bool := @decide (Shape s ns ks) (Classical.propDecidable _)
theorem shapeB_true {s : Int} {ns : List ByteArray} {ks : List Kd} : shapeB s ns ks = true ↔ Shape s ns ks := by simp [shapeB]
theorem shapeB_eq {s : Int} {ns : List ByteArray} {ks : List Kd} {b : Bool} (h : Shape s ns ks ↔ b = true) : shapeB s ns ks = b := by
  cases h1 : shapeB s ns ks with
  | true => exact (h.1 (shapeB_true.1 h1)).symm
  | false =>
    cases b with
    | false => rfl
    | true => rw [shapeB_true.2 (h.2 rfl)] at h1; cases h1
theorem ULa_1 : (type_of% (uA c98.eq_1)) ∧ (type_of% (uR r98_0.eq_1)) ∧ (type_of% (uA c98_22.eq_1)) ∧ (type_of% (uR r98_1.eq_1)) ∧ (type_of% (uA c98_21.eq_1)) ∧ (type_of% (uA c98_20.eq_1)) ∧ (type_of% (uA c98_8.eq_1)) ∧ (type_of% (uR r98_2.eq_1)) ∧ (type_of% (uA c98_7.eq_1)) ∧ (type_of% (uA c98_6.eq_1)) ∧ (type_of% (uR r98_3.eq_1)) ∧ (type_of% (uA c98_5.eq_1)) ∧ (type_of% (uR r98_4.eq_1)) ∧ (type_of% (uA c98_19.eq_1)) ∧ (type_of% (uA c98_10.eq_1)) ∧ (type_of% (uR r98_9.eq_1)) ∧ (type_of% (uA c98_18.eq_1)) ∧ (type_of% (uA c98_14.eq_1)) ∧ (type_of% (uR r98_11.eq_1)) ∧ (type_of% (uA c98_13.eq_1)) ∧ (type_of% (uR r98_12.eq_1)) ∧ (type_of% (uA c98_17.eq_1)) ∧ (type_of% (uA c98_16.eq_1)) ∧ (type_of% (uR r98_15.eq_1)) ∧ (type_of% (uR r98_23.eq_1)) ∧ (type_of% s98.eq_1) :=
  ⟨uA c98.eq_1, uR r98_0.eq_1, uA c98_22.eq_1, uR r98_1.eq_1, uA c98_21.eq_1, uA c98_20.eq_1, uA c98_8.eq_1, uR r98_2.eq_1, uA c98_7.eq_1, uA c98_6.eq_1, uR r98_3.eq_1, uA c98_5.eq_1, uR r98_4.eq_1, uA c98_19.eq_1, uA c98_10.eq_1, uR r98_9.eq_1, uA c98_18.eq_1, uA c98_14.eq_1, uR r98_11.eq_1, uA c98_13.eq_1, uR r98_12.eq_1, uA c98_17.eq_1, uA c98_16.eq_1, uR r98_15.eq_1, uR r98_23.eq_1, s98.eq_1⟩
theorem shapeOk_ok (s : Int) (ns : List ByteArray) (ks : List Kd) (hl : ns.length ≤ 1000000 ∧ ks.length ≤ 1000000) (hs : ∀ s ∈ ns, s.size ≤ 1000000) : ACallsF Try.prog 98 [tK (.mk s ns ks)] [] (.b (shapeB s ns ks)) := by
  have w1 : IntKind.i64.wrap ((ns.length : Int) + (ks.length : Int)) = (ns.length : Int) + (ks.length : Int) := wrap64 ⟨by omega, by omega⟩
  have leaf : 1 ≤ s ∧ s ≤ 3 → shapeB s ns ks = ((ns.length : Int) + (ks.length : Int) == 0) := by
    rintro ⟨h1, h2⟩
    refine shapeB_eq ⟨fun h => ?_, fun h => ?_⟩
    · have e1 := h.other (by omega)
      have e2 := h.leaf (by omega)
      exact beq_iff_eq.2 (by omega)
    · have h := beq_iff_eq.1 h
      exact ⟨by omega, by omega, fun h => by omega, fun _ => by omega, fun _ => by omega, fun h => by omega⟩
  have one : s = 4 ∨ s = 6 → ∀ b1 b2, ((ns.length : Int) == 0) = b1 → ((ks.length : Int) == 1) = b2 → shapeB s ns ks = (b1 && b2) := by
    rintro h b1 b2 rfl rfl
    refine shapeB_eq ⟨fun h2 => ?_, fun h2 => ?_⟩
    · have e1 := h2.other (by omega)
      have e2 := h2.one h
      simp only [Bool.and_eq_true, beq_iff_eq]; omega
    · simp only [Bool.and_eq_true, beq_iff_eq] at h2
      exact ⟨by omega, by omega, fun h => by omega, fun _ => by omega, fun _ => by omega, fun _ => by omega⟩
  refine ACallsF.intro ok98 follows fun X c0 => ?_
  by_cases hlf : 1 ≤ s ∧ s ≤ 3
  · have hm := leaf hlf
    rcases (by omega : s = 1 ∨ s = 2 ∨ s = 3) with rfl | rfl | rfl
    all_goals simp only [RUN, core, T.c, T.s, T.b, T.i, sBin, sInt, sUn, isShift, asInt, P1.cells, loadT, ptrC, storeT, putC, fillP, Nat.reduceAdd, reduceIte, Nat.reduceEqDiff, Nat.reduceLT, Nat.reduceLeDiff, reduceCtorEq, eq_self, FIT, lendCs_map, verC_map, FinC, resPs, resP, lendPl, lendCs, lendC, sealC, partsT, finHs, tupT, verT, verP, verC, verB, verAt, Blk.ver, handsAre, forall_const, CHT, disj, Nat.reduceBEq, beq_self_eq_true, APT, srcOf, sealPs, sealCs, sealC, List.mem_singleton, forall_eq, ALT, ULa_1, encK_mk, encKs_len, encS_len, Int.reduceBEq, w1, hm]
  by_cases hon : s = 4 ∨ s = 6
  · have hm := one hon
    have hb : ∃ b1 b2, ((ns.length : Int) == 0) = b1 ∧ ((ks.length : Int) == 1) = b2 := ⟨_, _, rfl, rfl⟩
    obtain ⟨b1, b2, hb1, hb2⟩ := hb
    have hm := hm b1 b2 hb1 hb2
    rcases hon with rfl | rfl
    all_goals
      cases b1
      · simp only [RUN, core, T.c, T.s, T.b, T.i, sBin, sInt, sUn, isShift, asInt, P1.cells, loadT, ptrC, storeT, putC, fillP, Nat.reduceAdd, reduceIte, Nat.reduceEqDiff, Nat.reduceLT, Nat.reduceLeDiff, reduceCtorEq, eq_self, FIT, lendCs_map, verC_map, FinC, resPs, resP, lendPl, lendCs, lendC, sealC, partsT, finHs, tupT, verT, verP, verC, verB, verAt, Blk.ver, handsAre, forall_const, CHT, disj, Nat.reduceBEq, beq_self_eq_true, APT, srcOf, sealPs, sealCs, sealC, List.mem_singleton, forall_eq, ALT, ULa_1, encK_mk, encKs_len, encS_len, Int.reduceBEq, hb1, hb2, hm]
      · simp only [RUN, core, T.c, T.s, T.b, T.i, sBin, sInt, sUn, isShift, asInt, P1.cells, loadT, ptrC, storeT, putC, fillP, Nat.reduceAdd, reduceIte, Nat.reduceEqDiff, Nat.reduceLT, Nat.reduceLeDiff, reduceCtorEq, eq_self, FIT, lendCs_map, verC_map, FinC, resPs, resP, lendPl, lendCs, lendC, sealC, partsT, finHs, tupT, verT, verP, verC, verB, verAt, Blk.ver, handsAre, forall_const, CHT, disj, Nat.reduceBEq, beq_self_eq_true, APT, srcOf, sealPs, sealCs, sealC, List.mem_singleton, forall_eq, ALT, ULa_1, encK_mk, encKs_len, encS_len, Int.reduceBEq, hb1, hb2, hm]
  have b1 : (s == 1) = false := beq_eq_false_iff_ne.2 (by omega)
  have b2 : (s == 2) = false := beq_eq_false_iff_ne.2 (by omega)
  have b3 : (s == 3) = false := beq_eq_false_iff_ne.2 (by omega)
  have b4 : (s == 4) = false := beq_eq_false_iff_ne.2 (by omega)
  have b6 : (s == 6) = false := beq_eq_false_iff_ne.2 (by omega)
  by_cases h5 : s = 5
  · subst h5
    simp only [RUN, core, T.c, T.s, T.b, T.i, sBin, sInt, sUn, isShift, asInt, P1.cells, loadT, ptrC, storeT, putC, fillP, Nat.reduceAdd, reduceIte, Nat.reduceEqDiff, Nat.reduceLT, Nat.reduceLeDiff, reduceCtorEq, eq_self, FIT, lendCs_map, verC_map, FinC, resPs, resP, lendPl, lendCs, lendC, sealC, partsT, finHs, tupT, verT, verP, verC, verB, verAt, Blk.ver, handsAre, forall_const, CHT, disj, Nat.reduceBEq, beq_self_eq_true, APT, srcOf, sealPs, sealCs, sealC, List.mem_singleton, forall_eq, ALT, ULa_1, encK_mk, encKs_len, encS_len, Int.reduceBEq]
    refine callC (areNames_ok ns (by omega) (fun s h => by have := hs s h; omega)) rfl rfl rfl rfl ?_
    cases hr : rise ns with
    | false =>
      have hm : shapeB 5 ns ks = false := shapeB_eq ⟨fun h => absurd hr (by rw [(h.form rfl).2]; simp), fun h => by cases h⟩
      simp only [RUN, core, T.c, T.s, T.b, T.i, sBin, sInt, sUn, isShift, asInt, P1.cells, loadT, ptrC, storeT, putC, fillP, Nat.reduceAdd, reduceIte, Nat.reduceEqDiff, Nat.reduceLT, Nat.reduceLeDiff, reduceCtorEq, eq_self, FIT, lendCs_map, verC_map, FinC, resPs, resP, lendPl, lendCs, lendC, sealC, partsT, finHs, tupT, verT, verP, verC, verB, verAt, Blk.ver, handsAre, forall_const, CHT, disj, Nat.reduceBEq, beq_self_eq_true, APT, srcOf, sealPs, sealCs, sealC, List.mem_singleton, forall_eq, ALT, ULa_1, encKs_len, encS_len, hm]
    | true =>
      have hm : shapeB 5 ns ks = ((ns.length : Int) == (ks.length : Int)) := shapeB_eq ⟨fun h => beq_iff_eq.2 (by have := (h.form rfl).1; omega), fun h => by
        have h := beq_iff_eq.1 h
        exact ⟨by omega, by omega, fun _ => ⟨by omega, hr⟩, fun h => absurd rfl h, fun h => by omega, fun h => by omega⟩⟩
      simp only [RUN, core, T.c, T.s, T.b, T.i, sBin, sInt, sUn, isShift, asInt, P1.cells, loadT, ptrC, storeT, putC, fillP, Nat.reduceAdd, reduceIte, Nat.reduceEqDiff, Nat.reduceLT, Nat.reduceLeDiff, reduceCtorEq, eq_self, FIT, lendCs_map, verC_map, FinC, resPs, resP, lendPl, lendCs, lendC, sealC, partsT, finHs, tupT, verT, verP, verC, verB, verAt, Blk.ver, handsAre, forall_const, CHT, disj, Nat.reduceBEq, beq_self_eq_true, APT, srcOf, sealPs, sealCs, sealC, List.mem_singleton, forall_eq, ALT, ULa_1, encKs_len, encS_len, hm]
  · have b5 : (s == 5) = false := beq_eq_false_iff_ne.2 h5
    have hm : shapeB s ns ks = false := shapeB_eq ⟨fun h => by have := h.lo; have := h.hi; omega, fun h => by cases h⟩
    simp only [RUN, core, T.c, T.s, T.b, T.i, sBin, sInt, sUn, isShift, asInt, P1.cells, loadT, ptrC, storeT, putC, fillP, Nat.reduceAdd, reduceIte, Nat.reduceEqDiff, Nat.reduceLT, Nat.reduceLeDiff, reduceCtorEq, eq_self, FIT, lendCs_map, verC_map, FinC, resPs, resP, lendPl, lendCs, lendC, sealC, partsT, finHs, tupT, verT, verP, verC, verB, verAt, Blk.ver, handsAre, forall_const, CHT, disj, Nat.reduceBEq, beq_self_eq_true, APT, srcOf, sealPs, sealCs, sealC, List.mem_singleton, forall_eq, ALT, ULa_1, encK_mk, encKs_len, encS_len, b1, b2, b3, b4, b5, b6, hm]
end Go.V
set_option linter.unusedSimpArgs false
namespace Go.V
open Go.Proofs
/- (loop.example/teagle/impl.Kind).look -/
def r78_0 : List AOper := [ao 0 3 (.box 26 (.t 0)),
  ao 1 6 (.mv (.k (.b false)))]
def r78_1 : List AOper := [ao 0 9 (.mv (.t 2)),
  ao 1 10 (.nck (.t 9)),
  ao 2 11 (.ld 1 false (.t 10)),
  ao 3 12 (.bin .add (.t 11) (.k (.i 1))),
  ao 4 13 (.nck (.t 9)),
  an 5 (.st 1 (.t 13) (.t 12))]
def r78_2 : List AOper := [ao 0 14 (.mv (.t 1)),
  ao 1 15 (.bin .gtr (.t 14) (.k (.i 6))),
  ao 2 16 (.mv (.t 15)),
  ag 3 17 16 false [] (.mv (.t 2)),
  ag 4 18 16 false [] (.nck (.t 17)),
  ag 5 19 16 false [] (.ld 1 false (.t 18)),
  ag 6 20 16 false [] (.bin .gtr (.t 19) (.k (.i 40))),
  ao 7 21 (.pick (.t 16) (.k (.b true)) (.t 20)),
  ao 8 22 (.mv (.t 21)),
  ag 9 23 22 false [] (.ld 3 true (.t 3)),
  ag 10 24 22 false [] (.call (.k (.c (.fn 98 []))) [(.t 23)]),
  ag 11 25 22 false [] (.un .not (.t 24)),
  ao 12 26 (.pick (.t 22) (.k (.b true)) (.t 25))]
def r78_3 : List AOper := [ao 0 6 (.mv (.k (.b false)))]
def c78_4 : ACode := .seq (.reg r78_3) .ret
def c78_5 : ACode := .cond (.t 26) c78_4 .skip
def c78_6 : ACode := .seq (.reg r78_2) c78_5
def r78_7 : List AOper := [ao 0 27 (.fa 2 (.t 3)),
  ao 1 28 (.ld 1 false (.t 27)),
  ao 2 29 (.len (.t 28)),
  ao 3 30 (.mv (.k (.i 0)))]
def r78_8 : List AOper := [ao 0 31 (.bin .lss (.t 30) (.t 29))]
def c78_9 : ACode := .cond (.t 31) .skip (.exit 0)
def r78_10 : List AOper := [ao 0 32 (.ia 3 (.t 28) (.t 30)),
  ao 1 33 (.ld 3 true (.t 32)),
  ao 2 8 (.alloc 26 [(.v (.s (.int .i64 0))), .nil0, .nil0]),
  an 3 (.st 3 (.t 8) (.t 33))]
def r78_11 : List AOper := [ao 0 34 (.ld 3 true (.t 8)),
  ao 1 35 (.mv (.t 1)),
  ao 2 36 (.bin .add (.t 35) (.k (.i 1))),
  ao 3 37 (.mv (.t 2)),
  ao 4 38 (.call (.k (.c (.fn 78 []))) [(.t 34), (.t 36), (.t 37)]),
  ao 5 39 (.un .not (.t 38))]
def r78_12 : List AOper := [ao 0 6 (.mv (.k (.b false)))]
def c78_13 : ACode := .seq (.reg r78_12) .ret
def c78_14 : ACode := .cond (.t 39) c78_13 .skip
def c78_15 : ACode := .seq (.reg r78_10) (.seq (.reg r78_11) c78_14)
def c78_16 : ACode := .block 1 c78_15
def r78_17 : List AOper := [ao 0 40 (.bin .add (.t 30) (.k (.i 1))),
  ao 1 30 (.mv (.t 40))]
def c78_18 : ACode := .seq (.reg r78_8) (.seq c78_9 (.seq c78_16 (.reg r78_17)))
def c78_19 : ACode := .loop c78_18
def c78_20 : ACode := .block 0 c78_19
def c78_21 : ACode := .seq (.reg r78_7) c78_20
def r78_22 : List AOper := [ao 0 6 (.mv (.k (.b true)))]
def c78 : ACode := .seq (.reg r78_0) (.seq (.reg r78_1) (.seq c78_6 (.seq c78_21 (.seq (.reg r78_22) .ret))))
def s78 : List ARes := [.tmp 6]
theorem ok78 : okF Try.prog 78 41 c78 s78 := ⟨Try.f78, Try.func78, Try.ntmps78, by kernel_rfl, by kernel_rfl, by kernel_rfl⟩
abbrev lH (m v : Nat) (p p' : Int) : Hand := ⟨1001, m, some (.var v 3 ([.s (.int .i64 p)].map .v)), .var v 3 ([.s (.int .i64 p')].map .v), true⟩
def LookR (d : Nat) (k : Kd) (p : Nat) (p' : Int) (b : Bool) : Prop := (KOk d k ∧ p + parts k ≤ 40 ∧ b = true ∧ p' = (p + parts k : Nat)) ∨ (¬ (KOk d k ∧ p + parts k ≤ 40) ∧ b = false)
def inv78 (v d : Nat) (p : Nat) (ks : List Kd) (i : Nat) (σ : St) : Prop :=
  σ.t 1 = .i d ∧ σ.t 2 = .c (.ptr 1001 v 0) ∧ σ.t 28 = .c (.v (.sl (encKs ks))) ∧ σ.t 29 = .i ks.length ∧ σ.t 30 = .i i ∧ σ.H 1001 = some (.var v 3 [.v (.s (.int .i64 ((p + 1 + partsL (ks.take i) : Nat) : Int)))])
theorem ULb_1 : (type_of% (uA c78.eq_1)) ∧ (type_of% (uR r78_0.eq_1)) ∧ (type_of% (uR r78_1.eq_1)) ∧ (type_of% (uA c78_6.eq_1)) ∧ (type_of% (uR r78_2.eq_1)) ∧ (type_of% (uA c78_5.eq_1)) ∧ (type_of% (uA c78_4.eq_1)) ∧ (type_of% (uR r78_3.eq_1)) ∧ (type_of% (uA c78_21.eq_1)) ∧ (type_of% (uR r78_7.eq_1)) ∧ (type_of% (uA c78_20.eq_1)) ∧ (type_of% (uA c78_19.eq_1)) ∧ (type_of% (uR r78_22.eq_1)) ∧ (type_of% s78.eq_1) :=
  ⟨uA c78.eq_1, uR r78_0.eq_1, uR r78_1.eq_1, uA c78_6.eq_1, uR r78_2.eq_1, uA c78_5.eq_1, uA c78_4.eq_1, uR r78_3.eq_1, uA c78_21.eq_1, uR r78_7.eq_1, uA c78_20.eq_1, uA c78_19.eq_1, uR r78_22.eq_1, s78.eq_1⟩
theorem ULb_3 : (type_of% (uA c78_18.eq_1)) ∧ (type_of% (uR r78_8.eq_1)) ∧ (type_of% (uA c78_9.eq_1)) ∧ (type_of% (uA c78_16.eq_1)) ∧ (type_of% (uA c78_15.eq_1)) ∧ (type_of% (uR r78_10.eq_1)) ∧ (type_of% (uR r78_11.eq_1)) ∧ (type_of% (uA c78_14.eq_1)) ∧ (type_of% (uA c78_13.eq_1)) ∧ (type_of% (uR r78_12.eq_1)) ∧ (type_of% (uR r78_17.eq_1)) ∧ (type_of% (uA c78.eq_1)) ∧ (type_of% (uR r78_0.eq_1)) ∧ (type_of% (uR r78_1.eq_1)) ∧ (type_of% (uA c78_6.eq_1)) ∧ (type_of% (uR r78_2.eq_1)) ∧ (type_of% (uA c78_5.eq_1)) ∧ (type_of% (uA c78_4.eq_1)) ∧ (type_of% (uR r78_3.eq_1)) ∧ (type_of% (uA c78_21.eq_1)) ∧ (type_of% (uR r78_7.eq_1)) ∧ (type_of% (uA c78_20.eq_1)) ∧ (type_of% (uA c78_19.eq_1)) ∧ (type_of% (uR r78_22.eq_1)) ∧ (type_of% s78.eq_1) :=
  ⟨uA c78_18.eq_1, uR r78_8.eq_1, uA c78_9.eq_1, uA c78_16.eq_1, uA c78_15.eq_1, uR r78_10.eq_1, uR r78_11.eq_1, uA c78_14.eq_1, uA c78_13.eq_1, uR r78_12.eq_1, uR r78_17.eq_1, uA c78.eq_1, uR r78_0.eq_1, uR r78_1.eq_1, uA c78_6.eq_1, uR r78_2.eq_1, uA c78_5.eq_1, uA c78_4.eq_1, uR r78_3.eq_1, uA c78_21.eq_1, uR r78_7.eq_1, uA c78_20.eq_1, uA c78_19.eq_1, uR r78_22.eq_1, s78.eq_1⟩
theorem look_ok : ∀ k : Kd, KB 1000000 k → ∀ d p : Nat, d ≤ 100 → p ≤ 1000000 → ∃ (p' : Int) (b : Bool), LookR d k p p' b ∧ ∀ m v, ACallsF Try.prog 78 [tK k, .i d, .c (.ptr 1001 v 0)] [lH m v p p'] (.b b) := by
  intro k
  induction k using Kd.ind with
  | _ s ns ks ih =>
    intro hB d p hd hp
    obtain ⟨hB1, hB2, hB3, hB4⟩ := hB.inv
    have gw : IntKind.i64.wrap ((p : Int) + 1) = ((p + 1 : Nat) : Int) := (wrap64 ⟨by omega, by omega⟩).trans (by omega)
    have hCs := shapeOk_ok s ns ks ⟨hB1, hB2⟩ hB3
    simp only [tK, encK_mk, List.map_cons, List.map_nil] at hCs
    have htake : ∀ i k, ks[i]? = some k → partsL (ks.take (i + 1)) = partsL (ks.take i) + parts k := fun i k hk => by
      rw [List.take_add_one, hk]; exact partsL_snoc _ _
    by_cases hgood : d ≤ 6 ∧ p + 1 ≤ 40 ∧ Shape s ns ks
    · obtain ⟨hd6, hp40, hS⟩ := hgood
      have k1 : ¬ (d : Int) > 6 := by omega
      have k2 : ¬ ((p + 1 : Nat) : Int) > 40 := by omega
      have hsb := shapeB_true.2 hS
      obtain ⟨N, p', b, hN, hok, hR, hend⟩ : ∃ (N : Nat) (p' : Int) (b : Bool), N ≤ ks.length ∧ (∀ i k, i < N → ks[i]? = some k → KOk (d + 1) k ∧ p + 1 + partsL (ks.take (i + 1)) ≤ 40) ∧ LookR d (.mk s ns ks) p p' b ∧
          ((N = ks.length ∧ b = true ∧ p' = ((p + 1 + partsL (ks.take N) : Nat) : Int)) ∨ ∃ k, ks[N]? = some k ∧ b = false ∧ ∀ m v, ACallsF Try.prog 78 [tK k, .i (d + 1 : Nat), .c (.ptr 1001 v 0)] [lH m v ((p + 1 + partsL (ks.take N) : Nat) : Int) p'] (.b false)) := by
        by_cases hbad : ∃ i, ∃ k, ks[i]? = some k ∧ ¬ (KOk (d + 1) k ∧ p + 1 + partsL (ks.take (i + 1)) ≤ 40)
        · obtain ⟨N, ⟨k, hk, hno⟩, hmin⟩ := least hbad
          have hlt := (List.getElem?_eq_some_iff.1 hk).1
          have hmem := List.mem_of_getElem? hk
          have hpre : ∀ i k, i < N → ks[i]? = some k → KOk (d + 1) k ∧ p + 1 + partsL (ks.take (i + 1)) ≤ 40 := fun i k2 hi hk2 => by
            by_cases h : KOk (d + 1) k2 ∧ p + 1 + partsL (ks.take (i + 1)) ≤ 40
            · exact h
            · have := hmin i ⟨k2, hk2, h⟩; omega
          have hq : p + 1 + partsL (ks.take N) ≤ 40 := by
            cases N with
            | zero => simp [partsL]; omega
            | succ n => exact (hpre n _ (by omega) (List.getElem?_eq_getElem (by omega))).2
          obtain ⟨p2, b2, hR2, hC2⟩ := ih k hmem (hB4 k hmem) (d + 1) (p + 1 + partsL (ks.take N)) (by omega) (by omega)
          rcases hR2 with ⟨r1, r2, _⟩ | ⟨_, rfl⟩
          · exact absurd ⟨r1, by rw [htake N k hk]; omega⟩ hno
          · refine ⟨N, p2, false, by omega, hpre, .inr ⟨fun h => hno ?_, rfl⟩, .inr ⟨k, hk, rfl, hC2⟩⟩
            obtain ⟨h1, h2⟩ := h
            refine ⟨h1.inv.2.2 k hmem, ?_⟩
            have := partsL_take_le ks (N + 1)
            simp only [parts] at h2
            omega
        · have hall : ∀ i k, ks[i]? = some k → KOk (d + 1) k ∧ p + 1 + partsL (ks.take (i + 1)) ≤ 40 := fun i k hk => by
            by_cases h : KOk (d + 1) k ∧ p + 1 + partsL (ks.take (i + 1)) ≤ 40
            · exact h
            · exact absurd ⟨i, k, hk, h⟩ hbad
          refine ⟨ks.length, ((p + 1 + partsL (ks.take ks.length) : Nat) : Int), true, Nat.le_refl _, fun i k _ hk => hall i k hk, .inl ⟨.mk _ _ _ _ hd6 hS fun k hk => ?_, ?_, rfl, ?_⟩, .inl ⟨rfl, rfl, rfl⟩⟩
          · obtain ⟨i, hi⟩ := List.mem_iff_getElem?.1 hk
            exact (hall i k hi).1
          · simp only [parts]
            cases hk0 : ks.length with
            | zero => rw [List.length_eq_zero_iff] at hk0; subst hk0; simp [partsL]; omega
            | succ n =>
              have := (hall n _ (List.getElem?_eq_getElem (by omega))).2
              rw [← hk0, List.take_length] at this
              omega
          · rw [List.take_length]; simp only [parts]; omega
      refine ⟨p', b, hR, fun m v => ACallsF.intro ok78 follows fun X c0 => ?_⟩
      simp only [RUN, core, T.c, T.s, T.b, T.i, sBin, sInt, sUn, isShift, asInt, P1.cells, loadT, ptrC, storeT, putC, fillP, Nat.reduceAdd, reduceIte, Nat.reduceEqDiff, Nat.reduceLT, Nat.reduceLeDiff, reduceCtorEq, eq_self, FIT, lendCs_map, verC_map, FinC, resPs, resP, lendPl, lendCs, lendC, sealC, partsT, finHs, tupT, verT, verP, verC, verB, verAt, Blk.ver, handsAre, forall_const, CHT, disj, Nat.reduceBEq, beq_self_eq_true, APT, srcOf, sealPs, sealCs, sealC, List.mem_singleton, forall_eq, ALT, ULb_1, encK_mk, encKs_len, gw, k1, k2]
      refine callC hCs rfl rfl (by simp [closedA, closedP, closedC]) rfl ?_
      simp only [RUN, core, T.c, T.s, T.b, T.i, sBin, sInt, sUn, isShift, asInt, P1.cells, loadT, ptrC, storeT, putC, fillP, Nat.reduceAdd, reduceIte, Nat.reduceEqDiff, Nat.reduceLT, Nat.reduceLeDiff, reduceCtorEq, eq_self, FIT, lendCs_map, verC_map, FinC, resPs, resP, lendPl, lendCs, lendC, sealC, partsT, finHs, tupT, verT, verP, verC, verB, verAt, Blk.ver, handsAre, forall_const, CHT, disj, Nat.reduceBEq, beq_self_eq_true, APT, srcOf, sealPs, sealCs, sealC, List.mem_singleton, forall_eq, ALT, ULb_1, encK_mk, encKs_len, hsb]
      refine AW.upto N (inv78 v d p ks) ⟨rfl, rfl, rfl, rfl, rfl, by simp [partsL]⟩ fun i t H c hi h => ?_
      obtain ⟨e1, e2, e28, e29, e30, eH⟩ := h
      simp only [T.c, T.i] at e1 e2 e28 e29 e30 eH
      have gz : (0 : Int) ≤ i := by omega
      have gw2 : IntKind.i64.wrap ((i : Int) + 1) = ((i + 1 : Nat) : Int) := wrap64 (x := (i : Int) + 1) ⟨by omega, by omega⟩
      have gd : IntKind.i64.wrap ((d : Int) + 1) = ((d + 1 : Nat) : Int) := wrap64 (x := (d : Int) + 1) ⟨by omega, by omega⟩
      by_cases hlt : i < N
      · have k3 : (i : Int) < ks.length := by omega
        obtain ⟨k, hk⟩ : ∃ k, ks[i]? = some k := ⟨_, List.getElem?_eq_getElem (by omega)⟩
        have hmem := List.mem_of_getElem? hk
        have ek := encKs_at hk
        obtain ⟨o1, o2⟩ := hok i k hlt hk
        have ht := htake i k hk
        obtain ⟨p2, b2, hR2, hC2⟩ := ih k hmem (hB4 k hmem) (d + 1) (p + 1 + partsL (ks.take i)) (by omega) (by omega)
        rcases hR2 with ⟨_, _, rfl, rfl⟩ | ⟨r1, _⟩
        · simp only [RUN, core, T.c, T.s, T.b, T.i, sBin, sInt, sUn, isShift, asInt, P1.cells, loadT, ptrC, storeT, putC, fillP, Nat.reduceAdd, reduceIte, Nat.reduceEqDiff, Nat.reduceLT, Nat.reduceLeDiff, reduceCtorEq, eq_self, FIT, lendCs_map, verC_map, FinC, resPs, resP, lendPl, lendCs, lendC, sealC, partsT, finHs, tupT, verT, verP, verC, verB, verAt, Blk.ver, handsAre, forall_const, CHT, disj, Nat.reduceBEq, beq_self_eq_true, APT, srcOf, sealPs, sealCs, sealC, List.mem_singleton, forall_eq, ALT, ULb_3, e1, e2, e28, e29, e30, k3, gz, ek, Int.toNat_natCast, gd, List.length_map, encK_len, takeK, Nat.le_refl]
          refine callP (argsC := [tK k, .i (d + 1 : Nat)]) (hC2 1001 v) rfl rfl (by simp [closedA, closedP, closedC]) rfl eH ⟨rfl, ?_⟩
          simp only [RUN, core, T.c, T.s, T.b, T.i, sBin, sInt, sUn, isShift, asInt, P1.cells, loadT, ptrC, storeT, putC, fillP, Nat.reduceAdd, reduceIte, Nat.reduceEqDiff, Nat.reduceLT, Nat.reduceLeDiff, reduceCtorEq, eq_self, FIT, lendCs_map, verC_map, FinC, resPs, resP, lendPl, lendCs, lendC, sealC, partsT, finHs, tupT, verT, verP, verC, verB, verAt, Blk.ver, handsAre, forall_const, CHT, disj, Nat.reduceBEq, beq_self_eq_true, APT, srcOf, sealPs, sealCs, sealC, List.mem_singleton, forall_eq, ALT, ULb_3, e30, gw2]
          exact ⟨hlt, e1, e2, e28, e29, rfl, by rw [ht, ← Nat.add_assoc]; rfl⟩
        · exact absurd ⟨o1, by rw [ht] at o2; omega⟩ r1
      · have hiN : i = N := by omega
        subst hiN
        rcases hend with ⟨rfl, rfl, rfl⟩ | ⟨k, hk, rfl, hC2⟩
        · have k3 : ¬ ((ks.length : Nat) : Int) < ks.length := by omega
          simp only [RUN, core, T.c, T.s, T.b, T.i, sBin, sInt, sUn, isShift, asInt, P1.cells, loadT, ptrC, storeT, putC, fillP, Nat.reduceAdd, reduceIte, Nat.reduceEqDiff, Nat.reduceLT, Nat.reduceLeDiff, reduceCtorEq, eq_self, FIT, lendCs_map, verC_map, FinC, resPs, resP, lendPl, lendCs, lendC, sealC, partsT, finHs, tupT, verT, verP, verC, verB, verAt, Blk.ver, handsAre, forall_const, CHT, disj, Nat.reduceBEq, beq_self_eq_true, APT, srcOf, sealPs, sealCs, sealC, List.mem_singleton, forall_eq, ALT, ULb_3, ULb_1, e29, e30, k3, eH]
        · have hlt2 := (List.getElem?_eq_some_iff.1 hk).1
          have k3 : (i : Int) < ks.length := by omega
          have ek := encKs_at hk
          simp only [RUN, core, T.c, T.s, T.b, T.i, sBin, sInt, sUn, isShift, asInt, P1.cells, loadT, ptrC, storeT, putC, fillP, Nat.reduceAdd, reduceIte, Nat.reduceEqDiff, Nat.reduceLT, Nat.reduceLeDiff, reduceCtorEq, eq_self, FIT, lendCs_map, verC_map, FinC, resPs, resP, lendPl, lendCs, lendC, sealC, partsT, finHs, tupT, verT, verP, verC, verB, verAt, Blk.ver, handsAre, forall_const, CHT, disj, Nat.reduceBEq, beq_self_eq_true, APT, srcOf, sealPs, sealCs, sealC, List.mem_singleton, forall_eq, ALT, ULb_3, e1, e2, e28, e29, e30, k3, gz, ek, Int.toNat_natCast, gd, List.length_map, encK_len, takeK, Nat.le_refl]
          refine callP (argsC := [tK k, .i (d + 1 : Nat)]) (hC2 1001 v) rfl rfl (by simp [closedA, closedP, closedC]) rfl eH ⟨rfl, ?_⟩
          simp only [RUN, core, T.c, T.s, T.b, T.i, sBin, sInt, sUn, isShift, asInt, P1.cells, loadT, ptrC, storeT, putC, fillP, Nat.reduceAdd, reduceIte, Nat.reduceEqDiff, Nat.reduceLT, Nat.reduceLeDiff, reduceCtorEq, eq_self, FIT, lendCs_map, verC_map, FinC, resPs, resP, lendPl, lendCs, lendC, sealC, partsT, finHs, tupT, verT, verP, verC, verB, verAt, Blk.ver, handsAre, forall_const, CHT, disj, Nat.reduceBEq, beq_self_eq_true, APT, srcOf, sealPs, sealCs, sealC, List.mem_singleton, forall_eq, ALT, ULb_3]
    · refine ⟨((p + 1 : Nat) : Int), false, .inr ⟨fun h => hgood ⟨h.1.inv.1, by have := parts_pos (.mk s ns ks); omega, h.1.inv.2.1⟩, rfl⟩, fun m v => ACallsF.intro ok78 follows fun X c0 => ?_⟩
      by_cases h1 : (d : Int) > 6
      · simp only [RUN, core, T.c, T.s, T.b, T.i, sBin, sInt, sUn, isShift, asInt, P1.cells, loadT, ptrC, storeT, putC, fillP, Nat.reduceAdd, reduceIte, Nat.reduceEqDiff, Nat.reduceLT, Nat.reduceLeDiff, reduceCtorEq, eq_self, FIT, lendCs_map, verC_map, FinC, resPs, resP, lendPl, lendCs, lendC, sealC, partsT, finHs, tupT, verT, verP, verC, verB, verAt, Blk.ver, handsAre, forall_const, CHT, disj, Nat.reduceBEq, beq_self_eq_true, APT, srcOf, sealPs, sealCs, sealC, List.mem_singleton, forall_eq, ALT, ULb_1, encK_mk, encKs_len, gw, h1]
      · by_cases h2 : ((p + 1 : Nat) : Int) > 40
        · simp only [RUN, core, T.c, T.s, T.b, T.i, sBin, sInt, sUn, isShift, asInt, P1.cells, loadT, ptrC, storeT, putC, fillP, Nat.reduceAdd, reduceIte, Nat.reduceEqDiff, Nat.reduceLT, Nat.reduceLeDiff, reduceCtorEq, eq_self, FIT, lendCs_map, verC_map, FinC, resPs, resP, lendPl, lendCs, lendC, sealC, partsT, finHs, tupT, verT, verP, verC, verB, verAt, Blk.ver, handsAre, forall_const, CHT, disj, Nat.reduceBEq, beq_self_eq_true, APT, srcOf, sealPs, sealCs, sealC, List.mem_singleton, forall_eq, ALT, ULb_1, encK_mk, encKs_len, gw, h1, h2]
        · have hsb : shapeB s ns ks = false := by
            cases h : shapeB s ns ks with
            | false => rfl
            | true => exact absurd ⟨by omega, by omega, shapeB_true.1 h⟩ hgood
          simp only [RUN, core, T.c, T.s, T.b, T.i, sBin, sInt, sUn, isShift, asInt, P1.cells, loadT, ptrC, storeT, putC, fillP, Nat.reduceAdd, reduceIte, Nat.reduceEqDiff, Nat.reduceLT, Nat.reduceLeDiff, reduceCtorEq, eq_self, FIT, lendCs_map, verC_map, FinC, resPs, resP, lendPl, lendCs, lendC, sealC, partsT, finHs, tupT, verT, verP, verC, verB, verAt, Blk.ver, handsAre, forall_const, CHT, disj, Nat.reduceBEq, beq_self_eq_true, APT, srcOf, sealPs, sealCs, sealC, List.mem_singleton, forall_eq, ALT, ULb_1, encK_mk, encKs_len, gw, h1, h2]
          refine callC hCs rfl rfl (by simp [closedA, closedP, closedC]) rfl ?_
          simp only [RUN, core, T.c, T.s, T.b, T.i, sBin, sInt, sUn, isShift, asInt, P1.cells, loadT, ptrC, storeT, putC, fillP, Nat.reduceAdd, reduceIte, Nat.reduceEqDiff, Nat.reduceLT, Nat.reduceLeDiff, reduceCtorEq, eq_self, FIT, lendCs_map, verC_map, FinC, resPs, resP, lendPl, lendCs, lendC, sealC, partsT, finHs, tupT, verT, verP, verC, verB, verAt, Blk.ver, handsAre, forall_const, CHT, disj, Nat.reduceBEq, beq_self_eq_true, APT, srcOf, sealPs, sealCs, sealC, List.mem_singleton, forall_eq, ALT, ULb_1, encK_mk, encKs_len, hsb]
/- loop.example/teagle/impl.KindOk -/
def r42_0 : List AOper := [ao 0 1 (.box 26 (.t 0)),
  ao 1 2 (.mv (.k (.b false)))]
def r42_1 : List AOper := [ao 0 3 (.alloc 3 [(.v (.s (.int .i64 0)))]),
  an 1 (.st 1 (.t 3) (.k (.i 0)))]
def r42_2 : List AOper := [ao 0 4 (.ld 3 true (.t 1)),
  ao 1 5 (.call (.k (.c (.fn 78 []))) [(.t 4), (.k (.i 1)), (.t 3)]),
  ao 2 2 (.mv (.t 5))]
def c42 : ACode := .seq (.reg r42_0) (.seq (.reg r42_1) (.seq (.reg r42_2) .ret))
def s42 : List ARes := [.tmp 2]
theorem ok42 : okF Try.prog 42 6 c42 s42 := ⟨Try.f42, Try.func42, Try.ntmps42, by kernel_rfl, by kernel_rfl, by kernel_rfl⟩
theorem ULb_2 : (type_of% (uA c42.eq_1)) ∧ (type_of% (uR r42_0.eq_1)) ∧ (type_of% (uR r42_1.eq_1)) ∧ (type_of% (uR r42_2.eq_1)) ∧ (type_of% s42.eq_1) :=
  ⟨uA c42.eq_1, uR r42_0.eq_1, uR r42_1.eq_1, uR r42_2.eq_1, s42.eq_1⟩
theorem kindOkI_ok (k : Kd) (hB : KB 1000000 k) : ACallsF Try.prog 42 [tK k] [] (.b (okK k)) := by
  obtain ⟨p', b, hR, hC⟩ := look_ok k hB 1 0 (by omega) (by omega)
  have hb : okK k = b := by
    rcases hR with ⟨h1, h2, rfl, _⟩ | ⟨h1, rfl⟩
    · exact okK_true.2 ⟨h1, by omega⟩
    · exact okK_false.2 fun h => h1 ⟨h.1, by omega⟩
  refine ACallsF.intro ok42 follows fun X c0 => ?_
  simp only [RUN, core, T.c, T.s, T.b, T.i, sBin, sInt, sUn, isShift, asInt, P1.cells, loadT, ptrC, storeT, putC, fillP, Nat.reduceAdd, reduceIte, Nat.reduceEqDiff, Nat.reduceLT, Nat.reduceLeDiff, reduceCtorEq, eq_self, FIT, lendCs_map, verC_map, FinC, resPs, resP, lendPl, lendCs, lendC, sealC, partsT, finHs, tupT, verT, verP, verC, verB, verAt, Blk.ver, handsAre, forall_const, CHT, disj, Nat.reduceBEq, beq_self_eq_true, APT, srcOf, sealPs, sealCs, sealC, List.mem_singleton, forall_eq, ALT, ULb_2, List.length_map, encK_len, takeK, Nat.le_refl]
  refine callP (argsC := [tK k, .i (1 : Nat)]) (hC 3 _) rfl rfl (by simp [closedA, closedP, closedC]) rfl rfl ⟨rfl, ?_⟩
  simp only [RUN, core, T.c, T.s, T.b, T.i, sBin, sInt, sUn, isShift, asInt, P1.cells, loadT, ptrC, storeT, putC, fillP, Nat.reduceAdd, reduceIte, Nat.reduceEqDiff, Nat.reduceLT, Nat.reduceLeDiff, reduceCtorEq, eq_self, FIT, lendCs_map, verC_map, FinC, resPs, resP, lendPl, lendCs, lendC, sealC, partsT, finHs, tupT, verT, verP, verC, verB, verAt, Blk.ver, handsAre, forall_const, CHT, disj, Nat.reduceBEq, beq_self_eq_true, APT, srcOf, sealPs, sealCs, sealC, List.mem_singleton, forall_eq, ALT, ULb_2, hb]
end Go.V
set_option linter.unusedSimpArgs false
namespace Go.V
open Go.Proofs
theorem bl_irrefl : ∀ x : List UInt8, Op.bytesLess x x = false
  | [] => rfl
  | a :: x => by simp [Op.bytesLess, bl_irrefl x]
theorem bl_trans : ∀ {x y z : List UInt8}, Op.bytesLess x y = true → Op.bytesLess y z = true → Op.bytesLess x z = true
  | _, [], _, h, _ => by simp [Op.bytesLess] at h
  | _, _ :: _, [], _, h => by simp [Op.bytesLess] at h
  | [], _ :: _, _ :: _, _, _ => by simp [Op.bytesLess]
  | a :: x, b :: y, c :: z, h1, h2 => by
    simp only [Op.bytesLess, Bool.or_eq_true, decide_eq_true_eq, Bool.and_eq_true, beq_iff_eq] at h1 h2 ⊢
    rcases h1 with h1 | ⟨rfl, h1⟩
    · rcases h2 with h2 | ⟨rfl, h2⟩
      · exact .inl (UInt8.lt_trans h1 h2)
      · exact .inl h1
    · rcases h2 with h2 | ⟨rfl, h2⟩
      · exact .inl h2
      · exact .inr ⟨rfl, bl_trans h1 h2⟩
def less (a b : ByteArray) : Bool := Op.bytesLess a.toList b.toList
theorem less_irrefl (a : ByteArray) : less a a = false := bl_irrefl _
theorem less_trans {a b c : ByteArray} (h1 : less a b = true) (h2 : less b c = true) : less a c = true := bl_trans h1 h2
theorem rise_lt {ns : List ByteArray} (h : RiseP ns) : ∀ (d i : Nat) (x y : ByteArray), ns[i]? = some x → ns[i + d + 1]? = some y → less x y = true
  | 0, i, x, y, hx, hy => (h (i + 1) y hy).2 x (by omega) (by simpa using hx)
  | d + 1, i, x, y, hx, hy => by
    obtain ⟨z, hz⟩ : ∃ z, ns[i + d + 1]? = some z := ⟨_, List.getElem?_eq_getElem (by have := (List.getElem?_eq_some_iff.1 hy).1; omega)⟩
    exact less_trans (rise_lt h d i x z hx hz) ((h (i + d + 1 + 1) y hy).2 z (by omega) (by simpa using hz))
theorem rise_at {ns : List ByteArray} (h : RiseP ns) {i j : Nat} {x y : ByteArray} (hij : i < j) (hx : ns[i]? = some x) (hy : ns[j]? = some y) : less x y = true := by
  obtain ⟨d, rfl⟩ : ∃ d, j = i + d + 1 := ⟨j - i - 1, by omega⟩
  exact rise_lt h d i x y hx hy
theorem rise_inj {ns : List ByteArray} (h : RiseP ns) {i j : Nat} {x : ByteArray} (hx : ns[i]? = some x) (hy : ns[j]? = some x) : i = j := by
  rcases Nat.lt_trichotomy i j with h1 | h1 | h1
  · have := rise_at h h1 hx hy; rw [less_irrefl] at this; cases this
  · exact h1
  · have := rise_at h h1 hy hx; rw [less_irrefl] at this; cases this
/- cmp.isNaN[string] -/
def r111_0 : List AOper := [ao 0 2 (.mv (.k (.b false)))]
def r111_1 : List AOper := [ao 0 3 (.mv (.t 0)),
  ao 1 4 (.mv (.t 0)),
  ao 2 5 (.bin .neq (.t 3) (.t 4)),
  ao 3 2 (.mv (.t 5))]
def c111 : ACode := .seq (.reg r111_0) (.seq (.reg r111_1) .ret)
def s111 : List ARes := [.tmp 2]
theorem ok111 : okF Try.prog 111 6 c111 s111 := ⟨Try.f111, Try.func111, Try.ntmps111, by kernel_rfl, by kernel_rfl, by kernel_rfl⟩
theorem ULc_1 : (type_of% (uA c111.eq_1)) ∧ (type_of% (uR r111_0.eq_1)) ∧ (type_of% (uR r111_1.eq_1)) ∧ (type_of% s111.eq_1) :=
  ⟨uA c111.eq_1, uR r111_0.eq_1, uR r111_1.eq_1, s111.eq_1⟩
theorem isNaN2_ok (s : ByteArray) : ACallsF Try.prog 111 [.s (.string s)] [] (.b false) := by
  refine ACallsF.intro ok111 follows fun X c0 => ?_
  simp only [RUN, core, T.c, T.s, T.b, T.i, sBin, sInt, sUn, isShift, asInt, P1.cells, loadT, ptrC, storeT, putC, fillP, Nat.reduceAdd, reduceIte, Nat.reduceEqDiff, Nat.reduceLT, Nat.reduceLeDiff, reduceCtorEq, eq_self, FIT, lendCs_map, verC_map, FinC, resPs, resP, lendPl, lendCs, lendC, sealC, partsT, finHs, tupT, verT, verP, verC, verB, verAt, Blk.ver, handsAre, forall_const, ULc_1, sStr, str_beq]
/- slices.isNaN[string] -/
def r100_0 : List AOper := [ao 0 2 (.mv (.k (.b false)))]
def r100_1 : List AOper := [ao 0 3 (.mv (.t 0)),
  ao 1 4 (.mv (.t 0)),
  ao 2 5 (.bin .neq (.t 3) (.t 4)),
  ao 3 2 (.mv (.t 5))]
def c100 : ACode := .seq (.reg r100_0) (.seq (.reg r100_1) .ret)
def s100 : List ARes := [.tmp 2]
theorem ok100 : okF Try.prog 100 6 c100 s100 := ⟨Try.f100, Try.func100, Try.ntmps100, by kernel_rfl, by kernel_rfl, by kernel_rfl⟩
theorem ULc_2 : (type_of% (uA c100.eq_1)) ∧ (type_of% (uR r100_0.eq_1)) ∧ (type_of% (uR r100_1.eq_1)) ∧ (type_of% s100.eq_1) :=
  ⟨uA c100.eq_1, uR r100_0.eq_1, uR r100_1.eq_1, s100.eq_1⟩
theorem isNaN_ok (s : ByteArray) : ACallsF Try.prog 100 [.s (.string s)] [] (.b false) := by
  refine ACallsF.intro ok100 follows fun X c0 => ?_
  simp only [RUN, core, T.c, T.s, T.b, T.i, sBin, sInt, sUn, isShift, asInt, P1.cells, loadT, ptrC, storeT, putC, fillP, Nat.reduceAdd, reduceIte, Nat.reduceEqDiff, Nat.reduceLT, Nat.reduceLeDiff, reduceCtorEq, eq_self, FIT, lendCs_map, verC_map, FinC, resPs, resP, lendPl, lendCs, lendC, sealC, partsT, finHs, tupT, verT, verP, verC, verB, verAt, Blk.ver, handsAre, forall_const, ULc_2, sStr, str_beq]
/- cmp.Less[string] -/
def r99_0 : List AOper := [ao 0 4 (.mv (.k (.b false)))]
def r99_1 : List AOper := [ao 0 5 (.mv (.t 0)),
  ao 1 6 (.call (.k (.c (.fn 111 []))) [(.t 5)]),
  ao 2 7 (.mv (.t 6)),
  ag 3 8 7 true [] (.mv (.t 1)),
  ag 4 9 7 true [] (.call (.k (.c (.fn 111 []))) [(.t 8)]),
  ag 5 10 7 true [] (.un .not (.t 9)),
  ao 6 11 (.pick (.t 7) (.t 10) (.k (.b false))),
  ao 7 12 (.mv (.t 11)),
  ag 8 13 12 false [] (.mv (.t 0)),
  ag 9 14 12 false [] (.mv (.t 1)),
  ag 10 15 12 false [] (.bin .lss (.t 13) (.t 14)),
  ao 11 16 (.pick (.t 12) (.k (.b true)) (.t 15)),
  ao 12 4 (.mv (.t 16))]
def c99 : ACode := .seq (.reg r99_0) (.seq (.reg r99_1) .ret)
def s99 : List ARes := [.tmp 4]
theorem ok99 : okF Try.prog 99 17 c99 s99 := ⟨Try.f99, Try.func99, Try.ntmps99, by kernel_rfl, by kernel_rfl, by kernel_rfl⟩
theorem ULc_3 : (type_of% (uA c99.eq_1)) ∧ (type_of% (uR r99_0.eq_1)) ∧ (type_of% (uR r99_1.eq_1)) ∧ (type_of% s99.eq_1) :=
  ⟨uA c99.eq_1, uR r99_0.eq_1, uR r99_1.eq_1, s99.eq_1⟩
theorem less_ok (a b : ByteArray) : ACallsF Try.prog 99 [.s (.string a), .s (.string b)] [] (.b (less a b)) := by
  refine ACallsF.intro ok99 follows fun X c0 => ?_
  simp only [RUN, core, T.c, T.s, T.b, T.i, sBin, sInt, sUn, isShift, asInt, P1.cells, loadT, ptrC, storeT, putC, fillP, Nat.reduceAdd, reduceIte, Nat.reduceEqDiff, Nat.reduceLT, Nat.reduceLeDiff, reduceCtorEq, eq_self, FIT, lendCs_map, verC_map, FinC, resPs, resP, lendPl, lendCs, lendC, sealC, partsT, finHs, tupT, verT, verP, verC, verB, verAt, Blk.ver, handsAre, forall_const, ULc_3]
  refine callC (isNaN2_ok a) rfl rfl rfl rfl ?_
  simp only [RUN, core, T.c, T.s, T.b, T.i, sBin, sInt, sUn, isShift, asInt, P1.cells, loadT, ptrC, storeT, putC, fillP, Nat.reduceAdd, reduceIte, Nat.reduceEqDiff, Nat.reduceLT, Nat.reduceLeDiff, reduceCtorEq, eq_self, FIT, lendCs_map, verC_map, FinC, resPs, resP, lendPl, lendCs, lendC, sealC, partsT, finHs, tupT, verT, verP, verC, verB, verAt, Blk.ver, handsAre, forall_const, ULc_3, sStr, less]
/- slices.BinarySearch[[]string,string] -/
def r79_0 : List AOper := [ao 0 4 (.mv (.k (.i 0))),
  ao 1 5 (.mv (.k (.b false)))]
def r79_1 : List AOper := [ao 0 10 (.mv (.t 0)),
  ao 1 11 (.len (.t 10)),
  ao 2 6 (.mv (.t 11))]
def r79_2 : List AOper := [ao 0 12 (.mv (.t 6)),
  ao 1 7 (.mv (.k (.i 0))),
  ao 2 8 (.mv (.t 12))]
def r79_3 : List AOper := [ao 0 13 (.mv (.t 7)),
  ao 1 14 (.mv (.t 8)),
  ao 2 15 (.bin .lss (.t 13) (.t 14))]
def c79_4 : ACode := .cond (.t 15) .skip (.exit 0)
def c79_5 : ACode := .seq (.reg r79_3) c79_4
def r79_6 : List AOper := [ao 0 16 (.mv (.t 7)),
  ao 1 17 (.mv (.t 8)),
  ao 2 18 (.bin .add (.t 16) (.t 17)),
  ao 3 19 (.cnvI .u64 (.t 18)),
  ao 4 20 (.bin .shr (.t 19) (.k (.s (.int .u64 1)))),
  ao 5 21 (.cnvI .i64 (.t 20)),
  ao 6 9 (.mv (.t 21))]
def r79_7 : List AOper := [ao 0 22 (.mv (.t 0)),
  ao 1 23 (.mv (.t 9)),
  ao 2 24 (.ia 1 (.t 22) (.t 23)),
  ao 3 25 (.ld 1 false (.t 24)),
  ao 4 26 (.mv (.t 1)),
  ao 5 27 (.call (.k (.c (.fn 99 []))) [(.t 25), (.t 26)])]
def r79_8 : List AOper := [ao 0 28 (.mv (.t 9)),
  ao 1 29 (.bin .add (.t 28) (.k (.i 1))),
  ao 2 7 (.mv (.t 29))]
def r79_9 : List AOper := [ao 0 30 (.mv (.t 9)),
  ao 1 8 (.mv (.t 30))]
def c79_10 : ACode := .cond (.t 27) (.reg r79_8) (.reg r79_9)
def c79_11 : ACode := .seq (.reg r79_6) (.seq (.reg r79_7) c79_10)
def c79_12 : ACode := .block 1 c79_11
def c79_13 : ACode := .seq c79_5 c79_12
def c79_14 : ACode := .loop c79_13
def c79_15 : ACode := .block 0 c79_14
def r79_16 : List AOper := [ao 0 31 (.mv (.t 7)),
  ao 1 32 (.mv (.t 7)),
  ao 2 33 (.mv (.t 6)),
  ao 3 34 (.bin .lss (.t 32) (.t 33)),
  ao 4 35 (.mv (.t 34)),
  ag 5 36 35 true [] (.mv (.t 0)),
  ag 6 37 35 true [] (.mv (.t 7)),
  ag 7 38 35 true [] (.ia 1 (.t 36) (.t 37)),
  ag 8 39 35 true [] (.ld 1 false (.t 38)),
  ag 9 40 35 true [] (.mv (.t 1)),
  ag 10 41 35 true [] (.bin .eql (.t 39) (.t 40)),
  ag 11 42 35 true [] (.mv (.t 41)),
  ag 12 43 42 false [] (.mv (.t 0)),
  ag 13 44 42 false [] (.mv (.t 7)),
  ag 14 45 42 false [] (.ia 1 (.t 43) (.t 44)),
  ag 15 46 42 false [] (.ld 1 false (.t 45)),
  ag 16 47 42 false [] (.call (.k (.c (.fn 100 []))) [(.t 46)]),
  ag 17 48 42 false [] (.mv (.t 47)),
  ag 18 49 48 true [] (.mv (.t 1)),
  ag 19 50 48 true [] (.call (.k (.c (.fn 100 []))) [(.t 49)]),
  ag 20 51 42 false [] (.pick (.t 48) (.t 50) (.k (.b false))),
  ag 21 52 35 true [] (.pick (.t 42) (.k (.b true)) (.t 51)),
  ao 22 53 (.pick (.t 35) (.t 52) (.k (.b false))),
  ao 23 4 (.mv (.t 31)),
  ao 24 5 (.mv (.t 53))]
def c79 : ACode := .seq (.reg r79_0) (.seq (.reg r79_1) (.seq (.reg r79_2) (.seq c79_15 (.seq (.reg r79_16) .ret))))
def s79 : List ARes := [.tmp 4, .tmp 5]
theorem ok79 : okF Try.prog 79 54 c79 s79 := ⟨Try.f79, Try.func79, Try.ntmps79, by kernel_rfl, by kernel_rfl, by kernel_rfl⟩
theorem wrapU {x : Int} (h : 0 ≤ x ∧ x ≤ 9223372036854775807) : IntKind.u64.wrap x = x := by
  have : IntKind.u64.wrap x = x % 18446744073709551616 := by simp [IntKind.wrap, IntKind.bits, IntKind.signed]
  rw [this]; omega
abbrev tIB (j : Nat) (b : Bool) : T := .tup [.one (.v (.s (.int .i64 j))), .one (.v (.s (.bool b)))]
theorem ULc_4 : (type_of% (uA c79.eq_1)) ∧ (type_of% (uR r79_0.eq_1)) ∧ (type_of% (uR r79_1.eq_1)) ∧ (type_of% (uR r79_2.eq_1)) ∧ (type_of% (uA c79_15.eq_1)) ∧ (type_of% (uA c79_14.eq_1)) ∧ (type_of% (uR r79_16.eq_1)) ∧ (type_of% s79.eq_1) :=
  ⟨uA c79.eq_1, uR r79_0.eq_1, uR r79_1.eq_1, uR r79_2.eq_1, uA c79_15.eq_1, uA c79_14.eq_1, uR r79_16.eq_1, s79.eq_1⟩
theorem ULc_5 : (type_of% (uA c79_13.eq_1)) ∧ (type_of% (uA c79_5.eq_1)) ∧ (type_of% (uR r79_3.eq_1)) ∧ (type_of% (uA c79_4.eq_1)) ∧ (type_of% (uA c79_12.eq_1)) ∧ (type_of% (uA c79_11.eq_1)) ∧ (type_of% (uR r79_6.eq_1)) ∧ (type_of% (uR r79_7.eq_1)) ∧ (type_of% (uA c79_10.eq_1)) ∧ (type_of% (uR r79_8.eq_1)) ∧ (type_of% (uR r79_9.eq_1)) ∧ (type_of% (uA c79.eq_1)) ∧ (type_of% (uR r79_0.eq_1)) ∧ (type_of% (uR r79_1.eq_1)) ∧ (type_of% (uR r79_2.eq_1)) ∧ (type_of% (uA c79_15.eq_1)) ∧ (type_of% (uA c79_14.eq_1)) ∧ (type_of% (uR r79_16.eq_1)) ∧ (type_of% s79.eq_1) :=
  ⟨uA c79_13.eq_1, uA c79_5.eq_1, uR r79_3.eq_1, uA c79_4.eq_1, uA c79_12.eq_1, uA c79_11.eq_1, uR r79_6.eq_1, uR r79_7.eq_1, uA c79_10.eq_1, uR r79_8.eq_1, uR r79_9.eq_1, uA c79.eq_1, uR r79_0.eq_1, uR r79_1.eq_1, uR r79_2.eq_1, uA c79_15.eq_1, uA c79_14.eq_1, uR r79_16.eq_1, s79.eq_1⟩
theorem search_ok (ns : List ByteArray) (x : ByteArray) (hr : rise ns = true) (hl : ns.length ≤ 1000000) :
    ∃ (J : Nat) (b : Bool), (b = true → ns[J]? = some x) ∧ (b = false → ∀ i : Nat, ns[i]? ≠ some x) ∧ ACallsF Try.prog 79 [.c (.v (.sl (encS ns))), .s (.string x)] [] (tIB J b) := by
  have hR := rise_true.1 hr
  have hex : ∃ J, J = ns.length ∨ ∃ s, ns[J]? = some s ∧ less s x = false := ⟨ns.length, .inl rfl⟩
  obtain ⟨J, hJ, hmin⟩ := least hex
  have hJle : J ≤ ns.length := by
    rcases hJ with h | ⟨s, h, _⟩
    · omega
    · have := (List.getElem?_eq_some_iff.1 h).1; omega
  have hA : ∀ i s, i < J → ns[i]? = some s → less s x = true := fun i s hi hs => by
    cases h : less s x with
    | true => rfl
    | false => have := hmin i (.inr ⟨s, hs, h⟩); omega
  have hB : ∀ i s, J ≤ i → ns[i]? = some s → less s x = false := fun i s hi hs => by
    have hlt := (List.getElem?_eq_some_iff.1 hs).1
    rcases hJ with h | ⟨s0, h0, h1⟩
    · omega
    · rcases Nat.lt_or_ge J i with h | h
      · cases h2 : less s x with
        | false => rfl
        | true => rw [less_trans (rise_at hR h h0 hs) h2] at h1; cases h1
      · have : i = J := by omega
        subst this; rw [h0] at hs; cases hs; exact h1
  obtain ⟨b, hb⟩ : ∃ b, (b = true → ns[J]? = some x) ∧ (b = false → ns[J]? ≠ some x) := by
    by_cases h : ns[J]? = some x
    · exact ⟨true, fun _ => h, fun e => absurd e (by simp)⟩
    · exact ⟨false, fun e => absurd e (by simp), fun _ => h⟩
  refine ⟨J, b, hb.1, fun hbf i hi => ?_, ACallsF.intro ok79 follows fun X c0 => ?_⟩
  · rcases Nat.lt_trichotomy i J with h | h | h
    · have := hA i x h hi; rw [less_irrefl] at this; cases this
    · subst h; exact hb.2 hbf hi
    · obtain ⟨s0, h0⟩ : ∃ s, ns[J]? = some s := ⟨_, List.getElem?_eq_getElem (by have := (List.getElem?_eq_some_iff.1 hi).1; omega)⟩
      have := rise_at hR h h0 hi
      rw [hB J s0 (Nat.le_refl _) h0] at this; cases this
  simp only [RUN, core, T.c, T.s, T.b, T.i, sBin, sInt, sUn, isShift, asInt, P1.cells, loadT, ptrC, storeT, putC, fillP, Nat.reduceAdd, reduceIte, Nat.reduceEqDiff, Nat.reduceLT, Nat.reduceLeDiff, reduceCtorEq, eq_self, FIT, lendCs_map, verC_map, FinC, resPs, resP, lendPl, lendCs, lendC, sealC, partsT, finHs, tupT, verT, verP, verC, verB, verAt, Blk.ver, handsAre, forall_const, ULc_4, encS_len]
  refine AW.loop (ι := Nat × Nat) (fun q σ => q.1 ≤ J ∧ J ≤ q.2 ∧ q.2 ≤ ns.length ∧ σ.t 0 = .c (.v (.sl (encS ns))) ∧ σ.t 1 = .s (.string x) ∧ σ.t 6 = .i ns.length ∧ σ.t 7 = .i q.1 ∧ σ.t 8 = .i q.2) (fun q => q.2 - q.1) (0, ns.length) ⟨Nat.zero_le _, hJle, Nat.le_refl _, rfl, rfl, rfl, rfl, rfl⟩ ?_
  rintro ⟨i, j⟩ ⟨t, H, c⟩ ⟨h1, h2, h3, e0, e1, e6, e7, e8⟩
  simp only [T.s, T.i, T.c] at h1 h2 h3 e0 e1 e6 e7 e8
  refine AW.of ?_
  by_cases hij : i < j
  · have k1 : (i : Int) < j := by omega
    have w1 : IntKind.i64.wrap ((i : Int) + j) = ((i + j : Nat) : Int) := (wrap64 (x := (i : Int) + j) ⟨by omega, by omega⟩).trans (by omega)
    have w2 : IntKind.u64.wrap ((i + j : Nat) : Int) = ((i + j : Nat) : Int) := wrapU ⟨by omega, by omega⟩
    have w3 : ((i + j : Nat) : Int).fdiv (2 ^ min (Int.toNat 1) IntKind.u64.bits) = (((i + j) / 2 : Nat) : Int) := by
      have e : (2 : Int) ^ min (Int.toNat 1) IntKind.u64.bits = 2 := rfl
      rw [e, Int.fdiv_eq_ediv_of_nonneg _ (by omega)]
      omega
    have w4 : IntKind.i64.wrap (((i + j) / 2 : Nat) : Int) = (((i + j) / 2 : Nat) : Int) := wrap64 ⟨by omega, by omega⟩
    have w5 : IntKind.i64.wrap ((((i + j) / 2 : Nat) : Int) + 1) = (((i + j) / 2 + 1 : Nat) : Int) := (wrap64 ⟨by omega, by omega⟩).trans (by omega)
    have hh1 : i ≤ (i + j) / 2 := by omega
    have hh2 : (i + j) / 2 < j := by omega
    generalize (i + j) / 2 = h at w3 w4 w5 hh1 hh2
    obtain ⟨s, hs⟩ : ∃ s, ns[h]? = some s := ⟨_, List.getElem?_eq_getElem (by omega)⟩
    have es := encS_at hs
    have gz : (0 : Int) ≤ h := by omega
    have n0 : ¬ (1 : Int) < 0 := by omega
    simp only [RUN, core, T.c, T.s, T.b, T.i, sBin, sInt, sUn, isShift, asInt, P1.cells, loadT, ptrC, storeT, putC, fillP, Nat.reduceAdd, reduceIte, Nat.reduceEqDiff, Nat.reduceLT, Nat.reduceLeDiff, reduceCtorEq, eq_self, FIT, lendCs_map, verC_map, FinC, resPs, resP, lendPl, lendCs, lendC, sealC, partsT, finHs, tupT, verT, verP, verC, verB, verAt, Blk.ver, handsAre, forall_const, ULc_5, e0, e1, e7, e8, k1, w1, w2, n0, w3, w4, gz, es, Int.toNat_natCast]
    refine callC (less_ok s x) rfl rfl rfl rfl ?_
    cases hls : less s x with
    | true =>
      simp only [RUN, core, T.c, T.s, T.b, T.i, sBin, sInt, sUn, isShift, asInt, P1.cells, loadT, ptrC, storeT, putC, fillP, Nat.reduceAdd, reduceIte, Nat.reduceEqDiff, Nat.reduceLT, Nat.reduceLeDiff, reduceCtorEq, eq_self, FIT, lendCs_map, verC_map, FinC, resPs, resP, lendPl, lendCs, lendC, sealC, partsT, finHs, tupT, verT, verP, verC, verB, verAt, Blk.ver, handsAre, forall_const, ULc_5, w5]
      have : h < J := by
        rcases Nat.lt_or_ge h J with h' | h'
        · exact h'
        · rw [hB h s h' hs] at hls; cases hls
      exact ⟨(h + 1, j), by show j - (h + 1) < j - i; omega, by show h + 1 ≤ J; omega, h2, h3, e0, e1, e6, rfl, e8⟩
    | false =>
      simp only [RUN, core, T.c, T.s, T.b, T.i, sBin, sInt, sUn, isShift, asInt, P1.cells, loadT, ptrC, storeT, putC, fillP, Nat.reduceAdd, reduceIte, Nat.reduceEqDiff, Nat.reduceLT, Nat.reduceLeDiff, reduceCtorEq, eq_self, FIT, lendCs_map, verC_map, FinC, resPs, resP, lendPl, lendCs, lendC, sealC, partsT, finHs, tupT, verT, verP, verC, verB, verAt, Blk.ver, handsAre, forall_const, ULc_5]
      have : J ≤ h := by
        rcases Nat.lt_or_ge h J with h' | h'
        · rw [hA h s h' hs] at hls; cases hls
        · exact h'
      exact ⟨(i, h), by show h - i < j - i; omega, h1, by show J ≤ h; omega, by show h ≤ ns.length; omega, e0, e1, e6, e7, rfl⟩
  · have k1 : ¬ (i : Int) < j := by omega
    have hiJ : i = J := by omega
    subst hiJ
    by_cases hn : i < ns.length
    · have k2 : (i : Int) < ns.length := by omega
      obtain ⟨s, hs⟩ : ∃ s, ns[i]? = some s := ⟨_, List.getElem?_eq_getElem hn⟩
      have es := encS_at hs
      have gz : (0 : Int) ≤ i := by omega
      by_cases hsx : s = x
      · subst hsx
        have hbt : b = true := by
          cases b with
          | true => rfl
          | false => exact absurd hs (hb.2 rfl)
        simp only [RUN, core, T.c, T.s, T.b, T.i, sBin, sInt, sUn, isShift, asInt, P1.cells, loadT, ptrC, storeT, putC, fillP, Nat.reduceAdd, reduceIte, Nat.reduceEqDiff, Nat.reduceLT, Nat.reduceLeDiff, reduceCtorEq, eq_self, FIT, lendCs_map, verC_map, FinC, resPs, resP, lendPl, lendCs, lendC, sealC, partsT, finHs, tupT, verT, verP, verC, verB, verAt, Blk.ver, handsAre, forall_const, ULc_5, ULc_4, e0, e1, e6, e7, e8, k1, k2, gz, es, Int.toNat_natCast, sStr, str_beq, hbt]
      · have hbf : b = false := by
          cases b with
          | false => rfl
          | true => have := hb.1 rfl; rw [hs] at this; cases this; exact absurd rfl hsx
        simp only [RUN, core, T.c, T.s, T.b, T.i, sBin, sInt, sUn, isShift, asInt, P1.cells, loadT, ptrC, storeT, putC, fillP, Nat.reduceAdd, reduceIte, Nat.reduceEqDiff, Nat.reduceLT, Nat.reduceLeDiff, reduceCtorEq, eq_self, FIT, lendCs_map, verC_map, FinC, resPs, resP, lendPl, lendCs, lendC, sealC, partsT, finHs, tupT, verT, verP, verC, verB, verAt, Blk.ver, handsAre, forall_const, ULc_5, ULc_4, e0, e1, e6, e7, e8, k1, k2, gz, es, Int.toNat_natCast, sStr, str_beq, hsx]
        refine callC (isNaN_ok s) rfl rfl rfl rfl ?_
        simp only [RUN, core, T.c, T.s, T.b, T.i, sBin, sInt, sUn, isShift, asInt, P1.cells, loadT, ptrC, storeT, putC, fillP, Nat.reduceAdd, reduceIte, Nat.reduceEqDiff, Nat.reduceLT, Nat.reduceLeDiff, reduceCtorEq, eq_self, FIT, lendCs_map, verC_map, FinC, resPs, resP, lendPl, lendCs, lendC, sealC, partsT, finHs, tupT, verT, verP, verC, verB, verAt, Blk.ver, handsAre, forall_const, ULc_5, ULc_4, hbf]
    · have k2 : ¬ (i : Int) < ns.length := by omega
      have hbf : b = false := by
        cases b with
        | false => rfl
        | true => have := (List.getElem?_eq_some_iff.1 (hb.1 rfl)).1; omega
      simp only [RUN, core, T.c, T.s, T.b, T.i, sBin, sInt, sUn, isShift, asInt, P1.cells, loadT, ptrC, storeT, putC, fillP, Nat.reduceAdd, reduceIte, Nat.reduceEqDiff, Nat.reduceLT, Nat.reduceLeDiff, reduceCtorEq, eq_self, FIT, lendCs_map, verC_map, FinC, resPs, resP, lendPl, lendCs, lendC, sealC, partsT, finHs, tupT, verT, verP, verC, verB, verAt, Blk.ver, handsAre, forall_const, ULc_5, ULc_4, e0, e1, e6, e7, e8, k1, k2, hbf]
end Go.V
set_option linter.unusedSimpArgs false
namespace Go.V
open Go.Proofs
theorem nodup_le {α : Type} [DecidableEq α] : ∀ (l m : List α), l.Nodup → (∀ x ∈ l, x ∈ m) → l.length ≤ m.length
  | [], _, _, _ => Nat.zero_le _
  | a :: l, m, hn, hs => by
    have h1 := List.nodup_cons.1 hn
    have hm := hs a (by simp)
    have h2 := nodup_le l (m.erase a) h1.2 fun x hx => by
      have hxa : x ≠ a := fun e => h1.1 (e ▸ hx)
      exact (List.mem_erase_of_ne hxa).2 (hs x (by simp [hx]))
    have h3 := List.length_erase_of_mem hm
    have h4 := List.length_pos_of_mem hm
    simp only [List.length_cons]
    omega
noncomputable def both (ns ms : List ByteArray) : List ByteArray := ms.filter fun x => @decide (x ∈ ns) (Classical.propDecidable _)
theorem both_len {ns ms : List ByteArray} (hn : ns.Nodup) (hm : ms.Nodup) : (both ns ms).length = ns.length ↔ ∀ x ∈ ns, x ∈ ms := by
  have hF : (both ns ms).Nodup := hm.filter _
  have hsub : ∀ x ∈ both ns ms, x ∈ ns := fun x hx => by simp only [both, List.mem_filter, decide_eq_true_eq] at hx; exact hx.2
  constructor
  · intro h x hx
    by_cases hxF : x ∈ both ns ms
    · simp only [both, List.mem_filter] at hxF; exact hxF.1
    · have := nodup_le (x :: both ns ms) ns (List.nodup_cons.2 ⟨hxF, hF⟩) fun y hy => by
        rcases List.mem_cons.1 hy with rfl | h
        · exact hx
        · exact hsub y h
      simp only [List.length_cons] at this
      omega
  · intro h
    have h1 := nodup_le _ _ hF hsub
    have h2 := nodup_le ns (both ns ms) hn fun x hx => by simp only [both, List.mem_filter, decide_eq_true_eq]; exact ⟨h x hx, hx⟩
    omega
theorem rise_nodup {ns : List ByteArray} (h : RiseP ns) : ns.Nodup := by
  rw [List.Nodup, List.pairwise_iff_getElem]
  intro i j hi hj hij e
  have := rise_inj h (List.getElem?_eq_getElem hi) (by rw [List.getElem?_eq_getElem hj, e])
  omega
theorem both_in {ns ms : List ByteArray} {x : ByteArray} (h : x ∈ ns) : both ns (ms ++ [x]) = both ns ms ++ [x] := by
  simp [both, List.filter_append, h]
theorem both_out {ns ms : List ByteArray} {x : ByteArray} (h : ¬ x ∈ ns) : both ns (ms ++ [x]) = both ns ms := by
  simp [both, List.filter_append, h]
/- loop.example/teagle/impl.fits -/
def r43_0 : List AOper := [ao 0 2 (.box 26 (.t 0)),
  ao 1 3 (.box 26 (.t 1)),
  ao 2 4 (.mv (.k (.b false)))]
def r43_1 : List AOper := [ao 0 11 (.fa 0 (.t 3)),
  ao 1 12 (.ld 1 false (.t 11)),
  ao 2 13 (.bin .eql (.t 12) (.k (.i 6))),
  ao 3 14 (.mv (.t 13)),
  ag 4 15 14 true [] (.fa 0 (.t 2)),
  ag 5 16 14 true [] (.ld 1 false (.t 15)),
  ag 6 17 14 true [] (.bin .eql (.t 16) (.k (.i 6))),
  ao 7 18 (.pick (.t 14) (.t 17) (.k (.b false))),
  ao 8 10 (.mv (.t 18))]
def r43_2 : List AOper := [ao 0 19 (.fa 2 (.t 2)),
  ao 1 20 (.ld 1 false (.t 19)),
  ao 2 21 (.ia 3 (.t 20) (.k (.i 0))),
  ao 3 22 (.ld 3 true (.t 21)),
  au 4 23 (ru 4) (.fa 2 (.t 3)),
  au 5 24 (ru 4) (.ld 1 false (.t 23)),
  au 6 25 (ru 4) (.ia 3 (.t 24) (.k (.i 0))),
  au 7 26 (ru 4) (.ld 3 true (.t 25)),
  ao 8 27 (.call (.k (.c (.fn 43 []))) [(.t 22), (.t 26)]),
  ao 9 4 (.mv (.t 27))]
def c43_3 : ACode := .seq (.reg r43_2) .ret
def r43_4 : List AOper := [ao 0 29 (.fa 0 (.t 3)),
  ao 1 30 (.ld 1 false (.t 29)),
  ao 2 31 (.bin .eql (.t 30) (.k (.i 6))),
  ao 3 28 (.mv (.t 31))]
def r43_5 : List AOper := [ao 0 32 (.ld 3 true (.t 2)),
  au 1 33 [0] (.fa 2 (.t 3)),
  au 2 34 [0] (.ld 1 false (.t 33)),
  au 3 35 [0] (.ia 3 (.t 34) (.k (.i 0))),
  au 4 36 [0] (.ld 3 true (.t 35)),
  ao 5 37 (.call (.k (.c (.fn 43 []))) [(.t 32), (.t 36)]),
  ao 6 4 (.mv (.t 37))]
def c43_6 : ACode := .seq (.reg r43_5) .ret
def r43_7 : List AOper := [ao 0 39 (.fa 0 (.t 2)),
  ao 1 40 (.ld 1 false (.t 39)),
  ao 2 41 (.fa 0 (.t 3)),
  ao 3 42 (.ld 1 false (.t 41)),
  ao 4 43 (.bin .neq (.t 40) (.t 42)),
  ao 5 38 (.mv (.t 43))]
def r43_8 : List AOper := [ao 0 4 (.mv (.k (.b false)))]
def c43_9 : ACode := .seq (.reg r43_8) .ret
def r43_10 : List AOper := [ao 0 45 (.fa 0 (.t 3)),
  ao 1 46 (.ld 1 false (.t 45)),
  ao 2 47 (.bin .eql (.t 46) (.k (.i 4))),
  ao 3 44 (.mv (.t 47))]
def r43_11 : List AOper := [ao 0 48 (.fa 2 (.t 2)),
  ao 1 49 (.ld 1 false (.t 48)),
  ao 2 50 (.ia 3 (.t 49) (.k (.i 0))),
  ao 3 51 (.ld 3 true (.t 50)),
  au 4 52 (ru 4) (.fa 2 (.t 3)),
  au 5 53 (ru 4) (.ld 1 false (.t 52)),
  au 6 54 (ru 4) (.ia 3 (.t 53) (.k (.i 0))),
  au 7 55 (ru 4) (.ld 3 true (.t 54)),
  ao 8 56 (.call (.k (.c (.fn 43 []))) [(.t 51), (.t 55)]),
  ao 9 4 (.mv (.t 56))]
def c43_12 : ACode := .seq (.reg r43_11) .ret
def c43_13 : ACode := .cond (.t 44) c43_12 .skip
def c43_14 : ACode := .seq (.reg r43_10) c43_13
def c43_15 : ACode := .cond (.t 38) c43_9 c43_14
def c43_16 : ACode := .seq (.reg r43_7) c43_15
def c43_17 : ACode := .cond (.t 28) c43_6 c43_16
def c43_18 : ACode := .seq (.reg r43_4) c43_17
def c43_19 : ACode := .cond (.t 10) c43_3 c43_18
def c43_20 : ACode := .seq (.reg r43_1) c43_19
def c43_21 : ACode := .block 0 c43_20
def r43_22 : List AOper := [ao 0 5 (.mv (.k (.i 0)))]
def r43_23 : List AOper := [ao 0 57 (.fa 1 (.t 3)),
  ao 1 58 (.ld 1 false (.t 57)),
  ao 2 59 (.len (.t 58)),
  ao 3 60 (.mv (.k (.i 0)))]
def r43_24 : List AOper := [ao 0 61 (.bin .lss (.t 60) (.t 59))]
def c43_25 : ACode := .cond (.t 61) .skip (.exit 1)
def r43_26 : List AOper := [ao 0 62 (.mv (.t 60)),
  ao 1 63 (.ia 1 (.t 58) (.t 60)),
  ao 2 64 (.ld 1 false (.t 63)),
  ao 3 6 (.mv (.t 62)),
  ao 4 7 (.mv (.t 64))]
def r43_27 : List AOper := [ao 0 66 (.fa 1 (.t 2)),
  ao 1 67 (.ld 1 false (.t 66)),
  ao 2 68 (.mv (.t 7)),
  ao 3 69 (.call (.k (.c (.fn 79 []))) [(.t 67), (.t 68)]),
  ao 4 65 (.mv (.t 69)),
  ao 5 70 (.ext 0 (.t 65)),
  ao 6 71 (.ext 1 (.t 65)),
  ao 7 8 (.mv (.t 70)),
  ao 8 9 (.mv (.t 71))]
def r43_28 : List AOper := [ao 0 73 (.mv (.t 9)),
  ao 1 74 (.mv (.t 73)),
  ag 2 75 74 true [] (.fa 2 (.t 2)),
  ag 3 76 74 true [] (.ld 1 false (.t 75)),
  ag 4 77 74 true [2, 3] (.mv (.t 8)),
  ag 5 78 74 true [] (.ia 3 (.t 76) (.t 77)),
  ag 6 79 74 true [] (.ld 3 true (.t 78)),
  ag 7 80 74 true [2, 3, 4, 5, 6] (.fa 2 (.t 3)),
  ag 8 81 74 true [2, 3, 4, 5, 6] (.ld 1 false (.t 80)),
  ag 9 82 74 true [2, 3, 4, 5, 6, 7, 8] (.mv (.t 6)),
  ag 10 83 74 true [2, 3, 4, 5, 6] (.ia 3 (.t 81) (.t 82)),
  ag 11 84 74 true [2, 3, 4, 5, 6] (.ld 3 true (.t 83)),
  ag 12 85 74 true [] (.call (.k (.c (.fn 43 []))) [(.t 79), (.t 84)]),
  ag 13 86 74 true [] (.un .not (.t 85)),
  ao 14 87 (.pick (.t 74) (.t 86) (.k (.b false))),
  ao 15 72 (.mv (.t 87))]
def r43_29 : List AOper := [ao 0 4 (.mv (.k (.b false)))]
def c43_30 : ACode := .seq (.reg r43_29) .ret
def r43_31 : List AOper := [ao 0 89 (.mv (.t 9)),
  ao 1 88 (.mv (.t 89))]
def r43_32 : List AOper := [ao 0 90 (.mv (.t 5)),
  ao 1 91 (.bin .add (.t 90) (.k (.i 1))),
  ao 2 5 (.mv (.t 91))]
def r43_33 : List AOper := [ao 0 93 (.fa 2 (.t 3)),
  ao 1 94 (.ld 1 false (.t 93)),
  ao 2 95 (.mv (.t 6)),
  ao 3 96 (.ia 3 (.t 94) (.t 95)),
  ao 4 97 (.fa 0 (.t 96)),
  ao 5 98 (.ld 1 false (.t 97)),
  ao 6 99 (.bin .neq (.t 98) (.k (.i 6))),
  ao 7 92 (.mv (.t 99))]
def r43_34 : List AOper := [ao 0 4 (.mv (.k (.b false)))]
def c43_35 : ACode := .seq (.reg r43_34) .ret
def c43_36 : ACode := .cond (.t 92) c43_35 .skip
def c43_37 : ACode := .seq (.reg r43_33) c43_36
def c43_38 : ACode := .cond (.t 88) (.reg r43_32) c43_37
def c43_39 : ACode := .seq (.reg r43_31) c43_38
def c43_40 : ACode := .cond (.t 72) c43_30 c43_39
def c43_41 : ACode := .seq (.reg r43_28) c43_40
def c43_42 : ACode := .block 3 c43_41
def c43_43 : ACode := .seq (.reg r43_26) (.seq (.reg r43_27) c43_42)
def c43_44 : ACode := .block 2 c43_43
def r43_45 : List AOper := [ao 0 100 (.bin .add (.t 60) (.k (.i 1))),
  ao 1 60 (.mv (.t 100))]
def c43_46 : ACode := .seq (.reg r43_24) (.seq c43_25 (.seq c43_44 (.reg r43_45)))
def c43_47 : ACode := .loop c43_46
def c43_48 : ACode := .block 1 c43_47
def c43_49 : ACode := .seq (.reg r43_23) c43_48
def r43_50 : List AOper := [ao 0 101 (.mv (.t 5)),
  ao 1 102 (.fa 1 (.t 2)),
  ao 2 103 (.ld 1 false (.t 102)),
  ao 3 104 (.len (.t 103)),
  ao 4 105 (.bin .eql (.t 101) (.t 104)),
  ao 5 4 (.mv (.t 105))]
def c43 : ACode := .seq (.reg r43_0) (.seq c43_21 (.seq (.reg r43_22) (.seq c43_49 (.seq (.reg r43_50) .ret))))
def s43 : List ARes := [.tmp 4]
theorem ok43 : okF Try.prog 43 106 c43 s43 := ⟨Try.f43, Try.func43, Try.ntmps43, by kernel_rfl, by kernel_rfl, by kernel_rfl⟩
def FitJ (ns : List ByteArray) (ks : List Kd) (ns' : List ByteArray) (ks' : List Kd) (i : Nat) : Prop := ∀ j, j < i → ∀ x (k' : Kd), ns'[j]? = some x → ks'[j]? = some k' →
  (∀ (l : Nat) k, ns[l]? = some x → ks[l]? = some k → Fits k k') ∧ ((∀ l : Nat, ns[l]? ≠ some x) → k'.sort = 6)
def inv43 (s : Int) (ns : List ByteArray) (ks : List Kd) (ns' : List ByteArray) (ks' : List Kd) (i : Nat) (σ : St) : Prop :=
  FitJ ns ks ns' ks' i ∧ (∃ u, σ.t 2 = .c (.ptr 2 u 0) ∧ σ.H 2 = some (.var u 26 [.v (.s (.int .i64 s)), .v (.sl (encS ns)), .v (.sl (encKs ks))])) ∧ (∃ u, σ.t 3 = .c (.ptr 3 u 0) ∧ σ.H 3 = some (.var u 26 [.v (.s (.int .i64 s)), .v (.sl (encS ns')), .v (.sl (encKs ks'))])) ∧
  σ.t 5 = .i (both ns (ns'.take i)).length ∧ σ.t 58 = .c (.v (.sl (encS ns'))) ∧ σ.t 59 = .i ns'.length ∧ σ.t 60 = .i i
theorem ULd_1 : (type_of% (uA c43.eq_1)) ∧ (type_of% (uR r43_0.eq_1)) ∧ (type_of% (uA c43_21.eq_1)) ∧ (type_of% (uA c43_20.eq_1)) ∧ (type_of% (uR r43_1.eq_1)) ∧ (type_of% (uA c43_19.eq_1)) ∧ (type_of% (uA c43_3.eq_1)) ∧ (type_of% (uR r43_2.eq_1)) ∧ (type_of% (uA c43_18.eq_1)) ∧ (type_of% (uR r43_4.eq_1)) ∧ (type_of% (uA c43_17.eq_1)) ∧ (type_of% (uA c43_6.eq_1)) ∧ (type_of% (uR r43_5.eq_1)) ∧ (type_of% (uA c43_16.eq_1)) ∧ (type_of% (uR r43_7.eq_1)) ∧ (type_of% (uA c43_15.eq_1)) ∧ (type_of% (uA c43_9.eq_1)) ∧ (type_of% (uR r43_8.eq_1)) ∧ (type_of% (uA c43_14.eq_1)) ∧ (type_of% (uR r43_10.eq_1)) ∧ (type_of% (uA c43_13.eq_1)) ∧ (type_of% (uA c43_12.eq_1)) ∧ (type_of% (uR r43_11.eq_1)) ∧ (type_of% (uR r43_22.eq_1)) ∧ (type_of% (uA c43_49.eq_1)) ∧ (type_of% (uR r43_23.eq_1)) ∧ (type_of% (uA c43_48.eq_1)) ∧ (type_of% (uA c43_47.eq_1)) ∧ (type_of% (uR r43_50.eq_1)) ∧ (type_of% s43.eq_1) :=
  ⟨uA c43.eq_1, uR r43_0.eq_1, uA c43_21.eq_1, uA c43_20.eq_1, uR r43_1.eq_1, uA c43_19.eq_1, uA c43_3.eq_1, uR r43_2.eq_1, uA c43_18.eq_1, uR r43_4.eq_1, uA c43_17.eq_1, uA c43_6.eq_1, uR r43_5.eq_1, uA c43_16.eq_1, uR r43_7.eq_1, uA c43_15.eq_1, uA c43_9.eq_1, uR r43_8.eq_1, uA c43_14.eq_1, uR r43_10.eq_1, uA c43_13.eq_1, uA c43_12.eq_1, uR r43_11.eq_1, uR r43_22.eq_1, uA c43_49.eq_1, uR r43_23.eq_1, uA c43_48.eq_1, uA c43_47.eq_1, uR r43_50.eq_1, s43.eq_1⟩
theorem ULd_3 : (type_of% (uA c43_46.eq_1)) ∧ (type_of% (uR r43_24.eq_1)) ∧ (type_of% (uA c43_25.eq_1)) ∧ (type_of% (uA c43_44.eq_1)) ∧ (type_of% (uA c43_43.eq_1)) ∧ (type_of% (uR r43_26.eq_1)) ∧ (type_of% (uR r43_27.eq_1)) ∧ (type_of% (uA c43_42.eq_1)) ∧ (type_of% (uA c43_41.eq_1)) ∧ (type_of% (uR r43_28.eq_1)) ∧ (type_of% (uA c43_40.eq_1)) ∧ (type_of% (uA c43_30.eq_1)) ∧ (type_of% (uR r43_29.eq_1)) ∧ (type_of% (uA c43_39.eq_1)) ∧ (type_of% (uR r43_31.eq_1)) ∧ (type_of% (uA c43_38.eq_1)) ∧ (type_of% (uR r43_32.eq_1)) ∧ (type_of% (uA c43_37.eq_1)) ∧ (type_of% (uR r43_33.eq_1)) ∧ (type_of% (uA c43_36.eq_1)) ∧ (type_of% (uA c43_35.eq_1)) ∧ (type_of% (uR r43_34.eq_1)) ∧ (type_of% (uR r43_45.eq_1)) ∧ (type_of% (uA c43.eq_1)) ∧ (type_of% (uR r43_0.eq_1)) ∧ (type_of% (uA c43_21.eq_1)) ∧ (type_of% (uA c43_20.eq_1)) ∧ (type_of% (uR r43_1.eq_1)) ∧ (type_of% (uA c43_19.eq_1)) ∧ (type_of% (uA c43_3.eq_1)) ∧ (type_of% (uR r43_2.eq_1)) ∧ (type_of% (uA c43_18.eq_1)) ∧ (type_of% (uR r43_4.eq_1)) ∧ (type_of% (uA c43_17.eq_1)) ∧ (type_of% (uA c43_6.eq_1)) ∧ (type_of% (uR r43_5.eq_1)) ∧ (type_of% (uA c43_16.eq_1)) ∧ (type_of% (uR r43_7.eq_1)) ∧ (type_of% (uA c43_15.eq_1)) ∧ (type_of% (uA c43_9.eq_1)) ∧ (type_of% (uR r43_8.eq_1)) ∧ (type_of% (uA c43_14.eq_1)) ∧ (type_of% (uR r43_10.eq_1)) ∧ (type_of% (uA c43_13.eq_1)) ∧ (type_of% (uA c43_12.eq_1)) ∧ (type_of% (uR r43_11.eq_1)) ∧ (type_of% (uR r43_22.eq_1)) ∧ (type_of% (uA c43_49.eq_1)) ∧ (type_of% (uR r43_23.eq_1)) ∧ (type_of% (uA c43_48.eq_1)) ∧ (type_of% (uA c43_47.eq_1)) ∧ (type_of% (uR r43_50.eq_1)) ∧ (type_of% s43.eq_1) :=
  ⟨uA c43_46.eq_1, uR r43_24.eq_1, uA c43_25.eq_1, uA c43_44.eq_1, uA c43_43.eq_1, uR r43_26.eq_1, uR r43_27.eq_1, uA c43_42.eq_1, uA c43_41.eq_1, uR r43_28.eq_1, uA c43_40.eq_1, uA c43_30.eq_1, uR r43_29.eq_1, uA c43_39.eq_1, uR r43_31.eq_1, uA c43_38.eq_1, uR r43_32.eq_1, uA c43_37.eq_1, uR r43_33.eq_1, uA c43_36.eq_1, uA c43_35.eq_1, uR r43_34.eq_1, uR r43_45.eq_1, uA c43.eq_1, uR r43_0.eq_1, uA c43_21.eq_1, uA c43_20.eq_1, uR r43_1.eq_1, uA c43_19.eq_1, uA c43_3.eq_1, uR r43_2.eq_1, uA c43_18.eq_1, uR r43_4.eq_1, uA c43_17.eq_1, uA c43_6.eq_1, uR r43_5.eq_1, uA c43_16.eq_1, uR r43_7.eq_1, uA c43_15.eq_1, uA c43_9.eq_1, uR r43_8.eq_1, uA c43_14.eq_1, uR r43_10.eq_1, uA c43_13.eq_1, uA c43_12.eq_1, uR r43_11.eq_1, uR r43_22.eq_1, uA c43_49.eq_1, uR r43_23.eq_1, uA c43_48.eq_1, uA c43_47.eq_1, uR r43_50.eq_1, s43.eq_1⟩
set_option maxHeartbeats 1000000 in
theorem fitsI_ok : ∀ (b a : Kd) (d d' : Nat), KOk d a → KOk d' b → KB 2000 a → KB 2000 b → ACallsF Try.prog 43 [tK a, tK b] [] (.b (fits a b)) := by
  intro b
  induction b using Kd.ind with
  | _ s' ns' ks' ih =>
    intro a d d' hOa hOb hBa hBb
    obtain ⟨s, ns, ks⟩ := a
    obtain ⟨_, hSa, hKa⟩ := hOa.inv
    obtain ⟨_, hSb, hKb⟩ := hOb.inv
    obtain ⟨a1, a2, a3, a4⟩ := hBa.inv
    obtain ⟨b1, b2, b3, b4⟩ := hBb.inv
    refine ACallsF.intro ok43 follows fun X c0 => ?_
    by_cases h6' : s' = 6
    · subst h6'
      have hl' := hSb.one (.inr rfl)
      obtain ⟨kb, hkb⟩ : ∃ k, ks'[0]? = some k := ⟨_, List.getElem?_eq_getElem (by omega)⟩
      have hmb := List.mem_of_getElem? hkb
      have ekb := encKs_at hkb
      by_cases h6 : s = 6
      · subst h6
        have hl := hSa.one (.inr rfl)
        obtain ⟨ka, hka⟩ : ∃ k, ks[0]? = some k := ⟨_, List.getElem?_eq_getElem (by omega)⟩
        have hma := List.mem_of_getElem? hka
        have eka := encKs_at hka
        have hC := ih kb hmb ka _ _ (hKa ka hma) (hKb kb hmb) (a4 ka hma) (b4 kb hmb)
        have hF : fits (.mk 6 ns ks) (.mk 6 ns' ks') = fits ka kb := fits_congr (Fits.mm_iff hka hkb)
        simp only [RUN, core, T.c, T.s, T.b, T.i, sBin, sInt, sUn, isShift, asInt, P1.cells, loadT, ptrC, storeT, putC, fillP, Nat.reduceAdd, reduceIte, Nat.reduceEqDiff, Nat.reduceLT, Nat.reduceLeDiff, reduceCtorEq, eq_self, FIT, lendCs_map, verC_map, FinC, resPs, resP, lendPl, lendCs, lendC, sealC, partsT, finHs, tupT, verT, verP, verC, verB, verAt, Blk.ver, handsAre, forall_const, CHT, disj, Nat.reduceBEq, beq_self_eq_true, APT, srcOf, sealPs, sealCs, sealC, List.mem_singleton, forall_eq, ALT, ULd_1, encK_mk, Int.reduceBEq, eka, ekb, Int.le_refl, Int.toNat_zero, List.length_map, encK_len, takeK]
        refine callC hC rfl rfl (by simp [closedA, closedP, closedC]) rfl ?_
        simp only [RUN, core, T.c, T.s, T.b, T.i, sBin, sInt, sUn, isShift, asInt, P1.cells, loadT, ptrC, storeT, putC, fillP, Nat.reduceAdd, reduceIte, Nat.reduceEqDiff, Nat.reduceLT, Nat.reduceLeDiff, reduceCtorEq, eq_self, FIT, lendCs_map, verC_map, FinC, resPs, resP, lendPl, lendCs, lendC, sealC, partsT, finHs, tupT, verT, verP, verC, verB, verAt, Blk.ver, handsAre, forall_const, CHT, disj, Nat.reduceBEq, beq_self_eq_true, APT, srcOf, sealPs, sealCs, sealC, List.mem_singleton, forall_eq, ALT, ULd_1, hF]
      · have h6b : (s == 6) = false := beq_eq_false_iff_ne.2 h6
        have hC := ih kb hmb (.mk s ns ks) _ _ hOa (hKb kb hmb) hBa (b4 kb hmb)
        have hF : fits (.mk s ns ks) (.mk 6 ns' ks') = fits (.mk s ns ks) kb := fits_congr (Fits.m_iff h6 hkb)
        simp only [tK, encK_mk, List.map_cons, List.map_nil] at hC
        simp only [RUN, core, T.c, T.s, T.b, T.i, sBin, sInt, sUn, isShift, asInt, P1.cells, loadT, ptrC, storeT, putC, fillP, Nat.reduceAdd, reduceIte, Nat.reduceEqDiff, Nat.reduceLT, Nat.reduceLeDiff, reduceCtorEq, eq_self, FIT, lendCs_map, verC_map, FinC, resPs, resP, lendPl, lendCs, lendC, sealC, partsT, finHs, tupT, verT, verP, verC, verB, verAt, Blk.ver, handsAre, forall_const, CHT, disj, Nat.reduceBEq, beq_self_eq_true, APT, srcOf, sealPs, sealCs, sealC, List.mem_singleton, forall_eq, ALT, ULd_1, encK_mk, Int.reduceBEq, h6b, ekb, Int.le_refl, Int.toNat_zero, List.length_map, encK_len, takeK]
        refine callC hC rfl rfl (by simp [closedA, closedP, closedC]) rfl ?_
        simp only [RUN, core, T.c, T.s, T.b, T.i, sBin, sInt, sUn, isShift, asInt, P1.cells, loadT, ptrC, storeT, putC, fillP, Nat.reduceAdd, reduceIte, Nat.reduceEqDiff, Nat.reduceLT, Nat.reduceLeDiff, reduceCtorEq, eq_self, FIT, lendCs_map, verC_map, FinC, resPs, resP, lendPl, lendCs, lendC, sealC, partsT, finHs, tupT, verT, verP, verC, verB, verAt, Blk.ver, handsAre, forall_const, CHT, disj, Nat.reduceBEq, beq_self_eq_true, APT, srcOf, sealPs, sealCs, sealC, List.mem_singleton, forall_eq, ALT, ULd_1, hF]
    · have h6b' : (s' == 6) = false := beq_eq_false_iff_ne.2 h6'
      by_cases hss : s = s'
      · subst hss
        by_cases h4 : s = 4
        · subst h4
          have hl := hSa.one (.inl rfl)
          have hl' := hSb.one (.inl rfl)
          obtain ⟨kb, hkb⟩ : ∃ k, ks'[0]? = some k := ⟨_, List.getElem?_eq_getElem (by omega)⟩
          have hmb := List.mem_of_getElem? hkb
          have ekb := encKs_at hkb
          obtain ⟨ka, hka⟩ : ∃ k, ks[0]? = some k := ⟨_, List.getElem?_eq_getElem (by omega)⟩
          have hma := List.mem_of_getElem? hka
          have eka := encKs_at hka
          have hC := ih kb hmb ka _ _ (hKa ka hma) (hKb kb hmb) (a4 ka hma) (b4 kb hmb)
          have hF : fits (.mk 4 ns ks) (.mk 4 ns' ks') = fits ka kb := fits_congr (Fits.l_iff hka hkb)
          simp only [RUN, core, T.c, T.s, T.b, T.i, sBin, sInt, sUn, isShift, asInt, P1.cells, loadT, ptrC, storeT, putC, fillP, Nat.reduceAdd, reduceIte, Nat.reduceEqDiff, Nat.reduceLT, Nat.reduceLeDiff, reduceCtorEq, eq_self, FIT, lendCs_map, verC_map, FinC, resPs, resP, lendPl, lendCs, lendC, sealC, partsT, finHs, tupT, verT, verP, verC, verB, verAt, Blk.ver, handsAre, forall_const, CHT, disj, Nat.reduceBEq, beq_self_eq_true, APT, srcOf, sealPs, sealCs, sealC, List.mem_singleton, forall_eq, ALT, ULd_1, encK_mk, Int.reduceBEq, Int.reduceBNe, eka, ekb, Int.le_refl, Int.toNat_zero, List.length_map, encK_len, takeK]
          refine callC hC rfl rfl (by simp [closedA, closedP, closedC]) rfl ?_
          simp only [RUN, core, T.c, T.s, T.b, T.i, sBin, sInt, sUn, isShift, asInt, P1.cells, loadT, ptrC, storeT, putC, fillP, Nat.reduceAdd, reduceIte, Nat.reduceEqDiff, Nat.reduceLT, Nat.reduceLeDiff, reduceCtorEq, eq_self, FIT, lendCs_map, verC_map, FinC, resPs, resP, lendPl, lendCs, lendC, sealC, partsT, finHs, tupT, verT, verP, verC, verB, verAt, Blk.ver, handsAre, forall_const, CHT, disj, Nat.reduceBEq, beq_self_eq_true, APT, srcOf, sealPs, sealCs, sealC, List.mem_singleton, forall_eq, ALT, ULd_1, hF]
        · have h4b : (s == 4) = false := beq_eq_false_iff_ne.2 h4
          have hne : (s != s) = false := by simp
          have hlen : ns.length ≤ ks.length := by
            by_cases h5 : s = 5
            · have := (hSa.form h5).1; omega
            · have := hSa.other h5; omega
          have hlen' : ns'.length ≤ ks'.length := by
            by_cases h5 : s = 5
            · have := (hSb.form h5).1; omega
            · have := hSb.other h5; omega
          have hra : rise ns = true := by
            by_cases h5 : s = 5
            · exact (hSa.form h5).2
            · rw [List.length_eq_zero_iff.1 (hSa.other h5)]; exact rise_true.2 fun i s hs => by simp at hs
          have hrb : rise ns' = true := by
            by_cases h5 : s = 5
            · exact (hSb.form h5).2
            · rw [List.length_eq_zero_iff.1 (hSb.other h5)]; exact rise_true.2 fun i s hs => by simp at hs
          have hboth := both_len (rise_nodup (rise_true.1 hra)) (rise_nodup (rise_true.1 hrb))
          have hfin : FitJ ns ks ns' ks' ns'.length → (both ns ns').length = ns.length → Fits (.mk s ns ks) (.mk s ns' ks') := by
            intro g1 g2
            have g2 := hboth.1 g2
            by_cases h5 : s = 5
            · subst h5
              refine .f _ _ _ _ (fun i x hi => ?_) (fun i x k k' hi hk hk' => ?_) fun i x k' hi hk hq => ?_
              · obtain ⟨j, hj⟩ := List.mem_iff_getElem?.1 (g2 x (List.mem_of_getElem? hi))
                exact kid_len hlen' hj
              · obtain ⟨j, hj1, hj2⟩ := kid_mem hk'
                exact (g1 j (List.getElem?_eq_some_iff.1 hj1).1 x k' hj1 hj2).1 i k hi hk
              · refine (g1 i (List.getElem?_eq_some_iff.1 hi).1 x k' hi hk).2 fun l hl => ?_
                obtain ⟨k, hk⟩ := kid_len hlen hl
                rw [hq] at hk; cases hk
            · have := hSa.lo
              have := hSa.hi
              exact .leaf _ _ _ _ _ (by omega)
          have hbad : Fits (.mk s ns ks) (.mk s ns' ks') → FitJ ns ks ns' ks' ns'.length ∧ (both ns ns').length = ns.length := by
            intro h
            cases h with
            | mm => exact absurd rfl h6'
            | m => exact absurd rfl h6'
            | l => exact absurd rfl h4
            | leaf _ _ _ _ _ hs =>
              have e1 := hSa.other (by omega)
              have e2 := hSb.other (by omega)
              rw [List.length_eq_zero_iff] at e1 e2
              subst e1 e2
              exact ⟨fun j hj => absurd hj (Nat.not_lt_zero j), rfl⟩
            | f _ _ _ _ h1 h2 h3 =>
              refine ⟨fun j hj x k' hx hk' => ⟨fun l k hl hk => ?_, fun hno => h3 j x k' hx hk' (kid_none hno)⟩, hboth.2 fun x hx => ?_⟩
              · refine h2 l x k k' hl hk (kid_at (fun i hi e => ?_) hx hk')
                have := rise_inj (rise_true.1 hrb) e hx
                omega
              · obtain ⟨i, hi⟩ := List.mem_iff_getElem?.1 hx
                obtain ⟨k', hk'⟩ := h1 i x hi
                obtain ⟨j, hj, _⟩ := kid_mem hk'
                exact List.mem_of_getElem? hj
          simp only [RUN, core, T.c, T.s, T.b, T.i, sBin, sInt, sUn, isShift, asInt, P1.cells, loadT, ptrC, storeT, putC, fillP, Nat.reduceAdd, reduceIte, Nat.reduceEqDiff, Nat.reduceLT, Nat.reduceLeDiff, reduceCtorEq, eq_self, FIT, lendCs_map, verC_map, FinC, resPs, resP, lendPl, lendCs, lendC, sealC, partsT, finHs, tupT, verT, verP, verC, verB, verAt, Blk.ver, handsAre, forall_const, CHT, disj, Nat.reduceBEq, beq_self_eq_true, APT, srcOf, sealPs, sealCs, sealC, List.mem_singleton, forall_eq, ALT, ULd_1, encK_mk, h6b', h4b, hne, encS_len]
          refine AW.upto ns'.length (inv43 s ns ks ns' ks') ⟨fun j hj => absurd hj (Nat.not_lt_zero j), ⟨_, rfl, rfl⟩, ⟨_, rfl, rfl⟩, rfl, rfl, rfl, rfl⟩ fun i t H c hi h => ?_
          obtain ⟨g0, ⟨u2, e2, eH2⟩, ⟨u3, e3, eH3⟩, e5, e58, e59, e60⟩ := h
          simp only [T.c, T.i] at e2 eH2 e3 eH3 e5 e58 e59 e60
          by_cases hlt : i < ns'.length
          · have k1 : (i : Int) < ns'.length := by omega
            have gz : (0 : Int) ≤ i := by omega
            have gw : IntKind.i64.wrap ((i : Int) + 1) = ((i + 1 : Nat) : Int) := wrap64 (x := (i : Int) + 1) ⟨by omega, by omega⟩
            obtain ⟨x, hx⟩ : ∃ y, ns'[i]? = some y := ⟨_, List.getElem?_eq_getElem hlt⟩
            obtain ⟨k', hk'⟩ : ∃ k, ks'[i]? = some k := ⟨_, List.getElem?_eq_getElem (by omega)⟩
            have hmk' := List.mem_of_getElem? hk'
            have es := encS_at hx
            have ek' := encKs_at hk'
            obtain ⟨J, b, hb1, hb2, hCs⟩ := search_ok ns x hra (by omega)
            have htk : ns'.take (i + 1) = ns'.take i ++ [x] := by rw [List.take_add_one, hx]; rfl
            have hbl : (both ns (ns'.take i)).length ≤ i := by
              have h1 : (both ns (ns'.take i)).length ≤ (ns'.take i).length := List.length_filter_le _ _
              have h2 : (ns'.take i).length ≤ i := by rw [List.length_take]; omega
              omega
            have key : ((∀ (l : Nat) k, ns[l]? = some x → ks[l]? = some k → Fits k k') ∧ ((∀ l : Nat, ns[l]? ≠ some x) → k'.sort = 6)) → FitJ ns ks ns' ks' (i + 1) := by
              intro h j hj x2 k2 h1 h2
              rcases Nat.lt_succ_iff_lt_or_eq.1 hj with hj | rfl
              · exact g0 j hj x2 k2 h1 h2
              · rw [hx] at h1; rw [hk'] at h2; cases h1; cases h2; exact h
            simp only [RUN, core, T.c, T.s, T.b, T.i, sBin, sInt, sUn, isShift, asInt, P1.cells, loadT, ptrC, storeT, putC, fillP, Nat.reduceAdd, reduceIte, Nat.reduceEqDiff, Nat.reduceLT, Nat.reduceLeDiff, reduceCtorEq, eq_self, FIT, lendCs_map, verC_map, FinC, resPs, resP, lendPl, lendCs, lendC, sealC, partsT, finHs, tupT, verT, verP, verC, verB, verAt, Blk.ver, handsAre, forall_const, CHT, disj, Nat.reduceBEq, beq_self_eq_true, APT, srcOf, sealPs, sealCs, sealC, List.mem_singleton, forall_eq, ALT, ULd_3, e2, eH2, e3, eH3, e58, e59, e60, k1, gz, encS_len, es, Int.toNat_natCast]
            refine callC hCs rfl rfl (by simp [closedA, closedP, closedC]) (by simp [closedT, closedP, closedC]) ?_
            cases b with
            | true =>
              have hJ := hb1 rfl
              obtain ⟨k, hk⟩ : ∃ k, ks[J]? = some k := ⟨_, List.getElem?_eq_getElem (by have := (List.getElem?_eq_some_iff.1 hJ).1; omega)⟩
              have hmk := List.mem_of_getElem? hk
              have ek := encKs_at hk
              have gzJ : (0 : Int) ≤ J := by omega
              have hC := ih k' hmk' k _ _ (hKa k hmk) (hKb k' hmk') (a4 k hmk) (b4 k' hmk')
              simp only [RUN, core, T.c, T.s, T.b, T.i, sBin, sInt, sUn, isShift, asInt, P1.cells, loadT, ptrC, storeT, putC, fillP, Nat.reduceAdd, reduceIte, Nat.reduceEqDiff, Nat.reduceLT, Nat.reduceLeDiff, reduceCtorEq, eq_self, FIT, lendCs_map, verC_map, FinC, resPs, resP, lendPl, lendCs, lendC, sealC, partsT, finHs, tupT, verT, verP, verC, verB, verAt, Blk.ver, handsAre, forall_const, CHT, disj, Nat.reduceBEq, beq_self_eq_true, APT, srcOf, sealPs, sealCs, sealC, List.mem_singleton, forall_eq, ALT, ULd_3, e2, eH2, e3, eH3, gz, gzJ, ek, ek', Int.toNat_natCast, List.length_map, encK_len, takeK, Nat.le_refl]
              refine callC hC rfl rfl (by simp [closedA, closedP, closedC]) rfl ?_
              cases hfk : fits k k' with
              | false =>
                have hF : fits (.mk s ns ks) (.mk s ns' ks') = false := fits_false.2 fun h => by
                  rw [fits_false] at hfk
                  exact hfk (((hbad h).1 i hlt x k' hx hk').1 J k hJ hk)
                simp only [RUN, core, T.c, T.s, T.b, T.i, sBin, sInt, sUn, isShift, asInt, P1.cells, loadT, ptrC, storeT, putC, fillP, Nat.reduceAdd, reduceIte, Nat.reduceEqDiff, Nat.reduceLT, Nat.reduceLeDiff, reduceCtorEq, eq_self, FIT, lendCs_map, verC_map, FinC, resPs, resP, lendPl, lendCs, lendC, sealC, partsT, finHs, tupT, verT, verP, verC, verB, verAt, Blk.ver, handsAre, forall_const, CHT, disj, Nat.reduceBEq, beq_self_eq_true, APT, srcOf, sealPs, sealCs, sealC, List.mem_singleton, forall_eq, ALT, ULd_3, hF]
              | true =>
                have gw2 : IntKind.i64.wrap (((both ns (ns'.take i)).length : Int) + 1) = ((both ns (ns'.take (i + 1))).length : Int) := by
                  rw [htk, both_in (List.mem_of_getElem? hJ), wrap64 ⟨by omega, by omega⟩]; simp
                simp only [RUN, core, T.c, T.s, T.b, T.i, sBin, sInt, sUn, isShift, asInt, P1.cells, loadT, ptrC, storeT, putC, fillP, Nat.reduceAdd, reduceIte, Nat.reduceEqDiff, Nat.reduceLT, Nat.reduceLeDiff, reduceCtorEq, eq_self, FIT, lendCs_map, verC_map, FinC, resPs, resP, lendPl, lendCs, lendC, sealC, partsT, finHs, tupT, verT, verP, verC, verB, verAt, Blk.ver, handsAre, forall_const, CHT, disj, Nat.reduceBEq, beq_self_eq_true, APT, srcOf, sealPs, sealCs, sealC, List.mem_singleton, forall_eq, ALT, ULd_3, e5, e60, gw, gw2]
                refine ⟨hlt, key ⟨fun l k2 hl hk2 => ?_, fun h => absurd hJ (h J)⟩, ⟨u2, e2, eH2⟩, ⟨u3, e3, eH3⟩, rfl, e58, e59, rfl⟩
                have := rise_inj (rise_true.1 hra) hl hJ
                subst this
                rw [hk] at hk2; cases hk2; exact fits_true.1 hfk
            | false =>
              have hno := hb2 rfl
              obtain ⟨rest, erest, hrest⟩ := encK_sort k'
              have hr3 : rest.length + 1 = 3 := by omega
              by_cases hs6 : k'.sort = 6
              · have hsb : (k'.sort != 6) = false := by rw [hs6]; rfl
                have gw2 : ((both ns (ns'.take i)).length : Int) = ((both ns (ns'.take (i + 1))).length : Int) := by
                  rw [htk, both_out (fun h => by obtain ⟨l, hl⟩ := List.mem_iff_getElem?.1 h; exact hno l hl)]
                simp only [RUN, core, T.c, T.s, T.b, T.i, sBin, sInt, sUn, isShift, asInt, P1.cells, loadT, ptrC, storeT, putC, fillP, Nat.reduceAdd, reduceIte, Nat.reduceEqDiff, Nat.reduceLT, Nat.reduceLeDiff, reduceCtorEq, eq_self, FIT, lendCs_map, verC_map, FinC, resPs, resP, lendPl, lendCs, lendC, sealC, partsT, finHs, tupT, verT, verP, verC, verB, verAt, Blk.ver, handsAre, forall_const, CHT, disj, Nat.reduceBEq, beq_self_eq_true, APT, srcOf, sealPs, sealCs, sealC, List.mem_singleton, forall_eq, ALT, ULd_3, e2, eH2, e3, eH3, e60, gz, ek', erest, hr3, hsb, gw, Int.toNat_natCast, Nat.le_refl]
                refine ⟨hlt, key ⟨fun l k2 hl _ => absurd hl (hno l), fun _ => hs6⟩, ⟨u2, e2, eH2⟩, ⟨u3, e3, eH3⟩, ?_, e58, e59, rfl⟩
                rw [← gw2]; exact e5
              · have hsb : (k'.sort != 6) = true := by simp [hs6]
                have hF : fits (.mk s ns ks) (.mk s ns' ks') = false := fits_false.2 fun h => hs6 (((hbad h).1 i hlt x k' hx hk').2 hno)
                simp only [RUN, core, T.c, T.s, T.b, T.i, sBin, sInt, sUn, isShift, asInt, P1.cells, loadT, ptrC, storeT, putC, fillP, Nat.reduceAdd, reduceIte, Nat.reduceEqDiff, Nat.reduceLT, Nat.reduceLeDiff, reduceCtorEq, eq_self, FIT, lendCs_map, verC_map, FinC, resPs, resP, lendPl, lendCs, lendC, sealC, partsT, finHs, tupT, verT, verP, verC, verB, verAt, Blk.ver, handsAre, forall_const, CHT, disj, Nat.reduceBEq, beq_self_eq_true, APT, srcOf, sealPs, sealCs, sealC, List.mem_singleton, forall_eq, ALT, ULd_3, e2, eH2, e3, eH3, e60, gz, ek', erest, hr3, hsb, hF, Int.toNat_natCast, Nat.le_refl]
          · have hin : i = ns'.length := by omega
            subst hin
            have k1 : ¬ ((ns'.length : Nat) : Int) < ns'.length := by omega
            rw [List.take_length] at e5
            have hF : fits (.mk s ns ks) (.mk s ns' ks') = (((both ns ns').length : Int) == (ns.length : Int)) := by
              by_cases h : (both ns ns').length = ns.length
              · rw [fits_true.2 (hfin g0 h)]; exact (beq_iff_eq.2 (by omega)).symm
              · rw [fits_false.2 fun h2 => h (hbad h2).2]; exact (beq_eq_false_iff_ne.2 (by omega)).symm
            simp only [RUN, core, T.c, T.s, T.b, T.i, sBin, sInt, sUn, isShift, asInt, P1.cells, loadT, ptrC, storeT, putC, fillP, Nat.reduceAdd, reduceIte, Nat.reduceEqDiff, Nat.reduceLT, Nat.reduceLeDiff, reduceCtorEq, eq_self, FIT, lendCs_map, verC_map, FinC, resPs, resP, lendPl, lendCs, lendC, sealC, partsT, finHs, tupT, verT, verP, verC, verB, verAt, Blk.ver, handsAre, forall_const, CHT, disj, Nat.reduceBEq, beq_self_eq_true, APT, srcOf, sealPs, sealCs, sealC, List.mem_singleton, forall_eq, ALT, ULd_3, ULd_1, e2, eH2, e5, e59, e60, k1, encS_len, hF]
      · have hne : (s != s') = true := by simp [hss]
        have hF : fits (.mk s ns ks) (.mk s' ns' ks') = false := fits_false.2 fun h => hss (h.sort_eq h6')
        simp only [RUN, core, T.c, T.s, T.b, T.i, sBin, sInt, sUn, isShift, asInt, P1.cells, loadT, ptrC, storeT, putC, fillP, Nat.reduceAdd, reduceIte, Nat.reduceEqDiff, Nat.reduceLT, Nat.reduceLeDiff, reduceCtorEq, eq_self, FIT, lendCs_map, verC_map, FinC, resPs, resP, lendPl, lendCs, lendC, sealC, partsT, finHs, tupT, verT, verP, verC, verB, verAt, Blk.ver, handsAre, forall_const, CHT, disj, Nat.reduceBEq, beq_self_eq_true, APT, srcOf, sealPs, sealCs, sealC, List.mem_singleton, forall_eq, ALT, ULd_1, encK_mk, h6b', hne, hF]
/- loop.example/teagle/impl.KindFits -/
def r11_0 : List AOper := [ao 0 2 (.box 26 (.t 0)),
  ao 1 3 (.box 26 (.t 1)),
  ao 2 4 (.mv (.k (.b false)))]
def r11_1 : List AOper := [ao 0 5 (.ld 3 true (.t 2)),
  ao 1 6 (.call (.k (.c (.fn 42 []))) [(.t 5)]),
  ao 2 7 (.mv (.t 6)),
  ag 3 8 7 true [] (.ld 3 true (.t 3)),
  ag 4 9 7 true [] (.call (.k (.c (.fn 42 []))) [(.t 8)]),
  ao 5 10 (.pick (.t 7) (.t 9) (.k (.b false))),
  ao 6 11 (.mv (.t 10)),
  ag 7 12 11 true [] (.ld 3 true (.t 2)),
  ag 8 13 11 true [] (.ld 3 true (.t 3)),
  ag 9 14 11 true [] (.call (.k (.c (.fn 43 []))) [(.t 12), (.t 13)]),
  ao 10 15 (.pick (.t 11) (.t 14) (.k (.b false))),
  ao 11 4 (.mv (.t 15))]
def c11 : ACode := .seq (.reg r11_0) (.seq (.reg r11_1) .ret)
def s11 : List ARes := [.tmp 4]
theorem ok11 : okF Try.prog 11 16 c11 s11 := ⟨Try.f11, Try.func11, Try.ntmps11, by kernel_rfl, by kernel_rfl, by kernel_rfl⟩
theorem ULd_2 : (type_of% (uA c11.eq_1)) ∧ (type_of% (uR r11_0.eq_1)) ∧ (type_of% (uR r11_1.eq_1)) ∧ (type_of% s11.eq_1) :=
  ⟨uA c11.eq_1, uR r11_0.eq_1, uR r11_1.eq_1, s11.eq_1⟩
theorem kindFitsI_ok (a b : Kd) (ha : KB 2000 a) (hb : KB 2000 b) : ACallsF Try.prog 11 [tK a, tK b] [] (.b (okK a && (okK b && fits a b))) := by
  refine ACallsF.intro ok11 follows fun X c0 => ?_
  simp only [RUN, core, T.c, T.s, T.b, T.i, sBin, sInt, sUn, isShift, asInt, P1.cells, loadT, ptrC, storeT, putC, fillP, Nat.reduceAdd, reduceIte, Nat.reduceEqDiff, Nat.reduceLT, Nat.reduceLeDiff, reduceCtorEq, eq_self, FIT, lendCs_map, verC_map, FinC, resPs, resP, lendPl, lendCs, lendC, sealC, partsT, finHs, tupT, verT, verP, verC, verB, verAt, Blk.ver, handsAre, forall_const, CHT, disj, Nat.reduceBEq, beq_self_eq_true, APT, srcOf, sealPs, sealCs, sealC, List.mem_singleton, forall_eq, ALT, ULd_2, List.length_map, encK_len, takeK, Nat.le_refl]
  refine callC (kindOkI_ok a (ha.le (by omega))) rfl rfl (by simp [closedA, closedP, closedC]) rfl ?_
  cases h1 : okK a with
  | false => simp only [RUN, core, T.c, T.s, T.b, T.i, sBin, sInt, sUn, isShift, asInt, P1.cells, loadT, ptrC, storeT, putC, fillP, Nat.reduceAdd, reduceIte, Nat.reduceEqDiff, Nat.reduceLT, Nat.reduceLeDiff, reduceCtorEq, eq_self, FIT, lendCs_map, verC_map, FinC, resPs, resP, lendPl, lendCs, lendC, sealC, partsT, finHs, tupT, verT, verP, verC, verB, verAt, Blk.ver, handsAre, forall_const, CHT, disj, Nat.reduceBEq, beq_self_eq_true, APT, srcOf, sealPs, sealCs, sealC, List.mem_singleton, forall_eq, ALT, ULd_2]
  | true =>
    simp only [RUN, core, T.c, T.s, T.b, T.i, sBin, sInt, sUn, isShift, asInt, P1.cells, loadT, ptrC, storeT, putC, fillP, Nat.reduceAdd, reduceIte, Nat.reduceEqDiff, Nat.reduceLT, Nat.reduceLeDiff, reduceCtorEq, eq_self, FIT, lendCs_map, verC_map, FinC, resPs, resP, lendPl, lendCs, lendC, sealC, partsT, finHs, tupT, verT, verP, verC, verB, verAt, Blk.ver, handsAre, forall_const, CHT, disj, Nat.reduceBEq, beq_self_eq_true, APT, srcOf, sealPs, sealCs, sealC, List.mem_singleton, forall_eq, ALT, ULd_2, List.length_map, encK_len, takeK, Nat.le_refl]
    refine callC (kindOkI_ok b (hb.le (by omega))) rfl rfl (by simp [closedA, closedP, closedC]) rfl ?_
    cases h2 : okK b with
    | false => simp only [RUN, core, T.c, T.s, T.b, T.i, sBin, sInt, sUn, isShift, asInt, P1.cells, loadT, ptrC, storeT, putC, fillP, Nat.reduceAdd, reduceIte, Nat.reduceEqDiff, Nat.reduceLT, Nat.reduceLeDiff, reduceCtorEq, eq_self, FIT, lendCs_map, verC_map, FinC, resPs, resP, lendPl, lendCs, lendC, sealC, partsT, finHs, tupT, verT, verP, verC, verB, verAt, Blk.ver, handsAre, forall_const, CHT, disj, Nat.reduceBEq, beq_self_eq_true, APT, srcOf, sealPs, sealCs, sealC, List.mem_singleton, forall_eq, ALT, ULd_2]
    | true =>
      simp only [RUN, core, T.c, T.s, T.b, T.i, sBin, sInt, sUn, isShift, asInt, P1.cells, loadT, ptrC, storeT, putC, fillP, Nat.reduceAdd, reduceIte, Nat.reduceEqDiff, Nat.reduceLT, Nat.reduceLeDiff, reduceCtorEq, eq_self, FIT, lendCs_map, verC_map, FinC, resPs, resP, lendPl, lendCs, lendC, sealC, partsT, finHs, tupT, verT, verP, verC, verB, verAt, Blk.ver, handsAre, forall_const, CHT, disj, Nat.reduceBEq, beq_self_eq_true, APT, srcOf, sealPs, sealCs, sealC, List.mem_singleton, forall_eq, ALT, ULd_2, List.length_map, encK_len, takeK, Nat.le_refl]
      refine callC (fitsI_ok b a 1 1 (okK_true.1 h1).1 (okK_true.1 h2).1 ha hb) rfl rfl (by simp [closedA, closedP, closedC]) rfl ?_
      simp only [RUN, core, T.c, T.s, T.b, T.i, sBin, sInt, sUn, isShift, asInt, P1.cells, loadT, ptrC, storeT, putC, fillP, Nat.reduceAdd, reduceIte, Nat.reduceEqDiff, Nat.reduceLT, Nat.reduceLeDiff, reduceCtorEq, eq_self, FIT, lendCs_map, verC_map, FinC, resPs, resP, lendPl, lendCs, lendC, sealC, partsT, finHs, tupT, verT, verP, verC, verB, verAt, Blk.ver, handsAre, forall_const, CHT, disj, Nat.reduceBEq, beq_self_eq_true, APT, srcOf, sealPs, sealCs, sealC, List.mem_singleton, forall_eq, ALT, ULd_2]
end Go.V
set_option linter.unusedSimpArgs false
namespace Go.V
open Go.Proofs
/-- What a call does for every empty slice it does for the empty list. -/
theorem nilArg {P : Program} {f : FuncId} {r : T} (h : ∀ ad c, ACallsF P f [.s (.slice ad 0 c)] [] r) : ACallsF P f [.c (.v (.sl []))] [] r := by
  refine ⟨(h none 0).1, fun w imm L c vs hH hT => ?_⟩
  obtain ⟨x, rfl⟩ : ∃ x, vs = [x] := by
    have := hT.1
    cases vs with
    | nil => simp at this
    | cons x l => cases l with
      | nil => exact ⟨x, rfl⟩
      | cons _ _ => simp at this
  have hx : VRep w imm x (.sl []) := hT.2 0 x _ rfl rfl
  cases hx with
  | nil a cap => exact (h a cap).2 w imm L c _ hH ⟨rfl, fun k x y hx hy => by
      cases k with
      | zero => simp at hx hy; subst hx hy; exact .s _ rfl
      | succ k => simp at hx⟩
  | sl _ _ _ _ _ _ _ hne => exact absurd rfl hne
/- slices.Clone[[]string,string] -/
def r80_0 : List AOper := [ao 0 2 (.mv (.k (.c .nil0)))]
def r80_1 : List AOper := [ao 0 3 (.mv (.t 0)),
  ao 1 4 (.isnil false (.t 3))]
def r80_2 : List AOper := [ao 0 2 (.mv (.k (.c .nil0)))]
def c80_3 : ACode := .seq (.reg r80_2) .ret
def c80_4 : ACode := .cond (.t 4) c80_3 .skip
def c80_5 : ACode := .seq (.reg r80_1) c80_4
def r80_6 : List AOper := [ao 0 5 (.bsl 1 9 []),
  ao 1 6 (.mv (.t 0)),
  ao 2 7 (.app 1 9 16 (.t 5) (.t 6)),
  ao 3 2 (.mv (.t 7))]
def c80 : ACode := .seq (.reg r80_0) (.seq c80_5 (.seq (.reg r80_6) .ret))
def s80 : List ARes := [.tmp 2]
theorem ok80 : okF Try.prog 80 8 c80 s80 := ⟨Try.f80, Try.func80, Try.ntmps80, by kernel_rfl, by kernel_rfl, by kernel_rfl⟩
theorem UNz_1 : (type_of% (uA c80.eq_1)) ∧ (type_of% (uR r80_0.eq_1)) ∧ (type_of% (uA c80_5.eq_1)) ∧ (type_of% (uR r80_1.eq_1)) ∧ (type_of% (uA c80_4.eq_1)) ∧ (type_of% (uA c80_3.eq_1)) ∧ (type_of% (uR r80_2.eq_1)) ∧ (type_of% (uR r80_6.eq_1)) ∧ (type_of% s80.eq_1) :=
  ⟨uA c80.eq_1, uR r80_0.eq_1, uA c80_5.eq_1, uR r80_1.eq_1, uA c80_4.eq_1, uA c80_3.eq_1, uR r80_2.eq_1, uR r80_6.eq_1, s80.eq_1⟩
theorem clone_ok (ns : List ByteArray) (hl : ns.length ≤ 1000000) : ACallsF Try.prog 80 [.c (.v (.sl (encS ns)))] [] (.c (.v (.sl (encS ns)))) := by
  have q1 : ns.length * 16 ≤ 140737488355328 := by omega
  have q2 : ns.length ≤ 9223372036854775807 := by omega
  cases ns with
  | nil =>
    refine nilArg fun ad c => ACallsF.intro ok80 follows fun X c0 => ?_
    have e0 : encS [] = [] := rfl
    have hb1 : (true != false) = true := rfl
    have hb2 : (false != false) = false := rfl
    cases ad with
    | none => simp only [RUN, core, T.c, T.s, T.b, T.i, sBin, sInt, sUn, isShift, asInt, P1.cells, loadT, ptrC, storeT, putC, fillP, Nat.reduceAdd, reduceIte, Nat.reduceEqDiff, Nat.reduceLT, Nat.reduceLeDiff, reduceCtorEq, eq_self, FIT, lendCs_map, verC_map, FinC, resPs, resP, lendPl, lendCs, lendC, sealC, partsT, finHs, tupT, verT, verP, verC, verB, verAt, Blk.ver, handsAre, forall_const, CHT, disj, Nat.reduceBEq, beq_self_eq_true, APT, srcOf, sealPs, sealCs, sealC, List.mem_singleton, forall_eq, ALT, UNz_1, Option.isNone_none, Option.isNone_some, hb1, hb2]
    | some a => simp only [RUN, core, T.c, T.s, T.b, T.i, sBin, sInt, sUn, isShift, asInt, P1.cells, loadT, ptrC, storeT, putC, fillP, Nat.reduceAdd, reduceIte, Nat.reduceEqDiff, Nat.reduceLT, Nat.reduceLeDiff, reduceCtorEq, eq_self, FIT, lendCs_map, verC_map, FinC, resPs, resP, lendPl, lendCs, lendC, sealC, partsT, finHs, tupT, verT, verP, verC, verB, verAt, Blk.ver, handsAre, forall_const, CHT, disj, Nat.reduceBEq, beq_self_eq_true, APT, srcOf, sealPs, sealCs, sealC, List.mem_singleton, forall_eq, ALT, UNz_1, Option.isNone_none, Option.isNone_some, hb1, hb2, Nat.zero_mul, Nat.zero_le, List.not_mem_nil, false_implies, implies_true]
  | cons y ys =>
    refine ACallsF.intro ok80 follows fun X c0 => ?_
    obtain ⟨e, es, he⟩ : ∃ e es, encS (y :: ys) = e :: es := ⟨_, _, rfl⟩
    have hall := encS_all1 (y :: ys)
    have hlen := encS_len (y :: ys)
    have htk := take_encS (y :: ys)
    rw [he] at hall hlen htk ⊢
    simp only [List.length_cons] at hlen htk q1 q2
    rw [← hlen] at htk q1 q2
    simp only [RUN, core, T.c, T.s, T.b, T.i, sBin, sInt, sUn, isShift, asInt, P1.cells, loadT, ptrC, storeT, putC, fillP, Nat.reduceAdd, reduceIte, Nat.reduceEqDiff, Nat.reduceLT, Nat.reduceLeDiff, reduceCtorEq, eq_self, FIT, lendCs_map, verC_map, FinC, resPs, resP, lendPl, lendCs, lendC, sealC, partsT, finHs, tupT, verT, verP, verC, verB, verAt, Blk.ver, handsAre, forall_const, CHT, disj, Nat.reduceBEq, beq_self_eq_true, APT, srcOf, sealPs, sealCs, sealC, List.mem_singleton, forall_eq, UNz_1, hall, q1, q2, Nat.zero_add]
theorem choose_list {α : Type} (P : Nat → α → Prop) : ∀ n, (∀ i, i < n → ∃ o, P i o) → ∃ outs : List α, outs.length = n ∧ ∀ i, i < n → ∃ o, outs[i]? = some o ∧ P i o
  | 0, _ => ⟨[], rfl, fun i hi => absurd hi (Nat.not_lt_zero i)⟩
  | n + 1, h => by
    obtain ⟨outs, h1, h2⟩ := choose_list P n fun i hi => h i (by omega)
    obtain ⟨o, ho⟩ := h n (by omega)
    refine ⟨outs ++ [o], by simp [h1], fun i hi => ?_⟩
    by_cases hin : i < n
    · obtain ⟨o', h3, h4⟩ := h2 i hin
      exact ⟨o', by rw [List.getElem?_append_left (by omega)]; exact h3, h4⟩
    · have : i = n := by omega
      subst this
      exact ⟨o, by rw [← h1, List.getElem?_append_right (Nat.le_refl _)]; simp, ho⟩
theorem all_of {α : Type} {P : α → Prop} {outs : List α} {n : Nat} (hl : outs.length = n) (h : ∀ i, i < n → ∃ o, outs[i]? = some o ∧ P o) : ∀ o ∈ outs, P o := by
  intro o ho
  obtain ⟨i, hi⟩ := List.mem_iff_getElem?.1 ho
  obtain ⟨o', h1, h2⟩ := h i (by have := (List.getElem?_eq_some_iff.1 hi).1; omega)
  rw [hi] at h1; cases h1; exact h2
theorem at_len {α β : Type} {xs : List α} {ys : List β} (h : xs.length = ys.length) {i : Nat} {x : α} (hi : xs[i]? = some x) : ∃ y, ys[i]? = some y :=
  ⟨_, List.getElem?_eq_getElem (by have := (List.getElem?_eq_some_iff.1 hi).1; omega)⟩
theorem one_at {s : Int} {ns : List ByteArray} {ks : List Kd} (hS : Shape s ns ks) (h : s = 4 ∨ s = 6) : ∃ k, ks[0]? = some k := ⟨_, List.getElem?_eq_getElem (by have := hS.one h; omega)⟩
/-- A schema's sort, and a wider one's. -/
theorem Fits.up6 {a b : Kd} (h : Fits a b) (ha : a.sort = 6) : b.sort = 6 := by
  obtain ⟨s, ns, ks⟩ := a
  obtain ⟨s', ns', ks'⟩ := b
  by_cases h6 : s' = 6
  · exact h6
  · have := h.sort_eq h6
    simp only [Kd.sort] at ha ⊢
    omega
def sumN (f : Nat → Nat) : Nat → Nat
  | 0 => 0
  | n + 1 => sumN f n + f n
theorem sumN_cut (g : Nat → Nat) (i0 : Nat) : ∀ m, i0 < m → sumN g m = sumN (fun i => if i = i0 then 0 else g i) m + g i0
  | 0, h => absurd h (Nat.not_lt_zero _)
  | m + 1, h => by
    by_cases e : m = i0
    · subst e
      have : ∀ k, k ≤ m → sumN (fun i => if i = m then 0 else g i) k = sumN g k := by
        intro k
        induction k with
        | zero => intro _; rfl
        | succ k ihk => intro hk; simp only [sumN, ihk (by omega)]; rw [if_neg (by omega)]
      simp only [sumN, this m (Nat.le_refl _), if_pos]
      omega
    · have := sumN_cut g i0 m (by omega)
      simp only [sumN, if_neg e]
      omega
theorem sumN_le : ∀ (n m : Nat) (f g σ : Nat → Nat), (∀ j, j < n → σ j < m ∧ f j ≤ g (σ j)) → (∀ i j, i < n → j < n → σ i = σ j → i = j) → sumN f n ≤ sumN g m
  | 0, _, _, _, _, _, _ => Nat.zero_le _
  | n + 1, m, f, g, σ, h, hi => by
    obtain ⟨h1, h2⟩ := h n (by omega)
    rw [sumN_cut g (σ n) m h1]
    have := sumN_le n m f (fun i => if i = σ n then 0 else g i) σ (fun j hj => by
      obtain ⟨h3, h4⟩ := h j (by omega)
      have hne : σ j ≠ σ n := fun e => by have := hi j n (by omega) (by omega) e; omega
      exact ⟨h3, by simp only [if_neg hne]; exact h4⟩) fun i j a b e => hi i j (by omega) (by omega) e
    simp only [sumN]
    omega
theorem sumN_mono (f g : Nat → Nat) : ∀ n, (∀ i, i < n → f i ≤ g i) → sumN f n ≤ sumN g n := fun n h =>
  sumN_le n n f g id (fun j hj => ⟨hj, h j hj⟩) fun _ _ _ _ e => e
theorem fits_refl : ∀ (a : Kd) (d : Nat), KOk d a → Fits a a := by
  intro a
  induction a using Kd.ind with
  | _ s ns ks ih =>
    intro d hO
    obtain ⟨_, hS, hK⟩ := hO.inv
    by_cases h46 : s = 4 ∨ s = 6
    · obtain ⟨k, hk⟩ := one_at hS h46
      have hmk := List.mem_of_getElem? hk
      have := ih k hmk _ (hK k hmk)
      rcases h46 with rfl | rfl
      · exact (Fits.l_iff hk hk).2 this
      · exact (Fits.mm_iff hk hk).2 this
    · by_cases h5 : s = 5
      · subst h5
        have l := hS.form rfl
        have hkid : ∀ (i : Nat) x k, ns[i]? = some x → ks[i]? = some k → kid ns ks x = some k := fun i x k hx hk => kid_at (fun j hj e => by have := rise_inj (rise_true.1 l.2) e hx; omega) hx hk
        refine .f _ _ _ _ (fun i x hx => kid_len (by omega) hx) (fun i x k k' hx hk hk' => ?_) fun i x k' hx hk hno => ?_
        · rw [hkid i x k hx hk] at hk'; cases hk'
          exact ih k (List.mem_of_getElem? hk) _ (hK k (List.mem_of_getElem? hk))
        · rw [hkid i x k' hx hk] at hno; cases hno
      · have := hS.lo
        have := hS.hi
        exact .leaf _ _ _ _ _ (by omega)
end Go.V

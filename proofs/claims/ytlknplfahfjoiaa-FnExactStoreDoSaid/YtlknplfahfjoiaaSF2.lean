/- It is proved that the law FnExactStoreDo returns true for every input and leaves its input as it was; no condition. -/
import Derived.Test.YtlknplfahfjoiaaSF1
import Derived.Shelf.Slices.Delete
import Derived.Lib.RowBridge
set_option linter.unusedSimpArgs false
namespace Go.V
open Go.Proofs
/-! the reference's disk, as functions -/
/-- The place of a file, -1 if there is none. -/
def fnd (fs : List DF) (nm : ByteArray) : Int := match fs.findIdx? fun f => decide (f.name = nm) with
  | some i => i
  | none => -1
theorem fnd_at {fs : List DF} {nm : ByteArray} {i : Nat} {f : DF} (hi : fs[i]? = some f) (hf : f.name = nm) (hb : ∀ (j : Nat), j < i → ∀ (g : DF), fs[j]? = some g → g.name ≠ nm) : fnd fs nm = i := by
  have : (fs.findIdx? fun f => decide (f.name = nm)) = some i := by
    rw [List.findIdx?_eq_some_iff_getElem]
    have hlt := (List.getElem?_eq_some_iff.1 hi).1
    have he := (List.getElem?_eq_some_iff.1 hi).2
    refine ⟨hlt, by rw [he]; simpa using hf, fun j hj => ?_⟩
    have := hb j hj _ (List.getElem?_eq_getElem (by omega))
    simpa using this
  simp only [fnd, this]
theorem fnd_no {fs : List DF} {nm : ByteArray} (hb : ∀ (j : Nat) (g : DF), fs[j]? = some g → g.name ≠ nm) : fnd fs nm = -1 := by
  have : (fs.findIdx? fun f => decide (f.name = nm)) = none := by
    rw [List.findIdx?_eq_none_iff]
    intro x hx
    obtain ⟨j, hj⟩ := List.mem_iff_getElem?.1 hx
    simpa using hb j x hj
  simp only [fnd, this]
/- loop.example/teagle/spec.l41Find -/
def r44_0 : List AOper := [ao 0 4 (.mv (.k (.i 0)))]
def r44_1 : List AOper := [ao 0 5 (.mv (.k (.i 0)))]
def r44_2 : List AOper := [ao 0 6 (.mv (.t 5)),
  ao 1 7 (.mv (.t 0)),
  ao 2 8 (.len (.t 7)),
  ao 3 9 (.bin .lss (.t 6) (.t 8))]
def c44_3 : ACode := .cond (.t 9) .skip (.exit 0)
def c44_4 : ACode := .seq (.reg r44_2) c44_3
def r44_5 : List AOper := [ao 0 12 (.mv (.t 0)),
  ao 1 13 (.mv (.t 5)),
  ao 2 14 (.ia 3 (.t 12) (.t 13)),
  ao 3 15 (.fa 0 (.t 14)),
  ao 4 16 (.ld 1 false (.t 15)),
  ao 5 17 (.mv (.t 1)),
  ao 6 18 (.bin .eql (.t 16) (.t 17))]
def r44_6 : List AOper := [ao 0 19 (.mv (.t 5)),
  ao 1 4 (.mv (.t 19))]
def c44_7 : ACode := .seq (.reg r44_6) .ret
def c44_8 : ACode := .cond (.t 18) c44_7 .skip
def c44_9 : ACode := .seq (.reg r44_5) c44_8
def c44_10 : ACode := .block 1 c44_9
def r44_11 : List AOper := [ao 0 10 (.mv (.t 5)),
  ao 1 11 (.bin .add (.t 10) (.k (.i 1))),
  ao 2 5 (.mv (.t 11))]
def c44_12 : ACode := .seq c44_4 (.seq c44_10 (.reg r44_11))
def c44_13 : ACode := .loop c44_12
def c44_14 : ACode := .block 0 c44_13
def c44_15 : ACode := .seq (.reg r44_1) c44_14
def r44_16 : List AOper := [ao 0 4 (.mv (.k (.i (-1))))]
def c44 : ACode := .seq (.reg r44_0) (.seq c44_15 (.seq (.reg r44_16) .ret))
def s44 : List ARes := [.tmp 4]
theorem ok44 : okF Try.prog 44 20 c44 s44 := ⟨Try.f44, Try.func44, Try.ntmps44, by kernel_rfl, by kernel_rfl, by kernel_rfl⟩
def inv44 (fs : List DF) (nm : ByteArray) (i : Nat) (σ : St) : Prop := (∀ (j : Nat), j < i → ∀ (g : DF), fs[j]? = some g → g.name ≠ nm) ∧ σ.t 0 = tL (en eF fs) ∧ σ.t 1 = tS nm ∧ σ.t 5 = .i i
theorem UFh_1 : (type_of% (uA c44.eq_1)) ∧ (type_of% (uR r44_0.eq_1)) ∧ (type_of% (uA c44_15.eq_1)) ∧ (type_of% (uR r44_1.eq_1)) ∧ (type_of% (uA c44_14.eq_1)) ∧ (type_of% (uA c44_13.eq_1)) ∧ (type_of% (uR r44_16.eq_1)) ∧ (type_of% s44.eq_1) :=
  ⟨uA c44.eq_1, uR r44_0.eq_1, uA c44_15.eq_1, uR r44_1.eq_1, uA c44_14.eq_1, uA c44_13.eq_1, uR r44_16.eq_1, s44.eq_1⟩
theorem UFh_5 : (type_of% (uA c44_12.eq_1)) ∧ (type_of% (uA c44_4.eq_1)) ∧ (type_of% (uR r44_2.eq_1)) ∧ (type_of% (uA c44_3.eq_1)) ∧ (type_of% (uA c44_10.eq_1)) ∧ (type_of% (uA c44_9.eq_1)) ∧ (type_of% (uR r44_5.eq_1)) ∧ (type_of% (uA c44_8.eq_1)) ∧ (type_of% (uA c44_7.eq_1)) ∧ (type_of% (uR r44_6.eq_1)) ∧ (type_of% (uR r44_11.eq_1)) ∧ (type_of% (uA c44.eq_1)) ∧ (type_of% (uR r44_0.eq_1)) ∧ (type_of% (uA c44_15.eq_1)) ∧ (type_of% (uR r44_1.eq_1)) ∧ (type_of% (uA c44_14.eq_1)) ∧ (type_of% (uA c44_13.eq_1)) ∧ (type_of% (uR r44_16.eq_1)) ∧ (type_of% s44.eq_1) :=
  ⟨uA c44_12.eq_1, uA c44_4.eq_1, uR r44_2.eq_1, uA c44_3.eq_1, uA c44_10.eq_1, uA c44_9.eq_1, uR r44_5.eq_1, uA c44_8.eq_1, uA c44_7.eq_1, uR r44_6.eq_1, uR r44_11.eq_1, uA c44.eq_1, uR r44_0.eq_1, uA c44_15.eq_1, uR r44_1.eq_1, uA c44_14.eq_1, uA c44_13.eq_1, uR r44_16.eq_1, s44.eq_1⟩
theorem find_ok (fs : List DF) (nm : ByteArray) (hl : fs.length ≤ 9000000000000000000) : ACallsF Try.prog 44 [tL (en eF fs), tS nm] [] (.i (fnd fs nm)) := by
  refine ACallsF.intro ok44 follows fun X c0 => ?_
  simp only [RUN, core, T.c, T.s, T.b, T.i, sBin, sInt, sUn, isShift, asInt, P1.cells, loadT, ptrC, storeT, putC, fillP, Nat.reduceAdd, reduceIte, Nat.reduceEqDiff, Nat.reduceLT, Nat.reduceLeDiff, reduceCtorEq, eq_self, FIT, lendCs_map, verC_map, FinC, resPs, resP, lendPl, lendCs, lendC, sealC, partsT, finHs, tupT, verT, verP, verC, verB, verAt, Blk.ver, handsAre, forall_const, CHT, disj, Nat.reduceBEq, beq_self_eq_true, APT, srcOf, sealPs, sealCs, sealC, toVs, Option.map_some, List.mem_singleton, forall_eq, ALT, UFh_1]
  refine AW.upto fs.length (inv44 fs nm) ⟨fun j hj => absurd hj (Nat.not_lt_zero j), rfl, rfl, rfl⟩ fun i t H c hi h => ?_
  obtain ⟨g, e0, e1, e5⟩ := h
  simp only [T.c, T.i, T.s, tL] at e0 e1 e5
  by_cases hlt : i < fs.length
  · obtain ⟨x, hx⟩ : ∃ x, fs[i]? = some x := ⟨_, List.getElem?_eq_getElem hlt⟩
    have ex := en_at eF hx
    have k1 : (i : Int) < fs.length := by omega
    have gz : (0 : Int) ≤ i := by omega
    have gw : IntKind.i64.wrap ((i : Int) + 1) = ((i + 1 : Nat) : Int) := wrap64 (x := (i : Int) + 1) ⟨by omega, by omega⟩
    by_cases hn : x.name = nm
    · have hr : fnd fs nm = i := fnd_at hx hn g
      simp only [RUN, core, T.c, T.s, T.b, T.i, sBin, sInt, sUn, isShift, asInt, P1.cells, loadT, ptrC, storeT, putC, fillP, Nat.reduceAdd, reduceIte, Nat.reduceEqDiff, Nat.reduceLT, Nat.reduceLeDiff, reduceCtorEq, eq_self, FIT, lendCs_map, verC_map, FinC, resPs, resP, lendPl, lendCs, lendC, sealC, partsT, finHs, tupT, verT, verP, verC, verB, verAt, Blk.ver, handsAre, forall_const, CHT, disj, Nat.reduceBEq, beq_self_eq_true, APT, srcOf, sealPs, sealCs, sealC, toVs, Option.map_some, List.mem_singleton, forall_eq, ALT, UFh_5, UFh_1, e0, e1, e5, en_len, k1, gz, ex, eF, sStr, str_beq, hn, hr, decide_true]
    · simp only [RUN, core, T.c, T.s, T.b, T.i, sBin, sInt, sUn, isShift, asInt, P1.cells, loadT, ptrC, storeT, putC, fillP, Nat.reduceAdd, reduceIte, Nat.reduceEqDiff, Nat.reduceLT, Nat.reduceLeDiff, reduceCtorEq, eq_self, FIT, lendCs_map, verC_map, FinC, resPs, resP, lendPl, lendCs, lendC, sealC, partsT, finHs, tupT, verT, verP, verC, verB, verAt, Blk.ver, handsAre, forall_const, CHT, disj, Nat.reduceBEq, beq_self_eq_true, APT, srcOf, sealPs, sealCs, sealC, toVs, Option.map_some, List.mem_singleton, forall_eq, ALT, UFh_5, e0, e1, e5, en_len, k1, gz, ex, eF, sStr, str_beq, hn, gw]
      exact ⟨hlt, fun j hj g' hg => (by rcases Nat.lt_succ_iff_lt_or_eq.1 hj with hj | rfl; exact g j hj g' hg; rw [hx] at hg; cases hg; exact hn), e0, e1, rfl⟩
  · have k1 : ¬ (i : Int) < fs.length := by omega
    have hr : fnd fs nm = -1 := fnd_no fun j g' hg => g j (by have := (List.getElem?_eq_some_iff.1 hg).1; omega) g' hg
    simp only [RUN, core, T.c, T.s, T.b, T.i, sBin, sInt, sUn, isShift, asInt, P1.cells, loadT, ptrC, storeT, putC, fillP, Nat.reduceAdd, reduceIte, Nat.reduceEqDiff, Nat.reduceLT, Nat.reduceLeDiff, reduceCtorEq, eq_self, FIT, lendCs_map, verC_map, FinC, resPs, resP, lendPl, lendCs, lendC, sealC, partsT, finHs, tupT, verT, verP, verC, verB, verAt, Blk.ver, handsAre, forall_const, CHT, disj, Nat.reduceBEq, beq_self_eq_true, APT, srcOf, sealPs, sealCs, sealC, toVs, Option.map_some, List.mem_singleton, forall_eq, ALT, UFh_5, UFh_1, e0, e1, e5, en_len, k1, hr]
def has (ns : List ByteArray) (nm : ByteArray) : Bool := ns.any fun x => decide (x = nm)
theorem has_true {ns : List ByteArray} {nm : ByteArray} : has ns nm = true ↔ nm ∈ ns := by
  rw [has, List.any_eq_true]
  exact ⟨fun ⟨x, h1, h2⟩ => of_decide_eq_true h2 ▸ h1, fun h => ⟨nm, h, decide_eq_true rfl⟩⟩
theorem has_false {ns : List ByteArray} {nm : ByteArray} : has ns nm = false ↔ nm ∉ ns := by
  rw [← has_true]; cases has ns nm <;> simp
/- loop.example/teagle/spec.l6Has -/
def r48_0 : List AOper := [ao 0 4 (.mv (.k (.b false)))]
def r48_1 : List AOper := [ao 0 5 (.mv (.k (.i 0)))]
def r48_2 : List AOper := [ao 0 6 (.mv (.t 5)),
  ao 1 7 (.mv (.t 0)),
  ao 2 8 (.len (.t 7)),
  ao 3 9 (.bin .lss (.t 6) (.t 8))]
def c48_3 : ACode := .cond (.t 9) .skip (.exit 0)
def c48_4 : ACode := .seq (.reg r48_2) c48_3
def r48_5 : List AOper := [ao 0 12 (.mv (.t 0)),
  ao 1 13 (.mv (.t 5)),
  ao 2 14 (.ia 1 (.t 12) (.t 13)),
  ao 3 15 (.ld 1 false (.t 14)),
  ao 4 16 (.mv (.t 1)),
  ao 5 17 (.bin .eql (.t 15) (.t 16))]
def r48_6 : List AOper := [ao 0 4 (.mv (.k (.b true)))]
def c48_7 : ACode := .seq (.reg r48_6) .ret
def c48_8 : ACode := .cond (.t 17) c48_7 .skip
def c48_9 : ACode := .seq (.reg r48_5) c48_8
def c48_10 : ACode := .block 1 c48_9
def r48_11 : List AOper := [ao 0 10 (.mv (.t 5)),
  ao 1 11 (.bin .add (.t 10) (.k (.i 1))),
  ao 2 5 (.mv (.t 11))]
def c48_12 : ACode := .seq c48_4 (.seq c48_10 (.reg r48_11))
def c48_13 : ACode := .loop c48_12
def c48_14 : ACode := .block 0 c48_13
def c48_15 : ACode := .seq (.reg r48_1) c48_14
def r48_16 : List AOper := [ao 0 4 (.mv (.k (.b false)))]
def c48 : ACode := .seq (.reg r48_0) (.seq c48_15 (.seq (.reg r48_16) .ret))
def s48 : List ARes := [.tmp 4]
theorem ok48 : okF Try.prog 48 18 c48 s48 := ⟨Try.f48, Try.func48, Try.ntmps48, by kernel_rfl, by kernel_rfl, by kernel_rfl⟩
def inv48 (ns : List ByteArray) (nm : ByteArray) (i : Nat) (σ : St) : Prop := (∀ (j : Nat), j < i → ns[j]? ≠ some nm) ∧ σ.t 0 = tL (en eS ns) ∧ σ.t 1 = tS nm ∧ σ.t 5 = .i i
theorem UFh_2 : (type_of% (uA c48.eq_1)) ∧ (type_of% (uR r48_0.eq_1)) ∧ (type_of% (uA c48_15.eq_1)) ∧ (type_of% (uR r48_1.eq_1)) ∧ (type_of% (uA c48_14.eq_1)) ∧ (type_of% (uA c48_13.eq_1)) ∧ (type_of% (uR r48_16.eq_1)) ∧ (type_of% s48.eq_1) :=
  ⟨uA c48.eq_1, uR r48_0.eq_1, uA c48_15.eq_1, uR r48_1.eq_1, uA c48_14.eq_1, uA c48_13.eq_1, uR r48_16.eq_1, s48.eq_1⟩
theorem UFh_6 : (type_of% (uA c48_12.eq_1)) ∧ (type_of% (uA c48_4.eq_1)) ∧ (type_of% (uR r48_2.eq_1)) ∧ (type_of% (uA c48_3.eq_1)) ∧ (type_of% (uA c48_10.eq_1)) ∧ (type_of% (uA c48_9.eq_1)) ∧ (type_of% (uR r48_5.eq_1)) ∧ (type_of% (uA c48_8.eq_1)) ∧ (type_of% (uA c48_7.eq_1)) ∧ (type_of% (uR r48_6.eq_1)) ∧ (type_of% (uR r48_11.eq_1)) ∧ (type_of% (uA c48.eq_1)) ∧ (type_of% (uR r48_0.eq_1)) ∧ (type_of% (uA c48_15.eq_1)) ∧ (type_of% (uR r48_1.eq_1)) ∧ (type_of% (uA c48_14.eq_1)) ∧ (type_of% (uA c48_13.eq_1)) ∧ (type_of% (uR r48_16.eq_1)) ∧ (type_of% s48.eq_1) :=
  ⟨uA c48_12.eq_1, uA c48_4.eq_1, uR r48_2.eq_1, uA c48_3.eq_1, uA c48_10.eq_1, uA c48_9.eq_1, uR r48_5.eq_1, uA c48_8.eq_1, uA c48_7.eq_1, uR r48_6.eq_1, uR r48_11.eq_1, uA c48.eq_1, uR r48_0.eq_1, uA c48_15.eq_1, uR r48_1.eq_1, uA c48_14.eq_1, uA c48_13.eq_1, uR r48_16.eq_1, s48.eq_1⟩
theorem has_ok (ns : List ByteArray) (nm : ByteArray) (hl : ns.length ≤ 9000000000000000000) : ACallsF Try.prog 48 [tL (en eS ns), tS nm] [] (.b (has ns nm)) := by
  refine ACallsF.intro ok48 follows fun X c0 => ?_
  simp only [RUN, core, T.c, T.s, T.b, T.i, sBin, sInt, sUn, isShift, asInt, P1.cells, loadT, ptrC, storeT, putC, fillP, Nat.reduceAdd, reduceIte, Nat.reduceEqDiff, Nat.reduceLT, Nat.reduceLeDiff, reduceCtorEq, eq_self, FIT, lendCs_map, verC_map, FinC, resPs, resP, lendPl, lendCs, lendC, sealC, partsT, finHs, tupT, verT, verP, verC, verB, verAt, Blk.ver, handsAre, forall_const, CHT, disj, Nat.reduceBEq, beq_self_eq_true, APT, srcOf, sealPs, sealCs, sealC, toVs, Option.map_some, List.mem_singleton, forall_eq, ALT, UFh_2]
  refine AW.upto ns.length (inv48 ns nm) ⟨fun j hj => absurd hj (Nat.not_lt_zero j), rfl, rfl, rfl⟩ fun i t H c hi h => ?_
  obtain ⟨g, e0, e1, e5⟩ := h
  simp only [T.c, T.i, T.s, tL] at e0 e1 e5
  by_cases hlt : i < ns.length
  · obtain ⟨x, hx⟩ : ∃ x, ns[i]? = some x := ⟨_, List.getElem?_eq_getElem hlt⟩
    have ex := en_at eS hx
    have k1 : (i : Int) < ns.length := by omega
    have gz : (0 : Int) ≤ i := by omega
    have gw : IntKind.i64.wrap ((i : Int) + 1) = ((i + 1 : Nat) : Int) := wrap64 (x := (i : Int) + 1) ⟨by omega, by omega⟩
    by_cases hn : x = nm
    · have hr : has ns nm = true := has_true.2 (hn ▸ List.mem_of_getElem? hx)
      simp only [RUN, core, T.c, T.s, T.b, T.i, sBin, sInt, sUn, isShift, asInt, P1.cells, loadT, ptrC, storeT, putC, fillP, Nat.reduceAdd, reduceIte, Nat.reduceEqDiff, Nat.reduceLT, Nat.reduceLeDiff, reduceCtorEq, eq_self, FIT, lendCs_map, verC_map, FinC, resPs, resP, lendPl, lendCs, lendC, sealC, partsT, finHs, tupT, verT, verP, verC, verB, verAt, Blk.ver, handsAre, forall_const, CHT, disj, Nat.reduceBEq, beq_self_eq_true, APT, srcOf, sealPs, sealCs, sealC, toVs, Option.map_some, List.mem_singleton, forall_eq, ALT, UFh_6, UFh_2, e0, e1, e5, en_len, k1, gz, ex, eS, sStr, str_beq, hn, hr, decide_true]
    · simp only [RUN, core, T.c, T.s, T.b, T.i, sBin, sInt, sUn, isShift, asInt, P1.cells, loadT, ptrC, storeT, putC, fillP, Nat.reduceAdd, reduceIte, Nat.reduceEqDiff, Nat.reduceLT, Nat.reduceLeDiff, reduceCtorEq, eq_self, FIT, lendCs_map, verC_map, FinC, resPs, resP, lendPl, lendCs, lendC, sealC, partsT, finHs, tupT, verT, verP, verC, verB, verAt, Blk.ver, handsAre, forall_const, CHT, disj, Nat.reduceBEq, beq_self_eq_true, APT, srcOf, sealPs, sealCs, sealC, toVs, Option.map_some, List.mem_singleton, forall_eq, ALT, UFh_6, e0, e1, e5, en_len, k1, gz, ex, eS, sStr, str_beq, hn, gw]
      exact ⟨hlt, fun j hj => (by rcases Nat.lt_succ_iff_lt_or_eq.1 hj with hj | rfl; exact g j hj; rw [hx]; exact fun e => hn (Option.some.inj e)), e0, e1, rfl⟩
  · have k1 : ¬ (i : Int) < ns.length := by omega
    have hr : has ns nm = false := has_false.2 fun hm => by
      obtain ⟨j, hj⟩ := List.mem_iff_getElem?.1 hm
      exact g j (by have := (List.getElem?_eq_some_iff.1 hj).1; omega) hj
    simp only [RUN, core, T.c, T.s, T.b, T.i, sBin, sInt, sUn, isShift, asInt, P1.cells, loadT, ptrC, storeT, putC, fillP, Nat.reduceAdd, reduceIte, Nat.reduceEqDiff, Nat.reduceLT, Nat.reduceLeDiff, reduceCtorEq, eq_self, FIT, lendCs_map, verC_map, FinC, resPs, resP, lendPl, lendCs, lendC, sealC, partsT, finHs, tupT, verT, verP, verC, verB, verAt, Blk.ver, handsAre, forall_const, CHT, disj, Nat.reduceBEq, beq_self_eq_true, APT, srcOf, sealPs, sealCs, sealC, toVs, Option.map_some, List.mem_singleton, forall_eq, ALT, UFh_6, UFh_2, e0, e1, e5, en_len, k1, hr]
/-- Names without one. -/
def wo (nm : ByteArray) (ns : List ByteArray) : List ByteArray := ns.filter fun x => !decide (x = nm)
theorem wo_len (nm : ByteArray) (ns : List ByteArray) : (wo nm ns).length ≤ ns.length := List.length_filter_le _ _
theorem wo_take (nm : ByteArray) {ns : List ByteArray} {i : Nat} {x : ByteArray} (h : ns[i]? = some x) : wo nm (ns.take (i + 1)) = if x = nm then wo nm (ns.take i) else wo nm (ns.take i) ++ [x] := by
  rw [List.take_add_one, h, wo, List.filter_append, wo]
  by_cases hx : x = nm <;> simp [hx]
/- loop.example/teagle/spec.l41Without -/
def r150_0 : List AOper := [ao 0 4 (.mv (.k (.c .nil0)))]
def r150_1 : List AOper := [ao 0 7 (.bsl 1 9 []),
  ao 1 5 (.mv (.t 7))]
def r150_2 : List AOper := [ao 0 6 (.mv (.k (.i 0)))]
def r150_3 : List AOper := [ao 0 8 (.mv (.t 6)),
  ao 1 9 (.mv (.t 0)),
  ao 2 10 (.len (.t 9)),
  ao 3 11 (.bin .lss (.t 8) (.t 10))]
def c150_4 : ACode := .cond (.t 11) .skip (.exit 0)
def c150_5 : ACode := .seq (.reg r150_3) c150_4
def r150_6 : List AOper := [ao 0 14 (.mv (.t 0)),
  ao 1 15 (.mv (.t 6)),
  ao 2 16 (.ia 1 (.t 14) (.t 15)),
  ao 3 17 (.ld 1 false (.t 16)),
  ao 4 18 (.mv (.t 1)),
  ao 5 19 (.bin .neq (.t 17) (.t 18))]
def r150_7 : List AOper := [ao 0 20 (.mv (.t 5)),
  ao 1 21 (.mv (.t 0)),
  ao 2 22 (.mv (.t 6)),
  ao 3 23 (.ia 1 (.t 21) (.t 22)),
  ao 4 24 (.ld 1 false (.t 23)),
  ao 5 25 (.bsl 1 9 [(.t 24)]),
  ao 6 26 (.app 1 9 16 (.t 20) (.t 25)),
  ao 7 5 (.mv (.t 26))]
def c150_8 : ACode := .cond (.t 19) (.reg r150_7) .skip
def c150_9 : ACode := .seq (.reg r150_6) c150_8
def c150_10 : ACode := .block 1 c150_9
def r150_11 : List AOper := [ao 0 12 (.mv (.t 6)),
  ao 1 13 (.bin .add (.t 12) (.k (.i 1))),
  ao 2 6 (.mv (.t 13))]
def c150_12 : ACode := .seq c150_5 (.seq c150_10 (.reg r150_11))
def c150_13 : ACode := .loop c150_12
def c150_14 : ACode := .block 0 c150_13
def c150_15 : ACode := .seq (.reg r150_2) c150_14
def r150_16 : List AOper := [ao 0 27 (.mv (.t 5)),
  ao 1 4 (.mv (.t 27))]
def c150 : ACode := .seq (.reg r150_0) (.seq (.reg r150_1) (.seq c150_15 (.seq (.reg r150_16) .ret)))
def s150 : List ARes := [.tmp 4]
theorem ok150 : okF Try.prog 150 28 c150 s150 := ⟨Try.f150, Try.func150, Try.ntmps150, by kernel_rfl, by kernel_rfl, by kernel_rfl⟩
def inv150 (ns : List ByteArray) (nm : ByteArray) (i : Nat) (σ : St) : Prop := σ.t 0 = tL (en eS ns) ∧ σ.t 1 = tS nm ∧ (∃ v, σ.t 5 = .c (.own 7 v (wo nm (ns.take i)).length) ∧ σ.H 7 = some (.arr v true 1 9 (en eS (wo nm (ns.take i))))) ∧ σ.t 6 = .i i
theorem UFh_3 : (type_of% (uA c150.eq_1)) ∧ (type_of% (uR r150_0.eq_1)) ∧ (type_of% (uR r150_1.eq_1)) ∧ (type_of% (uA c150_15.eq_1)) ∧ (type_of% (uR r150_2.eq_1)) ∧ (type_of% (uA c150_14.eq_1)) ∧ (type_of% (uA c150_13.eq_1)) ∧ (type_of% (uR r150_16.eq_1)) ∧ (type_of% s150.eq_1) :=
  ⟨uA c150.eq_1, uR r150_0.eq_1, uR r150_1.eq_1, uA c150_15.eq_1, uR r150_2.eq_1, uA c150_14.eq_1, uA c150_13.eq_1, uR r150_16.eq_1, s150.eq_1⟩
theorem UFh_7 : (type_of% (uA c150_12.eq_1)) ∧ (type_of% (uA c150_5.eq_1)) ∧ (type_of% (uR r150_3.eq_1)) ∧ (type_of% (uA c150_4.eq_1)) ∧ (type_of% (uA c150_10.eq_1)) ∧ (type_of% (uA c150_9.eq_1)) ∧ (type_of% (uR r150_6.eq_1)) ∧ (type_of% (uA c150_8.eq_1)) ∧ (type_of% (uR r150_7.eq_1)) ∧ (type_of% (uR r150_11.eq_1)) ∧ (type_of% (uA c150.eq_1)) ∧ (type_of% (uR r150_0.eq_1)) ∧ (type_of% (uR r150_1.eq_1)) ∧ (type_of% (uA c150_15.eq_1)) ∧ (type_of% (uR r150_2.eq_1)) ∧ (type_of% (uA c150_14.eq_1)) ∧ (type_of% (uA c150_13.eq_1)) ∧ (type_of% (uR r150_16.eq_1)) ∧ (type_of% s150.eq_1) :=
  ⟨uA c150_12.eq_1, uA c150_5.eq_1, uR r150_3.eq_1, uA c150_4.eq_1, uA c150_10.eq_1, uA c150_9.eq_1, uR r150_6.eq_1, uA c150_8.eq_1, uR r150_7.eq_1, uR r150_11.eq_1, uA c150.eq_1, uR r150_0.eq_1, uR r150_1.eq_1, uA c150_15.eq_1, uR r150_2.eq_1, uA c150_14.eq_1, uA c150_13.eq_1, uR r150_16.eq_1, s150.eq_1⟩
theorem without_ok (ns : List ByteArray) (nm : ByteArray) (hl : ns.length ≤ 3000000) (m : Nat) : ACallsF Try.prog 150 [tL (en eS ns), tS nm] [newH 7 m 1 9 (en eS (wo nm ns))] (.c (.own 7 0 (wo nm ns).length)) := by
  refine ACallsF.intro ok150 follows fun X c0 => ?_
  simp only [RUN, core, T.c, T.s, T.b, T.i, sBin, sInt, sUn, isShift, asInt, P1.cells, loadT, ptrC, storeT, putC, fillP, Nat.reduceAdd, reduceIte, Nat.reduceEqDiff, Nat.reduceLT, Nat.reduceLeDiff, reduceCtorEq, eq_self, FIT, lendCs_map, verC_map, FinC, resPs, resP, lendPl, lendCs, lendC, sealC, partsT, finHs, tupT, verT, verP, verC, verB, verAt, Blk.ver, handsAre, forall_const, CHT, disj, Nat.reduceBEq, beq_self_eq_true, APT, srcOf, sealPs, sealCs, sealC, toVs, Option.map_some, List.mem_singleton, forall_eq, ALT, UFh_3]
  refine AW.upto ns.length (inv150 ns nm) ⟨rfl, rfl, ⟨_, rfl, rfl⟩, rfl⟩ fun i t H c hi h => ?_
  obtain ⟨e0, e1, ⟨v, e5, eH⟩, e6⟩ := h
  simp only [T.c, T.i, T.s, tL] at e0 e1 e5 eH e6
  by_cases hlt : i < ns.length
  · obtain ⟨x, hx⟩ : ∃ x, ns[i]? = some x := ⟨_, List.getElem?_eq_getElem hlt⟩
    have ex := en_at eS hx
    have k1 : (i : Int) < ns.length := by omega
    have gz : (0 : Int) ≤ i := by omega
    have gw : IntKind.i64.wrap ((i : Int) + 1) = ((i + 1 : Nat) : Int) := wrap64 (x := (i : Int) + 1) ⟨by omega, by omega⟩
    have ht := wo_take nm hx
    have hwl := wo_len nm (ns.take i)
    rw [List.length_take] at hwl
    have q1 : ((wo nm (ns.take i)).length + 1) * 16 ≤ 140737488355328 := by omega
    have q2 : (wo nm (ns.take i)).length + 1 ≤ 9223372036854775807 := by omega
    by_cases hn : x = nm
    · rw [if_pos hn] at ht
      simp only [RUN, core, T.c, T.s, T.b, T.i, sBin, sInt, sUn, isShift, asInt, P1.cells, loadT, ptrC, storeT, putC, fillP, Nat.reduceAdd, reduceIte, Nat.reduceEqDiff, Nat.reduceLT, Nat.reduceLeDiff, reduceCtorEq, eq_self, FIT, lendCs_map, verC_map, FinC, resPs, resP, lendPl, lendCs, lendC, sealC, partsT, finHs, tupT, verT, verP, verC, verB, verAt, Blk.ver, handsAre, forall_const, CHT, disj, Nat.reduceBEq, beq_self_eq_true, APT, srcOf, sealPs, sealCs, sealC, toVs, Option.map_some, List.mem_singleton, forall_eq, ALT, UFh_7, e0, e1, e6, en_len, k1, gz, ex, eS, sStr, str_beq, hn, gw, decide_true]
      unfold inv150
      rw [ht]
      exact ⟨hlt, e0, e1, ⟨v, e5, eH⟩, rfl⟩
    · rw [if_neg hn] at ht
      simp only [RUN, core, T.c, T.s, T.b, T.i, sBin, sInt, sUn, isShift, asInt, P1.cells, loadT, ptrC, storeT, putC, fillP, Nat.reduceAdd, reduceIte, Nat.reduceEqDiff, Nat.reduceLT, Nat.reduceLeDiff, reduceCtorEq, eq_self, FIT, lendCs_map, verC_map, FinC, resPs, resP, lendPl, lendCs, lendC, sealC, partsT, finHs, tupT, verT, verP, verC, verB, verAt, Blk.ver, handsAre, forall_const, CHT, disj, Nat.reduceBEq, beq_self_eq_true, APT, srcOf, sealPs, sealCs, sealC, toVs, Option.map_some, List.mem_singleton, forall_eq, ALT, UFh_7, e0, e1, e5, eH, e6, en_len, k1, gz, ex, eS, sStr, str_beq, hn, gw, q1, q2]
      unfold inv150
      rw [ht, en_snoc, List.length_append]
      exact ⟨hlt, e0, e1, ⟨_, rfl, rfl⟩, rfl⟩
  · have k1 : ¬ (i : Int) < ns.length := by omega
    have hi2 : i = ns.length := by omega
    subst hi2
    rw [List.take_length] at e5 eH
    simp only [RUN, core, T.c, T.s, T.b, T.i, sBin, sInt, sUn, isShift, asInt, P1.cells, loadT, ptrC, storeT, putC, fillP, Nat.reduceAdd, reduceIte, Nat.reduceEqDiff, Nat.reduceLT, Nat.reduceLeDiff, reduceCtorEq, eq_self, FIT, lendCs_map, verC_map, FinC, resPs, resP, lendPl, lendCs, lendC, sealC, partsT, finHs, tupT, verT, verP, verC, verB, verAt, Blk.ver, handsAre, forall_const, CHT, disj, Nat.reduceBEq, beq_self_eq_true, APT, srcOf, sealPs, sealCs, sealC, toVs, Option.map_some, List.mem_singleton, forall_eq, ALT, UFh_7, UFh_3, e0, e1, e5, eH, e6, en_len, k1, imp_self]
/-- The names behind so many moves. -/
def aft (ns : List ByteArray) : List DM → List ByteArray
  | [] => ns
  | m :: ms => aft (if m.gone then wo m.name ns else ns ++ [m.name]) ms
theorem aft_snoc (m : DM) : ∀ (ms : List DM) (ns : List ByteArray), aft ns (ms ++ [m]) = if m.gone then wo m.name (aft ns ms) else aft ns ms ++ [m.name]
  | [], ns => rfl
  | x :: ms, ns => by simp only [List.cons_append, aft]; exact aft_snoc m ms _
theorem aft_len : ∀ (ms : List DM) (ns : List ByteArray), (aft ns ms).length ≤ ns.length + ms.length
  | [], ns => Nat.le_refl _
  | x :: ms, ns => by
    have := aft_len ms (if x.gone then wo x.name ns else ns ++ [x.name])
    simp only [aft, List.length_cons]
    cases hx : x.gone with
    | true => rw [hx] at this; have h2 := wo_len x.name ns; simp only [if_true] at this ⊢; omega
    | false => rw [hx] at this; simp only [Bool.false_eq_true, if_false, List.length_append, List.length_singleton] at this ⊢; omega
theorem aft_take (ns : List ByteArray) {ms : List DM} {i : Nat} {m : DM} (h : ms[i]? = some m) : aft ns (ms.take (i + 1)) = if m.gone then wo m.name (aft ns (ms.take i)) else aft ns (ms.take i) ++ [m.name] := by
  rw [List.take_add_one, h]; exact aft_snoc m _ ns
/- loop.example/teagle/spec.l41After -/
def r98_0 : List AOper := [ao 0 2 (.box 34 (.t 0)),
  ao 1 4 (.mv (.k (.c .nil0)))]
def r98_1 : List AOper := [ao 0 7 (.bsl 1 9 []),
  ao 1 8 (.fa 1 (.t 2)),
  ao 2 9 (.ld 1 false (.t 8)),
  ao 3 10 (.app 1 9 16 (.t 7) (.t 9)),
  ao 4 5 (.mv (.t 10))]
def r98_2 : List AOper := [ao 0 6 (.mv (.k (.i 0)))]
def r98_3 : List AOper := [ao 0 11 (.mv (.t 6)),
  ao 1 12 (.mv (.t 1)),
  ao 2 13 (.bin .lss (.t 11) (.t 12))]
def c98_4 : ACode := .cond (.t 13) .skip (.exit 0)
def c98_5 : ACode := .seq (.reg r98_3) c98_4
def r98_6 : List AOper := [ao 0 16 (.fa 2 (.t 2)),
  ao 1 17 (.ld 1 false (.t 16)),
  ao 2 18 (.mv (.t 6)),
  ao 3 19 (.ia 2 (.t 17) (.t 18)),
  ao 4 20 (.fa 0 (.t 19)),
  ao 5 21 (.ld 1 false (.t 20))]
def r98_7 : List AOper := [ao 0 22 (.mv (.t 5)),
  ao 1 23 (.fa 2 (.t 2)),
  ao 2 24 (.ld 1 false (.t 23)),
  ao 3 25 (.mv (.t 6)),
  ao 4 26 (.ia 2 (.t 24) (.t 25)),
  ao 5 27 (.fa 1 (.t 26)),
  ao 6 28 (.ld 1 false (.t 27)),
  ao 7 29 (.call (.k (.c (.fn 150 []))) [(.t 22), (.t 28)]),
  ao 8 5 (.mv (.t 29))]
def r98_8 : List AOper := [ao 0 30 (.mv (.t 5)),
  ao 1 31 (.fa 2 (.t 2)),
  ao 2 32 (.ld 1 false (.t 31)),
  ao 3 33 (.mv (.t 6)),
  ao 4 34 (.ia 2 (.t 32) (.t 33)),
  ao 5 35 (.fa 1 (.t 34)),
  ao 6 36 (.ld 1 false (.t 35)),
  ao 7 37 (.bsl 1 9 [(.t 36)]),
  ao 8 38 (.app 1 9 16 (.t 30) (.t 37)),
  ao 9 5 (.mv (.t 38))]
def c98_9 : ACode := .cond (.t 21) (.reg r98_7) (.reg r98_8)
def c98_10 : ACode := .seq (.reg r98_6) c98_9
def c98_11 : ACode := .block 1 c98_10
def r98_12 : List AOper := [ao 0 14 (.mv (.t 6)),
  ao 1 15 (.bin .add (.t 14) (.k (.i 1))),
  ao 2 6 (.mv (.t 15))]
def c98_13 : ACode := .seq c98_5 (.seq c98_11 (.reg r98_12))
def c98_14 : ACode := .loop c98_13
def c98_15 : ACode := .block 0 c98_14
def c98_16 : ACode := .seq (.reg r98_2) c98_15
def r98_17 : List AOper := [ao 0 39 (.mv (.t 5)),
  ao 1 4 (.mv (.t 39))]
def c98 : ACode := .seq (.reg r98_0) (.seq (.reg r98_1) (.seq c98_16 (.seq (.reg r98_17) .ret)))
def s98 : List ARes := [.tmp 4]
theorem ok98 : okF Try.prog 98 40 c98 s98 := ⟨Try.f98, Try.func98, Try.ntmps98, by kernel_rfl, by kernel_rfl, by kernel_rfl⟩
def inv98 (d : Dk) (n : Nat) (i : Nat) (σ : St) : Prop := (∃ u, σ.t 2 = .c (.ptr 2 u 0) ∧ σ.H 2 = some (.var u 34 [.v (.sl (en eF d.files)), .v (.sl (en eS d.names)), .v (.sl (en eM d.moves))])) ∧ σ.t 1 = .i n ∧ (∃ v, σ.t 5 = .c (.own 7 v (aft d.names (d.moves.take i)).length) ∧ σ.H 7 = some (.arr v true 1 9 (en eS (aft d.names (d.moves.take i))))) ∧ σ.t 6 = .i i
theorem UFh_4 : (type_of% (uA c98.eq_1)) ∧ (type_of% (uR r98_0.eq_1)) ∧ (type_of% (uR r98_1.eq_1)) ∧ (type_of% (uA c98_16.eq_1)) ∧ (type_of% (uR r98_2.eq_1)) ∧ (type_of% (uA c98_15.eq_1)) ∧ (type_of% (uA c98_14.eq_1)) ∧ (type_of% (uR r98_17.eq_1)) ∧ (type_of% s98.eq_1) :=
  ⟨uA c98.eq_1, uR r98_0.eq_1, uR r98_1.eq_1, uA c98_16.eq_1, uR r98_2.eq_1, uA c98_15.eq_1, uA c98_14.eq_1, uR r98_17.eq_1, s98.eq_1⟩
theorem UFh_8 : (type_of% (uA c98_13.eq_1)) ∧ (type_of% (uA c98_5.eq_1)) ∧ (type_of% (uR r98_3.eq_1)) ∧ (type_of% (uA c98_4.eq_1)) ∧ (type_of% (uA c98_11.eq_1)) ∧ (type_of% (uA c98_10.eq_1)) ∧ (type_of% (uR r98_6.eq_1)) ∧ (type_of% (uA c98_9.eq_1)) ∧ (type_of% (uR r98_7.eq_1)) ∧ (type_of% (uR r98_8.eq_1)) ∧ (type_of% (uR r98_12.eq_1)) ∧ (type_of% (uA c98.eq_1)) ∧ (type_of% (uR r98_0.eq_1)) ∧ (type_of% (uR r98_1.eq_1)) ∧ (type_of% (uA c98_16.eq_1)) ∧ (type_of% (uR r98_2.eq_1)) ∧ (type_of% (uA c98_15.eq_1)) ∧ (type_of% (uA c98_14.eq_1)) ∧ (type_of% (uR r98_17.eq_1)) ∧ (type_of% s98.eq_1) :=
  ⟨uA c98_13.eq_1, uA c98_5.eq_1, uR r98_3.eq_1, uA c98_4.eq_1, uA c98_11.eq_1, uA c98_10.eq_1, uR r98_6.eq_1, uA c98_9.eq_1, uR r98_7.eq_1, uR r98_8.eq_1, uR r98_12.eq_1, uA c98.eq_1, uR r98_0.eq_1, uR r98_1.eq_1, uA c98_16.eq_1, uR r98_2.eq_1, uA c98_15.eq_1, uA c98_14.eq_1, uR r98_17.eq_1, s98.eq_1⟩
theorem after_ok (d : Dk) (hd : smallDk d) (n : Nat) (hn : n ≤ d.moves.length) (m : Nat) : ACallsF Try.prog 98 [tDk d, .i n] [newH 7 m 1 9 (en eS (aft d.names (d.moves.take n)))] (.c (.own 7 0 (aft d.names (d.moves.take n)).length)) := by
  have h1 := hd.n
  have h2 := hd.m
  have q1 : d.names.length * 16 ≤ 140737488355328 := by omega
  have q2 : d.names.length ≤ 9223372036854775807 := by omega
  refine ACallsF.intro ok98 follows fun X c0 => ?_
  simp only [RUN, core, T.c, T.s, T.b, T.i, sBin, sInt, sUn, isShift, asInt, P1.cells, loadT, ptrC, storeT, putC, fillP, Nat.reduceAdd, reduceIte, Nat.reduceEqDiff, Nat.reduceLT, Nat.reduceLeDiff, reduceCtorEq, eq_self, FIT, lendCs_map, verC_map, FinC, resPs, resP, lendPl, lendCs, lendC, sealC, partsT, finHs, tupT, verT, verP, verC, verB, verAt, Blk.ver, handsAre, forall_const, CHT, disj, Nat.reduceBEq, beq_self_eq_true, APT, srcOf, sealPs, sealCs, sealC, toVs, Option.map_some, List.mem_singleton, forall_eq, ALT, UFh_4, q1, q2, Nat.zero_add]
  refine AW.upto n (inv98 d n) ⟨⟨_, rfl, rfl⟩, rfl, ⟨_, rfl, rfl⟩, rfl⟩ fun i t H c hi h => ?_
  obtain ⟨⟨u, e2, eH2⟩, e1, ⟨v, e5, eH⟩, e6⟩ := h
  simp only [T.c, T.i, T.s] at e2 eH2 e1 e5 eH e6
  by_cases hlt : i < n
  · obtain ⟨x, hx⟩ : ∃ x, d.moves[i]? = some x := ⟨_, List.getElem?_eq_getElem (by omega)⟩
    have ex := en_at eM hx
    have k1 : (i : Int) < n := by omega
    have gz : (0 : Int) ≤ i := by omega
    have gw : IntKind.i64.wrap ((i : Int) + 1) = ((i + 1 : Nat) : Int) := wrap64 (x := (i : Int) + 1) ⟨by omega, by omega⟩
    have ht := aft_take d.names hx
    have hwl := aft_len (d.moves.take i) d.names
    rw [List.length_take] at hwl
    have q3 : ((aft d.names (d.moves.take i)).length + 1) * 16 ≤ 140737488355328 := by omega
    have q4 : (aft d.names (d.moves.take i)).length + 1 ≤ 9223372036854775807 := by omega
    cases hg : x.gone with
    | true =>
      rw [hg, if_pos rfl] at ht
      simp only [RUN, core, T.c, T.s, T.b, T.i, sBin, sInt, sUn, isShift, asInt, P1.cells, loadT, ptrC, storeT, putC, fillP, Nat.reduceAdd, reduceIte, Nat.reduceEqDiff, Nat.reduceLT, Nat.reduceLeDiff, reduceCtorEq, eq_self, FIT, lendCs_map, verC_map, FinC, resPs, resP, lendPl, lendCs, lendC, sealC, partsT, finHs, tupT, verT, verP, verC, verB, verAt, Blk.ver, handsAre, forall_const, CHT, disj, Nat.reduceBEq, beq_self_eq_true, APT, srcOf, sealPs, sealCs, sealC, toVs, Option.map_some, List.mem_singleton, forall_eq, ALT, UFh_8, e2, eH2, e1, e5, eH, e6, en_len, k1, gz, ex, eM, hg]
      refine callA1 (m := 7) (ws := [(7, .arr v false 1 9 (en eS (aft d.names (d.moves.take i))))]) (ns := [7]) (without_ok (aft d.names (d.moves.take i)) x.name (by omega) 7) rfl ?_ rfl (en_flat eS eS_flat _) ⟨?_, ?_⟩
      · simp only [RUN, core, T.c, T.s, T.b, T.i, sBin, sInt, sUn, isShift, asInt, P1.cells, loadT, ptrC, storeT, putC, fillP, Nat.reduceAdd, reduceIte, Nat.reduceEqDiff, Nat.reduceLT, Nat.reduceLeDiff, reduceCtorEq, eq_self, FIT, lendCs_map, verC_map, FinC, resPs, resP, lendPl, lendCs, lendC, sealC, partsT, finHs, tupT, verT, verP, verC, verB, verAt, Blk.ver, handsAre, forall_const, CHT, disj, Nat.reduceBEq, beq_self_eq_true, APT, srcOf, sealPs, sealCs, sealC, toVs, Option.map_some, List.mem_singleton, forall_eq, ALT, UFh_8, lendTs, lendT, e5, eH]
      · simp only [RUN, core, T.c, T.s, T.b, T.i, sBin, sInt, sUn, isShift, asInt, P1.cells, loadT, ptrC, storeT, putC, fillP, Nat.reduceAdd, reduceIte, Nat.reduceEqDiff, Nat.reduceLT, Nat.reduceLeDiff, reduceCtorEq, eq_self, FIT, lendCs_map, verC_map, FinC, resPs, resP, lendPl, lendCs, lendC, sealC, partsT, finHs, tupT, verT, verP, verC, verB, verAt, Blk.ver, handsAre, forall_const, CHT, disj, Nat.reduceBEq, beq_self_eq_true, APT, srcOf, sealPs, sealCs, sealC, toVs, Option.map_some, List.mem_singleton, forall_eq, ALT, UFh_8]
      simp only [RUN, core, T.c, T.s, T.b, T.i, sBin, sInt, sUn, isShift, asInt, P1.cells, loadT, ptrC, storeT, putC, fillP, Nat.reduceAdd, reduceIte, Nat.reduceEqDiff, Nat.reduceLT, Nat.reduceLeDiff, reduceCtorEq, eq_self, FIT, lendCs_map, verC_map, FinC, resPs, resP, lendPl, lendCs, lendC, sealC, partsT, finHs, tupT, verT, verP, verC, verB, verAt, Blk.ver, handsAre, forall_const, CHT, disj, Nat.reduceBEq, beq_self_eq_true, APT, srcOf, sealPs, sealCs, sealC, toVs, Option.map_some, List.mem_singleton, forall_eq, ALT, UFh_8, e6, gw]
      unfold inv98
      rw [ht]
      exact ⟨hlt, ⟨u, e2, eH2⟩, e1, ⟨_, rfl, rfl⟩, rfl⟩
    | false =>
      rw [hg, if_neg (by simp)] at ht
      simp only [RUN, core, T.c, T.s, T.b, T.i, sBin, sInt, sUn, isShift, asInt, P1.cells, loadT, ptrC, storeT, putC, fillP, Nat.reduceAdd, reduceIte, Nat.reduceEqDiff, Nat.reduceLT, Nat.reduceLeDiff, reduceCtorEq, eq_self, FIT, lendCs_map, verC_map, FinC, resPs, resP, lendPl, lendCs, lendC, sealC, partsT, finHs, tupT, verT, verP, verC, verB, verAt, Blk.ver, handsAre, forall_const, CHT, disj, Nat.reduceBEq, beq_self_eq_true, APT, srcOf, sealPs, sealCs, sealC, toVs, Option.map_some, List.mem_singleton, forall_eq, ALT, UFh_8, e2, eH2, e1, e5, eH, e6, en_len, k1, gz, ex, eM, hg, gw, q3, q4]
      unfold inv98
      rw [ht, en_snoc, List.length_append]
      exact ⟨hlt, ⟨u, e2, eH2⟩, e1, ⟨_, rfl, rfl⟩, rfl⟩
  · have k1 : ¬ (i : Int) < n := by omega
    have hi2 : i = n := by omega
    subst hi2
    simp only [RUN, core, T.c, T.s, T.b, T.i, sBin, sInt, sUn, isShift, asInt, P1.cells, loadT, ptrC, storeT, putC, fillP, Nat.reduceAdd, reduceIte, Nat.reduceEqDiff, Nat.reduceLT, Nat.reduceLeDiff, reduceCtorEq, eq_self, FIT, lendCs_map, verC_map, FinC, resPs, resP, lendPl, lendCs, lendC, sealC, partsT, finHs, tupT, verT, verP, verC, verB, verAt, Blk.ver, handsAre, forall_const, CHT, disj, Nat.reduceBEq, beq_self_eq_true, APT, srcOf, sealPs, sealCs, sealC, toVs, Option.map_some, List.mem_singleton, forall_eq, ALT, UFh_8, UFh_4, e2, eH2, e1, e5, eH, e6, en_len, k1, imp_self]
end Go.V
set_option linter.unusedSimpArgs false
namespace Go.V
open Go.Proofs
/-- The names, and those of moves that make files. -/
def mades (ms : List DM) : List ByteArray := (ms.filter fun m => !m.gone).map DM.name
def made (d : Dk) : List ByteArray := d.names ++ mades d.moves
theorem mades_len (ms : List DM) : (mades ms).length ≤ ms.length := by rw [mades, List.length_map]; exact List.length_filter_le _ _
theorem mades_take {ms : List DM} {i : Nat} {m : DM} (h : ms[i]? = some m) : mades (ms.take (i + 1)) = if m.gone then mades (ms.take i) else mades (ms.take i) ++ [m.name] := by
  rw [List.take_add_one, h, mades, List.filter_append, List.map_append, mades]
  cases hg : m.gone <;> simp [hg]
/- loop.example/teagle/spec.l41Made -/
def r97_0 : List AOper := [ao 0 1 (.box 34 (.t 0)),
  ao 1 2 (.mv (.k (.c .nil0)))]
def r97_1 : List AOper := [ao 0 5 (.bsl 1 9 []),
  ao 1 6 (.fa 1 (.t 1)),
  ao 2 7 (.ld 1 false (.t 6)),
  ao 3 8 (.app 1 9 16 (.t 5) (.t 7)),
  ao 4 3 (.mv (.t 8))]
def r97_2 : List AOper := [ao 0 4 (.mv (.k (.i 0)))]
def r97_3 : List AOper := [ao 0 9 (.mv (.t 4)),
  ao 1 10 (.fa 2 (.t 1)),
  ao 2 11 (.ld 1 false (.t 10)),
  ao 3 12 (.len (.t 11)),
  ao 4 13 (.bin .lss (.t 9) (.t 12))]
def c97_4 : ACode := .cond (.t 13) .skip (.exit 0)
def c97_5 : ACode := .seq (.reg r97_3) c97_4
def r97_6 : List AOper := [ao 0 16 (.fa 2 (.t 1)),
  ao 1 17 (.ld 1 false (.t 16)),
  ao 2 18 (.mv (.t 4)),
  ao 3 19 (.ia 2 (.t 17) (.t 18)),
  ao 4 20 (.fa 0 (.t 19)),
  ao 5 21 (.ld 1 false (.t 20)),
  ao 6 22 (.un .not (.t 21))]
def r97_7 : List AOper := [ao 0 23 (.mv (.t 3)),
  ao 1 24 (.fa 2 (.t 1)),
  ao 2 25 (.ld 1 false (.t 24)),
  ao 3 26 (.mv (.t 4)),
  ao 4 27 (.ia 2 (.t 25) (.t 26)),
  ao 5 28 (.fa 1 (.t 27)),
  ao 6 29 (.ld 1 false (.t 28)),
  ao 7 30 (.bsl 1 9 [(.t 29)]),
  ao 8 31 (.app 1 9 16 (.t 23) (.t 30)),
  ao 9 3 (.mv (.t 31))]
def c97_8 : ACode := .cond (.t 22) (.reg r97_7) .skip
def c97_9 : ACode := .seq (.reg r97_6) c97_8
def c97_10 : ACode := .block 1 c97_9
def r97_11 : List AOper := [ao 0 14 (.mv (.t 4)),
  ao 1 15 (.bin .add (.t 14) (.k (.i 1))),
  ao 2 4 (.mv (.t 15))]
def c97_12 : ACode := .seq c97_5 (.seq c97_10 (.reg r97_11))
def c97_13 : ACode := .loop c97_12
def c97_14 : ACode := .block 0 c97_13
def c97_15 : ACode := .seq (.reg r97_2) c97_14
def r97_16 : List AOper := [ao 0 32 (.mv (.t 3)),
  ao 1 2 (.mv (.t 32))]
def c97 : ACode := .seq (.reg r97_0) (.seq (.reg r97_1) (.seq c97_15 (.seq (.reg r97_16) .ret)))
def s97 : List ARes := [.tmp 2]
theorem ok97 : okF Try.prog 97 33 c97 s97 := ⟨Try.f97, Try.func97, Try.ntmps97, by kernel_rfl, by kernel_rfl, by kernel_rfl⟩
def inv97 (d : Dk) (i : Nat) (σ : St) : Prop := (∃ u, σ.t 1 = .c (.ptr 1 u 0) ∧ σ.H 1 = some (.var u 34 [.v (.sl (en eF d.files)), .v (.sl (en eS d.names)), .v (.sl (en eM d.moves))])) ∧ (∃ v, σ.t 3 = .c (.own 5 v (d.names ++ mades (d.moves.take i)).length) ∧ σ.H 5 = some (.arr v true 1 9 (en eS (d.names ++ mades (d.moves.take i))))) ∧ σ.t 4 = .i i
theorem UFi_1 : (type_of% (uA c97.eq_1)) ∧ (type_of% (uR r97_0.eq_1)) ∧ (type_of% (uR r97_1.eq_1)) ∧ (type_of% (uA c97_15.eq_1)) ∧ (type_of% (uR r97_2.eq_1)) ∧ (type_of% (uA c97_14.eq_1)) ∧ (type_of% (uA c97_13.eq_1)) ∧ (type_of% (uR r97_16.eq_1)) ∧ (type_of% s97.eq_1) :=
  ⟨uA c97.eq_1, uR r97_0.eq_1, uR r97_1.eq_1, uA c97_15.eq_1, uR r97_2.eq_1, uA c97_14.eq_1, uA c97_13.eq_1, uR r97_16.eq_1, s97.eq_1⟩
theorem UFi_3 : (type_of% (uA c97_12.eq_1)) ∧ (type_of% (uA c97_5.eq_1)) ∧ (type_of% (uR r97_3.eq_1)) ∧ (type_of% (uA c97_4.eq_1)) ∧ (type_of% (uA c97_10.eq_1)) ∧ (type_of% (uA c97_9.eq_1)) ∧ (type_of% (uR r97_6.eq_1)) ∧ (type_of% (uA c97_8.eq_1)) ∧ (type_of% (uR r97_7.eq_1)) ∧ (type_of% (uR r97_11.eq_1)) ∧ (type_of% (uA c97.eq_1)) ∧ (type_of% (uR r97_0.eq_1)) ∧ (type_of% (uR r97_1.eq_1)) ∧ (type_of% (uA c97_15.eq_1)) ∧ (type_of% (uR r97_2.eq_1)) ∧ (type_of% (uA c97_14.eq_1)) ∧ (type_of% (uA c97_13.eq_1)) ∧ (type_of% (uR r97_16.eq_1)) ∧ (type_of% s97.eq_1) :=
  ⟨uA c97_12.eq_1, uA c97_5.eq_1, uR r97_3.eq_1, uA c97_4.eq_1, uA c97_10.eq_1, uA c97_9.eq_1, uR r97_6.eq_1, uA c97_8.eq_1, uR r97_7.eq_1, uR r97_11.eq_1, uA c97.eq_1, uR r97_0.eq_1, uR r97_1.eq_1, uA c97_15.eq_1, uR r97_2.eq_1, uA c97_14.eq_1, uA c97_13.eq_1, uR r97_16.eq_1, s97.eq_1⟩
theorem made_ok (d : Dk) (hd : smallDk d) (m : Nat) : ACallsF Try.prog 97 [tDk d] [newH 5 m 1 9 (en eS (made d))] (.c (.own 5 0 (made d).length)) := by
  have h1 := hd.n
  have h2 := hd.m
  have q1 : d.names.length * 16 ≤ 140737488355328 := by omega
  have q2 : d.names.length ≤ 9223372036854775807 := by omega
  refine ACallsF.intro ok97 follows fun X c0 => ?_
  simp only [RUN, core, T.c, T.s, T.b, T.i, sBin, sInt, sUn, isShift, asInt, P1.cells, loadT, ptrC, storeT, putC, fillP, Nat.reduceAdd, reduceIte, Nat.reduceEqDiff, Nat.reduceLT, Nat.reduceLeDiff, reduceCtorEq, eq_self, FIT, lendCs_map, verC_map, FinC, resPs, resP, lendPl, lendCs, lendC, sealC, partsT, finHs, tupT, verT, verP, verC, verB, verAt, Blk.ver, handsAre, forall_const, CHT, disj, Nat.reduceBEq, beq_self_eq_true, APT, srcOf, sealPs, sealCs, sealC, toVs, Option.map_some, List.mem_singleton, forall_eq, ALT, UFi_1, q1, q2, Nat.zero_add]
  refine AW.upto d.moves.length (inv97 d) ?_ fun i t H c hi h => ?_
  · unfold inv97
    have e0 : d.names ++ mades (d.moves.take 0) = d.names := by simp [mades]
    rw [e0]
    exact ⟨⟨_, rfl, rfl⟩, ⟨_, rfl, rfl⟩, rfl⟩
  obtain ⟨⟨u, e1, eH1⟩, ⟨v, e3, eH⟩, e4⟩ := h
  simp only [T.c, T.i, T.s] at e1 eH1 e3 eH e4
  by_cases hlt : i < d.moves.length
  · obtain ⟨x, hx⟩ : ∃ x, d.moves[i]? = some x := ⟨_, List.getElem?_eq_getElem hlt⟩
    have ex := en_at eM hx
    have k1 : (i : Int) < d.moves.length := by omega
    have gz : (0 : Int) ≤ i := by omega
    have gw : IntKind.i64.wrap ((i : Int) + 1) = ((i + 1 : Nat) : Int) := wrap64 (x := (i : Int) + 1) ⟨by omega, by omega⟩
    have ht := mades_take hx
    have hwl := mades_len (d.moves.take i)
    rw [List.length_take] at hwl
    have hl : (d.names ++ mades (d.moves.take i)).length ≤ 3000000 := by rw [List.length_append]; omega
    cases hg : x.gone with
    | true =>
      rw [hg, if_pos rfl] at ht
      simp only [RUN, core, T.c, T.s, T.b, T.i, sBin, sInt, sUn, isShift, asInt, P1.cells, loadT, ptrC, storeT, putC, fillP, Nat.reduceAdd, reduceIte, Nat.reduceEqDiff, Nat.reduceLT, Nat.reduceLeDiff, reduceCtorEq, eq_self, FIT, lendCs_map, verC_map, FinC, resPs, resP, lendPl, lendCs, lendC, sealC, partsT, finHs, tupT, verT, verP, verC, verB, verAt, Blk.ver, handsAre, forall_const, CHT, disj, Nat.reduceBEq, beq_self_eq_true, APT, srcOf, sealPs, sealCs, sealC, toVs, Option.map_some, List.mem_singleton, forall_eq, ALT, UFi_3, e1, eH1, e4, en_len, k1, gz, ex, eM, hg, gw]
      unfold inv97
      rw [ht]
      exact ⟨hlt, ⟨u, e1, eH1⟩, ⟨v, e3, eH⟩, rfl⟩
    | false =>
      rw [hg, if_neg (by simp)] at ht
      generalize hq : d.names ++ mades (d.moves.take i) = q at *
      have q3 : (q.length + 1) * 16 ≤ 140737488355328 := by omega
      have q4 : q.length + 1 ≤ 9223372036854775807 := by omega
      simp only [RUN, core, T.c, T.s, T.b, T.i, sBin, sInt, sUn, isShift, asInt, P1.cells, loadT, ptrC, storeT, putC, fillP, Nat.reduceAdd, reduceIte, Nat.reduceEqDiff, Nat.reduceLT, Nat.reduceLeDiff, reduceCtorEq, eq_self, FIT, lendCs_map, verC_map, FinC, resPs, resP, lendPl, lendCs, lendC, sealC, partsT, finHs, tupT, verT, verP, verC, verB, verAt, Blk.ver, handsAre, forall_const, CHT, disj, Nat.reduceBEq, beq_self_eq_true, APT, srcOf, sealPs, sealCs, sealC, toVs, Option.map_some, List.mem_singleton, forall_eq, ALT, UFi_3, e1, eH1, e3, eH, e4, en_len, k1, gz, ex, eM, hg, gw, q3, q4]
      unfold inv97
      have ht2 : d.names ++ mades (d.moves.take (i + 1)) = q ++ [x.name] := by rw [← hq, mades_take hx, hg, if_neg (by simp), List.append_assoc]
      rw [ht2, en_snoc, List.length_append]
      exact ⟨hlt, ⟨u, e1, eH1⟩, ⟨_, rfl, rfl⟩, rfl⟩
  · have k1 : ¬ (i : Int) < d.moves.length := by omega
    have hi2 : i = d.moves.length := by omega
    subst hi2
    rw [List.take_length] at e3 eH
    simp only [RUN, core, T.c, T.s, T.b, T.i, sBin, sInt, sUn, isShift, asInt, P1.cells, loadT, ptrC, storeT, putC, fillP, Nat.reduceAdd, reduceIte, Nat.reduceEqDiff, Nat.reduceLT, Nat.reduceLeDiff, reduceCtorEq, eq_self, FIT, lendCs_map, verC_map, FinC, resPs, resP, lendPl, lendCs, lendC, sealC, partsT, finHs, tupT, verT, verP, verC, verB, verAt, Blk.ver, handsAre, forall_const, CHT, disj, Nat.reduceBEq, beq_self_eq_true, APT, srcOf, sealPs, sealCs, sealC, toVs, Option.map_some, List.mem_singleton, forall_eq, ALT, UFi_3, UFi_1, e1, eH1, e3, eH, e4, en_len, k1, made, imp_self]
/-- What a disk's file must be. -/
structure FOk (d : Dk) (i : Nat) (f : DF) : Prop where
  name : nameOk f.name = true
  made : (made d)[i]? = some f.name
  data : f.data.size ≤ 20000
  lo : 0 ≤ f.kept
  hi : f.kept ≤ f.data.size
  one : fnd d.files f.name = i
structure DOk (d : Dk) : Prop where
  f : d.files.length ≤ 64
  n : d.names.length ≤ 64
  m : d.moves.length ≤ 128
  l : (made d).length = d.files.length
  files : ∀ (i : Nat) (f : DF), d.files[i]? = some f → FOk d i f
  moves : ∀ (i : Nat) (m : DM), d.moves[i]? = some m → m.gone = true → m.name ∈ aft d.names (d.moves.take i)
/-- All texts are of bounded length. -/
structure fineDk (d : Dk) : Prop where
  s : smallDk d
  f : ∀ f ∈ d.files, f.name.size ≤ 1048576 ∧ f.data.size ≤ 1048576
  n : ∀ x ∈ d.names, x.size ≤ 1048576
  m : ∀ m ∈ d.moves, m.name.size ≤ 1048576
/- loop.example/teagle/spec.DiskOk -/
def r41_0 : List AOper := [ao 0 1 (.box 34 (.t 0)),
  ao 1 2 (.mv (.k (.b false)))]
def r41_1 : List AOper := [ao 0 7 (.fa 0 (.t 1)),
  ao 1 8 (.ld 1 false (.t 7)),
  ao 2 9 (.len (.t 8)),
  ao 3 10 (.bin .gtr (.t 9) (.k (.i 64))),
  ao 4 11 (.mv (.t 10)),
  ag 5 12 11 false [] (.fa 1 (.t 1)),
  ag 6 13 11 false [] (.ld 1 false (.t 12)),
  ag 7 14 11 false [] (.len (.t 13)),
  ag 8 15 11 false [] (.bin .gtr (.t 14) (.k (.i 64))),
  ao 9 16 (.pick (.t 11) (.k (.b true)) (.t 15)),
  ao 10 17 (.mv (.t 16)),
  ag 11 18 17 false [] (.fa 2 (.t 1)),
  ag 12 19 17 false [] (.ld 1 false (.t 18)),
  ag 13 20 17 false [] (.len (.t 19)),
  ag 14 21 17 false [] (.bin .gtr (.t 20) (.k (.i 128))),
  ao 15 22 (.pick (.t 17) (.k (.b true)) (.t 21))]
def r41_2 : List AOper := [ao 0 2 (.mv (.k (.b false)))]
def c41_3 : ACode := .seq (.reg r41_2) .ret
def c41_4 : ACode := .cond (.t 22) c41_3 .skip
def c41_5 : ACode := .seq (.reg r41_1) c41_4
def r41_6 : List AOper := [ao 0 23 (.ld 3 true (.t 1)),
  ao 1 24 (.call (.k (.c (.fn 97 []))) [(.t 23)]),
  ao 2 3 (.mv (.t 24))]
def r41_7 : List AOper := [ao 0 25 (.mv (.t 3)),
  ao 1 26 (.len (.t 25)),
  ao 2 27 (.fa 0 (.t 1)),
  ao 3 28 (.ld 1 false (.t 27)),
  ao 4 29 (.len (.t 28)),
  ao 5 30 (.bin .neq (.t 26) (.t 29))]
def r41_8 : List AOper := [ao 0 2 (.mv (.k (.b false)))]
def c41_9 : ACode := .seq (.reg r41_8) .ret
def c41_10 : ACode := .cond (.t 30) c41_9 .skip
def c41_11 : ACode := .seq (.reg r41_7) c41_10
def r41_12 : List AOper := [ao 0 4 (.mv (.k (.i 0)))]
def r41_13 : List AOper := [ao 0 31 (.mv (.t 4)),
  ao 1 32 (.fa 0 (.t 1)),
  ao 2 33 (.ld 1 false (.t 32)),
  ao 3 34 (.len (.t 33)),
  ao 4 35 (.bin .lss (.t 31) (.t 34))]
def c41_14 : ACode := .cond (.t 35) .skip (.exit 0)
def c41_15 : ACode := .seq (.reg r41_13) c41_14
def r41_16 : List AOper := [ao 0 38 (.fa 0 (.t 1)),
  ao 1 39 (.ld 1 false (.t 38)),
  ao 2 40 (.mv (.t 4)),
  ao 3 41 (.ia 3 (.t 39) (.t 40)),
  ao 4 42 (.ld 3 true (.t 41)),
  ao 5 5 (.alloc 88 [(.v (.s (.string ⟨#[]⟩))), (.v (.s (.string ⟨#[]⟩))), (.v (.s (.int .i64 0)))]),
  an 6 (.st 3 (.t 5) (.t 42))]
def r41_17 : List AOper := [ao 0 43 (.fa 0 (.t 5)),
  ao 1 44 (.ld 1 false (.t 43)),
  ao 2 45 (.call (.k (.c (.fn 43 []))) [(.t 44)]),
  ao 3 46 (.un .not (.t 45)),
  ao 4 47 (.mv (.t 46)),
  ag 5 48 47 false [] (.fa 0 (.t 5)),
  ag 6 49 47 false [] (.ld 1 false (.t 48)),
  ag 7 50 47 false [5, 6] (.mv (.t 3)),
  ag 8 51 47 false [5, 6, 7] (.mv (.t 4)),
  ag 9 52 47 false [5, 6] (.ia 1 (.t 50) (.t 51)),
  ag 10 53 47 false [5, 6] (.ld 1 false (.t 52)),
  ag 11 54 47 false [] (.bin .neq (.t 49) (.t 53)),
  ao 12 55 (.pick (.t 47) (.k (.b true)) (.t 54)),
  ao 13 56 (.mv (.t 55)),
  ag 14 57 56 false [] (.fa 1 (.t 5)),
  ag 15 58 56 false [] (.ld 1 false (.t 57)),
  ag 16 59 56 false [] (.lenS (.t 58)),
  ag 17 60 56 false [] (.bin .gtr (.t 59) (.k (.i 20000))),
  ao 18 61 (.pick (.t 56) (.k (.b true)) (.t 60)),
  ao 19 62 (.mv (.t 61)),
  ag 20 63 62 false [] (.fa 2 (.t 5)),
  ag 21 64 62 false [] (.ld 1 false (.t 63)),
  ag 22 65 62 false [20, 21] (.fa 1 (.t 5)),
  ag 23 66 62 false [20, 21] (.ld 1 false (.t 65)),
  ag 24 67 62 false [20, 21] (.lenS (.t 66)),
  ag 25 68 62 false [] (.call (.k (.c (.fn 47 []))) [(.t 64), (.k (.i 0)), (.t 67)]),
  ag 26 69 62 false [] (.un .not (.t 68)),
  ao 27 70 (.pick (.t 62) (.k (.b true)) (.t 69)),
  ao 28 71 (.mv (.t 70)),
  ag 29 72 71 false [] (.fa 0 (.t 1)),
  ag 30 73 71 false [] (.ld 1 false (.t 72)),
  ag 31 74 71 false [29, 30] (.fa 0 (.t 5)),
  ag 32 75 71 false [29, 30] (.ld 1 false (.t 74)),
  ag 33 76 71 false [] (.call (.k (.c (.fn 44 []))) [(.t 73), (.t 75)]),
  ag 34 77 71 false [29, 30, 31, 32, 33] (.mv (.t 4)),
  ag 35 78 71 false [] (.bin .neq (.t 76) (.t 77)),
  ao 36 79 (.pick (.t 71) (.k (.b true)) (.t 78))]
def r41_18 : List AOper := [ao 0 2 (.mv (.k (.b false)))]
def c41_19 : ACode := .seq (.reg r41_18) .ret
def c41_20 : ACode := .cond (.t 79) c41_19 .skip
def c41_21 : ACode := .seq (.reg r41_16) (.seq (.reg r41_17) c41_20)
def c41_22 : ACode := .block 1 c41_21
def r41_23 : List AOper := [ao 0 36 (.mv (.t 4)),
  ao 1 37 (.bin .add (.t 36) (.k (.i 1))),
  ao 2 4 (.mv (.t 37))]
def c41_24 : ACode := .seq c41_15 (.seq c41_22 (.reg r41_23))
def c41_25 : ACode := .loop c41_24
def c41_26 : ACode := .block 0 c41_25
def c41_27 : ACode := .seq (.reg r41_12) c41_26
def r41_28 : List AOper := [ao 0 6 (.mv (.k (.i 0)))]
def r41_29 : List AOper := [ao 0 80 (.mv (.t 6)),
  ao 1 81 (.fa 2 (.t 1)),
  ao 2 82 (.ld 1 false (.t 81)),
  ao 3 83 (.len (.t 82)),
  ao 4 84 (.bin .lss (.t 80) (.t 83))]
def c41_30 : ACode := .cond (.t 84) .skip (.exit 2)
def c41_31 : ACode := .seq (.reg r41_29) c41_30
def r41_32 : List AOper := [ao 0 87 (.fa 2 (.t 1)),
  ao 1 88 (.ld 1 false (.t 87)),
  au 2 89 [0, 1] (.mv (.t 6)),
  ao 3 90 (.ia 2 (.t 88) (.t 89)),
  ao 4 91 (.fa 0 (.t 90)),
  ao 5 92 (.ld 1 false (.t 91)),
  ao 6 93 (.mv (.t 92)),
  ag 7 94 93 true [] (.ld 3 true (.t 1)),
  ag 8 95 93 true [7] (.mv (.t 6)),
  ag 9 96 93 true [] (.call (.k (.c (.fn 98 []))) [(.t 94), (.t 95)]),
  ag 10 97 93 true [7, 8, 9] (.fa 2 (.t 1)),
  ag 11 98 93 true [7, 8, 9] (.ld 1 false (.t 97)),
  ag 12 99 93 true [7, 8, 9, 10, 11] (.mv (.t 6)),
  ag 13 100 93 true [7, 8, 9] (.ia 2 (.t 98) (.t 99)),
  ag 14 101 93 true [7, 8, 9] (.fa 1 (.t 100)),
  ag 15 102 93 true [7, 8, 9] (.ld 1 false (.t 101)),
  ag 16 103 93 true [] (.call (.k (.c (.fn 48 []))) [(.t 96), (.t 102)]),
  ag 17 104 93 true [] (.un .not (.t 103)),
  ao 18 105 (.pick (.t 93) (.t 104) (.k (.b false)))]
def r41_33 : List AOper := [ao 0 2 (.mv (.k (.b false)))]
def c41_34 : ACode := .seq (.reg r41_33) .ret
def c41_35 : ACode := .cond (.t 105) c41_34 .skip
def c41_36 : ACode := .seq (.reg r41_32) c41_35
def c41_37 : ACode := .block 3 c41_36
def r41_38 : List AOper := [ao 0 85 (.mv (.t 6)),
  ao 1 86 (.bin .add (.t 85) (.k (.i 1))),
  ao 2 6 (.mv (.t 86))]
def c41_39 : ACode := .seq c41_31 (.seq c41_37 (.reg r41_38))
def c41_40 : ACode := .loop c41_39
def c41_41 : ACode := .block 2 c41_40
def c41_42 : ACode := .seq (.reg r41_28) c41_41
def r41_43 : List AOper := [ao 0 2 (.mv (.k (.b true)))]
def c41 : ACode := .seq (.reg r41_0) (.seq c41_5 (.seq (.reg r41_6) (.seq c41_11 (.seq c41_27 (.seq c41_42 (.seq (.reg r41_43) .ret))))))
def s41 : List ARes := [.tmp 2]
theorem ok41 : okF Try.prog 41 106 c41 s41 := ⟨Try.f41, Try.func41, Try.ntmps41, by kernel_rfl, by kernel_rfl, by kernel_rfl⟩
def Hd41 (d : Dk) (u : Nat) (σ : St) : Prop := σ.t 1 = .c (.ptr 1 u 0) ∧ σ.H 1 = some (.var u 34 [.v (.sl (en eF d.files)), .v (.sl (en eS d.names)), .v (.sl (en eM d.moves))])
def inv41 (d : Dk) (u v : Nat) (i : Nat) (σ : St) : Prop := (∀ (j : Nat) (f : DF), j < i → d.files[j]? = some f → FOk d j f) ∧ Hd41 d u σ ∧ (σ.t 3 = .c (.own 1005 v (made d).length) ∧ σ.H 1005 = some (.arr v true 1 9 (en eS (made d)))) ∧ σ.t 4 = .i i
def inv41b (d : Dk) (u : Nat) (i : Nat) (σ : St) : Prop := (∀ (j : Nat) (m : DM), j < i → d.moves[j]? = some m → m.gone = true → m.name ∈ aft d.names (d.moves.take j)) ∧ Hd41 d u σ ∧ σ.t 6 = .i i
theorem UFi_2 : (type_of% (uA c41.eq_1)) ∧ (type_of% (uR r41_0.eq_1)) ∧ (type_of% (uA c41_5.eq_1)) ∧ (type_of% (uR r41_1.eq_1)) ∧ (type_of% (uA c41_4.eq_1)) ∧ (type_of% (uA c41_3.eq_1)) ∧ (type_of% (uR r41_2.eq_1)) ∧ (type_of% (uR r41_6.eq_1)) ∧ (type_of% (uA c41_11.eq_1)) ∧ (type_of% (uR r41_7.eq_1)) ∧ (type_of% (uA c41_10.eq_1)) ∧ (type_of% (uA c41_9.eq_1)) ∧ (type_of% (uR r41_8.eq_1)) ∧ (type_of% (uA c41_27.eq_1)) ∧ (type_of% (uR r41_12.eq_1)) ∧ (type_of% (uA c41_26.eq_1)) ∧ (type_of% (uA c41_25.eq_1)) ∧ (type_of% (uA c41_42.eq_1)) ∧ (type_of% (uR r41_28.eq_1)) ∧ (type_of% (uA c41_41.eq_1)) ∧ (type_of% (uA c41_40.eq_1)) ∧ (type_of% (uR r41_43.eq_1)) ∧ (type_of% s41.eq_1) :=
  ⟨uA c41.eq_1, uR r41_0.eq_1, uA c41_5.eq_1, uR r41_1.eq_1, uA c41_4.eq_1, uA c41_3.eq_1, uR r41_2.eq_1, uR r41_6.eq_1, uA c41_11.eq_1, uR r41_7.eq_1, uA c41_10.eq_1, uA c41_9.eq_1, uR r41_8.eq_1, uA c41_27.eq_1, uR r41_12.eq_1, uA c41_26.eq_1, uA c41_25.eq_1, uA c41_42.eq_1, uR r41_28.eq_1, uA c41_41.eq_1, uA c41_40.eq_1, uR r41_43.eq_1, s41.eq_1⟩
theorem UFi_4 : (type_of% (uA c41_24.eq_1)) ∧ (type_of% (uA c41_15.eq_1)) ∧ (type_of% (uR r41_13.eq_1)) ∧ (type_of% (uA c41_14.eq_1)) ∧ (type_of% (uA c41_22.eq_1)) ∧ (type_of% (uA c41_21.eq_1)) ∧ (type_of% (uR r41_16.eq_1)) ∧ (type_of% (uR r41_17.eq_1)) ∧ (type_of% (uA c41_20.eq_1)) ∧ (type_of% (uA c41_19.eq_1)) ∧ (type_of% (uR r41_18.eq_1)) ∧ (type_of% (uR r41_23.eq_1)) ∧ (type_of% (uA c41.eq_1)) ∧ (type_of% (uR r41_0.eq_1)) ∧ (type_of% (uA c41_5.eq_1)) ∧ (type_of% (uR r41_1.eq_1)) ∧ (type_of% (uA c41_4.eq_1)) ∧ (type_of% (uA c41_3.eq_1)) ∧ (type_of% (uR r41_2.eq_1)) ∧ (type_of% (uR r41_6.eq_1)) ∧ (type_of% (uA c41_11.eq_1)) ∧ (type_of% (uR r41_7.eq_1)) ∧ (type_of% (uA c41_10.eq_1)) ∧ (type_of% (uA c41_9.eq_1)) ∧ (type_of% (uR r41_8.eq_1)) ∧ (type_of% (uA c41_27.eq_1)) ∧ (type_of% (uR r41_12.eq_1)) ∧ (type_of% (uA c41_26.eq_1)) ∧ (type_of% (uA c41_25.eq_1)) ∧ (type_of% (uA c41_42.eq_1)) ∧ (type_of% (uR r41_28.eq_1)) ∧ (type_of% (uA c41_41.eq_1)) ∧ (type_of% (uA c41_40.eq_1)) ∧ (type_of% (uR r41_43.eq_1)) ∧ (type_of% s41.eq_1) :=
  ⟨uA c41_24.eq_1, uA c41_15.eq_1, uR r41_13.eq_1, uA c41_14.eq_1, uA c41_22.eq_1, uA c41_21.eq_1, uR r41_16.eq_1, uR r41_17.eq_1, uA c41_20.eq_1, uA c41_19.eq_1, uR r41_18.eq_1, uR r41_23.eq_1, uA c41.eq_1, uR r41_0.eq_1, uA c41_5.eq_1, uR r41_1.eq_1, uA c41_4.eq_1, uA c41_3.eq_1, uR r41_2.eq_1, uR r41_6.eq_1, uA c41_11.eq_1, uR r41_7.eq_1, uA c41_10.eq_1, uA c41_9.eq_1, uR r41_8.eq_1, uA c41_27.eq_1, uR r41_12.eq_1, uA c41_26.eq_1, uA c41_25.eq_1, uA c41_42.eq_1, uR r41_28.eq_1, uA c41_41.eq_1, uA c41_40.eq_1, uR r41_43.eq_1, s41.eq_1⟩
theorem UFi_5 : (type_of% (uA c41_39.eq_1)) ∧ (type_of% (uA c41_31.eq_1)) ∧ (type_of% (uR r41_29.eq_1)) ∧ (type_of% (uA c41_30.eq_1)) ∧ (type_of% (uA c41_37.eq_1)) ∧ (type_of% (uA c41_36.eq_1)) ∧ (type_of% (uR r41_32.eq_1)) ∧ (type_of% (uA c41_35.eq_1)) ∧ (type_of% (uA c41_34.eq_1)) ∧ (type_of% (uR r41_33.eq_1)) ∧ (type_of% (uR r41_38.eq_1)) ∧ (type_of% (uA c41.eq_1)) ∧ (type_of% (uR r41_0.eq_1)) ∧ (type_of% (uA c41_5.eq_1)) ∧ (type_of% (uR r41_1.eq_1)) ∧ (type_of% (uA c41_4.eq_1)) ∧ (type_of% (uA c41_3.eq_1)) ∧ (type_of% (uR r41_2.eq_1)) ∧ (type_of% (uR r41_6.eq_1)) ∧ (type_of% (uA c41_11.eq_1)) ∧ (type_of% (uR r41_7.eq_1)) ∧ (type_of% (uA c41_10.eq_1)) ∧ (type_of% (uA c41_9.eq_1)) ∧ (type_of% (uR r41_8.eq_1)) ∧ (type_of% (uA c41_27.eq_1)) ∧ (type_of% (uR r41_12.eq_1)) ∧ (type_of% (uA c41_26.eq_1)) ∧ (type_of% (uA c41_25.eq_1)) ∧ (type_of% (uA c41_42.eq_1)) ∧ (type_of% (uR r41_28.eq_1)) ∧ (type_of% (uA c41_41.eq_1)) ∧ (type_of% (uA c41_40.eq_1)) ∧ (type_of% (uR r41_43.eq_1)) ∧ (type_of% s41.eq_1) :=
  ⟨uA c41_39.eq_1, uA c41_31.eq_1, uR r41_29.eq_1, uA c41_30.eq_1, uA c41_37.eq_1, uA c41_36.eq_1, uR r41_32.eq_1, uA c41_35.eq_1, uA c41_34.eq_1, uR r41_33.eq_1, uR r41_38.eq_1, uA c41.eq_1, uR r41_0.eq_1, uA c41_5.eq_1, uR r41_1.eq_1, uA c41_4.eq_1, uA c41_3.eq_1, uR r41_2.eq_1, uR r41_6.eq_1, uA c41_11.eq_1, uR r41_7.eq_1, uA c41_10.eq_1, uA c41_9.eq_1, uR r41_8.eq_1, uA c41_27.eq_1, uR r41_12.eq_1, uA c41_26.eq_1, uA c41_25.eq_1, uA c41_42.eq_1, uR r41_28.eq_1, uA c41_41.eq_1, uA c41_40.eq_1, uR r41_43.eq_1, s41.eq_1⟩
theorem okS_ok (d : Dk) (hd : fineDk d) : ∃ b : Bool, (b = true ↔ DOk d) ∧ ACallsF Try.prog 41 [tDk d] [] (.b b) := by
  obtain ⟨b, hb⟩ : ∃ b : Bool, b = true ↔ DOk d := by
    by_cases h : DOk d
    · exact ⟨true, by simp [h]⟩
    · exact ⟨false, by simp [h]⟩
  refine ⟨b, hb, ?_⟩
  have no : ¬ DOk d → b = false := fun h => by cases hq : b with | false => rfl | true => exact absurd (hb.1 hq) h
  have s1 := hd.s.f
  have s2 := hd.s.n
  have s3 := hd.s.m
  refine ACallsF.intro ok41 follows fun X c0 => ?_
  by_cases hf : (d.files.length : Int) > 64
  · have hbf := no fun h => by have := h.f; omega
    simp only [RUN, core, T.c, T.s, T.b, T.i, sBin, sInt, sUn, isShift, asInt, P1.cells, loadT, ptrC, storeT, putC, fillP, Nat.reduceAdd, reduceIte, Nat.reduceEqDiff, Nat.reduceLT, Nat.reduceLeDiff, reduceCtorEq, eq_self, FIT, lendCs_map, verC_map, FinC, resPs, resP, lendPl, lendCs, lendC, sealC, partsT, finHs, tupT, verT, verP, verC, verB, verAt, Blk.ver, handsAre, forall_const, CHT, disj, Nat.reduceBEq, beq_self_eq_true, APT, srcOf, sealPs, sealCs, sealC, toVs, Option.map_some, List.mem_singleton, forall_eq, ALT, UFi_2, hf, hbf]
  by_cases hn : (d.names.length : Int) > 64
  · have hbf := no fun h => by have := h.n; omega
    simp only [RUN, core, T.c, T.s, T.b, T.i, sBin, sInt, sUn, isShift, asInt, P1.cells, loadT, ptrC, storeT, putC, fillP, Nat.reduceAdd, reduceIte, Nat.reduceEqDiff, Nat.reduceLT, Nat.reduceLeDiff, reduceCtorEq, eq_self, FIT, lendCs_map, verC_map, FinC, resPs, resP, lendPl, lendCs, lendC, sealC, partsT, finHs, tupT, verT, verP, verC, verB, verAt, Blk.ver, handsAre, forall_const, CHT, disj, Nat.reduceBEq, beq_self_eq_true, APT, srcOf, sealPs, sealCs, sealC, toVs, Option.map_some, List.mem_singleton, forall_eq, ALT, UFi_2, hf, hn, hbf]
  by_cases hm : (d.moves.length : Int) > 128
  · have hbf := no fun h => by have := h.m; omega
    simp only [RUN, core, T.c, T.s, T.b, T.i, sBin, sInt, sUn, isShift, asInt, P1.cells, loadT, ptrC, storeT, putC, fillP, Nat.reduceAdd, reduceIte, Nat.reduceEqDiff, Nat.reduceLT, Nat.reduceLeDiff, reduceCtorEq, eq_self, FIT, lendCs_map, verC_map, FinC, resPs, resP, lendPl, lendCs, lendC, sealC, partsT, finHs, tupT, verT, verP, verC, verB, verAt, Blk.ver, handsAre, forall_const, CHT, disj, Nat.reduceBEq, beq_self_eq_true, APT, srcOf, sealPs, sealCs, sealC, toVs, Option.map_some, List.mem_singleton, forall_eq, ALT, UFi_2, hf, hn, hm, hbf]
  simp only [RUN, core, T.c, T.s, T.b, T.i, sBin, sInt, sUn, isShift, asInt, P1.cells, loadT, ptrC, storeT, putC, fillP, Nat.reduceAdd, reduceIte, Nat.reduceEqDiff, Nat.reduceLT, Nat.reduceLeDiff, reduceCtorEq, eq_self, FIT, lendCs_map, verC_map, FinC, resPs, resP, lendPl, lendCs, lendC, sealC, partsT, finHs, tupT, verT, verP, verC, verB, verAt, Blk.ver, handsAre, forall_const, CHT, disj, Nat.reduceBEq, beq_self_eq_true, APT, srcOf, sealPs, sealCs, sealC, toVs, Option.map_some, List.mem_singleton, forall_eq, ALT, UFi_2, hf, hn, hm]
  refine callA1 (m := 1005) (ws := []) (ns := []) (made_ok d hd.s 1005) rfl rfl rfl (en_flat eS eS_flat _) ⟨rfl, ?_⟩
  by_cases hl : (made d).length = d.files.length
  rotate_left
  · have hbf := no fun h => hl h.l
    have hl' : (((made d).length : Int) != (d.files.length : Int)) = true := by simp; omega
    simp only [RUN, core, T.c, T.s, T.b, T.i, sBin, sInt, sUn, isShift, asInt, P1.cells, loadT, ptrC, storeT, putC, fillP, Nat.reduceAdd, reduceIte, Nat.reduceEqDiff, Nat.reduceLT, Nat.reduceLeDiff, reduceCtorEq, eq_self, FIT, lendCs_map, verC_map, FinC, resPs, resP, lendPl, lendCs, lendC, sealC, partsT, finHs, tupT, verT, verP, verC, verB, verAt, Blk.ver, handsAre, forall_const, CHT, disj, Nat.reduceBEq, beq_self_eq_true, APT, srcOf, sealPs, sealCs, sealC, toVs, Option.map_some, List.mem_singleton, forall_eq, ALT, UFi_2, hl', hbf]
  have hl' : (((made d).length : Int) != (d.files.length : Int)) = false := by simp; omega
  simp only [RUN, core, T.c, T.s, T.b, T.i, sBin, sInt, sUn, isShift, asInt, P1.cells, loadT, ptrC, storeT, putC, fillP, Nat.reduceAdd, reduceIte, Nat.reduceEqDiff, Nat.reduceLT, Nat.reduceLeDiff, reduceCtorEq, eq_self, FIT, lendCs_map, verC_map, FinC, resPs, resP, lendPl, lendCs, lendC, sealC, partsT, finHs, tupT, verT, verP, verC, verB, verAt, Blk.ver, handsAre, forall_const, CHT, disj, Nat.reduceBEq, beq_self_eq_true, APT, srcOf, sealPs, sealCs, sealC, toVs, Option.map_some, List.mem_singleton, forall_eq, ALT, UFi_2, hl']
  refine AW.upto d.files.length (inv41 d (c0 + 0) (c0 + 2 + 16 + 1)) ⟨fun j f hj => absurd hj (Nat.not_lt_zero j), ⟨rfl, rfl⟩, ⟨rfl, rfl⟩, rfl⟩ fun i t H c hi h => ?_
  obtain ⟨g, ⟨e1, eH1⟩, ⟨e3, eH⟩, e4⟩ := h
  simp only [T.c, T.i, T.s] at e1 eH1 e3 eH e4
  by_cases hlt : i < d.files.length
  · obtain ⟨f, hx⟩ : ∃ f, d.files[i]? = some f := ⟨_, List.getElem?_eq_getElem hlt⟩
    obtain ⟨y, hy⟩ : ∃ y, (made d)[i]? = some y := ⟨_, List.getElem?_eq_getElem (by omega)⟩
    have ex := en_at eF hx
    have ey := en_at eS hy
    have hfm := hd.f f (List.mem_of_getElem? hx)
    have k1 : (i : Int) < d.files.length := by omega
    have k2 : (i : Int) < (made d).length := by omega
    have gz : (0 : Int) ≤ i := by omega
    have gw : IntKind.i64.wrap ((i : Int) + 1) = ((i + 1 : Nat) : Int) := wrap64 (x := (i : Int) + 1) ⟨by omega, by omega⟩
    have bad : ¬ FOk d i f → b = false := fun h => no fun hD => h (hD.files i f hx)
    simp only [RUN, core, T.c, T.s, T.b, T.i, sBin, sInt, sUn, isShift, asInt, P1.cells, loadT, ptrC, storeT, putC, fillP, Nat.reduceAdd, reduceIte, Nat.reduceEqDiff, Nat.reduceLT, Nat.reduceLeDiff, reduceCtorEq, eq_self, FIT, lendCs_map, verC_map, FinC, resPs, resP, lendPl, lendCs, lendC, sealC, partsT, finHs, tupT, verT, verP, verC, verB, verAt, Blk.ver, handsAre, forall_const, CHT, disj, Nat.reduceBEq, beq_self_eq_true, APT, srcOf, sealPs, sealCs, sealC, toVs, Option.map_some, List.mem_singleton, forall_eq, ALT, UFi_4, e1, eH1, e3, eH, e4, en_len, k1, gz, ex, eF]
    refine callC (nameOk_ok f.name (by omega)) rfl rfl rfl rfl ?_
    cases p1 : nameOk f.name with
    | false =>
      have hbf := bad fun h => by have := h.name; rw [p1] at this; cases this
      simp only [RUN, core, T.c, T.s, T.b, T.i, sBin, sInt, sUn, isShift, asInt, P1.cells, loadT, ptrC, storeT, putC, fillP, Nat.reduceAdd, reduceIte, Nat.reduceEqDiff, Nat.reduceLT, Nat.reduceLeDiff, reduceCtorEq, eq_self, FIT, lendCs_map, verC_map, FinC, resPs, resP, lendPl, lendCs, lendC, sealC, partsT, finHs, tupT, verT, verP, verC, verB, verAt, Blk.ver, handsAre, forall_const, CHT, disj, Nat.reduceBEq, beq_self_eq_true, APT, srcOf, sealPs, sealCs, sealC, toVs, Option.map_some, List.mem_singleton, forall_eq, ALT, UFi_4, UFi_2, hbf]
    | true =>
      by_cases p2 : f.name = y
      rotate_left
      · have hbf := bad fun h => by have := h.made; rw [hy] at this; exact p2 (Option.some.inj this).symm
        simp only [RUN, core, T.c, T.s, T.b, T.i, sBin, sInt, sUn, isShift, asInt, P1.cells, loadT, ptrC, storeT, putC, fillP, Nat.reduceAdd, reduceIte, Nat.reduceEqDiff, Nat.reduceLT, Nat.reduceLeDiff, reduceCtorEq, eq_self, FIT, lendCs_map, verC_map, FinC, resPs, resP, lendPl, lendCs, lendC, sealC, partsT, finHs, tupT, verT, verP, verC, verB, verAt, Blk.ver, handsAre, forall_const, CHT, disj, Nat.reduceBEq, beq_self_eq_true, APT, srcOf, sealPs, sealCs, sealC, toVs, Option.map_some, List.mem_singleton, forall_eq, ALT, UFi_4, UFi_2, e3, eH, e4, en_len, k2, gz, ey, eS, sStr, str_beq, p2, hbf]
      subst p2
      by_cases p3 : (f.data.size : Int) > 20000
      · have hbf := bad fun h => by have := h.data; omega
        simp only [RUN, core, T.c, T.s, T.b, T.i, sBin, sInt, sUn, isShift, asInt, P1.cells, loadT, ptrC, storeT, putC, fillP, Nat.reduceAdd, reduceIte, Nat.reduceEqDiff, Nat.reduceLT, Nat.reduceLeDiff, reduceCtorEq, eq_self, FIT, lendCs_map, verC_map, FinC, resPs, resP, lendPl, lendCs, lendC, sealC, partsT, finHs, tupT, verT, verP, verC, verB, verAt, Blk.ver, handsAre, forall_const, CHT, disj, Nat.reduceBEq, beq_self_eq_true, APT, srcOf, sealPs, sealCs, sealC, toVs, Option.map_some, List.mem_singleton, forall_eq, ALT, UFi_4, UFi_2, e3, eH, e4, en_len, k2, gz, ey, eS, sStr, str_beq, p3, hbf, decide_true]
      simp only [RUN, core, T.c, T.s, T.b, T.i, sBin, sInt, sUn, isShift, asInt, P1.cells, loadT, ptrC, storeT, putC, fillP, Nat.reduceAdd, reduceIte, Nat.reduceEqDiff, Nat.reduceLT, Nat.reduceLeDiff, reduceCtorEq, eq_self, FIT, lendCs_map, verC_map, FinC, resPs, resP, lendPl, lendCs, lendC, sealC, partsT, finHs, tupT, verT, verP, verC, verB, verAt, Blk.ver, handsAre, forall_const, CHT, disj, Nat.reduceBEq, beq_self_eq_true, APT, srcOf, sealPs, sealCs, sealC, toVs, Option.map_some, List.mem_singleton, forall_eq, ALT, UFi_4, e3, eH, e4, en_len, k2, gz, ey, eS, sStr, str_beq, p3, decide_true]
      refine callC (l6In_ok _ _ _) rfl rfl rfl rfl ?_
      by_cases p4 : (0 : Int) ≤ f.kept
      rotate_left
      · have hbf := bad fun h => p4 h.lo
        simp only [RUN, core, T.c, T.s, T.b, T.i, sBin, sInt, sUn, isShift, asInt, P1.cells, loadT, ptrC, storeT, putC, fillP, Nat.reduceAdd, reduceIte, Nat.reduceEqDiff, Nat.reduceLT, Nat.reduceLeDiff, reduceCtorEq, eq_self, FIT, lendCs_map, verC_map, FinC, resPs, resP, lendPl, lendCs, lendC, sealC, partsT, finHs, tupT, verT, verP, verC, verB, verAt, Blk.ver, handsAre, forall_const, CHT, disj, Nat.reduceBEq, beq_self_eq_true, APT, srcOf, sealPs, sealCs, sealC, toVs, Option.map_some, List.mem_singleton, forall_eq, ALT, UFi_4, UFi_2, p4, hbf]
      by_cases p5 : f.kept ≤ (f.data.size : Int)
      rotate_left
      · have hbf := bad fun h => p5 h.hi
        simp only [RUN, core, T.c, T.s, T.b, T.i, sBin, sInt, sUn, isShift, asInt, P1.cells, loadT, ptrC, storeT, putC, fillP, Nat.reduceAdd, reduceIte, Nat.reduceEqDiff, Nat.reduceLT, Nat.reduceLeDiff, reduceCtorEq, eq_self, FIT, lendCs_map, verC_map, FinC, resPs, resP, lendPl, lendCs, lendC, sealC, partsT, finHs, tupT, verT, verP, verC, verB, verAt, Blk.ver, handsAre, forall_const, CHT, disj, Nat.reduceBEq, beq_self_eq_true, APT, srcOf, sealPs, sealCs, sealC, toVs, Option.map_some, List.mem_singleton, forall_eq, ALT, UFi_4, UFi_2, p4, p5, hbf]
      simp only [RUN, core, T.c, T.s, T.b, T.i, sBin, sInt, sUn, isShift, asInt, P1.cells, loadT, ptrC, storeT, putC, fillP, Nat.reduceAdd, reduceIte, Nat.reduceEqDiff, Nat.reduceLT, Nat.reduceLeDiff, reduceCtorEq, eq_self, FIT, lendCs_map, verC_map, FinC, resPs, resP, lendPl, lendCs, lendC, sealC, partsT, finHs, tupT, verT, verP, verC, verB, verAt, Blk.ver, handsAre, forall_const, CHT, disj, Nat.reduceBEq, beq_self_eq_true, APT, srcOf, sealPs, sealCs, sealC, toVs, Option.map_some, List.mem_singleton, forall_eq, ALT, UFi_4, e1, eH1, e3, eH, e4, p4, p5]
      refine callC (find_ok d.files f.name (by omega)) rfl rfl rfl rfl ?_
      by_cases p6 : fnd d.files f.name = i
      · have p6' : (fnd d.files f.name != (i : Int)) = false := by simp [p6]
        simp only [RUN, core, T.c, T.s, T.b, T.i, sBin, sInt, sUn, isShift, asInt, P1.cells, loadT, ptrC, storeT, putC, fillP, Nat.reduceAdd, reduceIte, Nat.reduceEqDiff, Nat.reduceLT, Nat.reduceLeDiff, reduceCtorEq, eq_self, FIT, lendCs_map, verC_map, FinC, resPs, resP, lendPl, lendCs, lendC, sealC, partsT, finHs, tupT, verT, verP, verC, verB, verAt, Blk.ver, handsAre, forall_const, CHT, disj, Nat.reduceBEq, beq_self_eq_true, APT, srcOf, sealPs, sealCs, sealC, toVs, Option.map_some, List.mem_singleton, forall_eq, ALT, UFi_4, e4, p6', gw]
        exact ⟨hlt, fun j f' hj hf' => (by rcases Nat.lt_succ_iff_lt_or_eq.1 hj with hj | rfl; exact g j f' hj hf'; rw [hx] at hf'; cases hf'; exact ⟨p1, hy, by omega, p4, p5, p6⟩), ⟨e1, eH1⟩, ⟨e3, eH⟩, rfl⟩
      · have p6' : (fnd d.files f.name != (i : Int)) = true := by simp [p6]
        have hbf := bad fun h => p6 h.one
        simp only [RUN, core, T.c, T.s, T.b, T.i, sBin, sInt, sUn, isShift, asInt, P1.cells, loadT, ptrC, storeT, putC, fillP, Nat.reduceAdd, reduceIte, Nat.reduceEqDiff, Nat.reduceLT, Nat.reduceLeDiff, reduceCtorEq, eq_self, FIT, lendCs_map, verC_map, FinC, resPs, resP, lendPl, lendCs, lendC, sealC, partsT, finHs, tupT, verT, verP, verC, verB, verAt, Blk.ver, handsAre, forall_const, CHT, disj, Nat.reduceBEq, beq_self_eq_true, APT, srcOf, sealPs, sealCs, sealC, toVs, Option.map_some, List.mem_singleton, forall_eq, ALT, UFi_4, UFi_2, e4, p6', hbf]
  · have k1 : ¬ (i : Int) < d.files.length := by omega
    simp only [RUN, core, T.c, T.s, T.b, T.i, sBin, sInt, sUn, isShift, asInt, P1.cells, loadT, ptrC, storeT, putC, fillP, Nat.reduceAdd, reduceIte, Nat.reduceEqDiff, Nat.reduceLT, Nat.reduceLeDiff, reduceCtorEq, eq_self, FIT, lendCs_map, verC_map, FinC, resPs, resP, lendPl, lendCs, lendC, sealC, partsT, finHs, tupT, verT, verP, verC, verB, verAt, Blk.ver, handsAre, forall_const, CHT, disj, Nat.reduceBEq, beq_self_eq_true, APT, srcOf, sealPs, sealCs, sealC, toVs, Option.map_some, List.mem_singleton, forall_eq, ALT, UFi_4, UFi_2, e1, eH1, e4, en_len, k1]
    refine AW.upto d.moves.length (inv41b d (c0 + 0)) ⟨fun j f hj => absurd hj (Nat.not_lt_zero j), ⟨e1, eH1⟩, rfl⟩ fun i2 t H c hi2 h => ?_
    clear e1 eH1 e3 eH e4
    obtain ⟨g2, ⟨e1, eH1⟩, e6⟩ := h
    simp only [T.c, T.i, T.s] at e1 eH1 e6
    by_cases hlt2 : i2 < d.moves.length
    · obtain ⟨x, hx⟩ : ∃ x, d.moves[i2]? = some x := ⟨_, List.getElem?_eq_getElem hlt2⟩
      have ex := en_at eM hx
      have k1 : (i2 : Int) < d.moves.length := by omega
      have gz : (0 : Int) ≤ i2 := by omega
      have gw : IntKind.i64.wrap ((i2 : Int) + 1) = ((i2 + 1 : Nat) : Int) := wrap64 (x := (i2 : Int) + 1) ⟨by omega, by omega⟩
      have hnext : (x.gone = true → x.name ∈ aft d.names (d.moves.take i2)) → ∀ (j : Nat) (m : DM), j < i2 + 1 → d.moves[j]? = some m → m.gone = true → m.name ∈ aft d.names (d.moves.take j) := fun hh j m hj hm hgm => by
        rcases Nat.lt_succ_iff_lt_or_eq.1 hj with hj | rfl
        · exact g2 j m hj hm hgm
        · rw [hx] at hm; cases hm; exact hh hgm
      cases hg : x.gone with
      | false =>
        simp only [RUN, core, T.c, T.s, T.b, T.i, sBin, sInt, sUn, isShift, asInt, P1.cells, loadT, ptrC, storeT, putC, fillP, Nat.reduceAdd, reduceIte, Nat.reduceEqDiff, Nat.reduceLT, Nat.reduceLeDiff, reduceCtorEq, eq_self, FIT, lendCs_map, verC_map, FinC, resPs, resP, lendPl, lendCs, lendC, sealC, partsT, finHs, tupT, verT, verP, verC, verB, verAt, Blk.ver, handsAre, forall_const, CHT, disj, Nat.reduceBEq, beq_self_eq_true, APT, srcOf, sealPs, sealCs, sealC, toVs, Option.map_some, List.mem_singleton, forall_eq, ALT, UFi_5, e1, eH1, e6, en_len, k1, gz, ex, eM, hg, gw]
        exact ⟨hlt2, hnext fun h => (by rw [hg] at h; cases h), ⟨e1, eH1⟩, rfl⟩
      | true =>
        have hwl := aft_len (d.moves.take i2) d.names
        rw [List.length_take] at hwl
        simp only [RUN, core, T.c, T.s, T.b, T.i, sBin, sInt, sUn, isShift, asInt, P1.cells, loadT, ptrC, storeT, putC, fillP, Nat.reduceAdd, reduceIte, Nat.reduceEqDiff, Nat.reduceLT, Nat.reduceLeDiff, reduceCtorEq, eq_self, FIT, lendCs_map, verC_map, FinC, resPs, resP, lendPl, lendCs, lendC, sealC, partsT, finHs, tupT, verT, verP, verC, verB, verAt, Blk.ver, handsAre, forall_const, CHT, disj, Nat.reduceBEq, beq_self_eq_true, APT, srcOf, sealPs, sealCs, sealC, toVs, Option.map_some, List.mem_singleton, forall_eq, ALT, UFi_5, e1, eH1, e6, en_len, k1, gz, ex, eM, hg]
        refine callA1 (m := 1007) (ws := []) (ns := []) (after_ok d hd.s i2 hi2 1007) rfl rfl rfl (en_flat eS eS_flat _) ⟨?_, ?_⟩
        · simp only [RUN, core, T.c, T.s, T.b, T.i, sBin, sInt, sUn, isShift, asInt, P1.cells, loadT, ptrC, storeT, putC, fillP, Nat.reduceAdd, reduceIte, Nat.reduceEqDiff, Nat.reduceLT, Nat.reduceLeDiff, reduceCtorEq, eq_self, FIT, lendCs_map, verC_map, FinC, resPs, resP, lendPl, lendCs, lendC, sealC, partsT, finHs, tupT, verT, verP, verC, verB, verAt, Blk.ver, handsAre, forall_const, CHT, disj, Nat.reduceBEq, beq_self_eq_true, APT, srcOf, sealPs, sealCs, sealC, toVs, Option.map_some, List.mem_singleton, forall_eq, ALT, UFi_5]
        simp only [RUN, core, T.c, T.s, T.b, T.i, sBin, sInt, sUn, isShift, asInt, P1.cells, loadT, ptrC, storeT, putC, fillP, Nat.reduceAdd, reduceIte, Nat.reduceEqDiff, Nat.reduceLT, Nat.reduceLeDiff, reduceCtorEq, eq_self, FIT, lendCs_map, verC_map, FinC, resPs, resP, lendPl, lendCs, lendC, sealC, partsT, finHs, tupT, verT, verP, verC, verB, verAt, Blk.ver, handsAre, forall_const, CHT, disj, Nat.reduceBEq, beq_self_eq_true, APT, srcOf, sealPs, sealCs, sealC, toVs, Option.map_some, List.mem_singleton, forall_eq, ALT, UFi_5, e1, eH1, e6, en_len, k1, gz, ex, eM, hg]
        refine callL (ws := [(1007, .arr (c + 5 + 9) false 1 9 (en eS (aft d.names (d.moves.take i2))))]) (ns := [1007]) (has_ok (aft d.names (d.moves.take i2)) x.name (by omega)) rfl ?_ rfl rfl ⟨?_, ?_⟩
        · simp only [RUN, core, T.c, T.s, T.b, T.i, sBin, sInt, sUn, isShift, asInt, P1.cells, loadT, ptrC, storeT, putC, fillP, Nat.reduceAdd, reduceIte, Nat.reduceEqDiff, Nat.reduceLT, Nat.reduceLeDiff, reduceCtorEq, eq_self, FIT, lendCs_map, verC_map, FinC, resPs, resP, lendPl, lendCs, lendC, sealC, partsT, finHs, tupT, verT, verP, verC, verB, verAt, Blk.ver, handsAre, forall_const, CHT, disj, Nat.reduceBEq, beq_self_eq_true, APT, srcOf, sealPs, sealCs, sealC, toVs, Option.map_some, List.mem_singleton, forall_eq, ALT, UFi_5, lendTs, lendT]
        · simp only [RUN, core, T.c, T.s, T.b, T.i, sBin, sInt, sUn, isShift, asInt, P1.cells, loadT, ptrC, storeT, putC, fillP, Nat.reduceAdd, reduceIte, Nat.reduceEqDiff, Nat.reduceLT, Nat.reduceLeDiff, reduceCtorEq, eq_self, FIT, lendCs_map, verC_map, FinC, resPs, resP, lendPl, lendCs, lendC, sealC, partsT, finHs, tupT, verT, verP, verC, verB, verAt, Blk.ver, handsAre, forall_const, CHT, disj, Nat.reduceBEq, beq_self_eq_true, APT, srcOf, sealPs, sealCs, sealC, toVs, Option.map_some, List.mem_singleton, forall_eq, ALT, UFi_5, scalarT, scalarP, scalarC]
        cases hh : has (aft d.names (d.moves.take i2)) x.name with
        | true =>
          simp only [RUN, core, T.c, T.s, T.b, T.i, sBin, sInt, sUn, isShift, asInt, P1.cells, loadT, ptrC, storeT, putC, fillP, Nat.reduceAdd, reduceIte, Nat.reduceEqDiff, Nat.reduceLT, Nat.reduceLeDiff, reduceCtorEq, eq_self, FIT, lendCs_map, verC_map, FinC, resPs, resP, lendPl, lendCs, lendC, sealC, partsT, finHs, tupT, verT, verP, verC, verB, verAt, Blk.ver, handsAre, forall_const, CHT, disj, Nat.reduceBEq, beq_self_eq_true, APT, srcOf, sealPs, sealCs, sealC, toVs, Option.map_some, List.mem_singleton, forall_eq, ALT, UFi_5, scalarT, scalarP, scalarC, e6, gw]
          exact ⟨hlt2, hnext fun _ => has_true.1 hh, ⟨e1, eH1⟩, rfl⟩
        | false =>
          have hbf := no fun hD => has_false.1 hh (hD.moves i2 x hx hg)
          simp only [RUN, core, T.c, T.s, T.b, T.i, sBin, sInt, sUn, isShift, asInt, P1.cells, loadT, ptrC, storeT, putC, fillP, Nat.reduceAdd, reduceIte, Nat.reduceEqDiff, Nat.reduceLT, Nat.reduceLeDiff, reduceCtorEq, eq_self, FIT, lendCs_map, verC_map, FinC, resPs, resP, lendPl, lendCs, lendC, sealC, partsT, finHs, tupT, verT, verP, verC, verB, verAt, Blk.ver, handsAre, forall_const, CHT, disj, Nat.reduceBEq, beq_self_eq_true, APT, srcOf, sealPs, sealCs, sealC, toVs, Option.map_some, List.mem_singleton, forall_eq, ALT, UFi_5, UFi_2, scalarT, scalarP, scalarC, hbf]
    · have k2 : ¬ (i2 : Int) < d.moves.length := by omega
      have hbt : b = true := hb.2 ⟨by omega, by omega, by omega, hl, fun j f hf => g j f (by have := (List.getElem?_eq_some_iff.1 hf).1; omega) hf, fun j m hm => g2 j m (by have := (List.getElem?_eq_some_iff.1 hm).1; omega) hm⟩
      simp only [RUN, core, T.c, T.s, T.b, T.i, sBin, sInt, sUn, isShift, asInt, P1.cells, loadT, ptrC, storeT, putC, fillP, Nat.reduceAdd, reduceIte, Nat.reduceEqDiff, Nat.reduceLT, Nat.reduceLeDiff, reduceCtorEq, eq_self, FIT, lendCs_map, verC_map, FinC, resPs, resP, lendPl, lendCs, lendC, sealC, partsT, finHs, tupT, verT, verP, verC, verB, verAt, Blk.ver, handsAre, forall_const, CHT, disj, Nat.reduceBEq, beq_self_eq_true, APT, srcOf, sealPs, sealCs, sealC, toVs, Option.map_some, List.mem_singleton, forall_eq, ALT, UFi_5, UFi_2, e1, eH1, e6, en_len, k2, hbt]
end Go.V
set_option linter.unusedSimpArgs false
namespace Go.V
open Go.Proofs
/-- A call that makes a disk's three arrays. -/
theorem callDk {P : Program} {t : Nat → T} {H : HMap} {c : Nat} {f : Opd} {args : List Opd} {fid : FuncId} {argsC : List T} {ws : List (Nat × Blk)} {ns : List Nat} {c1 c2 c3 m1 m2 m3 : Nat} {dk : Dk} {k : Nat} {d : Option Nat} {un : List Nat} {l : List AOper} {prev : List (Nat × List Nat × List Nat)} {K : St → Prop}
    (hC : ACallsF P fid argsC (dkH c1 c2 c3 m1 m2 m3 dk) (.pt (oDk c1 0 c2 0 c3 0 dk))) (hf : ev t f = .pt (.one (.fn fid []))) (hl : lendTs H argsC (args.map (ev t)) = some (argsC, ws, ns)) (ha : argsC.all closedA = true)
    (hcs : (c1 ≠ c2 ∧ c1 ≠ c3 ∧ c2 ≠ c3) ∧ m1 ≠ m2 ∧ m1 ≠ m3 ∧ m2 ≠ m3)
    (hk : chk prev un ⟨.pt (oDk m1 (c + k) m2 (c + k) m3 (c + k) dk), [(m1, .arr (c + k) true 3 88 (en eF dk.files)), (m2, .arr (c + k) true 1 9 (en eS dk.names)), (m3, .arr (c + k) true 2 90 (en eM dk.moves))], ns ++ [m1, m2, m3], [m1, m2, m3]⟩ = true ∧
      DRun P l ((k, ns ++ [m1, m2, m3], [m1, m2, m3]) :: prev) K ⟨updD t d (.pt (oDk m1 (c + k) m2 (c + k) m3 (c + k) dk)), upd (upd (upd H m1 (some (.arr (c + k) true 3 88 (en eF dk.files)))) m2 (some (.arr (c + k) true 1 9 (en eS dk.names)))) m3 (some (.arr (c + k) true 2 90 (en eM dk.moves))), c⟩) :
    step P k d un (.call f args) l prev K t H c := by
  obtain ⟨⟨h1, h2, h3⟩, g1, g2, g3⟩ := hcs
  have N1 : renN (dkH c1 c2 c3 m1 m2 m3 dk) c1 = some (newH c1 m1 3 88 (en eF dk.files)) := by simp [renN]
  have N2 : renN (dkH c1 c2 c3 m1 m2 m3 dk) c2 = some (newH c2 m2 1 9 (en eS dk.names)) := by simp [renN, h1]
  have N3 : renN (dkH c1 c2 c3 m1 m2 m3 dk) c3 = some (newH c3 m3 2 90 (en eM dk.moves)) := by simp [renN, h2, h3]
  refine callF (r' := .pt (oDk m1 (c + k) m2 (c + k) m3 (c + k) dk)) (ob := [(m1, .arr (c + k) true 3 88 (en eF dk.files)), (m2, .arr (c + k) true 1 9 (en eS dk.names)), (m3, .arr (c + k) true 2 90 (en eM dk.moves))]) _ hC hf hl ha (by simp) (by simp [g1, g2, g3]) (by simp [h1, h2, h3]) ?_ ?_ ?_ ?_
  · simp only [quiet, List.all_cons, List.all_nil, flatB, en_flat eF eF_flat, en_flat eS eS_flat, en_flat eM eM_flat]; rfl
  · simp only [renOT, renOP, renOs, renO, N1, N2, N3, Option.map_some, verOf]; rfl
  · simp only [renOBs, renOB, verOf]; rfl
  · simpa [updH] using hk
theorem aft_sub : ∀ (ms : List DM) (ns : List ByteArray) (x : ByteArray), x ∈ aft ns ms → x ∈ ns ∨ x ∈ mades ms
  | [], ns, x, h => .inl h
  | m :: ms, ns, x, h => by
    have := aft_sub ms _ x h
    cases hg : m.gone with
    | true =>
      rw [hg, if_pos rfl] at this
      rcases this with h | h
      · exact .inl (List.mem_filter.1 h).1
      · exact .inr (by rw [mades, List.filter_cons]; simpa [hg, mades] using h)
    | false =>
      rw [hg, if_neg (by simp)] at this
      rcases this with h | h
      · rcases List.mem_append.1 h with h | h
        · exact .inl h
        · exact .inr (by rw [List.mem_singleton.1 h, mades, List.filter_cons]; simp [hg])
      · exact .inr (by
          have h' : x ∈ (ms.filter fun m => !m.gone).map DM.name := h
          rw [mades, List.filter_cons]; simp only [hg, Bool.not_false, if_true, List.map_cons, List.mem_cons]; exact .inr h')
/-- The file of a name. -/
def fileOf (fs : List DF) (nm : ByteArray) : DF := (fs.find? fun f => decide (f.name = nm)).getD zF
theorem DOk.find {d : Dk} (h : DOk d) {x : ByteArray} (hx : x ∈ made d) : ∃ i : Nat, fnd d.files x = i ∧ d.files[i]? = some (fileOf d.files x) ∧ (fileOf d.files x).name = x := by
  obtain ⟨i, hi⟩ := List.mem_iff_getElem?.1 hx
  have hil := (List.getElem?_eq_some_iff.1 hi).1
  obtain ⟨f, hf⟩ : ∃ f, d.files[i]? = some f := ⟨_, List.getElem?_eq_getElem (by rw [← h.l]; exact hil)⟩
  have hF := h.files i f hf
  have hn : f.name = x := by have := hF.made; rw [hi] at this; exact (Option.some.inj this).symm
  have h1 := hF.one
  rw [hn] at h1
  have hfd : d.files.find? (fun f => decide (f.name = x)) = some f := by
    have h2 : (d.files.findIdx? fun f => decide (f.name = x)) = some i := by
      unfold fnd at h1
      split at h1
      · rename_i j hj; rw [hj]; congr 1; omega
      · omega
    rw [List.findIdx?_eq_some_iff_getElem] at h2
    obtain ⟨a1, a2, a3⟩ := h2
    rw [List.find?_eq_some_iff_getElem]
    exact ⟨by simpa using hn, i, a1, (List.getElem?_eq_some_iff.1 hf).2, fun j hj => by simpa using a3 j hj⟩
  have he : fileOf d.files x = f := by rw [fileOf, hfd]; rfl
  exact ⟨i, h1, by rw [he]; exact hf, by rw [he]; exact hn⟩
theorem DOk.aft_made {d : Dk} {x : ByteArray} {n : Nat} (hx : x ∈ aft d.names (d.moves.take n)) : x ∈ made d := by
  rcases aft_sub _ _ _ hx with h | h
  · exact List.mem_append.2 (.inl h)
  · refine List.mem_append.2 (.inr ?_)
    rw [mades, List.mem_map] at h ⊢
    obtain ⟨m, h1, h2⟩ := h
    rw [List.mem_filter] at h1
    exact ⟨m, List.mem_filter.2 ⟨List.mem_of_mem_take h1.1, h1.2⟩, h2⟩
def keepD (d : Dk) (ns : List ByteArray) : Dk := ⟨ns.map (fileOf d.files), ns, []⟩
/- loop.example/teagle/spec.DiskNames -/
def r46_0 : List AOper := [ao 0 1 (.box 34 (.t 0)),
  ao 1 2 (.mv (.k (.c .nil0)))]
def r46_1 : List AOper := [ao 0 3 (.ld 3 true (.t 1)),
  ao 1 4 (.call (.k (.c (.fn 41 []))) [(.t 3)]),
  ao 2 5 (.un .not (.t 4))]
def r46_2 : List AOper := [ao 0 6 (.bsl 1 9 []),
  ao 1 2 (.mv (.t 6))]
def c46_3 : ACode := .seq (.reg r46_2) .ret
def c46_4 : ACode := .cond (.t 5) c46_3 .skip
def c46_5 : ACode := .seq (.reg r46_1) c46_4
def r46_6 : List AOper := [ao 0 7 (.ld 3 true (.t 1)),
  ao 1 8 (.fa 2 (.t 1)),
  ao 2 9 (.ld 1 false (.t 8)),
  ao 3 10 (.len (.t 9)),
  ao 4 11 (.call (.k (.c (.fn 98 []))) [(.t 7), (.t 10)]),
  ao 5 2 (.mv (.t 11))]
def c46 : ACode := .seq (.reg r46_0) (.seq c46_5 (.seq (.reg r46_6) .ret))
def s46 : List ARes := [.tmp 2]
theorem ok46 : okF Try.prog 46 12 c46 s46 := ⟨Try.f46, Try.func46, Try.ntmps46, by kernel_rfl, by kernel_rfl, by kernel_rfl⟩
theorem UFj_1 : (type_of% (uA c46.eq_1)) ∧ (type_of% (uR r46_0.eq_1)) ∧ (type_of% (uA c46_5.eq_1)) ∧ (type_of% (uR r46_1.eq_1)) ∧ (type_of% (uA c46_4.eq_1)) ∧ (type_of% (uA c46_3.eq_1)) ∧ (type_of% (uR r46_2.eq_1)) ∧ (type_of% (uR r46_6.eq_1)) ∧ (type_of% s46.eq_1) :=
  ⟨uA c46.eq_1, uR r46_0.eq_1, uA c46_5.eq_1, uR r46_1.eq_1, uA c46_4.eq_1, uA c46_3.eq_1, uR r46_2.eq_1, uR r46_6.eq_1, s46.eq_1⟩
theorem names_ok (d : Dk) (hd : fineDk d) (hD : DOk d) (m : Nat) : ACallsF Try.prog 46 [tDk d] [newH 1001 m 1 9 (en eS (aft d.names d.moves))] (.c (.own 1001 0 (aft d.names d.moves).length)) := by
  obtain ⟨b, hb, hC⟩ := okS_ok d hd
  rw [hb.2 hD] at hC
  have hA := after_ok d hd.s d.moves.length (Nat.le_refl _) 1001
  rw [List.take_length] at hA
  refine ACallsF.intro ok46 follows fun X c0 => ?_
  simp only [RUN, core, T.c, T.s, T.b, T.i, sBin, sInt, sUn, isShift, asInt, P1.cells, loadT, ptrC, storeT, putC, fillP, Nat.reduceAdd, reduceIte, Nat.reduceEqDiff, Nat.reduceLT, Nat.reduceLeDiff, reduceCtorEq, eq_self, FIT, lendCs_map, verC_map, FinC, resPs, resP, lendPl, lendCs, lendC, sealC, partsT, finHs, tupT, verT, verP, verC, verB, verAt, Blk.ver, handsAre, forall_const, CHT, disj, Nat.reduceBEq, beq_self_eq_true, APT, srcOf, sealPs, sealCs, sealC, toVs, Option.map_some, List.mem_singleton, forall_eq, ALT, UFj_1]
  refine callC hC rfl rfl rfl rfl ?_
  simp only [RUN, core, T.c, T.s, T.b, T.i, sBin, sInt, sUn, isShift, asInt, P1.cells, loadT, ptrC, storeT, putC, fillP, Nat.reduceAdd, reduceIte, Nat.reduceEqDiff, Nat.reduceLT, Nat.reduceLeDiff, reduceCtorEq, eq_self, FIT, lendCs_map, verC_map, FinC, resPs, resP, lendPl, lendCs, lendC, sealC, partsT, finHs, tupT, verT, verP, verC, verB, verAt, Blk.ver, handsAre, forall_const, CHT, disj, Nat.reduceBEq, beq_self_eq_true, APT, srcOf, sealPs, sealCs, sealC, toVs, Option.map_some, List.mem_singleton, forall_eq, ALT, UFj_1]
  refine callA1 (m := 1001) (ws := []) (ns := []) hA rfl rfl rfl (en_flat eS eS_flat _) ⟨rfl, ?_⟩
  simp only [RUN, core, T.c, T.s, T.b, T.i, sBin, sInt, sUn, isShift, asInt, P1.cells, loadT, ptrC, storeT, putC, fillP, Nat.reduceAdd, reduceIte, Nat.reduceEqDiff, Nat.reduceLT, Nat.reduceLeDiff, reduceCtorEq, eq_self, FIT, lendCs_map, verC_map, FinC, resPs, resP, lendPl, lendCs, lendC, sealC, partsT, finHs, tupT, verT, verP, verC, verB, verAt, Blk.ver, handsAre, forall_const, CHT, disj, Nat.reduceBEq, beq_self_eq_true, APT, srcOf, sealPs, sealCs, sealC, toVs, Option.map_some, List.mem_singleton, forall_eq, ALT, UFj_1, imp_self]
/- loop.example/teagle/spec.l41Keep -/
def r45_0 : List AOper := [ao 0 2 (.box 34 (.t 0)),
  ao 1 4 (.alloc 34 [.nil0, .nil0, .nil0])]
def r45_1 : List AOper := [ao 0 7 (.bsl 1 9 []),
  ao 1 8 (.mv (.t 1)),
  ao 2 9 (.app 1 9 16 (.t 7) (.t 8)),
  ao 3 10 (.build [.nil0, .nil0, .nil0] [(1, 1, (.t 9))]),
  ao 4 5 (.alloc 34 [.nil0, .nil0, .nil0]),
  an 5 (.st 3 (.t 5) (.t 10))]
def r45_2 : List AOper := [ao 0 6 (.mv (.k (.i 0)))]
def r45_3 : List AOper := [ao 0 11 (.mv (.t 6)),
  ao 1 12 (.mv (.t 1)),
  ao 2 13 (.len (.t 12)),
  ao 3 14 (.bin .lss (.t 11) (.t 13))]
def c45_4 : ACode := .cond (.t 14) .skip (.exit 0)
def c45_5 : ACode := .seq (.reg r45_3) c45_4
def r45_6 : List AOper := [ao 0 17 (.fa 0 (.t 5)),
  ao 1 18 (.ld 1 false (.t 17)),
  au 2 19 [0, 1] (.fa 0 (.t 2)),
  au 3 20 [0, 1] (.ld 1 false (.t 19)),
  au 4 21 (ru 4) (.fa 0 (.t 2)),
  au 5 22 (ru 4) (.ld 1 false (.t 21)),
  au 6 23 (ru 6) (.mv (.t 1)),
  au 7 24 (ru 7) (.mv (.t 6)),
  au 8 25 (ru 6) (.ia 1 (.t 23) (.t 24)),
  au 9 26 (ru 6) (.ld 1 false (.t 25)),
  au 10 27 (ru 4) (.call (.k (.c (.fn 44 []))) [(.t 22), (.t 26)]),
  au 11 28 [0, 1] (.ia 3 (.t 20) (.t 27)),
  au 12 29 [0, 1] (.ld 3 true (.t 28)),
  au 13 30 [0, 1] (.bsl 3 88 [(.t 29)]),
  ao 14 31 (.app 3 88 40 (.t 18) (.t 30)),
  ao 15 32 (.fa 0 (.t 5)),
  an 16 (.st 1 (.t 32) (.t 31))]
def c45_7 : ACode := .block 1 (.reg r45_6)
def r45_8 : List AOper := [ao 0 15 (.mv (.t 6)),
  ao 1 16 (.bin .add (.t 15) (.k (.i 1))),
  ao 2 6 (.mv (.t 16))]
def c45_9 : ACode := .seq c45_5 (.seq c45_7 (.reg r45_8))
def c45_10 : ACode := .loop c45_9
def c45_11 : ACode := .block 0 c45_10
def c45_12 : ACode := .seq (.reg r45_2) c45_11
def r45_13 : List AOper := [ao 0 33 (.ld 3 true (.t 5)),
  an 1 (.st 3 (.t 4) (.t 33))]
def c45 : ACode := .seq (.reg r45_0) (.seq (.reg r45_1) (.seq c45_12 (.seq (.reg r45_13) .ret)))
def s45 : List ARes := [.cell 4 3 true]
theorem ok45 : okF Try.prog 45 34 c45 s45 := ⟨Try.f45, Try.func45, Try.ntmps45, by kernel_rfl, by kernel_rfl, by kernel_rfl⟩
def inv45 (d : Dk) (ns : List ByteArray) (i : Nat) (σ : St) : Prop := (∃ u, σ.t 2 = .c (.ptr 2 u 0) ∧ σ.H 2 = some (.var u 34 [.v (.sl (en eF d.files)), .v (.sl (en eS d.names)), .v (.sl (en eM d.moves))])) ∧ σ.t 1 = tL (en eS ns) ∧ (∃ u, σ.t 4 = .c (.ptr 4 u 0) ∧ σ.H 4 = some (.var u 34 [.nil0, .nil0, .nil0])) ∧
  (∃ u v w, σ.t 5 = .c (.ptr 5 u 0) ∧ σ.H 5 = some (.var u 34 [.own 2005 v ((ns.take i).map (fileOf d.files)).length, .own 7 w ns.length, .nil0]) ∧ σ.H 2005 = some (.arr v true 3 88 (en eF ((ns.take i).map (fileOf d.files)))) ∧ σ.H 7 = some (.arr w true 1 9 (en eS ns))) ∧ σ.t 6 = .i i
theorem UFj_2 : (type_of% (uA c45.eq_1)) ∧ (type_of% (uR r45_0.eq_1)) ∧ (type_of% (uR r45_1.eq_1)) ∧ (type_of% (uA c45_12.eq_1)) ∧ (type_of% (uR r45_2.eq_1)) ∧ (type_of% (uA c45_11.eq_1)) ∧ (type_of% (uA c45_10.eq_1)) ∧ (type_of% (uR r45_13.eq_1)) ∧ (type_of% s45.eq_1) :=
  ⟨uA c45.eq_1, uR r45_0.eq_1, uR r45_1.eq_1, uA c45_12.eq_1, uR r45_2.eq_1, uA c45_11.eq_1, uA c45_10.eq_1, uR r45_13.eq_1, s45.eq_1⟩
theorem UFj_3 : (type_of% (uA c45_9.eq_1)) ∧ (type_of% (uA c45_5.eq_1)) ∧ (type_of% (uR r45_3.eq_1)) ∧ (type_of% (uA c45_4.eq_1)) ∧ (type_of% (uA c45_7.eq_1)) ∧ (type_of% (uR r45_6.eq_1)) ∧ (type_of% (uR r45_8.eq_1)) ∧ (type_of% (uA c45.eq_1)) ∧ (type_of% (uR r45_0.eq_1)) ∧ (type_of% (uR r45_1.eq_1)) ∧ (type_of% (uA c45_12.eq_1)) ∧ (type_of% (uR r45_2.eq_1)) ∧ (type_of% (uA c45_11.eq_1)) ∧ (type_of% (uA c45_10.eq_1)) ∧ (type_of% (uR r45_13.eq_1)) ∧ (type_of% s45.eq_1) :=
  ⟨uA c45_9.eq_1, uA c45_5.eq_1, uR r45_3.eq_1, uA c45_4.eq_1, uA c45_7.eq_1, uR r45_6.eq_1, uR r45_8.eq_1, uA c45.eq_1, uR r45_0.eq_1, uR r45_1.eq_1, uA c45_12.eq_1, uR r45_2.eq_1, uA c45_11.eq_1, uA c45_10.eq_1, uR r45_13.eq_1, s45.eq_1⟩
theorem keep_ok (d : Dk) (hd : fineDk d) (hD : DOk d) (ns : List ByteArray) (hn : ns.length ≤ 3000000) (hm : ∀ x ∈ ns, x ∈ made d) : ACallsF Try.prog 45 [tDk d, tL (en eS ns)] [] (tDk (keepD d ns)) := by
  have q1 : ns.length * 16 ≤ 140737488355328 := by omega
  have q2 : ns.length ≤ 9223372036854775807 := by omega
  refine ACallsF.intro ok45 follows fun X c0 => ?_
  simp only [RUN, core, T.c, T.s, T.b, T.i, sBin, sInt, sUn, isShift, asInt, P1.cells, loadT, ptrC, storeT, putC, fillP, Nat.reduceAdd, reduceIte, Nat.reduceEqDiff, Nat.reduceLT, Nat.reduceLeDiff, reduceCtorEq, eq_self, FIT, lendCs_map, verC_map, FinC, resPs, resP, lendPl, lendCs, lendC, sealC, partsT, finHs, tupT, verT, verP, verC, verB, verAt, Blk.ver, handsAre, forall_const, CHT, disj, Nat.reduceBEq, beq_self_eq_true, APT, srcOf, sealPs, sealCs, sealC, toVs, Option.map_some, List.mem_singleton, forall_eq, ALT, UFj_2, q1, q2, Nat.zero_add]
  refine AW.reify 5 0 2005 3 88 rfl rfl rfl (by decide) ?_
  refine AW.upto ns.length (inv45 d ns) ⟨⟨_, rfl, rfl⟩, rfl, ⟨_, rfl, rfl⟩, ⟨_, _, _, rfl, rfl, rfl, rfl⟩, rfl⟩ fun i t H c hi h => ?_
  obtain ⟨⟨u2, e2, eH2⟩, e1, ⟨u4, e4, eH4⟩, ⟨u5, v, w, e5, eH5, eHf, eHn⟩, e6⟩ := h
  simp only [T.c, T.i, T.s, tL] at e2 eH2 e1 e4 eH4 e5 eH5 eHf eHn e6
  by_cases hlt : i < ns.length
  · obtain ⟨x, hx⟩ : ∃ x, ns[i]? = some x := ⟨_, List.getElem?_eq_getElem hlt⟩
    obtain ⟨j, hj1, hj2, hj3⟩ := hD.find (hm x (List.mem_of_getElem? hx))
    have ex := en_at eS hx
    have ef := en_at eF hj2
    have k1 : (i : Int) < ns.length := by omega
    have gz : (0 : Int) ≤ i := by omega
    have gj : (0 : Int) ≤ j := by omega
    have gw : IntKind.i64.wrap ((i : Int) + 1) = ((i + 1 : Nat) : Int) := wrap64 (x := (i : Int) + 1) ⟨by omega, by omega⟩
    have ht : (ns.take (i + 1)).map (fileOf d.files) = (ns.take i).map (fileOf d.files) ++ [fileOf d.files x] := by rw [List.take_add_one, hx]; simp
    have hl : ((ns.take i).map (fileOf d.files)).length ≤ 3000000 := by rw [List.length_map, List.length_take]; omega
    generalize hq : (ns.take i).map (fileOf d.files) = q at *
    have q3 : (q.length + 1) * 40 ≤ 140737488355328 := by omega
    have q4 : q.length + 1 ≤ 9223372036854775807 := by omega
    have hfo := find_ok d.files x (by have := hd.s.f; omega)
    rw [hj1] at hfo
    simp only [RUN, core, T.c, T.s, T.b, T.i, sBin, sInt, sUn, isShift, asInt, P1.cells, loadT, ptrC, storeT, putC, fillP, Nat.reduceAdd, reduceIte, Nat.reduceEqDiff, Nat.reduceLT, Nat.reduceLeDiff, reduceCtorEq, eq_self, FIT, lendCs_map, verC_map, FinC, resPs, resP, lendPl, lendCs, lendC, sealC, partsT, finHs, tupT, verT, verP, verC, verB, verAt, Blk.ver, handsAre, forall_const, CHT, disj, Nat.reduceBEq, beq_self_eq_true, APT, srcOf, sealPs, sealCs, sealC, toVs, Option.map_some, List.mem_singleton, forall_eq, ALT, UFj_3, e2, eH2, e1, e5, eH5, e6, en_len, k1, gz, ex, eS]
    refine callC hfo rfl rfl rfl rfl ?_
    simp only [RUN, core, T.c, T.s, T.b, T.i, sBin, sInt, sUn, isShift, asInt, P1.cells, loadT, ptrC, storeT, putC, fillP, Nat.reduceAdd, reduceIte, Nat.reduceEqDiff, Nat.reduceLT, Nat.reduceLeDiff, reduceCtorEq, eq_self, FIT, lendCs_map, verC_map, FinC, resPs, resP, lendPl, lendCs, lendC, sealC, partsT, finHs, tupT, verT, verP, verC, verB, verAt, Blk.ver, handsAre, forall_const, CHT, disj, Nat.reduceBEq, beq_self_eq_true, APT, srcOf, sealPs, sealCs, sealC, toVs, Option.map_some, List.mem_singleton, forall_eq, ALT, UFj_3, e2, eH2, e1, e5, eH5, eHf, e6, en_len, k1, gj, ef, eF, gw, q3, q4]
    unfold inv45
    rw [ht, en_snoc, List.length_append]
    exact ⟨hlt, ⟨u2, e2, eH2⟩, e1, ⟨u4, e4, eH4⟩, ⟨u5, _, w, e5, rfl, rfl, eHn⟩, rfl⟩
  · have k1 : ¬ (i : Int) < ns.length := by omega
    have hi2 : i = ns.length := by omega
    subst hi2
    rw [List.take_length] at eH5 eHf
    simp only [RUN, core, T.c, T.s, T.b, T.i, sBin, sInt, sUn, isShift, asInt, P1.cells, loadT, ptrC, storeT, putC, fillP, Nat.reduceAdd, reduceIte, Nat.reduceEqDiff, Nat.reduceLT, Nat.reduceLeDiff, reduceCtorEq, eq_self, FIT, lendCs_map, verC_map, FinC, resPs, resP, lendPl, lendCs, lendC, sealC, partsT, finHs, tupT, verT, verP, verC, verB, verAt, Blk.ver, handsAre, forall_const, CHT, disj, Nat.reduceBEq, beq_self_eq_true, APT, srcOf, sealPs, sealCs, sealC, toVs, Option.map_some, List.mem_singleton, forall_eq, ALT, UFj_3, UFj_2, e2, eH2, e1, e4, eH4, e5, eH5, eHf, eHn, e6, en_len, k1, keepD]
end Go.V
set_option linter.unusedSimpArgs false
namespace Go.V
open Go.Proofs
theorem en_take1 {α : Type} (f : α → List V) (xs : List α) (e : List V) : List.take (xs.length + 1) (en f xs ++ [e]) = en f xs ++ [e] := List.take_of_length_le (by simp [en_len])
/-- What a write does to a disk that is ok. -/
def doS (d : Dk) (w : DW) : Dk × Int :=
  if w.kind = 1 then
    if nameOk w.name = false ∨ 0 ≤ fnd d.files w.name then (d, 3)
    else if 64 ≤ d.files.length ∨ 128 ≤ d.moves.length then (d, 4)
    else (⟨d.files ++ [⟨w.name, ⟨#[]⟩, 0⟩], d.names, d.moves ++ [⟨false, w.name⟩]⟩, 0)
  else if w.kind = 5 then (keepD d (aft d.names d.moves), 0)
  else if ¬ (1 ≤ w.kind ∧ w.kind ≤ 5) then (d, 5)
  else if has (aft d.names d.moves) w.name = false then (d, 2)
  else if w.kind = 2 then
    if 20000 < (fileOf d.files w.name).data.size + w.data.size then (d, 4)
    else (⟨d.files.set (fnd d.files w.name).toNat ⟨(fileOf d.files w.name).name, (fileOf d.files w.name).data ++ w.data, (fileOf d.files w.name).kept⟩, d.names, d.moves⟩, 0)
  else if w.kind = 3 then (⟨d.files.set (fnd d.files w.name).toNat ⟨(fileOf d.files w.name).name, (fileOf d.files w.name).data, (fileOf d.files w.name).data.size⟩, d.names, d.moves⟩, 0)
  else if 128 ≤ d.moves.length then (d, 4)
  else (⟨d.files, d.names, d.moves ++ [⟨true, w.name⟩]⟩, 0)
abbrev DoR (d : Dk) (w : DW) (r : Dk × Int) : Prop := (DOk d ∧ r = doS d w) ∨ (¬ DOk d ∧ r = (⟨[], [], []⟩, 1))
theorem do_det {d : Dk} {w : DW} {r r' : Dk × Int} (h : DoR d w r) (h' : DoR d w r') : r = r' := by
  rcases h with ⟨h1, h2⟩ | ⟨h1, h2⟩ <;> rcases h' with ⟨g1, g2⟩ | ⟨g1, g2⟩
  · rw [h2, g2]
  · exact absurd h1 g1
  · exact absurd g1 h1
  · rw [h2, g2]
abbrev tDkI (r : Dk × Int) : T := .tup [.agg [.v (.sl (en eF r.1.files)), .v (.sl (en eS r.1.names)), .v (.sl (en eM r.1.moves))], .one (.v (.s (.int .i64 r.2)))]
abbrev fineDW (w : DW) : Prop := w.name.size ≤ 1048576 ∧ w.data.size ≤ 1048576
/- loop.example/teagle/spec.DiskDo -/
def r9_0 : List AOper := [ao 0 2 (.box 34 (.t 0)),
  ao 1 3 (.box 38 (.t 1)),
  ao 2 4 (.alloc 34 [.nil0, .nil0, .nil0]),
  ao 3 5 (.mv (.k (.i 0)))]
def r9_1 : List AOper := [ao 0 8 (.ld 3 true (.t 2)),
  ao 1 9 (.call (.k (.c (.fn 41 []))) [(.t 8)]),
  ao 2 10 (.un .not (.t 9))]
def r9_2 : List AOper := [ao 0 11 (.build [.nil0, .nil0, .nil0] []),
  an 1 (.st 3 (.t 4) (.t 11)),
  ao 2 5 (.mv (.k (.i 1)))]
def c9_3 : ACode := .seq (.reg r9_2) .ret
def c9_4 : ACode := .cond (.t 10) c9_3 .skip
def c9_5 : ACode := .seq (.reg r9_1) c9_4
def r9_6 : List AOper := [ao 0 12 (.ld 3 true (.t 2)),
  ao 1 13 (.call (.k (.c (.fn 42 []))) [(.t 12)]),
  ao 2 6 (.alloc 34 [.nil0, .nil0, .nil0]),
  an 3 (.st 3 (.t 6) (.t 13))]
def r9_7 : List AOper := [ao 0 14 (.fa 0 (.t 3)),
  ao 1 15 (.ld 1 false (.t 14)),
  ao 2 16 (.bin .eql (.t 15) (.k (.i 1)))]
def r9_8 : List AOper := [ao 0 18 (.fa 1 (.t 3)),
  ao 1 19 (.ld 1 false (.t 18)),
  ao 2 20 (.call (.k (.c (.fn 43 []))) [(.t 19)]),
  ao 3 21 (.un .not (.t 20)),
  ao 4 22 (.mv (.t 21)),
  ag 5 23 22 false [] (.fa 0 (.t 2)),
  ag 6 24 22 false [] (.ld 1 false (.t 23)),
  ag 7 25 22 false [] (.fa 1 (.t 3)),
  ag 8 26 22 false [] (.ld 1 false (.t 25)),
  ag 9 27 22 false [] (.call (.k (.c (.fn 44 []))) [(.t 24), (.t 26)]),
  ag 10 28 22 false [] (.bin .geq (.t 27) (.k (.i 0))),
  ao 11 29 (.pick (.t 22) (.k (.b true)) (.t 28)),
  ao 12 17 (.mv (.t 29))]
def r9_9 : List AOper := [ao 0 30 (.ld 3 true (.t 6)),
  an 1 (.st 3 (.t 4) (.t 30)),
  ao 2 5 (.mv (.k (.i 3)))]
def c9_10 : ACode := .seq (.reg r9_9) .ret
def r9_11 : List AOper := [ao 0 32 (.fa 0 (.t 2)),
  ao 1 33 (.ld 1 false (.t 32)),
  ao 2 34 (.len (.t 33)),
  ao 3 35 (.bin .geq (.t 34) (.k (.i 64))),
  ao 4 36 (.mv (.t 35)),
  ag 5 37 36 false [] (.fa 2 (.t 2)),
  ag 6 38 36 false [] (.ld 1 false (.t 37)),
  ag 7 39 36 false [] (.len (.t 38)),
  ag 8 40 36 false [] (.bin .geq (.t 39) (.k (.i 128))),
  ao 9 41 (.pick (.t 36) (.k (.b true)) (.t 40)),
  ao 10 31 (.mv (.t 41))]
def r9_12 : List AOper := [ao 0 42 (.ld 3 true (.t 6)),
  an 1 (.st 3 (.t 4) (.t 42)),
  ao 2 5 (.mv (.k (.i 4)))]
def c9_13 : ACode := .seq (.reg r9_12) .ret
def c9_14 : ACode := .cond (.t 31) c9_13 .skip
def c9_15 : ACode := .seq (.reg r9_11) c9_14
def c9_16 : ACode := .cond (.t 17) c9_10 c9_15
def c9_17 : ACode := .seq (.reg r9_8) c9_16
def c9_18 : ACode := .block 0 c9_17
def r9_19 : List AOper := [ao 0 43 (.fa 0 (.t 6)),
  ao 1 44 (.ld 1 false (.t 43)),
  ao 2 45 (.fa 1 (.t 3)),
  ao 3 46 (.ld 1 false (.t 45)),
  ao 4 47 (.build [(.v (.s (.string ⟨#[]⟩))), (.v (.s (.string ⟨#[]⟩))), (.v (.s (.int .i64 0)))] [(0, 1, (.t 46))]),
  ao 5 48 (.bsl 3 88 [(.t 47)]),
  ao 6 49 (.app 3 88 40 (.t 44) (.t 48)),
  ao 7 50 (.fa 0 (.t 6)),
  an 8 (.st 1 (.t 50) (.t 49))]
def r9_20 : List AOper := [ao 0 51 (.fa 2 (.t 6)),
  ao 1 52 (.ld 1 false (.t 51)),
  ao 2 53 (.fa 1 (.t 3)),
  ao 3 54 (.ld 1 false (.t 53)),
  ao 4 55 (.build [(.v (.s (.bool false))), (.v (.s (.string ⟨#[]⟩)))] [(1, 1, (.t 54))]),
  ao 5 56 (.bsl 2 90 [(.t 55)]),
  ao 6 57 (.app 2 90 24 (.t 52) (.t 56)),
  ao 7 58 (.fa 2 (.t 6)),
  an 8 (.st 1 (.t 58) (.t 57))]
def r9_21 : List AOper := [ao 0 59 (.ld 3 true (.t 6)),
  an 1 (.st 3 (.t 4) (.t 59)),
  ao 2 5 (.mv (.k (.i 0)))]
def c9_22 : ACode := .seq c9_18 (.seq (.reg r9_19) (.seq (.reg r9_20) (.seq (.reg r9_21) .ret)))
def c9_23 : ACode := .cond (.t 16) c9_22 .skip
def c9_24 : ACode := .seq (.reg r9_7) c9_23
def r9_25 : List AOper := [ao 0 60 (.fa 0 (.t 3)),
  ao 1 61 (.ld 1 false (.t 60)),
  ao 2 62 (.bin .eql (.t 61) (.k (.i 5)))]
def r9_26 : List AOper := [ao 0 63 (.ld 3 true (.t 2)),
  au 1 64 [0] (.ld 3 true (.t 2)),
  au 2 65 [0] (.call (.k (.c (.fn 46 []))) [(.t 64)]),
  ao 3 66 (.call (.k (.c (.fn 45 []))) [(.t 63), (.t 65)]),
  an 4 (.st 3 (.t 4) (.t 66)),
  ao 5 5 (.mv (.k (.i 0)))]
def c9_27 : ACode := .seq (.reg r9_26) .ret
def c9_28 : ACode := .cond (.t 62) c9_27 .skip
def c9_29 : ACode := .seq (.reg r9_25) c9_28
def r9_30 : List AOper := [ao 0 67 (.fa 0 (.t 3)),
  ao 1 68 (.ld 1 false (.t 67)),
  ao 2 69 (.call (.k (.c (.fn 47 []))) [(.t 68), (.k (.i 1)), (.k (.i 5))]),
  ao 3 70 (.un .not (.t 69))]
def r9_31 : List AOper := [ao 0 71 (.ld 3 true (.t 6)),
  an 1 (.st 3 (.t 4) (.t 71)),
  ao 2 5 (.mv (.k (.i 5)))]
def c9_32 : ACode := .seq (.reg r9_31) .ret
def c9_33 : ACode := .cond (.t 70) c9_32 .skip
def c9_34 : ACode := .seq (.reg r9_30) c9_33
def r9_35 : List AOper := [ao 0 72 (.ld 3 true (.t 2)),
  ao 1 73 (.call (.k (.c (.fn 46 []))) [(.t 72)]),
  au 2 74 [0, 1] (.fa 1 (.t 3)),
  au 3 75 [0, 1] (.ld 1 false (.t 74)),
  ao 4 76 (.call (.k (.c (.fn 48 []))) [(.t 73), (.t 75)]),
  ao 5 77 (.un .not (.t 76))]
def r9_36 : List AOper := [ao 0 78 (.ld 3 true (.t 6)),
  an 1 (.st 3 (.t 4) (.t 78)),
  ao 2 5 (.mv (.k (.i 2)))]
def c9_37 : ACode := .seq (.reg r9_36) .ret
def c9_38 : ACode := .cond (.t 77) c9_37 .skip
def c9_39 : ACode := .seq (.reg r9_35) c9_38
def r9_40 : List AOper := [ao 0 79 (.fa 0 (.t 2)),
  ao 1 80 (.ld 1 false (.t 79)),
  ao 2 81 (.fa 1 (.t 3)),
  ao 3 82 (.ld 1 false (.t 81)),
  ao 4 83 (.call (.k (.c (.fn 44 []))) [(.t 80), (.t 82)]),
  ao 5 7 (.mv (.t 83))]
def r9_41 : List AOper := [ao 0 84 (.fa 0 (.t 3)),
  ao 1 85 (.ld 1 false (.t 84))]
def r9_42 : List AOper := [ao 0 100 (.bin .eql (.t 85) (.k (.i 2))),
  ao 1 99 (.mv (.t 100))]
def r9_43 : List AOper := [ao 0 101 (.fa 2 (.t 3)),
  ao 1 102 (.ld 1 false (.t 101)),
  ao 2 103 (.lenS (.t 102)),
  au 3 104 (ru 3) (.fa 0 (.t 2)),
  au 4 105 (ru 3) (.ld 1 false (.t 104)),
  au 5 106 (ru 5) (.mv (.t 7)),
  au 6 107 (ru 3) (.ia 3 (.t 105) (.t 106)),
  au 7 108 (ru 3) (.fa 1 (.t 107)),
  au 8 109 (ru 3) (.ld 1 false (.t 108)),
  au 9 110 (ru 3) (.lenS (.t 109)),
  au 10 111 (ru 3) (.bin .sub (.k (.i 20000)) (.t 110)),
  ao 11 112 (.bin .gtr (.t 103) (.t 111))]
def r9_44 : List AOper := [ao 0 113 (.ld 3 true (.t 6)),
  an 1 (.st 3 (.t 4) (.t 113)),
  ao 2 5 (.mv (.k (.i 4)))]
def c9_45 : ACode := .seq (.reg r9_44) .ret
def c9_46 : ACode := .cond (.t 112) c9_45 .skip
def c9_47 : ACode := .seq (.reg r9_43) c9_46
def r9_48 : List AOper := [ao 0 114 (.fa 0 (.t 6)),
  ao 1 115 (.ld 1 false (.t 114)),
  au 2 116 [0, 1] (.mv (.t 7)),
  au 3 117 (ru 3) (.fa 0 (.t 2)),
  au 4 118 (ru 3) (.ld 1 false (.t 117)),
  au 5 119 (ru 5) (.mv (.t 7)),
  au 6 120 (ru 3) (.ia 3 (.t 118) (.t 119)),
  au 7 121 (ru 3) (.fa 1 (.t 120)),
  au 8 122 (ru 3) (.ld 1 false (.t 121)),
  au 9 123 (ru 9) (.fa 2 (.t 3)),
  au 10 124 (ru 9) (.ld 1 false (.t 123)),
  au 11 125 (ru 3) (.bin .add (.t 122) (.t 124)),
  ao 12 126 (.ia 3 (.t 115) (.t 116)),
  ao 13 127 (.fa 1 (.t 126)),
  an 14 (.st 1 (.t 127) (.t 125))]
def c9_49 : ACode := .seq c9_47 (.reg r9_48)
def r9_50 : List AOper := [ao 0 129 (.bin .eql (.t 85) (.k (.i 3))),
  ao 1 128 (.mv (.t 129))]
def r9_51 : List AOper := [ao 0 130 (.fa 0 (.t 6)),
  ao 1 131 (.ld 1 false (.t 130)),
  au 2 132 [0, 1] (.mv (.t 7)),
  au 3 133 (ru 3) (.fa 0 (.t 2)),
  au 4 134 (ru 3) (.ld 1 false (.t 133)),
  au 5 135 (ru 5) (.mv (.t 7)),
  au 6 136 (ru 3) (.ia 3 (.t 134) (.t 135)),
  au 7 137 (ru 3) (.fa 1 (.t 136)),
  au 8 138 (ru 3) (.ld 1 false (.t 137)),
  au 9 139 (ru 3) (.lenS (.t 138)),
  ao 10 140 (.ia 3 (.t 131) (.t 132)),
  ao 11 141 (.fa 2 (.t 140)),
  an 12 (.st 1 (.t 141) (.t 139))]
def r9_52 : List AOper := [ao 0 86 (.fa 2 (.t 2)),
  ao 1 87 (.ld 1 false (.t 86)),
  ao 2 88 (.len (.t 87)),
  ao 3 89 (.bin .geq (.t 88) (.k (.i 128)))]
def r9_53 : List AOper := [ao 0 90 (.ld 3 true (.t 6)),
  an 1 (.st 3 (.t 4) (.t 90)),
  ao 2 5 (.mv (.k (.i 4)))]
def c9_54 : ACode := .seq (.reg r9_53) .ret
def c9_55 : ACode := .cond (.t 89) c9_54 .skip
def c9_56 : ACode := .seq (.reg r9_52) c9_55
def r9_57 : List AOper := [ao 0 91 (.fa 2 (.t 6)),
  ao 1 92 (.ld 1 false (.t 91)),
  ao 2 93 (.fa 1 (.t 3)),
  ao 3 94 (.ld 1 false (.t 93)),
  ao 4 95 (.build [(.v (.s (.bool false))), (.v (.s (.string ⟨#[]⟩)))] [(0, 1, (.k (.b true))), (1, 1, (.t 94))]),
  ao 5 96 (.bsl 2 90 [(.t 95)]),
  ao 6 97 (.app 2 90 24 (.t 92) (.t 96)),
  ao 7 98 (.fa 2 (.t 6)),
  an 8 (.st 1 (.t 98) (.t 97))]
def c9_58 : ACode := .seq c9_56 (.reg r9_57)
def c9_59 : ACode := .cond (.t 128) (.reg r9_51) c9_58
def c9_60 : ACode := .seq (.reg r9_50) c9_59
def c9_61 : ACode := .cond (.t 99) c9_49 c9_60
def c9_62 : ACode := .seq (.reg r9_42) c9_61
def c9_63 : ACode := .block 1 c9_62
def c9_64 : ACode := .seq (.reg r9_41) c9_63
def r9_65 : List AOper := [ao 0 142 (.ld 3 true (.t 6)),
  an 1 (.st 3 (.t 4) (.t 142)),
  ao 2 5 (.mv (.k (.i 0)))]
def c9 : ACode := .seq (.reg r9_0) (.seq c9_5 (.seq (.reg r9_6) (.seq c9_24 (.seq c9_29 (.seq c9_34 (.seq c9_39 (.seq (.reg r9_40) (.seq c9_64 (.seq (.reg r9_65) .ret)))))))))
def s9 : List ARes := [.cell 4 3 true, .tmp 5]
theorem ok9 : okF Try.prog 9 143 c9 s9 := ⟨Try.f9, Try.func9, Try.ntmps9, by kernel_rfl, by kernel_rfl, by kernel_rfl⟩
theorem UFk_1 : (type_of% (uA c9.eq_1)) ∧ (type_of% (uR r9_0.eq_1)) ∧ (type_of% (uA c9_5.eq_1)) ∧ (type_of% (uR r9_1.eq_1)) ∧ (type_of% (uA c9_4.eq_1)) ∧ (type_of% (uA c9_3.eq_1)) ∧ (type_of% (uR r9_2.eq_1)) ∧ (type_of% (uR r9_6.eq_1)) ∧ (type_of% (uA c9_24.eq_1)) ∧ (type_of% (uR r9_7.eq_1)) ∧ (type_of% (uA c9_23.eq_1)) ∧ (type_of% (uA c9_22.eq_1)) ∧ (type_of% (uA c9_18.eq_1)) ∧ (type_of% (uA c9_17.eq_1)) ∧ (type_of% (uR r9_8.eq_1)) ∧ (type_of% (uA c9_16.eq_1)) ∧ (type_of% (uA c9_10.eq_1)) ∧ (type_of% (uR r9_9.eq_1)) ∧ (type_of% (uA c9_15.eq_1)) ∧ (type_of% (uR r9_11.eq_1)) ∧ (type_of% (uA c9_14.eq_1)) ∧ (type_of% (uA c9_13.eq_1)) ∧ (type_of% (uR r9_12.eq_1)) ∧ (type_of% (uR r9_19.eq_1)) ∧ (type_of% (uR r9_20.eq_1)) ∧ (type_of% (uR r9_21.eq_1)) ∧ (type_of% (uA c9_29.eq_1)) ∧ (type_of% (uR r9_25.eq_1)) ∧ (type_of% (uA c9_28.eq_1)) ∧ (type_of% (uA c9_27.eq_1)) ∧ (type_of% (uR r9_26.eq_1)) ∧ (type_of% (uA c9_34.eq_1)) ∧ (type_of% (uR r9_30.eq_1)) ∧ (type_of% (uA c9_33.eq_1)) ∧ (type_of% (uA c9_32.eq_1)) ∧ (type_of% (uR r9_31.eq_1)) ∧ (type_of% (uA c9_39.eq_1)) ∧ (type_of% (uR r9_35.eq_1)) ∧ (type_of% (uA c9_38.eq_1)) ∧ (type_of% (uA c9_37.eq_1)) ∧ (type_of% (uR r9_36.eq_1)) ∧ (type_of% (uR r9_40.eq_1)) ∧ (type_of% (uA c9_64.eq_1)) ∧ (type_of% (uR r9_41.eq_1)) ∧ (type_of% (uA c9_63.eq_1)) ∧ (type_of% (uA c9_62.eq_1)) ∧ (type_of% (uR r9_42.eq_1)) ∧ (type_of% (uA c9_61.eq_1)) ∧ (type_of% (uA c9_49.eq_1)) ∧ (type_of% (uA c9_47.eq_1)) ∧ (type_of% (uR r9_43.eq_1)) ∧ (type_of% (uA c9_46.eq_1)) ∧ (type_of% (uA c9_45.eq_1)) ∧ (type_of% (uR r9_44.eq_1)) ∧ (type_of% (uR r9_48.eq_1)) ∧ (type_of% (uA c9_60.eq_1)) ∧ (type_of% (uR r9_50.eq_1)) ∧ (type_of% (uA c9_59.eq_1)) ∧ (type_of% (uR r9_51.eq_1)) ∧ (type_of% (uA c9_58.eq_1)) ∧ (type_of% (uA c9_56.eq_1)) ∧ (type_of% (uR r9_52.eq_1)) ∧ (type_of% (uA c9_55.eq_1)) ∧ (type_of% (uA c9_54.eq_1)) ∧ (type_of% (uR r9_53.eq_1)) ∧ (type_of% (uR r9_57.eq_1)) ∧ (type_of% (uR r9_65.eq_1)) ∧ (type_of% s9.eq_1) :=
  ⟨uA c9.eq_1, uR r9_0.eq_1, uA c9_5.eq_1, uR r9_1.eq_1, uA c9_4.eq_1, uA c9_3.eq_1, uR r9_2.eq_1, uR r9_6.eq_1, uA c9_24.eq_1, uR r9_7.eq_1, uA c9_23.eq_1, uA c9_22.eq_1, uA c9_18.eq_1, uA c9_17.eq_1, uR r9_8.eq_1, uA c9_16.eq_1, uA c9_10.eq_1, uR r9_9.eq_1, uA c9_15.eq_1, uR r9_11.eq_1, uA c9_14.eq_1, uA c9_13.eq_1, uR r9_12.eq_1, uR r9_19.eq_1, uR r9_20.eq_1, uR r9_21.eq_1, uA c9_29.eq_1, uR r9_25.eq_1, uA c9_28.eq_1, uA c9_27.eq_1, uR r9_26.eq_1, uA c9_34.eq_1, uR r9_30.eq_1, uA c9_33.eq_1, uA c9_32.eq_1, uR r9_31.eq_1, uA c9_39.eq_1, uR r9_35.eq_1, uA c9_38.eq_1, uA c9_37.eq_1, uR r9_36.eq_1, uR r9_40.eq_1, uA c9_64.eq_1, uR r9_41.eq_1, uA c9_63.eq_1, uA c9_62.eq_1, uR r9_42.eq_1, uA c9_61.eq_1, uA c9_49.eq_1, uA c9_47.eq_1, uR r9_43.eq_1, uA c9_46.eq_1, uA c9_45.eq_1, uR r9_44.eq_1, uR r9_48.eq_1, uA c9_60.eq_1, uR r9_50.eq_1, uA c9_59.eq_1, uR r9_51.eq_1, uA c9_58.eq_1, uA c9_56.eq_1, uR r9_52.eq_1, uA c9_55.eq_1, uA c9_54.eq_1, uR r9_53.eq_1, uR r9_57.eq_1, uR r9_65.eq_1, s9.eq_1⟩
theorem UFk_2 : (type_of% (uA c9.eq_1)) ∧ (type_of% (uR r9_0.eq_1)) ∧ (type_of% (uA c9_5.eq_1)) ∧ (type_of% (uR r9_1.eq_1)) ∧ (type_of% (uA c9_4.eq_1)) ∧ (type_of% (uA c9_3.eq_1)) ∧ (type_of% (uR r9_2.eq_1)) ∧ (type_of% (uR r9_6.eq_1)) ∧ (type_of% (uA c9_29.eq_1)) ∧ (type_of% (uR r9_25.eq_1)) ∧ (type_of% (uA c9_28.eq_1)) ∧ (type_of% (uA c9_27.eq_1)) ∧ (type_of% (uR r9_26.eq_1)) ∧ (type_of% (uA c9_34.eq_1)) ∧ (type_of% (uR r9_30.eq_1)) ∧ (type_of% (uA c9_33.eq_1)) ∧ (type_of% (uA c9_32.eq_1)) ∧ (type_of% (uR r9_31.eq_1)) ∧ (type_of% (uA c9_39.eq_1)) ∧ (type_of% (uR r9_35.eq_1)) ∧ (type_of% (uA c9_38.eq_1)) ∧ (type_of% (uA c9_37.eq_1)) ∧ (type_of% (uR r9_36.eq_1)) ∧ (type_of% (uR r9_40.eq_1)) ∧ (type_of% (uA c9_64.eq_1)) ∧ (type_of% (uR r9_41.eq_1)) ∧ (type_of% (uA c9_63.eq_1)) ∧ (type_of% (uA c9_62.eq_1)) ∧ (type_of% (uR r9_42.eq_1)) ∧ (type_of% (uA c9_61.eq_1)) ∧ (type_of% (uA c9_49.eq_1)) ∧ (type_of% (uA c9_47.eq_1)) ∧ (type_of% (uR r9_43.eq_1)) ∧ (type_of% (uA c9_46.eq_1)) ∧ (type_of% (uA c9_45.eq_1)) ∧ (type_of% (uR r9_44.eq_1)) ∧ (type_of% (uR r9_48.eq_1)) ∧ (type_of% (uA c9_60.eq_1)) ∧ (type_of% (uR r9_50.eq_1)) ∧ (type_of% (uA c9_59.eq_1)) ∧ (type_of% (uR r9_51.eq_1)) ∧ (type_of% (uA c9_58.eq_1)) ∧ (type_of% (uA c9_56.eq_1)) ∧ (type_of% (uR r9_52.eq_1)) ∧ (type_of% (uA c9_55.eq_1)) ∧ (type_of% (uA c9_54.eq_1)) ∧ (type_of% (uR r9_53.eq_1)) ∧ (type_of% (uR r9_57.eq_1)) ∧ (type_of% (uR r9_65.eq_1)) ∧ (type_of% s9.eq_1) :=
  ⟨uA c9.eq_1, uR r9_0.eq_1, uA c9_5.eq_1, uR r9_1.eq_1, uA c9_4.eq_1, uA c9_3.eq_1, uR r9_2.eq_1, uR r9_6.eq_1, uA c9_29.eq_1, uR r9_25.eq_1, uA c9_28.eq_1, uA c9_27.eq_1, uR r9_26.eq_1, uA c9_34.eq_1, uR r9_30.eq_1, uA c9_33.eq_1, uA c9_32.eq_1, uR r9_31.eq_1, uA c9_39.eq_1, uR r9_35.eq_1, uA c9_38.eq_1, uA c9_37.eq_1, uR r9_36.eq_1, uR r9_40.eq_1, uA c9_64.eq_1, uR r9_41.eq_1, uA c9_63.eq_1, uA c9_62.eq_1, uR r9_42.eq_1, uA c9_61.eq_1, uA c9_49.eq_1, uA c9_47.eq_1, uR r9_43.eq_1, uA c9_46.eq_1, uA c9_45.eq_1, uR r9_44.eq_1, uR r9_48.eq_1, uA c9_60.eq_1, uR r9_50.eq_1, uA c9_59.eq_1, uR r9_51.eq_1, uA c9_58.eq_1, uA c9_56.eq_1, uR r9_52.eq_1, uA c9_55.eq_1, uA c9_54.eq_1, uR r9_53.eq_1, uR r9_57.eq_1, uR r9_65.eq_1, s9.eq_1⟩
theorem UFk_3 : (type_of% (uA c9.eq_1)) ∧ (type_of% (uR r9_0.eq_1)) ∧ (type_of% (uA c9_5.eq_1)) ∧ (type_of% (uR r9_1.eq_1)) ∧ (type_of% (uA c9_4.eq_1)) ∧ (type_of% (uA c9_3.eq_1)) ∧ (type_of% (uR r9_2.eq_1)) ∧ (type_of% (uR r9_6.eq_1)) ∧ (type_of% (uA c9_24.eq_1)) ∧ (type_of% (uR r9_7.eq_1)) ∧ (type_of% (uA c9_23.eq_1)) ∧ (type_of% (uA c9_22.eq_1)) ∧ (type_of% (uA c9_18.eq_1)) ∧ (type_of% (uA c9_17.eq_1)) ∧ (type_of% (uR r9_8.eq_1)) ∧ (type_of% (uA c9_16.eq_1)) ∧ (type_of% (uA c9_10.eq_1)) ∧ (type_of% (uR r9_9.eq_1)) ∧ (type_of% (uA c9_15.eq_1)) ∧ (type_of% (uR r9_11.eq_1)) ∧ (type_of% (uA c9_14.eq_1)) ∧ (type_of% (uA c9_13.eq_1)) ∧ (type_of% (uR r9_12.eq_1)) ∧ (type_of% (uR r9_19.eq_1)) ∧ (type_of% (uR r9_20.eq_1)) ∧ (type_of% (uR r9_21.eq_1)) ∧ (type_of% (uA c9_29.eq_1)) ∧ (type_of% (uR r9_25.eq_1)) ∧ (type_of% (uA c9_28.eq_1)) ∧ (type_of% (uA c9_27.eq_1)) ∧ (type_of% (uR r9_26.eq_1)) ∧ (type_of% (uA c9_34.eq_1)) ∧ (type_of% (uR r9_30.eq_1)) ∧ (type_of% (uA c9_33.eq_1)) ∧ (type_of% (uA c9_32.eq_1)) ∧ (type_of% (uR r9_31.eq_1)) ∧ (type_of% (uA c9_39.eq_1)) ∧ (type_of% (uR r9_35.eq_1)) ∧ (type_of% (uA c9_38.eq_1)) ∧ (type_of% (uA c9_37.eq_1)) ∧ (type_of% (uR r9_36.eq_1)) ∧ (type_of% (uR r9_40.eq_1)) ∧ (type_of% (uR r9_65.eq_1)) ∧ (type_of% s9.eq_1) :=
  ⟨uA c9.eq_1, uR r9_0.eq_1, uA c9_5.eq_1, uR r9_1.eq_1, uA c9_4.eq_1, uA c9_3.eq_1, uR r9_2.eq_1, uR r9_6.eq_1, uA c9_24.eq_1, uR r9_7.eq_1, uA c9_23.eq_1, uA c9_22.eq_1, uA c9_18.eq_1, uA c9_17.eq_1, uR r9_8.eq_1, uA c9_16.eq_1, uA c9_10.eq_1, uR r9_9.eq_1, uA c9_15.eq_1, uR r9_11.eq_1, uA c9_14.eq_1, uA c9_13.eq_1, uR r9_12.eq_1, uR r9_19.eq_1, uR r9_20.eq_1, uR r9_21.eq_1, uA c9_29.eq_1, uR r9_25.eq_1, uA c9_28.eq_1, uA c9_27.eq_1, uR r9_26.eq_1, uA c9_34.eq_1, uR r9_30.eq_1, uA c9_33.eq_1, uA c9_32.eq_1, uR r9_31.eq_1, uA c9_39.eq_1, uR r9_35.eq_1, uA c9_38.eq_1, uA c9_37.eq_1, uR r9_36.eq_1, uR r9_40.eq_1, uR r9_65.eq_1, s9.eq_1⟩
set_option maxHeartbeats 1000000 in
theorem doS_ok (d : Dk) (w : DW) (hd : fineDk d) (hw : fineDW w) : ∃ r, DoR d w r ∧ ACallsF Try.prog 9 [tDk d, tDW w] [] (tDkI r) := by
  obtain ⟨b, hb, hC⟩ := okS_ok d hd
  by_cases hD : DOk d
  rotate_left
  · have hbf : b = false := by cases hq : b with | false => rfl | true => exact absurd (hb.1 hq) hD
    rw [hbf] at hC
    refine ⟨_, .inr ⟨hD, rfl⟩, ACallsF.intro ok9 follows fun X c0 => ?_⟩
    simp only [RUN, core, T.c, T.s, T.b, T.i, sBin, sInt, sUn, isShift, asInt, P1.cells, loadT, ptrC, storeT, putC, fillP, Nat.reduceAdd, reduceIte, Nat.reduceEqDiff, Nat.reduceLT, Nat.reduceLeDiff, reduceCtorEq, eq_self, FIT, lendCs_map, verC_map, FinC, resPs, resP, lendPl, lendCs, lendC, sealC, partsT, finHs, tupT, verT, verP, verC, verB, verAt, Blk.ver, handsAre, forall_const, CHT, disj, Nat.reduceBEq, beq_self_eq_true, APT, srcOf, sealPs, sealCs, sealC, toVs, Option.map_some, List.mem_singleton, forall_eq, ALT, UFk_1]
    refine callC hC rfl rfl rfl rfl ?_
    simp only [RUN, core, T.c, T.s, T.b, T.i, sBin, sInt, sUn, isShift, asInt, P1.cells, loadT, ptrC, storeT, putC, fillP, Nat.reduceAdd, reduceIte, Nat.reduceEqDiff, Nat.reduceLT, Nat.reduceLeDiff, reduceCtorEq, eq_self, FIT, lendCs_map, verC_map, FinC, resPs, resP, lendPl, lendCs, lendC, sealC, partsT, finHs, tupT, verT, verP, verC, verB, verAt, Blk.ver, handsAre, forall_const, CHT, disj, Nat.reduceBEq, beq_self_eq_true, APT, srcOf, sealPs, sealCs, sealC, toVs, Option.map_some, List.mem_singleton, forall_eq, ALT, UFk_1]
  rw [hb.2 hD] at hC
  refine ⟨_, .inl ⟨hD, rfl⟩, ?_⟩
  have l1 := hD.f
  have l2 := hD.n
  have l3 := hD.m
  have hN := names_ok d hd hD
  have hcp := copyDk_ok d hd.s 1001 1002 1003
  have pre : ∀ r, doS d w = r → (∀ (X : Ctx) (t1 : Nat → T) (H : HMap) (c v u2 u3 u4 u6 : Nat), t1 2 = .c (.ptr 2 u2 0) → H 2 = some (.var u2 34 [.v (.sl (en eF d.files)), .v (.sl (en eS d.names)), .v (.sl (en eM d.moves))]) → t1 3 = .c (.ptr 3 u3 0) → H 3 = some (.var u3 38 [.v (.s (.int .i64 w.kind)), .v (.s (.string w.name)), .v (.s (.string w.data))]) →
      t1 4 = .c (.ptr 4 u4 0) → H 4 = some (.var u4 34 [.nil0, .nil0, .nil0]) → t1 6 = .c (.ptr 6 u6 0) → H 6 = some (.var u6 34 [.own 1001 v d.files.length, .own 1002 v d.names.length, .own 1003 v d.moves.length]) → H 1001 = some (.arr v true 3 88 (en eF d.files)) → H 1002 = some (.arr v true 1 9 (en eS d.names)) → H 1003 = some (.arr v true 2 90 (en eM d.moves)) → t1 5 = .i 0 →
      wpa Try.prog X c9_24 (thenW Try.prog X (.seq c9_29 (.seq c9_34 (.seq c9_39 (.seq (.reg r9_40) (.seq c9_64 (.seq (.reg r9_65) .ret)))))) (endA (FinC s9 (tDkI r) []))) ⟨t1, H, c⟩) → ACallsF Try.prog 9 [tDk d, tDW w] [] (tDkI (doS d w)) := by
    intro r hr hrest
    rw [hr]
    refine ACallsF.intro ok9 follows fun X c0 => ?_
    simp only [RUN, core, T.c, T.s, T.b, T.i, sBin, sInt, sUn, isShift, asInt, P1.cells, loadT, ptrC, storeT, putC, fillP, Nat.reduceAdd, reduceIte, Nat.reduceEqDiff, Nat.reduceLT, Nat.reduceLeDiff, reduceCtorEq, eq_self, FIT, lendCs_map, verC_map, FinC, resPs, resP, lendPl, lendCs, lendC, sealC, partsT, finHs, tupT, verT, verP, verC, verB, verAt, Blk.ver, handsAre, forall_const, CHT, disj, Nat.reduceBEq, beq_self_eq_true, APT, srcOf, sealPs, sealCs, sealC, toVs, Option.map_some, List.mem_singleton, forall_eq, ALT, UFk_2]
    refine callC hC rfl rfl rfl rfl ?_
    simp only [RUN, core, T.c, T.s, T.b, T.i, sBin, sInt, sUn, isShift, asInt, P1.cells, loadT, ptrC, storeT, putC, fillP, Nat.reduceAdd, reduceIte, Nat.reduceEqDiff, Nat.reduceLT, Nat.reduceLeDiff, reduceCtorEq, eq_self, FIT, lendCs_map, verC_map, FinC, resPs, resP, lendPl, lendCs, lendC, sealC, partsT, finHs, tupT, verT, verP, verC, verB, verAt, Blk.ver, handsAre, forall_const, CHT, disj, Nat.reduceBEq, beq_self_eq_true, APT, srcOf, sealPs, sealCs, sealC, toVs, Option.map_some, List.mem_singleton, forall_eq, ALT, UFk_2]
    refine callDk (ws := []) (ns := []) hcp rfl rfl rfl (by decide) ⟨rfl, ?_⟩
    simp only [RUN, core, T.c, T.s, T.b, T.i, sBin, sInt, sUn, isShift, asInt, P1.cells, loadT, ptrC, storeT, putC, fillP, Nat.reduceAdd, reduceIte, Nat.reduceEqDiff, Nat.reduceLT, Nat.reduceLeDiff, reduceCtorEq, eq_self, FIT, lendCs_map, verC_map, FinC, resPs, resP, lendPl, lendCs, lendC, sealC, partsT, finHs, tupT, verT, verP, verC, verB, verAt, Blk.ver, handsAre, forall_const, CHT, disj, Nat.reduceBEq, beq_self_eq_true, APT, srcOf, sealPs, sealCs, sealC, toVs, Option.map_some, List.mem_singleton, forall_eq, ALT, UFk_2]
    exact hrest X _ _ _ _ _ _ _ _ rfl rfl rfl rfl rfl rfl rfl rfl rfl rfl rfl rfl
  by_cases k1 : w.kind = 1
  · have b1 : (w.kind == 1) = true := by simp [k1]
    by_cases n1 : nameOk w.name = false
    · refine pre (d, 3) (by simp only [doS, k1, n1, if_true, true_or]) ?_
      rintro X t1 H c v u2 u3 u4 u6 e2 eH2 e3 eH3 e4 eH4 e6 eH6 h1 h2 h3 e5
      simp only [T.c, T.i] at e2 eH2 e3 eH3 e4 eH4 e6 eH6 h1 h2 h3 e5
      simp only [RUN, core, T.c, T.s, T.b, T.i, sBin, sInt, sUn, isShift, asInt, P1.cells, loadT, ptrC, storeT, putC, fillP, Nat.reduceAdd, reduceIte, Nat.reduceEqDiff, Nat.reduceLT, Nat.reduceLeDiff, reduceCtorEq, eq_self, FIT, lendCs_map, verC_map, FinC, resPs, resP, lendPl, lendCs, lendC, sealC, partsT, finHs, tupT, verT, verP, verC, verB, verAt, Blk.ver, handsAre, forall_const, CHT, disj, Nat.reduceBEq, beq_self_eq_true, APT, srcOf, sealPs, sealCs, sealC, toVs, Option.map_some, List.mem_singleton, forall_eq, ALT, UFk_1, e3, eH3, b1]
      refine callC (nameOk_ok w.name (by have := hw.1; omega)) rfl rfl rfl rfl ?_
      simp only [RUN, core, T.c, T.s, T.b, T.i, sBin, sInt, sUn, isShift, asInt, P1.cells, loadT, ptrC, storeT, putC, fillP, Nat.reduceAdd, reduceIte, Nat.reduceEqDiff, Nat.reduceLT, Nat.reduceLeDiff, reduceCtorEq, eq_self, FIT, lendCs_map, verC_map, FinC, resPs, resP, lendPl, lendCs, lendC, sealC, partsT, finHs, tupT, verT, verP, verC, verB, verAt, Blk.ver, handsAre, forall_const, CHT, disj, Nat.reduceBEq, beq_self_eq_true, APT, srcOf, sealPs, sealCs, sealC, toVs, Option.map_some, List.mem_singleton, forall_eq, ALT, UFk_1, e4, eH4, e6, eH6, h1, h2, h3, n1]
    have n1' : nameOk w.name = true := by cases h : nameOk w.name with | true => rfl | false => exact absurd h n1
    by_cases n2 : 0 ≤ fnd d.files w.name
    · refine pre (d, 3) (by simp only [doS, k1, n2, if_true, or_true]) ?_
      rintro X t1 H c v u2 u3 u4 u6 e2 eH2 e3 eH3 e4 eH4 e6 eH6 h1 h2 h3 e5
      simp only [T.c, T.i] at e2 eH2 e3 eH3 e4 eH4 e6 eH6 h1 h2 h3 e5
      simp only [RUN, core, T.c, T.s, T.b, T.i, sBin, sInt, sUn, isShift, asInt, P1.cells, loadT, ptrC, storeT, putC, fillP, Nat.reduceAdd, reduceIte, Nat.reduceEqDiff, Nat.reduceLT, Nat.reduceLeDiff, reduceCtorEq, eq_self, FIT, lendCs_map, verC_map, FinC, resPs, resP, lendPl, lendCs, lendC, sealC, partsT, finHs, tupT, verT, verP, verC, verB, verAt, Blk.ver, handsAre, forall_const, CHT, disj, Nat.reduceBEq, beq_self_eq_true, APT, srcOf, sealPs, sealCs, sealC, toVs, Option.map_some, List.mem_singleton, forall_eq, ALT, UFk_1, e3, eH3, b1]
      refine callC (nameOk_ok w.name (by have := hw.1; omega)) rfl rfl rfl rfl ?_
      simp only [RUN, core, T.c, T.s, T.b, T.i, sBin, sInt, sUn, isShift, asInt, P1.cells, loadT, ptrC, storeT, putC, fillP, Nat.reduceAdd, reduceIte, Nat.reduceEqDiff, Nat.reduceLT, Nat.reduceLeDiff, reduceCtorEq, eq_self, FIT, lendCs_map, verC_map, FinC, resPs, resP, lendPl, lendCs, lendC, sealC, partsT, finHs, tupT, verT, verP, verC, verB, verAt, Blk.ver, handsAre, forall_const, CHT, disj, Nat.reduceBEq, beq_self_eq_true, APT, srcOf, sealPs, sealCs, sealC, toVs, Option.map_some, List.mem_singleton, forall_eq, ALT, UFk_1, e2, eH2, e3, eH3, n1']
      refine callC (find_ok d.files w.name (by omega)) rfl rfl rfl rfl ?_
      simp only [RUN, core, T.c, T.s, T.b, T.i, sBin, sInt, sUn, isShift, asInt, P1.cells, loadT, ptrC, storeT, putC, fillP, Nat.reduceAdd, reduceIte, Nat.reduceEqDiff, Nat.reduceLT, Nat.reduceLeDiff, reduceCtorEq, eq_self, FIT, lendCs_map, verC_map, FinC, resPs, resP, lendPl, lendCs, lendC, sealC, partsT, finHs, tupT, verT, verP, verC, verB, verAt, Blk.ver, handsAre, forall_const, CHT, disj, Nat.reduceBEq, beq_self_eq_true, APT, srcOf, sealPs, sealCs, sealC, toVs, Option.map_some, List.mem_singleton, forall_eq, ALT, UFk_1, e4, eH4, e6, eH6, h1, h2, h3, ge_iff_le, n2]
    by_cases n3 : 64 ≤ d.files.length ∨ 128 ≤ d.moves.length
    · refine pre (d, 4) (by simp only [doS, k1, n1', n2, n3, if_true, if_false, or_self, Bool.true_eq_false]) ?_
      rintro X t1 H c v u2 u3 u4 u6 e2 eH2 e3 eH3 e4 eH4 e6 eH6 h1 h2 h3 e5
      simp only [T.c, T.i] at e2 eH2 e3 eH3 e4 eH4 e6 eH6 h1 h2 h3 e5
      simp only [RUN, core, T.c, T.s, T.b, T.i, sBin, sInt, sUn, isShift, asInt, P1.cells, loadT, ptrC, storeT, putC, fillP, Nat.reduceAdd, reduceIte, Nat.reduceEqDiff, Nat.reduceLT, Nat.reduceLeDiff, reduceCtorEq, eq_self, FIT, lendCs_map, verC_map, FinC, resPs, resP, lendPl, lendCs, lendC, sealC, partsT, finHs, tupT, verT, verP, verC, verB, verAt, Blk.ver, handsAre, forall_const, CHT, disj, Nat.reduceBEq, beq_self_eq_true, APT, srcOf, sealPs, sealCs, sealC, toVs, Option.map_some, List.mem_singleton, forall_eq, ALT, UFk_1, e3, eH3, b1]
      refine callC (nameOk_ok w.name (by have := hw.1; omega)) rfl rfl rfl rfl ?_
      simp only [RUN, core, T.c, T.s, T.b, T.i, sBin, sInt, sUn, isShift, asInt, P1.cells, loadT, ptrC, storeT, putC, fillP, Nat.reduceAdd, reduceIte, Nat.reduceEqDiff, Nat.reduceLT, Nat.reduceLeDiff, reduceCtorEq, eq_self, FIT, lendCs_map, verC_map, FinC, resPs, resP, lendPl, lendCs, lendC, sealC, partsT, finHs, tupT, verT, verP, verC, verB, verAt, Blk.ver, handsAre, forall_const, CHT, disj, Nat.reduceBEq, beq_self_eq_true, APT, srcOf, sealPs, sealCs, sealC, toVs, Option.map_some, List.mem_singleton, forall_eq, ALT, UFk_1, e2, eH2, e3, eH3, n1']
      refine callC (find_ok d.files w.name (by omega)) rfl rfl rfl rfl ?_
      by_cases n4 : (64 : Int) ≤ d.files.length
      · simp only [RUN, core, T.c, T.s, T.b, T.i, sBin, sInt, sUn, isShift, asInt, P1.cells, loadT, ptrC, storeT, putC, fillP, Nat.reduceAdd, reduceIte, Nat.reduceEqDiff, Nat.reduceLT, Nat.reduceLeDiff, reduceCtorEq, eq_self, FIT, lendCs_map, verC_map, FinC, resPs, resP, lendPl, lendCs, lendC, sealC, partsT, finHs, tupT, verT, verP, verC, verB, verAt, Blk.ver, handsAre, forall_const, CHT, disj, Nat.reduceBEq, beq_self_eq_true, APT, srcOf, sealPs, sealCs, sealC, toVs, Option.map_some, List.mem_singleton, forall_eq, ALT, UFk_1, e2, eH2, e4, eH4, e6, eH6, h1, h2, h3, ge_iff_le, n2, n4]
      · have n5 : (128 : Int) ≤ d.moves.length := by omega
        simp only [RUN, core, T.c, T.s, T.b, T.i, sBin, sInt, sUn, isShift, asInt, P1.cells, loadT, ptrC, storeT, putC, fillP, Nat.reduceAdd, reduceIte, Nat.reduceEqDiff, Nat.reduceLT, Nat.reduceLeDiff, reduceCtorEq, eq_self, FIT, lendCs_map, verC_map, FinC, resPs, resP, lendPl, lendCs, lendC, sealC, partsT, finHs, tupT, verT, verP, verC, verB, verAt, Blk.ver, handsAre, forall_const, CHT, disj, Nat.reduceBEq, beq_self_eq_true, APT, srcOf, sealPs, sealCs, sealC, toVs, Option.map_some, List.mem_singleton, forall_eq, ALT, UFk_1, e2, eH2, e4, eH4, e6, eH6, h1, h2, h3, ge_iff_le, n2, n4, n5]
    · refine pre (⟨d.files ++ [⟨w.name, ⟨#[]⟩, 0⟩], d.names, d.moves ++ [⟨false, w.name⟩]⟩, 0) (by simp only [doS, k1, n1', n2, n3, if_true, if_false, or_self, Bool.true_eq_false]) ?_
      rintro X t1 H c v u2 u3 u4 u6 e2 eH2 e3 eH3 e4 eH4 e6 eH6 h1 h2 h3 e5
      simp only [T.c, T.i] at e2 eH2 e3 eH3 e4 eH4 e6 eH6 h1 h2 h3 e5
      have n4 : ¬ (64 : Int) ≤ d.files.length := by omega
      have n5 : ¬ (128 : Int) ≤ d.moves.length := by omega
      have q1 : (d.files.length + 1) * 40 ≤ 140737488355328 := by omega
      have q2 : d.files.length + 1 ≤ 9223372036854775807 := by omega
      have q3 : (d.moves.length + 1) * 24 ≤ 140737488355328 := by omega
      have q4 : d.moves.length + 1 ≤ 9223372036854775807 := by omega
      simp only [RUN, core, T.c, T.s, T.b, T.i, sBin, sInt, sUn, isShift, asInt, P1.cells, loadT, ptrC, storeT, putC, fillP, Nat.reduceAdd, reduceIte, Nat.reduceEqDiff, Nat.reduceLT, Nat.reduceLeDiff, reduceCtorEq, eq_self, FIT, lendCs_map, verC_map, FinC, resPs, resP, lendPl, lendCs, lendC, sealC, partsT, finHs, tupT, verT, verP, verC, verB, verAt, Blk.ver, handsAre, forall_const, CHT, disj, Nat.reduceBEq, beq_self_eq_true, APT, srcOf, sealPs, sealCs, sealC, toVs, Option.map_some, List.mem_singleton, forall_eq, ALT, UFk_1, e3, eH3, b1]
      refine callC (nameOk_ok w.name (by have := hw.1; omega)) rfl rfl rfl rfl ?_
      simp only [RUN, core, T.c, T.s, T.b, T.i, sBin, sInt, sUn, isShift, asInt, P1.cells, loadT, ptrC, storeT, putC, fillP, Nat.reduceAdd, reduceIte, Nat.reduceEqDiff, Nat.reduceLT, Nat.reduceLeDiff, reduceCtorEq, eq_self, FIT, lendCs_map, verC_map, FinC, resPs, resP, lendPl, lendCs, lendC, sealC, partsT, finHs, tupT, verT, verP, verC, verB, verAt, Blk.ver, handsAre, forall_const, CHT, disj, Nat.reduceBEq, beq_self_eq_true, APT, srcOf, sealPs, sealCs, sealC, toVs, Option.map_some, List.mem_singleton, forall_eq, ALT, UFk_1, e2, eH2, e3, eH3, n1']
      refine callC (find_ok d.files w.name (by omega)) rfl rfl rfl rfl ?_
      simp only [RUN, core, T.c, T.s, T.b, T.i, sBin, sInt, sUn, isShift, asInt, P1.cells, loadT, ptrC, storeT, putC, fillP, Nat.reduceAdd, reduceIte, Nat.reduceEqDiff, Nat.reduceLT, Nat.reduceLeDiff, reduceCtorEq, eq_self, FIT, lendCs_map, verC_map, FinC, resPs, resP, lendPl, lendCs, lendC, sealC, partsT, finHs, tupT, verT, verP, verC, verB, verAt, Blk.ver, handsAre, forall_const, CHT, disj, Nat.reduceBEq, beq_self_eq_true, APT, srcOf, sealPs, sealCs, sealC, toVs, Option.map_some, List.mem_singleton, forall_eq, ALT, UFk_1, e2, eH2, e3, eH3, e4, eH4, e6, eH6, h1, h2, h3, ge_iff_le, n2, n4, n5, q1, q2, q3, q4, en_snoc, en_take1, eF, eM]
  have b1 : (w.kind == 1) = false := by simp [k1]
  by_cases k5 : w.kind = 5
  · have b5 : (w.kind == 5) = true := by simp [k5]
    have hal := aft_len d.moves d.names
    refine pre (keepD d (aft d.names d.moves), 0) (by have h51 : ¬ (5 : Int) = 1 := (by omega); simp only [doS, k5, h51, if_true, if_false]) ?_
    rintro X t1 H c v u2 u3 u4 u6 e2 eH2 e3 eH3 e4 eH4 e6 eH6 h1 h2 h3 e5
    simp only [T.c, T.i] at e2 eH2 e3 eH3 e4 eH4 e6 eH6 h1 h2 h3 e5
    simp only [RUN, core, T.c, T.s, T.b, T.i, sBin, sInt, sUn, isShift, asInt, P1.cells, loadT, ptrC, storeT, putC, fillP, Nat.reduceAdd, reduceIte, Nat.reduceEqDiff, Nat.reduceLT, Nat.reduceLeDiff, reduceCtorEq, eq_self, FIT, lendCs_map, verC_map, FinC, resPs, resP, lendPl, lendCs, lendC, sealC, partsT, finHs, tupT, verT, verP, verC, verB, verAt, Blk.ver, handsAre, forall_const, CHT, disj, Nat.reduceBEq, beq_self_eq_true, APT, srcOf, sealPs, sealCs, sealC, toVs, Option.map_some, List.mem_singleton, forall_eq, ALT, UFk_1, e2, eH2, e3, eH3, b1, b5]
    refine callA1 (m := 1005) (ws := []) (ns := []) (hN 1005) rfl rfl rfl (en_flat eS eS_flat _) ⟨?_, ?_⟩
    · simp only [RUN, core, T.c, T.s, T.b, T.i, sBin, sInt, sUn, isShift, asInt, P1.cells, loadT, ptrC, storeT, putC, fillP, Nat.reduceAdd, reduceIte, Nat.reduceEqDiff, Nat.reduceLT, Nat.reduceLeDiff, reduceCtorEq, eq_self, FIT, lendCs_map, verC_map, FinC, resPs, resP, lendPl, lendCs, lendC, sealC, partsT, finHs, tupT, verT, verP, verC, verB, verAt, Blk.ver, handsAre, forall_const, CHT, disj, Nat.reduceBEq, beq_self_eq_true, APT, srcOf, sealPs, sealCs, sealC, toVs, Option.map_some, List.mem_singleton, forall_eq, ALT, UFk_1]
    simp only [RUN, core, T.c, T.s, T.b, T.i, sBin, sInt, sUn, isShift, asInt, P1.cells, loadT, ptrC, storeT, putC, fillP, Nat.reduceAdd, reduceIte, Nat.reduceEqDiff, Nat.reduceLT, Nat.reduceLeDiff, reduceCtorEq, eq_self, FIT, lendCs_map, verC_map, FinC, resPs, resP, lendPl, lendCs, lendC, sealC, partsT, finHs, tupT, verT, verP, verC, verB, verAt, Blk.ver, handsAre, forall_const, CHT, disj, Nat.reduceBEq, beq_self_eq_true, APT, srcOf, sealPs, sealCs, sealC, toVs, Option.map_some, List.mem_singleton, forall_eq, ALT, UFk_1, e2, eH2]
    refine callL (ws := [(1005, .arr (c + 3 + 3 + 2) false 1 9 (en eS (aft d.names d.moves)))]) (ns := [1005]) (keep_ok d hd hD (aft d.names d.moves) (by omega) (fun x hx => DOk.aft_made (n := d.moves.length) (by rw [List.take_length]; exact hx))) rfl ?_ rfl rfl ⟨?_, ?_⟩
    · simp only [RUN, core, T.c, T.s, T.b, T.i, sBin, sInt, sUn, isShift, asInt, P1.cells, loadT, ptrC, storeT, putC, fillP, Nat.reduceAdd, reduceIte, Nat.reduceEqDiff, Nat.reduceLT, Nat.reduceLeDiff, reduceCtorEq, eq_self, FIT, lendCs_map, verC_map, FinC, resPs, resP, lendPl, lendCs, lendC, sealC, partsT, finHs, tupT, verT, verP, verC, verB, verAt, Blk.ver, handsAre, forall_const, CHT, disj, Nat.reduceBEq, beq_self_eq_true, APT, srcOf, sealPs, sealCs, sealC, toVs, Option.map_some, List.mem_singleton, forall_eq, ALT, UFk_1, lendTs, lendT]
    · simp only [RUN, core, T.c, T.s, T.b, T.i, sBin, sInt, sUn, isShift, asInt, P1.cells, loadT, ptrC, storeT, putC, fillP, Nat.reduceAdd, reduceIte, Nat.reduceEqDiff, Nat.reduceLT, Nat.reduceLeDiff, reduceCtorEq, eq_self, FIT, lendCs_map, verC_map, FinC, resPs, resP, lendPl, lendCs, lendC, sealC, partsT, finHs, tupT, verT, verP, verC, verB, verAt, Blk.ver, handsAre, forall_const, CHT, disj, Nat.reduceBEq, beq_self_eq_true, APT, srcOf, sealPs, sealCs, sealC, toVs, Option.map_some, List.mem_singleton, forall_eq, ALT, UFk_1]
    simp only [RUN, core, T.c, T.s, T.b, T.i, sBin, sInt, sUn, isShift, asInt, P1.cells, loadT, ptrC, storeT, putC, fillP, Nat.reduceAdd, reduceIte, Nat.reduceEqDiff, Nat.reduceLT, Nat.reduceLeDiff, reduceCtorEq, eq_self, FIT, lendCs_map, verC_map, FinC, resPs, resP, lendPl, lendCs, lendC, sealC, partsT, finHs, tupT, verT, verP, verC, verB, verAt, Blk.ver, handsAre, forall_const, CHT, disj, Nat.reduceBEq, beq_self_eq_true, APT, srcOf, sealPs, sealCs, sealC, toVs, Option.map_some, List.mem_singleton, forall_eq, ALT, UFk_1, scalarT, scalarP, scalarC, List.all_cons, Bool.false_and, e4, eH4, keepD]
  have b5 : (w.kind == 5) = false := by simp [k5]
  by_cases kr : 1 ≤ w.kind ∧ w.kind ≤ 5
  rotate_left
  · refine pre (d, 5) (by simp only [doS, k1, k5, kr, if_true, if_false, not_false_eq_true]) ?_
    rintro X t1 H c v u2 u3 u4 u6 e2 eH2 e3 eH3 e4 eH4 e6 eH6 h1 h2 h3 e5
    simp only [T.c, T.i] at e2 eH2 e3 eH3 e4 eH4 e6 eH6 h1 h2 h3 e5
    have hx : (decide ((1 : Int) ≤ w.kind) && decide (w.kind ≤ 5)) = false := by
      rw [← Bool.decide_and]; exact decide_eq_false kr
    have hin := l6In_ok w.kind 1 5
    rw [hx] at hin
    simp only [RUN, core, T.c, T.s, T.b, T.i, sBin, sInt, sUn, isShift, asInt, P1.cells, loadT, ptrC, storeT, putC, fillP, Nat.reduceAdd, reduceIte, Nat.reduceEqDiff, Nat.reduceLT, Nat.reduceLeDiff, reduceCtorEq, eq_self, FIT, lendCs_map, verC_map, FinC, resPs, resP, lendPl, lendCs, lendC, sealC, partsT, finHs, tupT, verT, verP, verC, verB, verAt, Blk.ver, handsAre, forall_const, CHT, disj, Nat.reduceBEq, beq_self_eq_true, APT, srcOf, sealPs, sealCs, sealC, toVs, Option.map_some, List.mem_singleton, forall_eq, ALT, UFk_1, e3, eH3, b1, b5]
    refine callC hin rfl rfl rfl rfl ?_
    simp only [RUN, core, T.c, T.s, T.b, T.i, sBin, sInt, sUn, isShift, asInt, P1.cells, loadT, ptrC, storeT, putC, fillP, Nat.reduceAdd, reduceIte, Nat.reduceEqDiff, Nat.reduceLT, Nat.reduceLeDiff, reduceCtorEq, eq_self, FIT, lendCs_map, verC_map, FinC, resPs, resP, lendPl, lendCs, lendC, sealC, partsT, finHs, tupT, verT, verP, verC, verB, verAt, Blk.ver, handsAre, forall_const, CHT, disj, Nat.reduceBEq, beq_self_eq_true, APT, srcOf, sealPs, sealCs, sealC, toVs, Option.map_some, List.mem_singleton, forall_eq, ALT, UFk_1, e4, eH4, e6, eH6, h1, h2, h3]
  have hin := l6In_ok w.kind 1 5
  have hx : (decide ((1 : Int) ≤ w.kind) && decide (w.kind ≤ 5)) = true := by
    rw [← Bool.decide_and]; exact decide_eq_true kr
  rw [hx] at hin
  have hal := aft_len d.moves d.names
  cases hh : has (aft d.names d.moves) w.name with
  | false =>
    have hhas := has_ok (aft d.names d.moves) w.name (by omega)
    rw [hh] at hhas
    refine pre (d, 2) (by simp only [doS, k1, k5, kr, hh, if_true, if_false, not_true_eq_false, and_self]) ?_
    rintro X t1 H c v u2 u3 u4 u6 e2 eH2 e3 eH3 e4 eH4 e6 eH6 h1 h2 h3 e5
    simp only [T.c, T.i] at e2 eH2 e3 eH3 e4 eH4 e6 eH6 h1 h2 h3 e5
    simp only [RUN, core, T.c, T.s, T.b, T.i, sBin, sInt, sUn, isShift, asInt, P1.cells, loadT, ptrC, storeT, putC, fillP, Nat.reduceAdd, reduceIte, Nat.reduceEqDiff, Nat.reduceLT, Nat.reduceLeDiff, reduceCtorEq, eq_self, FIT, lendCs_map, verC_map, FinC, resPs, resP, lendPl, lendCs, lendC, sealC, partsT, finHs, tupT, verT, verP, verC, verB, verAt, Blk.ver, handsAre, forall_const, CHT, disj, Nat.reduceBEq, beq_self_eq_true, APT, srcOf, sealPs, sealCs, sealC, toVs, Option.map_some, List.mem_singleton, forall_eq, ALT, UFk_1, e3, eH3, b1, b5]
    refine callC hin rfl rfl rfl rfl ?_
    simp only [RUN, core, T.c, T.s, T.b, T.i, sBin, sInt, sUn, isShift, asInt, P1.cells, loadT, ptrC, storeT, putC, fillP, Nat.reduceAdd, reduceIte, Nat.reduceEqDiff, Nat.reduceLT, Nat.reduceLeDiff, reduceCtorEq, eq_self, FIT, lendCs_map, verC_map, FinC, resPs, resP, lendPl, lendCs, lendC, sealC, partsT, finHs, tupT, verT, verP, verC, verB, verAt, Blk.ver, handsAre, forall_const, CHT, disj, Nat.reduceBEq, beq_self_eq_true, APT, srcOf, sealPs, sealCs, sealC, toVs, Option.map_some, List.mem_singleton, forall_eq, ALT, UFk_1, e2, eH2, e3, eH3]
    refine callA1 (m := 1005) (ws := []) (ns := []) (hN 1005) rfl rfl rfl (en_flat eS eS_flat _) ⟨?_, ?_⟩
    · simp only [RUN, core, T.c, T.s, T.b, T.i, sBin, sInt, sUn, isShift, asInt, P1.cells, loadT, ptrC, storeT, putC, fillP, Nat.reduceAdd, reduceIte, Nat.reduceEqDiff, Nat.reduceLT, Nat.reduceLeDiff, reduceCtorEq, eq_self, FIT, lendCs_map, verC_map, FinC, resPs, resP, lendPl, lendCs, lendC, sealC, partsT, finHs, tupT, verT, verP, verC, verB, verAt, Blk.ver, handsAre, forall_const, CHT, disj, Nat.reduceBEq, beq_self_eq_true, APT, srcOf, sealPs, sealCs, sealC, toVs, Option.map_some, List.mem_singleton, forall_eq, ALT, UFk_1]
    simp only [RUN, core, T.c, T.s, T.b, T.i, sBin, sInt, sUn, isShift, asInt, P1.cells, loadT, ptrC, storeT, putC, fillP, Nat.reduceAdd, reduceIte, Nat.reduceEqDiff, Nat.reduceLT, Nat.reduceLeDiff, reduceCtorEq, eq_self, FIT, lendCs_map, verC_map, FinC, resPs, resP, lendPl, lendCs, lendC, sealC, partsT, finHs, tupT, verT, verP, verC, verB, verAt, Blk.ver, handsAre, forall_const, CHT, disj, Nat.reduceBEq, beq_self_eq_true, APT, srcOf, sealPs, sealCs, sealC, toVs, Option.map_some, List.mem_singleton, forall_eq, ALT, UFk_1, e3, eH3]
    refine callL (ws := [(1005, .arr (c + 3 + 3 + 4 + 1) false 1 9 (en eS (aft d.names d.moves)))]) (ns := [1005]) hhas rfl ?_ rfl rfl ⟨?_, ?_⟩
    · simp only [RUN, core, T.c, T.s, T.b, T.i, sBin, sInt, sUn, isShift, asInt, P1.cells, loadT, ptrC, storeT, putC, fillP, Nat.reduceAdd, reduceIte, Nat.reduceEqDiff, Nat.reduceLT, Nat.reduceLeDiff, reduceCtorEq, eq_self, FIT, lendCs_map, verC_map, FinC, resPs, resP, lendPl, lendCs, lendC, sealC, partsT, finHs, tupT, verT, verP, verC, verB, verAt, Blk.ver, handsAre, forall_const, CHT, disj, Nat.reduceBEq, beq_self_eq_true, APT, srcOf, sealPs, sealCs, sealC, toVs, Option.map_some, List.mem_singleton, forall_eq, ALT, UFk_1, lendTs, lendT]
    · simp only [RUN, core, T.c, T.s, T.b, T.i, sBin, sInt, sUn, isShift, asInt, P1.cells, loadT, ptrC, storeT, putC, fillP, Nat.reduceAdd, reduceIte, Nat.reduceEqDiff, Nat.reduceLT, Nat.reduceLeDiff, reduceCtorEq, eq_self, FIT, lendCs_map, verC_map, FinC, resPs, resP, lendPl, lendCs, lendC, sealC, partsT, finHs, tupT, verT, verP, verC, verB, verAt, Blk.ver, handsAre, forall_const, CHT, disj, Nat.reduceBEq, beq_self_eq_true, APT, srcOf, sealPs, sealCs, sealC, toVs, Option.map_some, List.mem_singleton, forall_eq, ALT, UFk_1, scalarT, scalarP, scalarC]
    simp only [RUN, core, T.c, T.s, T.b, T.i, sBin, sInt, sUn, isShift, asInt, P1.cells, loadT, ptrC, storeT, putC, fillP, Nat.reduceAdd, reduceIte, Nat.reduceEqDiff, Nat.reduceLT, Nat.reduceLeDiff, reduceCtorEq, eq_self, FIT, lendCs_map, verC_map, FinC, resPs, resP, lendPl, lendCs, lendC, sealC, partsT, finHs, tupT, verT, verP, verC, verB, verAt, Blk.ver, handsAre, forall_const, CHT, disj, Nat.reduceBEq, beq_self_eq_true, APT, srcOf, sealPs, sealCs, sealC, toVs, Option.map_some, List.mem_singleton, forall_eq, ALT, UFk_1, scalarT, scalarP, scalarC, e4, eH4, e6, eH6, h1, h2, h3]
  | true =>
  have hhas := has_ok (aft d.names d.moves) w.name (by omega)
  rw [hh] at hhas
  obtain ⟨i, hi1, hi2, hi3⟩ := hD.find (DOk.aft_made (n := d.moves.length) (x := w.name) (by rw [List.take_length]; exact has_true.1 hh))
  generalize hf : fileOf d.files w.name = f at *
  have hF := hD.files i f hi2
  have hfs := hF.data
  have ei := en_at eF hi2
  have gi : (0 : Int) ≤ i := by omega
  have gil := (List.getElem?_eq_some_iff.1 hi2).1
  have gil2 : (i : Int) < d.files.length := by omega
  have hfo := find_ok d.files w.name (by omega)
  rw [hi1] at hfo
  have tailpre : ∀ r, doS d w = r → (∀ (X : Ctx) (t1 : Nat → T) (H : HMap) (c v u2 u3 u4 u6 : Nat), t1 2 = .c (.ptr 2 u2 0) → H 2 = some (.var u2 34 [.v (.sl (en eF d.files)), .v (.sl (en eS d.names)), .v (.sl (en eM d.moves))]) → t1 3 = .c (.ptr 3 u3 0) → H 3 = some (.var u3 38 [.v (.s (.int .i64 w.kind)), .v (.s (.string w.name)), .v (.s (.string w.data))]) →
      t1 4 = .c (.ptr 4 u4 0) → H 4 = some (.var u4 34 [.nil0, .nil0, .nil0]) → t1 6 = .c (.ptr 6 u6 0) → H 6 = some (.var u6 34 [.own 1001 v d.files.length, .own 1002 v d.names.length, .own 1003 v d.moves.length]) → H 1001 = some (.arr v true 3 88 (en eF d.files)) → H 1002 = some (.arr v true 1 9 (en eS d.names)) → H 1003 = some (.arr v true 2 90 (en eM d.moves)) → t1 5 = .i 0 → t1 7 = .i i →
      wpa Try.prog X c9_64 (thenW Try.prog X (.seq (.reg r9_65) .ret) (endA (FinC s9 (tDkI r) []))) ⟨t1, H, c⟩) → ACallsF Try.prog 9 [tDk d, tDW w] [] (tDkI (doS d w)) := by
    intro r hr hrest
    refine pre r hr ?_
    rintro X t1 H c v u2 u3 u4 u6 e2 eH2 e3 eH3 e4 eH4 e6 eH6 h1 h2 h3 e5
    simp only [T.c, T.i] at e2 eH2 e3 eH3 e4 eH4 e6 eH6 h1 h2 h3 e5
    simp only [RUN, core, T.c, T.s, T.b, T.i, sBin, sInt, sUn, isShift, asInt, P1.cells, loadT, ptrC, storeT, putC, fillP, Nat.reduceAdd, reduceIte, Nat.reduceEqDiff, Nat.reduceLT, Nat.reduceLeDiff, reduceCtorEq, eq_self, FIT, lendCs_map, verC_map, FinC, resPs, resP, lendPl, lendCs, lendC, sealC, partsT, finHs, tupT, verT, verP, verC, verB, verAt, Blk.ver, handsAre, forall_const, CHT, disj, Nat.reduceBEq, beq_self_eq_true, APT, srcOf, sealPs, sealCs, sealC, toVs, Option.map_some, List.mem_singleton, forall_eq, ALT, UFk_3, e3, eH3, b1, b5]
    refine callC hin rfl rfl rfl rfl ?_
    simp only [RUN, core, T.c, T.s, T.b, T.i, sBin, sInt, sUn, isShift, asInt, P1.cells, loadT, ptrC, storeT, putC, fillP, Nat.reduceAdd, reduceIte, Nat.reduceEqDiff, Nat.reduceLT, Nat.reduceLeDiff, reduceCtorEq, eq_self, FIT, lendCs_map, verC_map, FinC, resPs, resP, lendPl, lendCs, lendC, sealC, partsT, finHs, tupT, verT, verP, verC, verB, verAt, Blk.ver, handsAre, forall_const, CHT, disj, Nat.reduceBEq, beq_self_eq_true, APT, srcOf, sealPs, sealCs, sealC, toVs, Option.map_some, List.mem_singleton, forall_eq, ALT, UFk_3, e2, eH2, e3, eH3]
    refine callA1 (m := 1005) (ws := []) (ns := []) (hN 1005) rfl rfl rfl (en_flat eS eS_flat _) ⟨?_, ?_⟩
    · simp only [RUN, core, T.c, T.s, T.b, T.i, sBin, sInt, sUn, isShift, asInt, P1.cells, loadT, ptrC, storeT, putC, fillP, Nat.reduceAdd, reduceIte, Nat.reduceEqDiff, Nat.reduceLT, Nat.reduceLeDiff, reduceCtorEq, eq_self, FIT, lendCs_map, verC_map, FinC, resPs, resP, lendPl, lendCs, lendC, sealC, partsT, finHs, tupT, verT, verP, verC, verB, verAt, Blk.ver, handsAre, forall_const, CHT, disj, Nat.reduceBEq, beq_self_eq_true, APT, srcOf, sealPs, sealCs, sealC, toVs, Option.map_some, List.mem_singleton, forall_eq, ALT, UFk_3]
    simp only [RUN, core, T.c, T.s, T.b, T.i, sBin, sInt, sUn, isShift, asInt, P1.cells, loadT, ptrC, storeT, putC, fillP, Nat.reduceAdd, reduceIte, Nat.reduceEqDiff, Nat.reduceLT, Nat.reduceLeDiff, reduceCtorEq, eq_self, FIT, lendCs_map, verC_map, FinC, resPs, resP, lendPl, lendCs, lendC, sealC, partsT, finHs, tupT, verT, verP, verC, verB, verAt, Blk.ver, handsAre, forall_const, CHT, disj, Nat.reduceBEq, beq_self_eq_true, APT, srcOf, sealPs, sealCs, sealC, toVs, Option.map_some, List.mem_singleton, forall_eq, ALT, UFk_3, e3, eH3]
    refine callL (ws := [(1005, .arr (c + 3 + 3 + 4 + 1) false 1 9 (en eS (aft d.names d.moves)))]) (ns := [1005]) hhas rfl ?_ rfl rfl ⟨?_, ?_⟩
    · simp only [RUN, core, T.c, T.s, T.b, T.i, sBin, sInt, sUn, isShift, asInt, P1.cells, loadT, ptrC, storeT, putC, fillP, Nat.reduceAdd, reduceIte, Nat.reduceEqDiff, Nat.reduceLT, Nat.reduceLeDiff, reduceCtorEq, eq_self, FIT, lendCs_map, verC_map, FinC, resPs, resP, lendPl, lendCs, lendC, sealC, partsT, finHs, tupT, verT, verP, verC, verB, verAt, Blk.ver, handsAre, forall_const, CHT, disj, Nat.reduceBEq, beq_self_eq_true, APT, srcOf, sealPs, sealCs, sealC, toVs, Option.map_some, List.mem_singleton, forall_eq, ALT, UFk_3, lendTs, lendT]
    · simp only [RUN, core, T.c, T.s, T.b, T.i, sBin, sInt, sUn, isShift, asInt, P1.cells, loadT, ptrC, storeT, putC, fillP, Nat.reduceAdd, reduceIte, Nat.reduceEqDiff, Nat.reduceLT, Nat.reduceLeDiff, reduceCtorEq, eq_self, FIT, lendCs_map, verC_map, FinC, resPs, resP, lendPl, lendCs, lendC, sealC, partsT, finHs, tupT, verT, verP, verC, verB, verAt, Blk.ver, handsAre, forall_const, CHT, disj, Nat.reduceBEq, beq_self_eq_true, APT, srcOf, sealPs, sealCs, sealC, toVs, Option.map_some, List.mem_singleton, forall_eq, ALT, UFk_3, scalarT, scalarP, scalarC]
    simp only [RUN, core, T.c, T.s, T.b, T.i, sBin, sInt, sUn, isShift, asInt, P1.cells, loadT, ptrC, storeT, putC, fillP, Nat.reduceAdd, reduceIte, Nat.reduceEqDiff, Nat.reduceLT, Nat.reduceLeDiff, reduceCtorEq, eq_self, FIT, lendCs_map, verC_map, FinC, resPs, resP, lendPl, lendCs, lendC, sealC, partsT, finHs, tupT, verT, verP, verC, verB, verAt, Blk.ver, handsAre, forall_const, CHT, disj, Nat.reduceBEq, beq_self_eq_true, APT, srcOf, sealPs, sealCs, sealC, toVs, Option.map_some, List.mem_singleton, forall_eq, ALT, UFk_3, scalarT, scalarP, scalarC, e2, eH2, e3, eH3]
    refine callC hfo rfl rfl rfl rfl ?_
    simp only [RUN, core, T.c, T.s, T.b, T.i, sBin, sInt, sUn, isShift, asInt, P1.cells, loadT, ptrC, storeT, putC, fillP, Nat.reduceAdd, reduceIte, Nat.reduceEqDiff, Nat.reduceLT, Nat.reduceLeDiff, reduceCtorEq, eq_self, FIT, lendCs_map, verC_map, FinC, resPs, resP, lendPl, lendCs, lendC, sealC, partsT, finHs, tupT, verT, verP, verC, verB, verAt, Blk.ver, handsAre, forall_const, CHT, disj, Nat.reduceBEq, beq_self_eq_true, APT, srcOf, sealPs, sealCs, sealC, toVs, Option.map_some, List.mem_singleton, forall_eq, ALT, UFk_3]
    exact hrest X _ _ _ v u2 u3 u4 u6 e2 eH2 e3 eH3 e4 eH4 e6 eH6 h1 h2 h3 e5 rfl
  by_cases k2 : w.kind = 2
  · have b2 : (w.kind == 2) = true := by simp [k2]
    have gw : IntKind.i64.wrap (20000 - (f.data.size : Int)) = 20000 - (f.data.size : Int) := wrap64 ⟨by omega, by omega⟩
    by_cases p : 20000 < f.data.size + w.data.size
    · refine tailpre (d, 4) (by have h21 : ¬ (2 : Int) = 1 := (by omega); have h25 : ¬ (2 : Int) = 5 := (by omega); have hr2 : (1 : Int) ≤ 2 ∧ (2 : Int) ≤ 5 := (by omega); simp only [doS, k2, h21, h25, hr2, hh, hf, p, if_true, if_false, not_true_eq_false, and_self, Bool.true_eq_false]) ?_
      rintro X t1 H c v u2 u3 u4 u6 e2 eH2 e3 eH3 e4 eH4 e6 eH6 h1 h2 h3 e5 e7
      simp only [T.c, T.i] at e2 eH2 e3 eH3 e4 eH4 e6 eH6 h1 h2 h3 e5 e7
      have p' : (w.data.size : Int) > 20000 - (f.data.size : Int) := by omega
      simp only [RUN, core, T.c, T.s, T.b, T.i, sBin, sInt, sUn, isShift, asInt, P1.cells, loadT, ptrC, storeT, putC, fillP, Nat.reduceAdd, reduceIte, Nat.reduceEqDiff, Nat.reduceLT, Nat.reduceLeDiff, reduceCtorEq, eq_self, FIT, lendCs_map, verC_map, FinC, resPs, resP, lendPl, lendCs, lendC, sealC, partsT, finHs, tupT, verT, verP, verC, verB, verAt, Blk.ver, handsAre, forall_const, CHT, disj, Nat.reduceBEq, beq_self_eq_true, APT, srcOf, sealPs, sealCs, sealC, toVs, Option.map_some, List.mem_singleton, forall_eq, ALT, UFk_1, e2, eH2, e3, eH3, e4, eH4, e6, eH6, e7, h1, h2, h3, b2, gi, ei, eF, gw, p']
    · refine tailpre (⟨d.files.set i ⟨f.name, f.data ++ w.data, f.kept⟩, d.names, d.moves⟩, 0) (by have h21 : ¬ (2 : Int) = 1 := (by omega); have h25 : ¬ (2 : Int) = 5 := (by omega); have hr2 : (1 : Int) ≤ 2 ∧ (2 : Int) ≤ 5 := (by omega); simp only [doS, k2, h21, h25, hr2, hh, hf, p, hi1, Int.toNat_natCast, if_true, if_false, not_true_eq_false, and_self, Bool.true_eq_false]) ?_
      rintro X t1 H c v u2 u3 u4 u6 e2 eH2 e3 eH3 e4 eH4 e6 eH6 h1 h2 h3 e5 e7
      simp only [T.c, T.i] at e2 eH2 e3 eH3 e4 eH4 e6 eH6 h1 h2 h3 e5 e7
      have p' : ¬ (w.data.size : Int) > 20000 - (f.data.size : Int) := by omega
      have hsz : f.data.size + w.data.size ≤ 9223372036854775807 := by omega
      have hn : (en eF d.files).set i [.s (.string f.name), .s (.string (f.data ++ w.data)), .s (.int .i64 f.kept)] = en eF (d.files.set i ⟨f.name, f.data ++ w.data, f.kept⟩) := en_set eF d.files i ⟨f.name, f.data ++ w.data, f.kept⟩
      have hts : List.take d.files.length (en eF (d.files.set i ⟨f.name, f.data ++ w.data, f.kept⟩)) = en eF (d.files.set i ⟨f.name, f.data ++ w.data, f.kept⟩) := List.take_of_length_le (by rw [en_len, List.length_set]; exact Nat.le_refl _)
      simp only [RUN, core, T.c, T.s, T.b, T.i, sBin, sInt, sUn, isShift, asInt, P1.cells, loadT, ptrC, storeT, putC, fillP, Nat.reduceAdd, reduceIte, Nat.reduceEqDiff, Nat.reduceLT, Nat.reduceLeDiff, reduceCtorEq, eq_self, FIT, lendCs_map, verC_map, FinC, resPs, resP, lendPl, lendCs, lendC, sealC, partsT, finHs, tupT, verT, verP, verC, verB, verAt, Blk.ver, handsAre, forall_const, CHT, disj, Nat.reduceBEq, beq_self_eq_true, APT, srcOf, sealPs, sealCs, sealC, toVs, Option.map_some, List.mem_singleton, forall_eq, ALT, UFk_1, e2, eH2, e3, eH3, e4, eH4, e6, eH6, e7, h1, h2, h3, b2, gi, gil2, ei, eF, gw, p', sStr, hsz, hn, hts, List.length_set]
  have b2 : (w.kind == 2) = false := by simp [k2]
  by_cases k3 : w.kind = 3
  · have b3 : (w.kind == 3) = true := by simp [k3]
    refine tailpre (⟨d.files.set i ⟨f.name, f.data, f.data.size⟩, d.names, d.moves⟩, 0) (by have h21 : ¬ (3 : Int) = 1 := (by omega); have h25 : ¬ (3 : Int) = 5 := (by omega); have h32 : ¬ (3 : Int) = 2 := (by omega); have hr2 : (1 : Int) ≤ 3 ∧ (3 : Int) ≤ 5 := (by omega); simp only [doS, k3, h21, h25, h32, hr2, hh, hf, hi1, Int.toNat_natCast, if_true, if_false, not_true_eq_false, and_self, Bool.true_eq_false]) ?_
    rintro X t1 H c v u2 u3 u4 u6 e2 eH2 e3 eH3 e4 eH4 e6 eH6 h1 h2 h3 e5 e7
    simp only [T.c, T.i] at e2 eH2 e3 eH3 e4 eH4 e6 eH6 h1 h2 h3 e5 e7
    have hn : (en eF d.files).set i [.s (.string f.name), .s (.string f.data), .s (.int .i64 (f.data.size : Int))] = en eF (d.files.set i ⟨f.name, f.data, f.data.size⟩) := en_set eF d.files i ⟨f.name, f.data, f.data.size⟩
    have hts : List.take d.files.length (en eF (d.files.set i ⟨f.name, f.data, f.data.size⟩)) = en eF (d.files.set i ⟨f.name, f.data, f.data.size⟩) := List.take_of_length_le (by rw [en_len, List.length_set]; exact Nat.le_refl _)
    simp only [RUN, core, T.c, T.s, T.b, T.i, sBin, sInt, sUn, isShift, asInt, P1.cells, loadT, ptrC, storeT, putC, fillP, Nat.reduceAdd, reduceIte, Nat.reduceEqDiff, Nat.reduceLT, Nat.reduceLeDiff, reduceCtorEq, eq_self, FIT, lendCs_map, verC_map, FinC, resPs, resP, lendPl, lendCs, lendC, sealC, partsT, finHs, tupT, verT, verP, verC, verB, verAt, Blk.ver, handsAre, forall_const, CHT, disj, Nat.reduceBEq, beq_self_eq_true, APT, srcOf, sealPs, sealCs, sealC, toVs, Option.map_some, List.mem_singleton, forall_eq, ALT, UFk_1, e2, eH2, e3, eH3, e4, eH4, e6, eH6, e7, h1, h2, h3, b2, b3, gi, gil2, ei, eF, hn, hts, List.length_set]
  have b3 : (w.kind == 3) = false := by simp [k3]
  by_cases p : 128 ≤ d.moves.length
  · refine tailpre (d, 4) (by simp only [doS, k1, k5, k2, k3, kr, hh, p, if_true, if_false, not_true_eq_false, and_self, Bool.true_eq_false]) ?_
    rintro X t1 H c v u2 u3 u4 u6 e2 eH2 e3 eH3 e4 eH4 e6 eH6 h1 h2 h3 e5 e7
    simp only [T.c, T.i] at e2 eH2 e3 eH3 e4 eH4 e6 eH6 h1 h2 h3 e5 e7
    have p' : (128 : Int) ≤ d.moves.length := by omega
    simp only [RUN, core, T.c, T.s, T.b, T.i, sBin, sInt, sUn, isShift, asInt, P1.cells, loadT, ptrC, storeT, putC, fillP, Nat.reduceAdd, reduceIte, Nat.reduceEqDiff, Nat.reduceLT, Nat.reduceLeDiff, reduceCtorEq, eq_self, FIT, lendCs_map, verC_map, FinC, resPs, resP, lendPl, lendCs, lendC, sealC, partsT, finHs, tupT, verT, verP, verC, verB, verAt, Blk.ver, handsAre, forall_const, CHT, disj, Nat.reduceBEq, beq_self_eq_true, APT, srcOf, sealPs, sealCs, sealC, toVs, Option.map_some, List.mem_singleton, forall_eq, ALT, UFk_1, e2, eH2, e3, eH3, e4, eH4, e6, eH6, e7, h1, h2, h3, b2, b3, ge_iff_le, p']
  · refine tailpre (⟨d.files, d.names, d.moves ++ [⟨true, w.name⟩]⟩, 0) (by simp only [doS, k1, k5, k2, k3, kr, hh, p, if_true, if_false, not_true_eq_false, and_self, Bool.true_eq_false]) ?_
    rintro X t1 H c v u2 u3 u4 u6 e2 eH2 e3 eH3 e4 eH4 e6 eH6 h1 h2 h3 e5 e7
    simp only [T.c, T.i] at e2 eH2 e3 eH3 e4 eH4 e6 eH6 h1 h2 h3 e5 e7
    have p' : ¬ (128 : Int) ≤ d.moves.length := by omega
    have q3 : (d.moves.length + 1) * 24 ≤ 140737488355328 := by omega
    have q4 : d.moves.length + 1 ≤ 9223372036854775807 := by omega
    simp only [RUN, core, T.c, T.s, T.b, T.i, sBin, sInt, sUn, isShift, asInt, P1.cells, loadT, ptrC, storeT, putC, fillP, Nat.reduceAdd, reduceIte, Nat.reduceEqDiff, Nat.reduceLT, Nat.reduceLeDiff, reduceCtorEq, eq_self, FIT, lendCs_map, verC_map, FinC, resPs, resP, lendPl, lendCs, lendC, sealC, partsT, finHs, tupT, verT, verP, verC, verB, verAt, Blk.ver, handsAre, forall_const, CHT, disj, Nat.reduceBEq, beq_self_eq_true, APT, srcOf, sealPs, sealCs, sealC, toVs, Option.map_some, List.mem_singleton, forall_eq, ALT, UFk_1, e2, eH2, e3, eH3, e4, eH4, e6, eH6, e7, h1, h2, h3, b2, b3, ge_iff_le, p', q3, q4, en_snoc, en_take1, eM]
end Go.V
set_option linter.unusedSimpArgs false
namespace Go.V
open Go.Proofs
/-- The place of a name, -1 if it is not there. -/
def ix (ns : List ByteArray) (nm : ByteArray) : Int := match ns.findIdx? fun x => decide (x = nm) with
  | some i => i
  | none => -1
theorem ix_at {ns : List ByteArray} {nm : ByteArray} {i : Nat} (hi : ns[i]? = some nm) (hb : ∀ (j : Nat), j < i → ns[j]? ≠ some nm) : ix ns nm = i := by
  have : (ns.findIdx? fun x => decide (x = nm)) = some i := by
    rw [List.findIdx?_eq_some_iff_getElem]
    have hlt := (List.getElem?_eq_some_iff.1 hi).1
    have he := (List.getElem?_eq_some_iff.1 hi).2
    refine ⟨hlt, by rw [he]; simp, fun j hj => ?_⟩
    have := hb j hj
    rw [List.getElem?_eq_getElem (by omega)] at this
    simpa using this
  simp only [ix, this]
theorem ix_no {ns : List ByteArray} {nm : ByteArray} (hb : ∀ (j : Nat), ns[j]? ≠ some nm) : ix ns nm = -1 := by
  have : (ns.findIdx? fun x => decide (x = nm)) = none := by
    rw [List.findIdx?_eq_none_iff]
    intro x hx
    obtain ⟨j, hj⟩ := List.mem_iff_getElem?.1 hx
    have := hb j
    rw [hj] at this
    simpa using this
  simp only [ix, this]
theorem ix_case (ns : List ByteArray) (nm : ByteArray) : (∃ i : Nat, ix ns nm = i ∧ ns[i]? = some nm ∧ ∀ (j : Nat), j < i → ns[j]? ≠ some nm) ∨ (ix ns nm = -1 ∧ nm ∉ ns) := by
  by_cases h : nm ∈ ns
  · obtain ⟨i, hi, hmin⟩ : ∃ i : Nat, ns[i]? = some nm ∧ ∀ (j : Nat), j < i → ns[j]? ≠ some nm := by
      obtain ⟨k, hk⟩ := List.mem_iff_getElem?.1 h
      induction k using Nat.strongRecOn with
      | _ k ih =>
        by_cases hm : ∃ j, j < k ∧ ns[j]? = some nm
        · obtain ⟨j, h1, h2⟩ := hm; exact ih j h1 h2
        · exact ⟨k, hk, fun j hj e => hm ⟨j, hj, e⟩⟩
    exact .inl ⟨i, ix_at hi hmin, hi, hmin⟩
  · exact .inr ⟨ix_no fun j hj => h (List.mem_of_getElem? hj), h⟩
/- slices.Index[[]string,string] -/
def r151_0 : List AOper := [ao 0 4 (.mv (.k (.i 0)))]
def r151_1 : List AOper := [ao 0 6 (.mv (.t 0)),
  ao 1 7 (.len (.t 6)),
  ao 2 8 (.mv (.k (.i 0)))]
def r151_2 : List AOper := [ao 0 9 (.bin .lss (.t 8) (.t 7))]
def c151_3 : ACode := .cond (.t 9) .skip (.exit 0)
def r151_4 : List AOper := [ao 0 10 (.mv (.t 8)),
  ao 1 5 (.mv (.t 10))]
def r151_5 : List AOper := [ao 0 11 (.mv (.t 1)),
  ao 1 12 (.mv (.t 0)),
  ao 2 13 (.mv (.t 5)),
  ao 3 14 (.ia 1 (.t 12) (.t 13)),
  ao 4 15 (.ld 1 false (.t 14)),
  ao 5 16 (.bin .eql (.t 11) (.t 15))]
def r151_6 : List AOper := [ao 0 17 (.mv (.t 5)),
  ao 1 4 (.mv (.t 17))]
def c151_7 : ACode := .seq (.reg r151_6) .ret
def c151_8 : ACode := .cond (.t 16) c151_7 .skip
def c151_9 : ACode := .seq (.reg r151_4) (.seq (.reg r151_5) c151_8)
def c151_10 : ACode := .block 1 c151_9
def r151_11 : List AOper := [ao 0 18 (.bin .add (.t 8) (.k (.i 1))),
  ao 1 8 (.mv (.t 18))]
def c151_12 : ACode := .seq (.reg r151_2) (.seq c151_3 (.seq c151_10 (.reg r151_11)))
def c151_13 : ACode := .loop c151_12
def c151_14 : ACode := .block 0 c151_13
def c151_15 : ACode := .seq (.reg r151_1) c151_14
def r151_16 : List AOper := [ao 0 4 (.mv (.k (.i (-1))))]
def c151 : ACode := .seq (.reg r151_0) (.seq c151_15 (.seq (.reg r151_16) .ret))
def s151 : List ARes := [.tmp 4]
theorem ok151 : okF Try.prog 151 19 c151 s151 := ⟨Try.f151, Try.func151, Try.ntmps151, by kernel_rfl, by kernel_rfl, by kernel_rfl⟩
def inv151 (ns : List ByteArray) (nm : ByteArray) (i : Nat) (σ : St) : Prop := (∀ (j : Nat), j < i → ns[j]? ≠ some nm) ∧ σ.t 0 = tL (en eS ns) ∧ σ.t 1 = tS nm ∧ σ.t 7 = .i ns.length ∧ σ.t 8 = .i i
theorem UFl_1 : (type_of% (uA c151.eq_1)) ∧ (type_of% (uR r151_0.eq_1)) ∧ (type_of% (uA c151_15.eq_1)) ∧ (type_of% (uR r151_1.eq_1)) ∧ (type_of% (uA c151_14.eq_1)) ∧ (type_of% (uA c151_13.eq_1)) ∧ (type_of% (uR r151_16.eq_1)) ∧ (type_of% s151.eq_1) :=
  ⟨uA c151.eq_1, uR r151_0.eq_1, uA c151_15.eq_1, uR r151_1.eq_1, uA c151_14.eq_1, uA c151_13.eq_1, uR r151_16.eq_1, s151.eq_1⟩
theorem UFl_8 : (type_of% (uA c151_12.eq_1)) ∧ (type_of% (uR r151_2.eq_1)) ∧ (type_of% (uA c151_3.eq_1)) ∧ (type_of% (uA c151_10.eq_1)) ∧ (type_of% (uA c151_9.eq_1)) ∧ (type_of% (uR r151_4.eq_1)) ∧ (type_of% (uR r151_5.eq_1)) ∧ (type_of% (uA c151_8.eq_1)) ∧ (type_of% (uA c151_7.eq_1)) ∧ (type_of% (uR r151_6.eq_1)) ∧ (type_of% (uR r151_11.eq_1)) ∧ (type_of% (uA c151.eq_1)) ∧ (type_of% (uR r151_0.eq_1)) ∧ (type_of% (uA c151_15.eq_1)) ∧ (type_of% (uR r151_1.eq_1)) ∧ (type_of% (uA c151_14.eq_1)) ∧ (type_of% (uA c151_13.eq_1)) ∧ (type_of% (uR r151_16.eq_1)) ∧ (type_of% s151.eq_1) :=
  ⟨uA c151_12.eq_1, uR r151_2.eq_1, uA c151_3.eq_1, uA c151_10.eq_1, uA c151_9.eq_1, uR r151_4.eq_1, uR r151_5.eq_1, uA c151_8.eq_1, uA c151_7.eq_1, uR r151_6.eq_1, uR r151_11.eq_1, uA c151.eq_1, uR r151_0.eq_1, uA c151_15.eq_1, uR r151_1.eq_1, uA c151_14.eq_1, uA c151_13.eq_1, uR r151_16.eq_1, s151.eq_1⟩
theorem index_ok (ns : List ByteArray) (nm : ByteArray) (hl : ns.length ≤ 9000000000000000000) : ACallsF Try.prog 151 [tL (en eS ns), tS nm] [] (.i (ix ns nm)) := by
  refine ACallsF.intro ok151 follows fun X c0 => ?_
  simp only [RUN, core, T.c, T.s, T.b, T.i, sBin, sInt, sUn, isShift, asInt, P1.cells, loadT, ptrC, storeT, putC, fillP, Nat.reduceAdd, reduceIte, Nat.reduceEqDiff, Nat.reduceLT, Nat.reduceLeDiff, reduceCtorEq, eq_self, FIT, lendCs_map, verC_map, FinC, resPs, resP, lendPl, lendCs, lendC, sealC, partsT, finHs, tupT, verT, verP, verC, verB, verAt, Blk.ver, handsAre, forall_const, CHT, disj, Nat.reduceBEq, beq_self_eq_true, APT, srcOf, sealPs, sealCs, sealC, toVs, Option.map_some, List.mem_singleton, forall_eq, ALT, UFl_1]
  refine AW.upto ns.length (inv151 ns nm) ⟨fun j hj => absurd hj (Nat.not_lt_zero j), rfl, rfl, rfl, rfl⟩ fun i t H c hi h => ?_
  obtain ⟨g, e0, e1, e7, e8⟩ := h
  simp only [T.c, T.i, T.s, tL] at e0 e1 e7 e8
  by_cases hlt : i < ns.length
  · obtain ⟨x, hx⟩ : ∃ x, ns[i]? = some x := ⟨_, List.getElem?_eq_getElem hlt⟩
    have ex := en_at eS hx
    have k1 : (i : Int) < ns.length := by omega
    have gz : (0 : Int) ≤ i := by omega
    have gw : IntKind.i64.wrap ((i : Int) + 1) = ((i + 1 : Nat) : Int) := wrap64 (x := (i : Int) + 1) ⟨by omega, by omega⟩
    by_cases hn : nm = x
    · have hr : ix ns nm = i := ix_at (by rw [hx, hn]) g
      simp only [RUN, core, T.c, T.s, T.b, T.i, sBin, sInt, sUn, isShift, asInt, P1.cells, loadT, ptrC, storeT, putC, fillP, Nat.reduceAdd, reduceIte, Nat.reduceEqDiff, Nat.reduceLT, Nat.reduceLeDiff, reduceCtorEq, eq_self, FIT, lendCs_map, verC_map, FinC, resPs, resP, lendPl, lendCs, lendC, sealC, partsT, finHs, tupT, verT, verP, verC, verB, verAt, Blk.ver, handsAre, forall_const, CHT, disj, Nat.reduceBEq, beq_self_eq_true, APT, srcOf, sealPs, sealCs, sealC, toVs, Option.map_some, List.mem_singleton, forall_eq, ALT, UFl_8, UFl_1, e0, e1, e7, e8, en_len, k1, gz, ex, eS, sStr, str_beq, hn, decide_true]
      rw [← hn, hr]
    · simp only [RUN, core, T.c, T.s, T.b, T.i, sBin, sInt, sUn, isShift, asInt, P1.cells, loadT, ptrC, storeT, putC, fillP, Nat.reduceAdd, reduceIte, Nat.reduceEqDiff, Nat.reduceLT, Nat.reduceLeDiff, reduceCtorEq, eq_self, FIT, lendCs_map, verC_map, FinC, resPs, resP, lendPl, lendCs, lendC, sealC, partsT, finHs, tupT, verT, verP, verC, verB, verAt, Blk.ver, handsAre, forall_const, CHT, disj, Nat.reduceBEq, beq_self_eq_true, APT, srcOf, sealPs, sealCs, sealC, toVs, Option.map_some, List.mem_singleton, forall_eq, ALT, UFl_8, e0, e1, e7, e8, en_len, k1, gz, ex, eS, sStr, str_beq, hn, gw]
      exact ⟨hlt, fun j hj => (by rcases Nat.lt_succ_iff_lt_or_eq.1 hj with hj | rfl; exact g j hj; rw [hx]; exact fun e => hn (Option.some.inj e).symm), e0, e1, e7, rfl⟩
  · have k1 : ¬ (i : Int) < ns.length := by omega
    have hr : ix ns nm = -1 := ix_no fun j hj => g j (by have := (List.getElem?_eq_some_iff.1 hj).1; omega) hj
    simp only [RUN, core, T.c, T.s, T.b, T.i, sBin, sInt, sUn, isShift, asInt, P1.cells, loadT, ptrC, storeT, putC, fillP, Nat.reduceAdd, reduceIte, Nat.reduceEqDiff, Nat.reduceLT, Nat.reduceLeDiff, reduceCtorEq, eq_self, FIT, lendCs_map, verC_map, FinC, resPs, resP, lendPl, lendCs, lendC, sealC, partsT, finHs, tupT, verT, verP, verC, verB, verAt, Blk.ver, handsAre, forall_const, CHT, disj, Nat.reduceBEq, beq_self_eq_true, APT, srcOf, sealPs, sealCs, sealC, toVs, Option.map_some, List.mem_singleton, forall_eq, ALT, UFl_8, UFl_1, e0, e1, e7, e8, en_len, k1, hr]
/- slices.Contains[[]string,string] -/
def r102_0 : List AOper := [ao 0 4 (.mv (.k (.b false)))]
def r102_1 : List AOper := [ao 0 5 (.mv (.t 0)),
  ao 1 6 (.mv (.t 1)),
  ao 2 7 (.call (.k (.c (.fn 151 []))) [(.t 5), (.t 6)]),
  ao 3 8 (.bin .geq (.t 7) (.k (.i 0))),
  ao 4 4 (.mv (.t 8))]
def c102 : ACode := .seq (.reg r102_0) (.seq (.reg r102_1) .ret)
def s102 : List ARes := [.tmp 4]
theorem ok102 : okF Try.prog 102 9 c102 s102 := ⟨Try.f102, Try.func102, Try.ntmps102, by kernel_rfl, by kernel_rfl, by kernel_rfl⟩
theorem UFl_2 : (type_of% (uA c102.eq_1)) ∧ (type_of% (uR r102_0.eq_1)) ∧ (type_of% (uR r102_1.eq_1)) ∧ (type_of% s102.eq_1) :=
  ⟨uA c102.eq_1, uR r102_0.eq_1, uR r102_1.eq_1, s102.eq_1⟩
theorem contains_ok (ns : List ByteArray) (nm : ByteArray) (hl : ns.length ≤ 9000000000000000000) : ACallsF Try.prog 102 [tL (en eS ns), tS nm] [] (.b (has ns nm)) := by
  refine ACallsF.intro ok102 follows fun X c0 => ?_
  simp only [RUN, core, T.c, T.s, T.b, T.i, sBin, sInt, sUn, isShift, asInt, P1.cells, loadT, ptrC, storeT, putC, fillP, Nat.reduceAdd, reduceIte, Nat.reduceEqDiff, Nat.reduceLT, Nat.reduceLeDiff, reduceCtorEq, eq_self, FIT, lendCs_map, verC_map, FinC, resPs, resP, lendPl, lendCs, lendC, sealC, partsT, finHs, tupT, verT, verP, verC, verB, verAt, Blk.ver, handsAre, forall_const, CHT, disj, Nat.reduceBEq, beq_self_eq_true, APT, srcOf, sealPs, sealCs, sealC, toVs, Option.map_some, List.mem_singleton, forall_eq, ALT, UFl_2]
  refine callC (index_ok ns nm hl) rfl rfl rfl rfl ?_
  rcases ix_case ns nm with ⟨i, h1, h2, _⟩ | ⟨h1, h2⟩
  · have h3 : has ns nm = true := has_true.2 (List.mem_of_getElem? h2)
    have h4 : (0 : Int) ≤ i := by omega
    simp only [RUN, core, T.c, T.s, T.b, T.i, sBin, sInt, sUn, isShift, asInt, P1.cells, loadT, ptrC, storeT, putC, fillP, Nat.reduceAdd, reduceIte, Nat.reduceEqDiff, Nat.reduceLT, Nat.reduceLeDiff, reduceCtorEq, eq_self, FIT, lendCs_map, verC_map, FinC, resPs, resP, lendPl, lendCs, lendC, sealC, partsT, finHs, tupT, verT, verP, verC, verB, verAt, Blk.ver, handsAre, forall_const, CHT, disj, Nat.reduceBEq, beq_self_eq_true, APT, srcOf, sealPs, sealCs, sealC, toVs, Option.map_some, List.mem_singleton, forall_eq, ALT, UFl_2, h1, h3, ge_iff_le, h4]
  · have h3 : has ns nm = false := has_false.2 h2
    have h4 : ¬ (0 : Int) ≤ -1 := by omega
    simp only [RUN, core, T.c, T.s, T.b, T.i, sBin, sInt, sUn, isShift, asInt, P1.cells, loadT, ptrC, storeT, putC, fillP, Nat.reduceAdd, reduceIte, Nat.reduceEqDiff, Nat.reduceLT, Nat.reduceLeDiff, reduceCtorEq, eq_self, FIT, lendCs_map, verC_map, FinC, resPs, resP, lendPl, lendCs, lendC, sealC, partsT, finHs, tupT, verT, verP, verC, verB, verAt, Blk.ver, handsAre, forall_const, CHT, disj, Nat.reduceBEq, beq_self_eq_true, APT, srcOf, sealPs, sealCs, sealC, toVs, Option.map_some, List.mem_singleton, forall_eq, ALT, UFl_2, h1, h3, ge_iff_le, h4]
/-- A variable that a function looks at. -/
abbrev capH (n m u : Nat) (ty : TypeId) (xs : List V) : Hand := ⟨n, m, some (.var u ty (xs.map .v)), .var u ty (xs.map .v), true⟩
section
variable {P : Program} {t : Nat → T} {H : HMap} {c : Nat} {f : Opd} {args : List Opd} {fid : FuncId} {n m u : Nat} {ty : TypeId} {xs : List V} {r : T} {k : Nat} {d : Option Nat} {un : List Nat} {l : List AOper} {prev : List (Nat × List Nat × List Nat)} {K : St → Prop}
theorem cap_parts (n m u : Nat) (ty : TypeId) (xs : List V) (H : HMap) : renN [capH n m u ty xs] n = some (capH n m u ty xs) ∧ inN [capH n m u ty xs] n = some m ∧ renIB [capH n m u ty xs] (.var u ty (xs.map .v)) = some (.var u ty (xs.map .v)) ∧ ∀ nv, renOBs [capH n m u ty xs] nv [capH n m u ty xs] = some [(m, .var u ty (xs.map .v))] := by
  have hcl : (xs.map C.v).all closedC = true := by simp [closedC]
  have hN : renN [capH n m u ty xs] n = some (capH n m u ty xs) := by simp [renN]
  refine ⟨hN, by simp [inN, hN], by simp only [renIB, (closed_Cs _ H (xs.map .v) hcl).2.1, Option.map_some], fun nv => ?_⟩
  simp only [renOBs, renOB, verOf, Blk.ver, if_true]
  rw [(closed_Cs _ H (xs.map .v) hcl).2.2]
  rfl
/-- A call of a function that has a variable with it. -/
theorem callCap {a : T} (hC : ACallsF P fid [a, .c (.ptr n u 0)] [capH n m u ty xs] r) (hf : ev t f = .pt (.one (.fn fid [(m, u)]))) (hl : args.map (ev t) = [a]) (ha : closedA a = true) (hr : closedT r = true) (hH : H m = some (.var u ty (xs.map .v)))
    (hk : chk prev un ⟨r, [(m, .var u ty (xs.map .v))], [m], [m]⟩ = true ∧ DRun P l ((k, [m], [m]) :: prev) K ⟨updD t d r, upd H m (some (.var u ty (xs.map .v))), c⟩) :
    step P k d un (.call f args) l prev K t H c := by
  obtain ⟨p1, p2, p3, p4⟩ := cap_parts n m u ty xs H
  obtain ⟨x1, x2⟩ := closed_A [capH n m u ty xs] H a ha
  refine callW (caps := [(m, u)]) («as» := [a, .c (.ptr m u 0)]) (ws := []) (ns := []) (r' := r) (ob := [(m, .var u ty (xs.map .v))]) [capH n m u ty xs] hC hf ?_ ?_ ⟨?_, trivial⟩ (by simp) (by simp) (closed_T _ r hr _) (p4 _) ?_
  · have a1 : lendT H (T.c (.ptr n u 0)) (capT (m, u)) = some (T.c (.ptr m u 0), [], []) := rfl
    rw [hl]
    simp only [List.map_cons, List.map_nil, List.cons_append, List.nil_append, lendTs, x1, a1]
  · have a1 : renIT [capH n m u ty xs] (T.c (.ptr n u 0)) = some (T.c (.ptr m u 0)) := by simp only [T.c, renIT, renI, p2, Option.map_some]
    simp only [renITs, x2, a1]
  · show (match renIB [capH n m u ty xs] (.var u ty (xs.map .v)) with | some B => (updH H []) m = some B | none => False)
    rw [p3]; exact hH
  · have hq : quiet r [capH n m u ty xs] = false := by simp [quiet]
    simpa [hq, updH] using hk
/-- A call that is handed a function with a variable. -/
theorem callFn {a : T} {g : FuncId} (hC : ACallsF P fid [a, .c (.fn g [(n, u)])] [capH n m u ty xs] r) (hf : ev t f = .pt (.one (.fn fid []))) (hl : args.map (ev t) = [a, .c (.fn g [(m, u)])]) (ha : closedA a = true) (hr : closedT r = true) (hH : H m = some (.var u ty (xs.map .v)))
    (hk : chk prev un ⟨r, [(m, .var u ty (xs.map .v))], [m], [m]⟩ = true ∧ DRun P l ((k, [m], [m]) :: prev) K ⟨updD t d r, upd H m (some (.var u ty (xs.map .v))), c⟩) :
    step P k d un (.call f args) l prev K t H c := by
  obtain ⟨p1, p2, p3, p4⟩ := cap_parts n m u ty xs H
  obtain ⟨x1, x2⟩ := closed_A [capH n m u ty xs] H a ha
  refine callW (caps := []) («as» := [a, .c (.fn g [(m, u)])]) (ws := []) (ns := []) (r' := r) (ob := [(m, .var u ty (xs.map .v))]) [capH n m u ty xs] hC hf ?_ ?_ ⟨?_, trivial⟩ (by simp) (by simp) (closed_T _ r hr _) (p4 _) ?_
  · have a1 : lendT H (T.c (.fn g [(n, u)])) (T.c (.fn g [(m, u)])) = some (T.c (.fn g [(m, u)]), [], []) := rfl
    rw [hl]
    simp only [List.map_nil, List.append_nil, lendTs, x1, a1]
  · have a1 : renIT [capH n m u ty xs] (T.c (.fn g [(n, u)])) = some (T.c (.fn g [(m, u)])) := by simp only [T.c, renIT, renI, capsI, p2, Option.map_some]
    simp only [renITs, x2, a1]
  · show (match renIB [capH n m u ty xs] (.var u ty (xs.map .v)) with | some B => (updH H []) m = some B | none => False)
    rw [p3]; exact hH
  · have hq : quiet r [capH n m u ty xs] = false := by simp [quiet]
    simpa [hq, updH] using hk
end
/- (loop.example/teagle/impl.Disk).fileAt$1 -/
def r154_0 : List AOper := [ao 0 2 (.box 88 (.t 0)),
  ao 1 3 (.mv (.k (.b false)))]
def r154_1 : List AOper := [ao 0 4 (.fa 0 (.t 2)),
  ao 1 5 (.ld 1 false (.t 4)),
  ao 2 6 (.ld 1 false (.t 1)),
  ao 3 7 (.bin .eql (.t 5) (.t 6)),
  ao 4 3 (.mv (.t 7))]
def c154 : ACode := .seq (.reg r154_0) (.seq (.reg r154_1) .ret)
def s154 : List ARes := [.tmp 3]
theorem ok154 : okF Try.prog 154 8 c154 s154 := ⟨Try.f154, Try.func154, Try.ntmps154, by kernel_rfl, by kernel_rfl, by kernel_rfl⟩
theorem UFl_3 : (type_of% (uA c154.eq_1)) ∧ (type_of% (uR r154_0.eq_1)) ∧ (type_of% (uR r154_1.eq_1)) ∧ (type_of% s154.eq_1) :=
  ⟨uA c154.eq_1, uR r154_0.eq_1, uR r154_1.eq_1, s154.eq_1⟩
theorem nameIs_ok (f : DF) (nm : ByteArray) (n m u : Nat) (hn : n ≠ 2) : ACallsF Try.prog 154 [tDF f, .c (.ptr n u 0)] [capH n m u 9 [.s (.string nm)]] (.b (decide (f.name = nm))) := by
  refine ACallsF.intro ok154 follows fun X c0 => ?_
  simp only [RUN, core, T.c, T.s, T.b, T.i, sBin, sInt, sUn, isShift, asInt, P1.cells, loadT, ptrC, storeT, putC, fillP, Nat.reduceAdd, reduceIte, Nat.reduceEqDiff, Nat.reduceLT, Nat.reduceLeDiff, reduceCtorEq, eq_self, FIT, lendCs_map, verC_map, FinC, resPs, resP, lendPl, lendCs, lendC, sealC, partsT, finHs, tupT, verT, verP, verC, verB, verAt, Blk.ver, handsAre, forall_const, CHT, disj, Nat.reduceBEq, beq_self_eq_true, APT, srcOf, sealPs, sealCs, sealC, toVs, Option.map_some, List.mem_singleton, forall_eq, ALT, UFl_3, hn, hn.symm, ne_eq, sStr, str_beq]
/- slices.IndexFunc[[]loop.example/teagle/impl.DiskFile,loop.example/teagle/impl.DiskFile] -/
def r153_0 : List AOper := [ao 0 4 (.mv (.k (.i 0)))]
def r153_1 : List AOper := [ao 0 6 (.mv (.t 0)),
  ao 1 7 (.len (.t 6)),
  ao 2 8 (.mv (.k (.i 0)))]
def r153_2 : List AOper := [ao 0 9 (.bin .lss (.t 8) (.t 7))]
def c153_3 : ACode := .cond (.t 9) .skip (.exit 0)
def r153_4 : List AOper := [ao 0 10 (.mv (.t 8)),
  ao 1 5 (.mv (.t 10))]
def r153_5 : List AOper := [ao 0 11 (.mv (.t 1)),
  ao 1 12 (.mv (.t 0)),
  ao 2 13 (.mv (.t 5)),
  ao 3 14 (.ia 3 (.t 12) (.t 13)),
  ao 4 15 (.ld 3 true (.t 14)),
  ao 5 16 (.call (.t 11) [(.t 15)])]
def r153_6 : List AOper := [ao 0 17 (.mv (.t 5)),
  ao 1 4 (.mv (.t 17))]
def c153_7 : ACode := .seq (.reg r153_6) .ret
def c153_8 : ACode := .cond (.t 16) c153_7 .skip
def c153_9 : ACode := .seq (.reg r153_4) (.seq (.reg r153_5) c153_8)
def c153_10 : ACode := .block 1 c153_9
def r153_11 : List AOper := [ao 0 18 (.bin .add (.t 8) (.k (.i 1))),
  ao 1 8 (.mv (.t 18))]
def c153_12 : ACode := .seq (.reg r153_2) (.seq c153_3 (.seq c153_10 (.reg r153_11)))
def c153_13 : ACode := .loop c153_12
def c153_14 : ACode := .block 0 c153_13
def c153_15 : ACode := .seq (.reg r153_1) c153_14
def r153_16 : List AOper := [ao 0 4 (.mv (.k (.i (-1))))]
def c153 : ACode := .seq (.reg r153_0) (.seq c153_15 (.seq (.reg r153_16) .ret))
def s153 : List ARes := [.tmp 4]
theorem ok153 : okF Try.prog 153 19 c153 s153 := ⟨Try.f153, Try.func153, Try.ntmps153, by kernel_rfl, by kernel_rfl, by kernel_rfl⟩
def inv153 (fs : List DF) (nm : ByteArray) (u : Nat) (i : Nat) (σ : St) : Prop := (∀ (j : Nat), j < i → ∀ (g : DF), fs[j]? = some g → g.name ≠ nm) ∧ σ.t 0 = tL (en eF fs) ∧ σ.t 1 = .c (.fn 154 [(3, u)]) ∧ σ.t 7 = .i fs.length ∧ σ.t 8 = .i i ∧ σ.H 3 = some (.var u 9 [.v (.s (.string nm))])
theorem UFl_4 : (type_of% (uA c153.eq_1)) ∧ (type_of% (uR r153_0.eq_1)) ∧ (type_of% (uA c153_15.eq_1)) ∧ (type_of% (uR r153_1.eq_1)) ∧ (type_of% (uA c153_14.eq_1)) ∧ (type_of% (uA c153_13.eq_1)) ∧ (type_of% (uR r153_16.eq_1)) ∧ (type_of% s153.eq_1) :=
  ⟨uA c153.eq_1, uR r153_0.eq_1, uA c153_15.eq_1, uR r153_1.eq_1, uA c153_14.eq_1, uA c153_13.eq_1, uR r153_16.eq_1, s153.eq_1⟩
theorem UFl_9 : (type_of% (uA c153_12.eq_1)) ∧ (type_of% (uR r153_2.eq_1)) ∧ (type_of% (uA c153_3.eq_1)) ∧ (type_of% (uA c153_10.eq_1)) ∧ (type_of% (uA c153_9.eq_1)) ∧ (type_of% (uR r153_4.eq_1)) ∧ (type_of% (uR r153_5.eq_1)) ∧ (type_of% (uA c153_8.eq_1)) ∧ (type_of% (uA c153_7.eq_1)) ∧ (type_of% (uR r153_6.eq_1)) ∧ (type_of% (uR r153_11.eq_1)) ∧ (type_of% (uA c153.eq_1)) ∧ (type_of% (uR r153_0.eq_1)) ∧ (type_of% (uA c153_15.eq_1)) ∧ (type_of% (uR r153_1.eq_1)) ∧ (type_of% (uA c153_14.eq_1)) ∧ (type_of% (uA c153_13.eq_1)) ∧ (type_of% (uR r153_16.eq_1)) ∧ (type_of% s153.eq_1) :=
  ⟨uA c153_12.eq_1, uR r153_2.eq_1, uA c153_3.eq_1, uA c153_10.eq_1, uA c153_9.eq_1, uR r153_4.eq_1, uR r153_5.eq_1, uA c153_8.eq_1, uA c153_7.eq_1, uR r153_6.eq_1, uR r153_11.eq_1, uA c153.eq_1, uR r153_0.eq_1, uA c153_15.eq_1, uR r153_1.eq_1, uA c153_14.eq_1, uA c153_13.eq_1, uR r153_16.eq_1, s153.eq_1⟩
theorem indexF_ok (fs : List DF) (nm : ByteArray) (hl : fs.length ≤ 9000000000000000000) (m u : Nat) : ACallsF Try.prog 153 [tL (en eF fs), .c (.fn 154 [(3, u)])] [capH 3 m u 9 [.s (.string nm)]] (.i (fnd fs nm)) := by
  refine ACallsF.intro ok153 follows fun X c0 => ?_
  simp only [RUN, core, T.c, T.s, T.b, T.i, sBin, sInt, sUn, isShift, asInt, P1.cells, loadT, ptrC, storeT, putC, fillP, Nat.reduceAdd, reduceIte, Nat.reduceEqDiff, Nat.reduceLT, Nat.reduceLeDiff, reduceCtorEq, eq_self, FIT, lendCs_map, verC_map, FinC, resPs, resP, lendPl, lendCs, lendC, sealC, partsT, finHs, tupT, verT, verP, verC, verB, verAt, Blk.ver, handsAre, forall_const, CHT, disj, Nat.reduceBEq, beq_self_eq_true, APT, srcOf, sealPs, sealCs, sealC, toVs, Option.map_some, List.mem_singleton, forall_eq, ALT, UFl_4]
  refine AW.upto fs.length (inv153 fs nm u) ⟨fun j hj => absurd hj (Nat.not_lt_zero j), rfl, rfl, rfl, rfl, rfl⟩ fun i t H c hi h => ?_
  obtain ⟨g, e0, e1, e7, e8, eH⟩ := h
  simp only [T.c, T.i, T.s, tL] at e0 e1 e7 e8 eH
  by_cases hlt : i < fs.length
  · obtain ⟨x, hx⟩ : ∃ x, fs[i]? = some x := ⟨_, List.getElem?_eq_getElem hlt⟩
    have ex := en_at eF hx
    have k1 : (i : Int) < fs.length := by omega
    have gz : (0 : Int) ≤ i := by omega
    have gw : IntKind.i64.wrap ((i : Int) + 1) = ((i + 1 : Nat) : Int) := wrap64 (x := (i : Int) + 1) ⟨by omega, by omega⟩
    simp only [RUN, core, T.c, T.s, T.b, T.i, sBin, sInt, sUn, isShift, asInt, P1.cells, loadT, ptrC, storeT, putC, fillP, Nat.reduceAdd, reduceIte, Nat.reduceEqDiff, Nat.reduceLT, Nat.reduceLeDiff, reduceCtorEq, eq_self, FIT, lendCs_map, verC_map, FinC, resPs, resP, lendPl, lendCs, lendC, sealC, partsT, finHs, tupT, verT, verP, verC, verB, verAt, Blk.ver, handsAre, forall_const, CHT, disj, Nat.reduceBEq, beq_self_eq_true, APT, srcOf, sealPs, sealCs, sealC, toVs, Option.map_some, List.mem_singleton, forall_eq, ALT, UFl_9, e0, e1, e7, e8, en_len, k1, gz, ex, eF]
    refine callCap (nameIs_ok x nm 3 3 u (by decide)) rfl rfl (by simp [closedA, closedP, closedC]) rfl eH ⟨?_, ?_⟩
    · simp only [RUN, core, T.c, T.s, T.b, T.i, sBin, sInt, sUn, isShift, asInt, P1.cells, loadT, ptrC, storeT, putC, fillP, Nat.reduceAdd, reduceIte, Nat.reduceEqDiff, Nat.reduceLT, Nat.reduceLeDiff, reduceCtorEq, eq_self, FIT, lendCs_map, verC_map, FinC, resPs, resP, lendPl, lendCs, lendC, sealC, partsT, finHs, tupT, verT, verP, verC, verB, verAt, Blk.ver, handsAre, forall_const, CHT, disj, Nat.reduceBEq, beq_self_eq_true, APT, srcOf, sealPs, sealCs, sealC, toVs, Option.map_some, List.mem_singleton, forall_eq, ALT, UFl_9]
    by_cases hn : x.name = nm
    · have hr : fnd fs nm = i := fnd_at hx hn g
      simp only [RUN, core, T.c, T.s, T.b, T.i, sBin, sInt, sUn, isShift, asInt, P1.cells, loadT, ptrC, storeT, putC, fillP, Nat.reduceAdd, reduceIte, Nat.reduceEqDiff, Nat.reduceLT, Nat.reduceLeDiff, reduceCtorEq, eq_self, FIT, lendCs_map, verC_map, FinC, resPs, resP, lendPl, lendCs, lendC, sealC, partsT, finHs, tupT, verT, verP, verC, verB, verAt, Blk.ver, handsAre, forall_const, CHT, disj, Nat.reduceBEq, beq_self_eq_true, APT, srcOf, sealPs, sealCs, sealC, toVs, Option.map_some, List.mem_singleton, forall_eq, ALT, UFl_9, UFl_4, hn, hr, decide_true, verC_map]
    · simp only [RUN, core, T.c, T.s, T.b, T.i, sBin, sInt, sUn, isShift, asInt, P1.cells, loadT, ptrC, storeT, putC, fillP, Nat.reduceAdd, reduceIte, Nat.reduceEqDiff, Nat.reduceLT, Nat.reduceLeDiff, reduceCtorEq, eq_self, FIT, lendCs_map, verC_map, FinC, resPs, resP, lendPl, lendCs, lendC, sealC, partsT, finHs, tupT, verT, verP, verC, verB, verAt, Blk.ver, handsAre, forall_const, CHT, disj, Nat.reduceBEq, beq_self_eq_true, APT, srcOf, sealPs, sealCs, sealC, toVs, Option.map_some, List.mem_singleton, forall_eq, ALT, UFl_9, e8, hn, gw]
      exact ⟨hlt, fun j hj g' hg => (by rcases Nat.lt_succ_iff_lt_or_eq.1 hj with hj | rfl; exact g j hj g' hg; rw [hx] at hg; cases hg; exact hn), e0, e1, e7, rfl, rfl⟩
  · have k1 : ¬ (i : Int) < fs.length := by omega
    have hr : fnd fs nm = -1 := fnd_no fun j g' hg => g j (by have := (List.getElem?_eq_some_iff.1 hg).1; omega) g' hg
    simp only [RUN, core, T.c, T.s, T.b, T.i, sBin, sInt, sUn, isShift, asInt, P1.cells, loadT, ptrC, storeT, putC, fillP, Nat.reduceAdd, reduceIte, Nat.reduceEqDiff, Nat.reduceLT, Nat.reduceLeDiff, reduceCtorEq, eq_self, FIT, lendCs_map, verC_map, FinC, resPs, resP, lendPl, lendCs, lendC, sealC, partsT, finHs, tupT, verT, verP, verC, verB, verAt, Blk.ver, handsAre, forall_const, CHT, disj, Nat.reduceBEq, beq_self_eq_true, APT, srcOf, sealPs, sealCs, sealC, toVs, Option.map_some, List.mem_singleton, forall_eq, ALT, UFl_9, UFl_4, e0, e1, e7, e8, eH, en_len, k1, hr]
/- (loop.example/teagle/impl.Disk).fileAt -/
def r105_0 : List AOper := [ao 0 2 (.box 34 (.t 0)),
  ao 1 3 (.box 9 (.t 1)),
  ao 2 4 (.mv (.k (.i 0)))]
def r105_1 : List AOper := [ao 0 5 (.fa 0 (.t 2)),
  ao 1 6 (.ld 1 false (.t 5)),
  ao 2 7 (.mkf 154 [(.t 3)]),
  ao 3 8 (.call (.k (.c (.fn 153 []))) [(.t 6), (.t 7)]),
  ao 4 4 (.mv (.t 8))]
def c105 : ACode := .seq (.reg r105_0) (.seq (.reg r105_1) .ret)
def s105 : List ARes := [.tmp 4]
theorem ok105 : okF Try.prog 105 9 c105 s105 := ⟨Try.f105, Try.func105, Try.ntmps105, by kernel_rfl, by kernel_rfl, by kernel_rfl⟩
theorem UFl_5 : (type_of% (uA c105.eq_1)) ∧ (type_of% (uR r105_0.eq_1)) ∧ (type_of% (uR r105_1.eq_1)) ∧ (type_of% s105.eq_1) :=
  ⟨uA c105.eq_1, uR r105_0.eq_1, uR r105_1.eq_1, s105.eq_1⟩
theorem fileAt_ok (d : Dk) (nm : ByteArray) (hl : d.files.length ≤ 9000000000000000000) : ACallsF Try.prog 105 [tDk d, tS nm] [] (.i (fnd d.files nm)) := by
  refine ACallsF.intro ok105 follows fun X c0 => ?_
  simp only [RUN, core, T.c, T.s, T.b, T.i, sBin, sInt, sUn, isShift, asInt, P1.cells, loadT, ptrC, storeT, putC, fillP, Nat.reduceAdd, reduceIte, Nat.reduceEqDiff, Nat.reduceLT, Nat.reduceLeDiff, reduceCtorEq, eq_self, FIT, lendCs_map, verC_map, FinC, resPs, resP, lendPl, lendCs, lendC, sealC, partsT, finHs, tupT, verT, verP, verC, verB, verAt, Blk.ver, handsAre, forall_const, CHT, disj, Nat.reduceBEq, beq_self_eq_true, APT, srcOf, sealPs, sealCs, sealC, toVs, Option.map_some, List.mem_singleton, forall_eq, ALT, UFl_5, capsOf]
  refine callFn (m := 3) (xs := [.s (.string nm)]) (indexF_ok d.files nm hl 3 (c0 + 1)) rfl rfl rfl rfl rfl ⟨?_, ?_⟩
  · simp only [RUN, core, T.c, T.s, T.b, T.i, sBin, sInt, sUn, isShift, asInt, P1.cells, loadT, ptrC, storeT, putC, fillP, Nat.reduceAdd, reduceIte, Nat.reduceEqDiff, Nat.reduceLT, Nat.reduceLeDiff, reduceCtorEq, eq_self, FIT, lendCs_map, verC_map, FinC, resPs, resP, lendPl, lendCs, lendC, sealC, partsT, finHs, tupT, verT, verP, verC, verB, verAt, Blk.ver, handsAre, forall_const, CHT, disj, Nat.reduceBEq, beq_self_eq_true, APT, srcOf, sealPs, sealCs, sealC, toVs, Option.map_some, List.mem_singleton, forall_eq, ALT, UFl_5]
  simp only [RUN, core, T.c, T.s, T.b, T.i, sBin, sInt, sUn, isShift, asInt, P1.cells, loadT, ptrC, storeT, putC, fillP, Nat.reduceAdd, reduceIte, Nat.reduceEqDiff, Nat.reduceLT, Nat.reduceLeDiff, reduceCtorEq, eq_self, FIT, lendCs_map, verC_map, FinC, resPs, resP, lendPl, lendCs, lendC, sealC, partsT, finHs, tupT, verT, verP, verC, verB, verAt, Blk.ver, handsAre, forall_const, CHT, disj, Nat.reduceBEq, beq_self_eq_true, APT, srcOf, sealPs, sealCs, sealC, toVs, Option.map_some, List.mem_singleton, forall_eq, ALT, UFl_5]
/- loop.example/teagle/impl.DiskOk$1 -/
def r108_0 : List AOper := [ao 0 2 (.box 88 (.t 0)),
  ao 1 4 (.mv (.k (.b false)))]
def r108_1 : List AOper := [ao 0 5 (.fa 0 (.t 2)),
  ao 1 6 (.ld 1 false (.t 5)),
  ao 2 7 (.mv (.t 1)),
  ao 3 8 (.bin .eql (.t 6) (.t 7)),
  ao 4 4 (.mv (.t 8))]
def c108 : ACode := .seq (.reg r108_0) (.seq (.reg r108_1) .ret)
def s108 : List ARes := [.tmp 4]
theorem ok108 : okF Try.prog 108 9 c108 s108 := ⟨Try.f108, Try.func108, Try.ntmps108, by kernel_rfl, by kernel_rfl, by kernel_rfl⟩
theorem UFl_6 : (type_of% (uA c108.eq_1)) ∧ (type_of% (uR r108_0.eq_1)) ∧ (type_of% (uR r108_1.eq_1)) ∧ (type_of% s108.eq_1) :=
  ⟨uA c108.eq_1, uR r108_0.eq_1, uR r108_1.eq_1, s108.eq_1⟩
theorem sameName_ok (f : DF) (nm : ByteArray) : ACallsF Try.prog 108 [tDF f, tS nm] [] (.b (decide (f.name = nm))) := by
  refine ACallsF.intro ok108 follows fun X c0 => ?_
  simp only [RUN, core, T.c, T.s, T.b, T.i, sBin, sInt, sUn, isShift, asInt, P1.cells, loadT, ptrC, storeT, putC, fillP, Nat.reduceAdd, reduceIte, Nat.reduceEqDiff, Nat.reduceLT, Nat.reduceLeDiff, reduceCtorEq, eq_self, FIT, lendCs_map, verC_map, FinC, resPs, resP, lendPl, lendCs, lendC, sealC, partsT, finHs, tupT, verT, verP, verC, verB, verAt, Blk.ver, handsAre, forall_const, CHT, disj, Nat.reduceBEq, beq_self_eq_true, APT, srcOf, sealPs, sealCs, sealC, toVs, Option.map_some, List.mem_singleton, forall_eq, ALT, UFl_6, sStr, str_beq]
/- slices.EqualFunc[[]loop.example/teagle/impl.DiskFile,[]string,loop.example/teagle/impl.DiskFile,string] -/
def r107_0 : List AOper := [ao 0 6 (.mv (.k (.b false)))]
def r107_1 : List AOper := [ao 0 10 (.mv (.t 0)),
  ao 1 11 (.len (.t 10)),
  ao 2 12 (.mv (.t 1)),
  ao 3 13 (.len (.t 12)),
  ao 4 14 (.bin .neq (.t 11) (.t 13))]
def r107_2 : List AOper := [ao 0 6 (.mv (.k (.b false)))]
def c107_3 : ACode := .seq (.reg r107_2) .ret
def c107_4 : ACode := .cond (.t 14) c107_3 .skip
def c107_5 : ACode := .seq (.reg r107_1) c107_4
def r107_6 : List AOper := [ao 0 15 (.mv (.t 0)),
  ao 1 16 (.len (.t 15)),
  ao 2 17 (.mv (.k (.i 0)))]
def r107_7 : List AOper := [ao 0 18 (.bin .lss (.t 17) (.t 16))]
def c107_8 : ACode := .cond (.t 18) .skip (.exit 0)
def r107_9 : List AOper := [ao 0 19 (.mv (.t 17)),
  ao 1 20 (.ia 3 (.t 15) (.t 17)),
  ao 2 21 (.ld 3 true (.t 20)),
  ao 3 8 (.alloc 88 [(.v (.s (.string ⟨#[]⟩))), (.v (.s (.string ⟨#[]⟩))), (.v (.s (.int .i64 0)))]),
  ao 4 7 (.mv (.t 19)),
  an 5 (.st 3 (.t 8) (.t 21))]
def r107_10 : List AOper := [ao 0 22 (.mv (.t 1)),
  ao 1 23 (.mv (.t 7)),
  ao 2 24 (.ia 1 (.t 22) (.t 23)),
  ao 3 25 (.ld 1 false (.t 24)),
  ao 4 9 (.mv (.t 25))]
def r107_11 : List AOper := [ao 0 26 (.mv (.t 2)),
  ao 1 27 (.ld 3 true (.t 8)),
  ao 2 28 (.mv (.t 9)),
  ao 3 29 (.call (.t 26) [(.t 27), (.t 28)]),
  ao 4 30 (.un .not (.t 29))]
def r107_12 : List AOper := [ao 0 6 (.mv (.k (.b false)))]
def c107_13 : ACode := .seq (.reg r107_12) .ret
def c107_14 : ACode := .cond (.t 30) c107_13 .skip
def c107_15 : ACode := .seq (.reg r107_9) (.seq (.reg r107_10) (.seq (.reg r107_11) c107_14))
def c107_16 : ACode := .block 1 c107_15
def r107_17 : List AOper := [ao 0 31 (.bin .add (.t 17) (.k (.i 1))),
  ao 1 17 (.mv (.t 31))]
def c107_18 : ACode := .seq (.reg r107_7) (.seq c107_8 (.seq c107_16 (.reg r107_17)))
def c107_19 : ACode := .loop c107_18
def c107_20 : ACode := .block 0 c107_19
def c107_21 : ACode := .seq (.reg r107_6) c107_20
def r107_22 : List AOper := [ao 0 6 (.mv (.k (.b true)))]
def c107 : ACode := .seq (.reg r107_0) (.seq c107_5 (.seq c107_21 (.seq (.reg r107_22) .ret)))
def s107 : List ARes := [.tmp 6]
theorem ok107 : okF Try.prog 107 32 c107 s107 := ⟨Try.f107, Try.func107, Try.ntmps107, by kernel_rfl, by kernel_rfl, by kernel_rfl⟩
def inv107 (fs : List DF) (ns : List ByteArray) (i : Nat) (σ : St) : Prop := (∀ (j : Nat) (g : DF), j < i → fs[j]? = some g → ns[j]? = some g.name) ∧ σ.t 1 = tL (en eS ns) ∧ σ.t 2 = .c (.fn 108 []) ∧ σ.t 15 = tL (en eF fs) ∧ σ.t 16 = .i fs.length ∧ σ.t 17 = .i i
theorem UFl_7 : (type_of% (uA c107.eq_1)) ∧ (type_of% (uR r107_0.eq_1)) ∧ (type_of% (uA c107_5.eq_1)) ∧ (type_of% (uR r107_1.eq_1)) ∧ (type_of% (uA c107_4.eq_1)) ∧ (type_of% (uA c107_3.eq_1)) ∧ (type_of% (uR r107_2.eq_1)) ∧ (type_of% (uA c107_21.eq_1)) ∧ (type_of% (uR r107_6.eq_1)) ∧ (type_of% (uA c107_20.eq_1)) ∧ (type_of% (uA c107_19.eq_1)) ∧ (type_of% (uR r107_22.eq_1)) ∧ (type_of% s107.eq_1) :=
  ⟨uA c107.eq_1, uR r107_0.eq_1, uA c107_5.eq_1, uR r107_1.eq_1, uA c107_4.eq_1, uA c107_3.eq_1, uR r107_2.eq_1, uA c107_21.eq_1, uR r107_6.eq_1, uA c107_20.eq_1, uA c107_19.eq_1, uR r107_22.eq_1, s107.eq_1⟩
theorem UFl_10 : (type_of% (uA c107_18.eq_1)) ∧ (type_of% (uR r107_7.eq_1)) ∧ (type_of% (uA c107_8.eq_1)) ∧ (type_of% (uA c107_16.eq_1)) ∧ (type_of% (uA c107_15.eq_1)) ∧ (type_of% (uR r107_9.eq_1)) ∧ (type_of% (uR r107_10.eq_1)) ∧ (type_of% (uR r107_11.eq_1)) ∧ (type_of% (uA c107_14.eq_1)) ∧ (type_of% (uA c107_13.eq_1)) ∧ (type_of% (uR r107_12.eq_1)) ∧ (type_of% (uR r107_17.eq_1)) ∧ (type_of% (uA c107.eq_1)) ∧ (type_of% (uR r107_0.eq_1)) ∧ (type_of% (uA c107_5.eq_1)) ∧ (type_of% (uR r107_1.eq_1)) ∧ (type_of% (uA c107_4.eq_1)) ∧ (type_of% (uA c107_3.eq_1)) ∧ (type_of% (uR r107_2.eq_1)) ∧ (type_of% (uA c107_21.eq_1)) ∧ (type_of% (uR r107_6.eq_1)) ∧ (type_of% (uA c107_20.eq_1)) ∧ (type_of% (uA c107_19.eq_1)) ∧ (type_of% (uR r107_22.eq_1)) ∧ (type_of% s107.eq_1) :=
  ⟨uA c107_18.eq_1, uR r107_7.eq_1, uA c107_8.eq_1, uA c107_16.eq_1, uA c107_15.eq_1, uR r107_9.eq_1, uR r107_10.eq_1, uR r107_11.eq_1, uA c107_14.eq_1, uA c107_13.eq_1, uR r107_12.eq_1, uR r107_17.eq_1, uA c107.eq_1, uR r107_0.eq_1, uA c107_5.eq_1, uR r107_1.eq_1, uA c107_4.eq_1, uA c107_3.eq_1, uR r107_2.eq_1, uA c107_21.eq_1, uR r107_6.eq_1, uA c107_20.eq_1, uA c107_19.eq_1, uR r107_22.eq_1, s107.eq_1⟩
theorem equalF_ok (fs : List DF) (ns : List ByteArray) (hl : fs.length ≤ 9000000000000000000) : ∃ b : Bool, (b = true ↔ (ns.length = fs.length ∧ ∀ (i : Nat) (f : DF), fs[i]? = some f → ns[i]? = some f.name)) ∧ ACallsF Try.prog 107 [tL (en eF fs), tL (en eS ns), .c (.fn 108 [])] [] (.b b) := by
  obtain ⟨b, hb⟩ : ∃ b : Bool, b = true ↔ (ns.length = fs.length ∧ ∀ (i : Nat) (f : DF), fs[i]? = some f → ns[i]? = some f.name) := by
    by_cases h : ns.length = fs.length ∧ ∀ (i : Nat) (f : DF), fs[i]? = some f → ns[i]? = some f.name
    · exact ⟨true, fun _ => h, fun _ => rfl⟩
    · exact ⟨false, fun e => (by cases e), fun e => absurd e h⟩
  refine ⟨b, hb, ACallsF.intro ok107 follows fun X c0 => ?_⟩
  have no : ¬ (ns.length = fs.length ∧ ∀ (i : Nat) (f : DF), fs[i]? = some f → ns[i]? = some f.name) → b = false := fun h => by cases hq : b with | false => rfl | true => exact absurd (hb.1 hq) h
  by_cases hl2 : ns.length = fs.length
  rotate_left
  · have hl' : ((fs.length : Int) != (ns.length : Int)) = true := by simp; omega
    have hbf := no fun h => hl2 h.1
    simp only [RUN, core, T.c, T.s, T.b, T.i, sBin, sInt, sUn, isShift, asInt, P1.cells, loadT, ptrC, storeT, putC, fillP, Nat.reduceAdd, reduceIte, Nat.reduceEqDiff, Nat.reduceLT, Nat.reduceLeDiff, reduceCtorEq, eq_self, FIT, lendCs_map, verC_map, FinC, resPs, resP, lendPl, lendCs, lendC, sealC, partsT, finHs, tupT, verT, verP, verC, verB, verAt, Blk.ver, handsAre, forall_const, CHT, disj, Nat.reduceBEq, beq_self_eq_true, APT, srcOf, sealPs, sealCs, sealC, toVs, Option.map_some, List.mem_singleton, forall_eq, ALT, UFl_7, hl', hbf]
  have hl' : ((fs.length : Int) != (ns.length : Int)) = false := by simp; omega
  simp only [RUN, core, T.c, T.s, T.b, T.i, sBin, sInt, sUn, isShift, asInt, P1.cells, loadT, ptrC, storeT, putC, fillP, Nat.reduceAdd, reduceIte, Nat.reduceEqDiff, Nat.reduceLT, Nat.reduceLeDiff, reduceCtorEq, eq_self, FIT, lendCs_map, verC_map, FinC, resPs, resP, lendPl, lendCs, lendC, sealC, partsT, finHs, tupT, verT, verP, verC, verB, verAt, Blk.ver, handsAre, forall_const, CHT, disj, Nat.reduceBEq, beq_self_eq_true, APT, srcOf, sealPs, sealCs, sealC, toVs, Option.map_some, List.mem_singleton, forall_eq, ALT, UFl_7, hl']
  refine AW.upto fs.length (inv107 fs ns) ⟨fun j f hj => absurd hj (Nat.not_lt_zero j), rfl, rfl, rfl, rfl, rfl⟩ fun i t H c hi h => ?_
  obtain ⟨g, e1, e2, e15, e16, e17⟩ := h
  simp only [T.c, T.i, T.s, tL] at e1 e2 e15 e16 e17
  by_cases hlt : i < fs.length
  · obtain ⟨x, hx⟩ : ∃ x, fs[i]? = some x := ⟨_, List.getElem?_eq_getElem hlt⟩
    obtain ⟨y, hy⟩ : ∃ y, ns[i]? = some y := ⟨_, List.getElem?_eq_getElem (by omega)⟩
    have ex := en_at eF hx
    have ey := en_at eS hy
    have k1 : (i : Int) < fs.length := by omega
    have gz : (0 : Int) ≤ i := by omega
    have gw : IntKind.i64.wrap ((i : Int) + 1) = ((i + 1 : Nat) : Int) := wrap64 (x := (i : Int) + 1) ⟨by omega, by omega⟩
    simp only [RUN, core, T.c, T.s, T.b, T.i, sBin, sInt, sUn, isShift, asInt, P1.cells, loadT, ptrC, storeT, putC, fillP, Nat.reduceAdd, reduceIte, Nat.reduceEqDiff, Nat.reduceLT, Nat.reduceLeDiff, reduceCtorEq, eq_self, FIT, lendCs_map, verC_map, FinC, resPs, resP, lendPl, lendCs, lendC, sealC, partsT, finHs, tupT, verT, verP, verC, verB, verAt, Blk.ver, handsAre, forall_const, CHT, disj, Nat.reduceBEq, beq_self_eq_true, APT, srcOf, sealPs, sealCs, sealC, toVs, Option.map_some, List.mem_singleton, forall_eq, ALT, UFl_10, e1, e2, e15, e16, e17, en_len, k1, gz, ex, eF, ey, eS]
    refine callC (sameName_ok x y) rfl rfl (by simp [closedA, closedP, closedC]) rfl ?_
    by_cases hn : x.name = y
    · simp only [RUN, core, T.c, T.s, T.b, T.i, sBin, sInt, sUn, isShift, asInt, P1.cells, loadT, ptrC, storeT, putC, fillP, Nat.reduceAdd, reduceIte, Nat.reduceEqDiff, Nat.reduceLT, Nat.reduceLeDiff, reduceCtorEq, eq_self, FIT, lendCs_map, verC_map, FinC, resPs, resP, lendPl, lendCs, lendC, sealC, partsT, finHs, tupT, verT, verP, verC, verB, verAt, Blk.ver, handsAre, forall_const, CHT, disj, Nat.reduceBEq, beq_self_eq_true, APT, srcOf, sealPs, sealCs, sealC, toVs, Option.map_some, List.mem_singleton, forall_eq, ALT, UFl_10, e17, hn, gw, decide_true]
      exact ⟨hlt, fun j g' hj hg => (by rcases Nat.lt_succ_iff_lt_or_eq.1 hj with hj | rfl; exact g j g' hj hg; rw [hx] at hg; cases hg; rw [hy, hn]), e1, e2, e15, e16, rfl⟩
    · have hbf := no fun h => hn (by have := h.2 i x hx; rw [hy] at this; exact (Option.some.inj this).symm)
      simp only [RUN, core, T.c, T.s, T.b, T.i, sBin, sInt, sUn, isShift, asInt, P1.cells, loadT, ptrC, storeT, putC, fillP, Nat.reduceAdd, reduceIte, Nat.reduceEqDiff, Nat.reduceLT, Nat.reduceLeDiff, reduceCtorEq, eq_self, FIT, lendCs_map, verC_map, FinC, resPs, resP, lendPl, lendCs, lendC, sealC, partsT, finHs, tupT, verT, verP, verC, verB, verAt, Blk.ver, handsAre, forall_const, CHT, disj, Nat.reduceBEq, beq_self_eq_true, APT, srcOf, sealPs, sealCs, sealC, toVs, Option.map_some, List.mem_singleton, forall_eq, ALT, UFl_10, UFl_7, hn, hbf]
  · have k1 : ¬ (i : Int) < fs.length := by omega
    have hbt : b = true := hb.2 ⟨hl2, fun j f hf => g j f (by have := (List.getElem?_eq_some_iff.1 hf).1; omega) hf⟩
    simp only [RUN, core, T.c, T.s, T.b, T.i, sBin, sInt, sUn, isShift, asInt, P1.cells, loadT, ptrC, storeT, putC, fillP, Nat.reduceAdd, reduceIte, Nat.reduceEqDiff, Nat.reduceLT, Nat.reduceLeDiff, reduceCtorEq, eq_self, FIT, lendCs_map, verC_map, FinC, resPs, resP, lendPl, lendCs, lendC, sealC, partsT, finHs, tupT, verT, verP, verC, verB, verAt, Blk.ver, handsAre, forall_const, CHT, disj, Nat.reduceBEq, beq_self_eq_true, APT, srcOf, sealPs, sealCs, sealC, toVs, Option.map_some, List.mem_singleton, forall_eq, ALT, UFl_10, UFl_7, e16, e17, k1, hbt]
end Go.V
set_option linter.unusedSimpArgs false
namespace Go.Proofs
open Go.Shelf
def Try.laysDelete_ren : Go.Shelf.Ren := ⟨fun | 24 => 152 | n => n, fun | 24 => 23 | 9 => 9 | 3 => 3 | 4 => 4 | 0 => 0 | n => n, fun | n => n⟩
theorem Try.laysDelete : Go.Proofs.Lays2.n24 Try.prog Try.laysDelete_ren := {
  mixed := by kernel_rfl
  f24 := Try.func152.trans (congrArg some (by kernel_rfl))
  t0 := Try.underlying0
  a0 := Try.isAgg0
  z0 := Try.sizeOf0
  v0 := Try.zeroValue0
  t3 := Try.underlying3
  a3 := Try.isAgg3
  z3 := Try.sizeOf3
  v3 := Try.zeroValue3
  t4 := Try.underlying4
  a4 := Try.isAgg4
  z4 := Try.sizeOf4
  v4 := Try.zeroValue4
  t9 := Try.underlying9
  a9 := Try.isAgg9
  z9 := Try.sizeOf9
  v9 := Try.zeroValue9
  t24 := Try.underlying23
  a24 := Try.isAgg23
  z24 := Try.sizeOf23
  v24 := Try.zeroValue23
  i9 := by kernel_rfl }
end Go.Proofs
namespace Go.V
open Go.Proofs Go.Sort
def ofL (l : List UInt8) : ByteArray := ⟨l.toArray⟩
theorem rowL_ofL (zs : List (List UInt8)) : rowL (zs.map ofL) = zs := by
  simp [rowL, ofL, Function.comp_def]
theorem ofL_data (b : ByteArray) : ofL b.data.toList = b := by simp [ofL]
theorem ofL_rowL (ss : List ByteArray) : (rowL ss).map ofL = ss := by
  simp [rowL, ofL_data, Function.comp_def]
theorem isFn152 : isFn Try.prog 152 = true := by kernel_rfl
theorem rowS_en (ss : List ByteArray) : rowS ss = en eS ss := rfl
/-- Names without the one at a place. -/
def del (ns : List ByteArray) (i : Nat) : List ByteArray := ns.take i ++ ns.drop (i + 1)
theorem row_world2 {w : World} {g q : Nat} {ty : TypeId} {cur : Array Value} {ss' : List ByteArray} (hc : w.heap[g]? = some (.cells cur ty (0, 0))) (hl : ss'.length ≤ cur.size) :
    ∃ cur', (putRow encStr (Go.Sort.ahead w q) g 0 (rowL ss').toArray).heap[g]? = some (.cells cur' ty (0, 0)) ∧ cur'.size = cur.size ∧ (∀ (j : Nat) s, ss'[j]? = some s → cur'[j]? = some (.string s)) ∧ (∀ j : Nat, ss'.length ≤ j → cur'[j]? = cur[j]?) ∧
      w.heap.size ≤ (putRow encStr (Go.Sort.ahead w q) g 0 (rowL ss').toArray).heap.size ∧
      ∀ b, b < w.heap.size → b ≠ g → (putRow encStr (Go.Sort.ahead w q) g 0 (rowL ss').toArray).heap[b]? = w.heap[b]? := by
  refine ⟨putCells encStr 0 (rowL ss').toArray cur, ?_, by simp [putCells], fun j s hs => ?_, fun j hj => ?_, ?_, fun b hb hne => ?_⟩
  · simp only [putRow, mapBlock, Go.Sort.ahead]
    rw [Array.getElem?_modify]
    simp [hc, onCells]
  · have hj : j < ss'.length := (List.getElem?_eq_some_iff.1 hs).1
    have hjc : j < cur.size := by omega
    simp only [putCells, Array.getElem?_mapIdx, Array.getElem?_eq_getElem hjc, Option.map_some]
    have e : (rowL ss').toArray[j]! = s.data.toList := by
      rw [getElem!_pos _ j (by simpa [rowL] using hj)]
      have := (List.getElem?_eq_some_iff.1 hs).2
      simp [rowL, this]
    have c1 : 0 ≤ j ∧ j < 0 + (rowL ss').toArray.size := ⟨Nat.zero_le _, by simpa [rowL] using hj⟩
    rw [if_pos c1, Nat.sub_zero, e]
  · simp only [putCells, Array.getElem?_mapIdx]
    have c1 : ¬ (0 ≤ j ∧ j < 0 + (rowL ss').toArray.size) := by simp [rowL]; omega
    cases hcj : cur[j]? with
    | none => rfl
    | some x => simp only [Option.map_some, if_neg c1]
  · simp [putRow, mapBlock, Go.Sort.ahead]
  · simp only [putRow, mapBlock, Go.Sort.ahead]
    rw [Array.getElem?_modify, if_neg (fun e => hne e.symm)]
theorem delete_ok (ss rest : List ByteArray) (i : Nat) (hi : i < ss.length) (n m v : Nat) :
    ACallsF Try.prog 152 [.c (.own n v ss.length), .i i, .i ((i + 1 : Nat) : Int)] [arH n m v 1 9 (en eS (ss ++ rest)) (en eS (del ss i ++ ([zS] ++ rest)))] (.c (.own n v (del ss i).length)) := by
  have hdl : (del ss i).length = ss.length - 1 := by simp [del]; omega
  have hl0 : (del ss i ++ [zS]).length = ss.length := by rw [List.length_append, hdl, List.length_singleton]; omega
  have hl : (del ss i ++ ([zS] ++ rest)).length = (ss ++ rest).length := by rw [← List.append_assoc, List.length_append, hl0, List.length_append]
  show ACallsF Try.prog 152 [.c (.own n v ss.length), .i i, .i ((i + 1 : Nat) : Int)] (rowH n m v 9 (ss ++ rest) (del ss i ++ ([zS] ++ rest))) (.c (.own n v (del ss i).length))
  refine ⟨isFn152, fun w imm L c vs hH hT => ?_⟩
  obtain ⟨x, a, b, rfl⟩ : ∃ x a b, vs = [x, a, b] := by
    have := hT.1
    match vs, this with
    | [x, a, b], _ => exact ⟨x, a, b, rfl⟩
  have ha := rep_s (y := .int .i64 i) (hT.2 1 a (.i i) rfl rfl)
  have hb := rep_s (y := .int .i64 ((i + 1 : Nat) : Int)) (hT.2 2 b (.i ((i + 1 : Nat) : Int)) rfl rfl)
  subst ha hb
  have hx : TRep w imm (hinOf (rowH n m v 9 (ss ++ rest) (del ss i ++ ([zS] ++ rest)))) L (· < c) x (.c (.own n v ss.length)) := hT.2 0 x _ rfl rfl
  have hin : hinOf (rowH n m v 9 (ss ++ rest) (del ss i ++ ([zS] ++ rest))) n = some (.arr v true 1 9 (rowS (ss ++ rest))) := by rw [rowH_in]; simp
  have hx' : CRep w imm (hinOf (rowH n m v 9 (ss ++ rest) (del ss i ++ ([zS] ++ rest)))) L (· < c) x (.own n v ss.length) := hx
  obtain ⟨hu, -, h3⟩ := hx'
  obtain ⟨-, h4⟩ := h3 _ _ _ _ hin
  rcases h4 with ⟨a, h5, h6⟩ | ⟨g, cap, cur, h5, h6, h7, h8, h9, h10⟩
  · omega
  · have hgsz : g < w.heap.size := by
      rcases Nat.lt_or_ge g w.heap.size with h | h
      · exact h
      · rw [Array.getElem?_eq_none h] at h7; cases h7
    obtain ⟨-, -, -, hb⟩ := hH.blk n _ hin
    rcases hb with ⟨h, -⟩ | ⟨g', cur2, i1, i2, -, i4, -⟩
    · rw [h] at h5; cases h5
    rw [h5] at i1; cases i1
    rw [h7] at i2; cases i2
    have hcur : ∀ (j : Nat) s, (ss ++ rest)[j]? = some s → cur[j]? = some (.string s) := fun j s hs => VsRep_row (ss := ss ++ rest) i4 hs
    have hHolds : Holds encStr w g 0 (rowL ss).toArray := fun j hj => by
      have hj' : j < ss.length := by simpa [rowL] using hj
      have := hcur j ss[j] (by rw [List.getElem?_append_left hj']; simp [hj'])
      refine ⟨?_, by simp [World.frozen?, h7]⟩
      simp only [World.cell?, h7, Nat.zero_add, Option.isSome_none, Bool.false_eq_true, if_false]
      rw [this, getElem!_pos _ j hj]
      simp [rowL]
    subst h6
    have hD := Any.slices_Delete_string Try.laysDelete g 0 cap i (i + 1) (rowL ss) w hHolds (by rw [rowL_len]; exact h8) h9 (by omega) (by rw [rowL_len]; omega)
    rw [rowL_len] at hD
    refine hD.mono ?_
    rintro e w' ⟨rfl, q, rfl⟩
    have hrow : (rowL ss).take i ++ (rowL ss).drop (i + 1) ++ List.replicate (i + 1 - i) [] = rowL (del ss i ++ [zS]) := by
      rw [show i + 1 - i = 1 by omega]
      simp [rowL, del, zS, List.map_take, List.map_drop]
    rw [hrow]
    obtain ⟨cur', j1, j2, j3, j3b, j4, j5⟩ := row_world2 (q := q) (ss' := del ss i ++ [zS]) h7 (by omega)
    obtain ⟨p1, p2, p3, p4⟩ := put_row (w' := putRow encStr (Go.Sort.ahead w q) g 0 (rowL (del ss i ++ [zS])).toArray) hH h5 h7 rfl rfl rfl j4 j5 j1 j2 hl (fun j s hs => by
      rw [← List.append_assoc] at hs
      rcases Nat.lt_or_ge j ss.length with hj | hj
      · rw [List.getElem?_append_left (by omega)] at hs; exact j3 j s hs
      · rw [List.getElem?_append_right (by omega), hl0] at hs
        rw [j3b j (by omega)]
        exact hcur j s (by rw [List.getElem?_append_right hj]; exact hs))
    refine ⟨_, .c (.own n v (del ss i).length), _, imm, L, c, rfl, row_left n m v 9 (ss ++ rest) (del ss i ++ ([zS] ++ rest)) _ rfl _ (by simp), ?_, p1, p2, p3, p4⟩
    refine ⟨hu, ⟨_, _, by rw [hdl, show i + 1 - i = 1 by omega], by omega⟩, fun wr st ty' es hes => ?_⟩
    simp only [if_true, Option.some.injEq, Blk.arr.injEq] at hes
    obtain ⟨-, rfl, rfl, rfl, rfl⟩ := hes
    exact ⟨by rw [rowS_len, hl, List.length_append]; omega, .inr ⟨g, cap, cur', h5, by rw [hdl, show i + 1 - i = 1 by omega], j1, by omega, h9, by rw [j2, h10]⟩⟩
end Go.V

/- It is proved that the law FnExactStoreDo returns true for every input and leaves its input as it was; no condition. -/
import Derived.Test.YtlknplfahfjoiaaSF3
set_option linter.unusedSimpArgs false
namespace Go.V
open Go.Proofs
/-- An act of a log. -/
structure LA where
  kind : Int
  data : ByteArray
  cuts : Bool
  after : Int
  moves : Int
  keep : List Int
abbrev tLA (a : LA) : T := .pt (.agg [.v (.s (.int .i64 a.kind)), .v (.s (.string a.data)), .v (.s (.bool a.cuts)), .v (.s (.int .i64 a.after)), .v (.s (.int .i64 a.moves)), .v (.sl (en eI a.keep))])
abbrev oLA (c v : Nat) (a : LA) : P1 := .agg [.v (.s (.int .i64 a.kind)), .v (.s (.string a.data)), .v (.s (.bool a.cuts)), .v (.s (.int .i64 a.after)), .v (.s (.int .i64 a.moves)), .own c v a.keep.length]
structure okLA (a : LA) : Prop where
  d : okS a.data
  k : a.keep.length ≤ 9223372036854775807
/- loop.example/teagle/laws.szDiskWriteS -/
def r16_0 : List AOper := [ao 0 4 (.mv (.k (.i 0)))]
def r16_1 : List AOper := [ao 0 6 (.mv (.t 1)),
  ao 1 7 (.mv (.t 0)),
  ao 2 8 (.len (.t 7)),
  ao 3 9 (.bin .sub (.t 6) (.t 8)),
  ao 4 1 (.mv (.t 9))]
def r16_2 : List AOper := [ao 0 10 (.mv (.t 1)),
  ao 1 11 (.bin .lss (.t 10) (.k (.i 0)))]
def r16_3 : List AOper := [ao 0 4 (.mv (.k (.i (-1))))]
def c16_4 : ACode := .seq (.reg r16_3) .ret
def c16_5 : ACode := .cond (.t 11) c16_4 .skip
def c16_6 : ACode := .seq (.reg r16_2) c16_5
def r16_7 : List AOper := [ao 0 5 (.mv (.k (.i 0)))]
def r16_8 : List AOper := [ao 0 12 (.mv (.t 5)),
  ao 1 13 (.mv (.t 0)),
  ao 2 14 (.len (.t 13)),
  ao 3 15 (.bin .lss (.t 12) (.t 14))]
def c16_9 : ACode := .cond (.t 15) .skip (.exit 0)
def c16_10 : ACode := .seq (.reg r16_8) c16_9
def r16_11 : List AOper := [ao 0 18 (.mv (.t 0)),
  ao 1 19 (.mv (.t 5)),
  ao 2 20 (.ia 3 (.t 18) (.t 19)),
  ao 3 21 (.ld 3 true (.t 20)),
  ao 4 22 (.mv (.t 1)),
  ao 5 23 (.call (.k (.c (.fn 8 []))) [(.t 21), (.t 22)]),
  ao 6 1 (.mv (.t 23))]
def r16_12 : List AOper := [ao 0 24 (.mv (.t 1)),
  ao 1 25 (.bin .lss (.t 24) (.k (.i 0)))]
def r16_13 : List AOper := [ao 0 4 (.mv (.k (.i (-1))))]
def c16_14 : ACode := .seq (.reg r16_13) .ret
def c16_15 : ACode := .cond (.t 25) c16_14 .skip
def c16_16 : ACode := .seq (.reg r16_11) (.seq (.reg r16_12) c16_15)
def c16_17 : ACode := .block 1 c16_16
def r16_18 : List AOper := [ao 0 16 (.mv (.t 5)),
  ao 1 17 (.bin .add (.t 16) (.k (.i 1))),
  ao 2 5 (.mv (.t 17))]
def c16_19 : ACode := .seq c16_10 (.seq c16_17 (.reg r16_18))
def c16_20 : ACode := .loop c16_19
def c16_21 : ACode := .block 0 c16_20
def c16_22 : ACode := .seq (.reg r16_7) c16_21
def r16_23 : List AOper := [ao 0 26 (.mv (.t 1)),
  ao 1 4 (.mv (.t 26))]
def c16 : ACode := .seq (.reg r16_0) (.seq (.reg r16_1) (.seq c16_6 (.seq c16_22 (.seq (.reg r16_23) .ret))))
def s16 : List ARes := [.tmp 4]
theorem ok16 : okF Try.prog 16 27 c16 s16 := ⟨Try.f16, Try.func16, Try.ntmps16, by kernel_rfl, by kernel_rfl, by kernel_rfl⟩
def inv16 (xs : List DW) (left : Int) (i : Nat) (σ : St) : Prop := ((xs.length + wsum wW (xs.take i) : Nat) : Int) ≤ left ∧ σ.t 0 = .c (.v (.sl (en eW xs))) ∧ σ.t 1 = .i (left - ((xs.length + wsum wW (xs.take i) : Nat) : Int)) ∧ σ.t 5 = .i i
theorem UGa_1 : (type_of% (uA c16.eq_1)) ∧ (type_of% (uR r16_0.eq_1)) ∧ (type_of% (uR r16_1.eq_1)) ∧ (type_of% (uA c16_6.eq_1)) ∧ (type_of% (uR r16_2.eq_1)) ∧ (type_of% (uA c16_5.eq_1)) ∧ (type_of% (uA c16_4.eq_1)) ∧ (type_of% (uR r16_3.eq_1)) ∧ (type_of% (uA c16_22.eq_1)) ∧ (type_of% (uR r16_7.eq_1)) ∧ (type_of% (uA c16_21.eq_1)) ∧ (type_of% (uA c16_20.eq_1)) ∧ (type_of% (uR r16_23.eq_1)) ∧ (type_of% s16.eq_1) :=
  ⟨uA c16.eq_1, uR r16_0.eq_1, uR r16_1.eq_1, uA c16_6.eq_1, uR r16_2.eq_1, uA c16_5.eq_1, uA c16_4.eq_1, uR r16_3.eq_1, uA c16_22.eq_1, uR r16_7.eq_1, uA c16_21.eq_1, uA c16_20.eq_1, uR r16_23.eq_1, s16.eq_1⟩
theorem UGa_11 : (type_of% (uA c16_19.eq_1)) ∧ (type_of% (uA c16_10.eq_1)) ∧ (type_of% (uR r16_8.eq_1)) ∧ (type_of% (uA c16_9.eq_1)) ∧ (type_of% (uA c16_17.eq_1)) ∧ (type_of% (uA c16_16.eq_1)) ∧ (type_of% (uR r16_11.eq_1)) ∧ (type_of% (uR r16_12.eq_1)) ∧ (type_of% (uA c16_15.eq_1)) ∧ (type_of% (uA c16_14.eq_1)) ∧ (type_of% (uR r16_13.eq_1)) ∧ (type_of% (uR r16_18.eq_1)) ∧ (type_of% (uA c16.eq_1)) ∧ (type_of% (uR r16_0.eq_1)) ∧ (type_of% (uR r16_1.eq_1)) ∧ (type_of% (uA c16_6.eq_1)) ∧ (type_of% (uR r16_2.eq_1)) ∧ (type_of% (uA c16_5.eq_1)) ∧ (type_of% (uA c16_4.eq_1)) ∧ (type_of% (uR r16_3.eq_1)) ∧ (type_of% (uA c16_22.eq_1)) ∧ (type_of% (uR r16_7.eq_1)) ∧ (type_of% (uA c16_21.eq_1)) ∧ (type_of% (uA c16_20.eq_1)) ∧ (type_of% (uR r16_23.eq_1)) ∧ (type_of% s16.eq_1) :=
  ⟨uA c16_19.eq_1, uA c16_10.eq_1, uR r16_8.eq_1, uA c16_9.eq_1, uA c16_17.eq_1, uA c16_16.eq_1, uR r16_11.eq_1, uR r16_12.eq_1, uA c16_15.eq_1, uA c16_14.eq_1, uR r16_13.eq_1, uR r16_18.eq_1, uA c16.eq_1, uR r16_0.eq_1, uR r16_1.eq_1, uA c16_6.eq_1, uR r16_2.eq_1, uA c16_5.eq_1, uA c16_4.eq_1, uR r16_3.eq_1, uA c16_22.eq_1, uR r16_7.eq_1, uA c16_21.eq_1, uA c16_20.eq_1, uR r16_23.eq_1, s16.eq_1⟩
theorem szDWs_ok (xs : List DW) (left : Int) (h0 : 0 ≤ left ∧ left ≤ 1048576) (hl : xs.length ≤ 9223372036854775807) (hw : ∀ x ∈ xs, okDW x) : ACallsF Try.prog 16 [.c (.v (.sl (en eW xs))), .i left] [] (.i (sub1 left (xs.length + wsum wW xs))) := by
  refine ACallsF.intro ok16 follows fun X c0 => ?_
  have gw0 : IntKind.i64.wrap (left - xs.length) = left - xs.length := wrap64 ⟨by omega, by omega⟩
  by_cases hA : (xs.length : Int) ≤ left
  · have k0 : ¬ left - (xs.length : Int) < 0 := by omega
    simp only [RUN, core, T.c, T.s, T.b, T.i, sBin, sInt, sUn, isShift, asInt, P1.cells, loadT, ptrC, storeT, putC, fillP, Nat.reduceAdd, reduceIte, Nat.reduceEqDiff, Nat.reduceLT, Nat.reduceLeDiff, reduceCtorEq, eq_self, FIT, lendCs_map, verC_map, FinC, resPs, resP, lendPl, lendCs, lendC, sealC, partsT, finHs, tupT, verT, verP, verC, verB, verAt, Blk.ver, handsAre, forall_const, CHT, disj, Nat.reduceBEq, beq_self_eq_true, APT, srcOf, sealPs, sealCs, sealC, toVs, Option.map_some, List.mem_singleton, forall_eq, ALT, UGa_1, gw0, k0]
    refine AW.upto xs.length (inv16 xs left) ⟨by simpa [wsum] using hA, rfl, by show T.i (left - (xs.length : Int)) = _; simp [wsum], rfl⟩ fun i t H c hi h => ?_
    obtain ⟨g, e0, e1, e5⟩ := h
    simp only [T.c, T.i] at e0 e1 e5
    by_cases hlt : i < xs.length
    · obtain ⟨x, hx⟩ : ∃ x, xs[i]? = some x := ⟨_, List.getElem?_eq_getElem hlt⟩
      have ex := en_at eW hx
      have k1 : (i : Int) < xs.length := by omega
      have gz : (0 : Int) ≤ i := by omega
      have gw : IntKind.i64.wrap ((i : Int) + 1) = ((i + 1 : Nat) : Int) := wrap64 (x := (i : Int) + 1) ⟨by omega, by omega⟩
      have hs : wsum wW (xs.take (i + 1)) = wsum wW (xs.take i) + wW x := wsum_take wW hx
      have hle : wsum wW (xs.take (i + 1)) ≤ wsum wW xs := wsum_le wW xs _
      have hwx := hw x (List.mem_of_getElem? hx)
      simp only [RUN, core, T.c, T.s, T.b, T.i, sBin, sInt, sUn, isShift, asInt, P1.cells, loadT, ptrC, storeT, putC, fillP, Nat.reduceAdd, reduceIte, Nat.reduceEqDiff, Nat.reduceLT, Nat.reduceLeDiff, reduceCtorEq, eq_self, FIT, lendCs_map, verC_map, FinC, resPs, resP, lendPl, lendCs, lendC, sealC, partsT, finHs, tupT, verT, verP, verC, verB, verAt, Blk.ver, handsAre, forall_const, CHT, disj, Nat.reduceBEq, beq_self_eq_true, APT, srcOf, sealPs, sealCs, sealC, toVs, Option.map_some, List.mem_singleton, forall_eq, ALT, UGa_11, e0, e1, e5, en_len, k1, gz, ex, Int.toNat_natCast, eW]
      refine callC (szDW_ok x _ ⟨by omega, by omega⟩ hwx) rfl rfl (by simp [closedA, closedP, closedC]) rfl ?_
      by_cases hB : ((wW x : Nat) : Int) ≤ left - ((xs.length + wsum wW (xs.take i) : Nat) : Int)
      · have k2 : sub1 (left - ((xs.length + wsum wW (xs.take i) : Nat) : Int)) (wW x) = left - ((xs.length + wsum wW (xs.take (i + 1)) : Nat) : Int) := by rw [sub1, if_pos hB]; omega
        have k3 : ¬ left - ((xs.length + wsum wW (xs.take (i + 1)) : Nat) : Int) < 0 := by omega
        simp only [RUN, core, T.c, T.s, T.b, T.i, sBin, sInt, sUn, isShift, asInt, P1.cells, loadT, ptrC, storeT, putC, fillP, Nat.reduceAdd, reduceIte, Nat.reduceEqDiff, Nat.reduceLT, Nat.reduceLeDiff, reduceCtorEq, eq_self, FIT, lendCs_map, verC_map, FinC, resPs, resP, lendPl, lendCs, lendC, sealC, partsT, finHs, tupT, verT, verP, verC, verB, verAt, Blk.ver, handsAre, forall_const, CHT, disj, Nat.reduceBEq, beq_self_eq_true, APT, srcOf, sealPs, sealCs, sealC, toVs, Option.map_some, List.mem_singleton, forall_eq, ALT, UGa_11, e5, k2, k3, gw]
        exact ⟨hlt, by omega, e0, rfl, rfl⟩
      · have k2 : sub1 (left - ((xs.length + wsum wW (xs.take i) : Nat) : Int)) (wW x) = -1 := by rw [sub1, if_neg hB]
        have k3 : sub1 left (xs.length + wsum wW xs) = -1 := by rw [sub1, if_neg (by omega)]
        simp only [RUN, core, T.c, T.s, T.b, T.i, sBin, sInt, sUn, isShift, asInt, P1.cells, loadT, ptrC, storeT, putC, fillP, Nat.reduceAdd, reduceIte, Nat.reduceEqDiff, Nat.reduceLT, Nat.reduceLeDiff, reduceCtorEq, eq_self, FIT, lendCs_map, verC_map, FinC, resPs, resP, lendPl, lendCs, lendC, sealC, partsT, finHs, tupT, verT, verP, verC, verB, verAt, Blk.ver, handsAre, forall_const, CHT, disj, Nat.reduceBEq, beq_self_eq_true, APT, srcOf, sealPs, sealCs, sealC, toVs, Option.map_some, List.mem_singleton, forall_eq, ALT, UGa_11, UGa_1, k2, k3, Int.reduceLT]
    · have k1 : ¬ (i : Int) < xs.length := by omega
      have hi2 : i = xs.length := by omega
      subst hi2
      rw [List.take_length] at g
      rw [List.take_length] at e1
      have k3 : sub1 left (xs.length + wsum wW xs) = left - ((xs.length + wsum wW xs : Nat) : Int) := by rw [sub1, if_pos g]
      simp only [RUN, core, T.c, T.s, T.b, T.i, sBin, sInt, sUn, isShift, asInt, P1.cells, loadT, ptrC, storeT, putC, fillP, Nat.reduceAdd, reduceIte, Nat.reduceEqDiff, Nat.reduceLT, Nat.reduceLeDiff, reduceCtorEq, eq_self, FIT, lendCs_map, verC_map, FinC, resPs, resP, lendPl, lendCs, lendC, sealC, partsT, finHs, tupT, verT, verP, verC, verB, verAt, Blk.ver, handsAre, forall_const, CHT, disj, Nat.reduceBEq, beq_self_eq_true, APT, srcOf, sealPs, sealCs, sealC, toVs, Option.map_some, List.mem_singleton, forall_eq, ALT, UGa_11, UGa_1, e0, e1, e5, en_len, k1, k3]
  · have k0 : left - (xs.length : Int) < 0 := by omega
    have k3 : sub1 left (xs.length + wsum wW xs) = -1 := by rw [sub1, if_neg (by omega)]
    simp only [RUN, core, T.c, T.s, T.b, T.i, sBin, sInt, sUn, isShift, asInt, P1.cells, loadT, ptrC, storeT, putC, fillP, Nat.reduceAdd, reduceIte, Nat.reduceEqDiff, Nat.reduceLT, Nat.reduceLeDiff, reduceCtorEq, eq_self, FIT, lendCs_map, verC_map, FinC, resPs, resP, lendPl, lendCs, lendC, sealC, partsT, finHs, tupT, verT, verP, verC, verB, verAt, Blk.ver, handsAre, forall_const, CHT, disj, Nat.reduceBEq, beq_self_eq_true, APT, srcOf, sealPs, sealCs, sealC, toVs, Option.map_some, List.mem_singleton, forall_eq, ALT, UGa_1, gw0, k0, k3]
/- loop.example/teagle/laws.szIntS -/
def r64_0 : List AOper := [ao 0 4 (.mv (.k (.i 0)))]
def r64_1 : List AOper := [ao 0 5 (.mv (.t 1)),
  ao 1 6 (.mv (.t 0)),
  ao 2 7 (.len (.t 6)),
  ao 3 8 (.bin .sub (.t 5) (.t 7)),
  ao 4 1 (.mv (.t 8))]
def r64_2 : List AOper := [ao 0 9 (.mv (.t 1)),
  ao 1 10 (.bin .lss (.t 9) (.k (.i 0)))]
def r64_3 : List AOper := [ao 0 4 (.mv (.k (.i (-1))))]
def c64_4 : ACode := .seq (.reg r64_3) .ret
def c64_5 : ACode := .cond (.t 10) c64_4 .skip
def c64_6 : ACode := .seq (.reg r64_2) c64_5
def r64_7 : List AOper := [ao 0 11 (.mv (.t 1)),
  ao 1 4 (.mv (.t 11))]
def c64 : ACode := .seq (.reg r64_0) (.seq (.reg r64_1) (.seq c64_6 (.seq (.reg r64_7) .ret)))
def s64 : List ARes := [.tmp 4]
theorem ok64 : okF Try.prog 64 12 c64 s64 := ⟨Try.f64, Try.func64, Try.ntmps64, by kernel_rfl, by kernel_rfl, by kernel_rfl⟩
theorem UGa_2 : (type_of% (uA c64.eq_1)) ∧ (type_of% (uR r64_0.eq_1)) ∧ (type_of% (uR r64_1.eq_1)) ∧ (type_of% (uA c64_6.eq_1)) ∧ (type_of% (uR r64_2.eq_1)) ∧ (type_of% (uA c64_5.eq_1)) ∧ (type_of% (uA c64_4.eq_1)) ∧ (type_of% (uR r64_3.eq_1)) ∧ (type_of% (uR r64_7.eq_1)) ∧ (type_of% s64.eq_1) :=
  ⟨uA c64.eq_1, uR r64_0.eq_1, uR r64_1.eq_1, uA c64_6.eq_1, uR r64_2.eq_1, uA c64_5.eq_1, uA c64_4.eq_1, uR r64_3.eq_1, uR r64_7.eq_1, s64.eq_1⟩
theorem szIs_ok (xs : List Int) (left : Int) (h0 : 0 ≤ left ∧ left ≤ 1048576) (hl : xs.length ≤ 9223372036854775807) : ACallsF Try.prog 64 [tL (en eI xs), .i left] [] (.i (sub1 left xs.length)) := by
  refine ACallsF.intro ok64 follows fun X c0 => ?_
  have gw0 : IntKind.i64.wrap (left - xs.length) = left - xs.length := wrap64 ⟨by omega, by omega⟩
  by_cases hA : (xs.length : Int) ≤ left
  · have k0 : ¬ left - (xs.length : Int) < 0 := by omega
    have k3 : sub1 left xs.length = left - (xs.length : Int) := by rw [sub1, if_pos (by omega)]
    simp only [RUN, core, T.c, T.s, T.b, T.i, sBin, sInt, sUn, isShift, asInt, P1.cells, loadT, ptrC, storeT, putC, fillP, Nat.reduceAdd, reduceIte, Nat.reduceEqDiff, Nat.reduceLT, Nat.reduceLeDiff, reduceCtorEq, eq_self, FIT, lendCs_map, verC_map, FinC, resPs, resP, lendPl, lendCs, lendC, sealC, partsT, finHs, tupT, verT, verP, verC, verB, verAt, Blk.ver, handsAre, forall_const, CHT, disj, Nat.reduceBEq, beq_self_eq_true, APT, srcOf, sealPs, sealCs, sealC, toVs, Option.map_some, List.mem_singleton, forall_eq, ALT, UGa_2, en_len, gw0, k0, k3]
  · have k0 : left - (xs.length : Int) < 0 := by omega
    have k3 : sub1 left xs.length = -1 := by rw [sub1, if_neg (by omega)]
    simp only [RUN, core, T.c, T.s, T.b, T.i, sBin, sInt, sUn, isShift, asInt, P1.cells, loadT, ptrC, storeT, putC, fillP, Nat.reduceAdd, reduceIte, Nat.reduceEqDiff, Nat.reduceLT, Nat.reduceLeDiff, reduceCtorEq, eq_self, FIT, lendCs_map, verC_map, FinC, resPs, resP, lendPl, lendCs, lendC, sealC, partsT, finHs, tupT, verT, verP, verC, verB, verAt, Blk.ver, handsAre, forall_const, CHT, disj, Nat.reduceBEq, beq_self_eq_true, APT, srcOf, sealPs, sealCs, sealC, toVs, Option.map_some, List.mem_singleton, forall_eq, ALT, UGa_2, en_len, gw0, k0, k3]
/- loop.example/teagle/laws.szLogAct -/
def r17_0 : List AOper := [ao 0 2 (.box 46 (.t 0)),
  ao 1 4 (.mv (.k (.i 0)))]
def r17_1 : List AOper := [ao 0 5 (.mv (.t 1)),
  ao 1 6 (.fa 1 (.t 2)),
  ao 2 7 (.ld 1 false (.t 6)),
  ao 3 8 (.lenS (.t 7)),
  ao 4 9 (.bin .sub (.t 5) (.t 8)),
  ao 5 1 (.mv (.t 9))]
def r17_2 : List AOper := [ao 0 10 (.mv (.t 1)),
  ao 1 11 (.bin .lss (.t 10) (.k (.i 0)))]
def r17_3 : List AOper := [ao 0 4 (.mv (.k (.i (-1))))]
def c17_4 : ACode := .seq (.reg r17_3) .ret
def c17_5 : ACode := .cond (.t 11) c17_4 .skip
def c17_6 : ACode := .seq (.reg r17_2) c17_5
def r17_7 : List AOper := [ao 0 12 (.fa 5 (.t 2)),
  ao 1 13 (.ld 1 false (.t 12)),
  ao 2 14 (.mv (.t 1)),
  ao 3 15 (.call (.k (.c (.fn 64 []))) [(.t 13), (.t 14)]),
  ao 4 1 (.mv (.t 15))]
def r17_8 : List AOper := [ao 0 16 (.mv (.t 1)),
  ao 1 17 (.bin .lss (.t 16) (.k (.i 0)))]
def r17_9 : List AOper := [ao 0 4 (.mv (.k (.i (-1))))]
def c17_10 : ACode := .seq (.reg r17_9) .ret
def c17_11 : ACode := .cond (.t 17) c17_10 .skip
def c17_12 : ACode := .seq (.reg r17_8) c17_11
def r17_13 : List AOper := [ao 0 18 (.mv (.t 1)),
  ao 1 4 (.mv (.t 18))]
def c17 : ACode := .seq (.reg r17_0) (.seq (.reg r17_1) (.seq c17_6 (.seq (.reg r17_7) (.seq c17_12 (.seq (.reg r17_13) .ret)))))
def s17 : List ARes := [.tmp 4]
theorem ok17 : okF Try.prog 17 19 c17 s17 := ⟨Try.f17, Try.func17, Try.ntmps17, by kernel_rfl, by kernel_rfl, by kernel_rfl⟩
def wLA (a : LA) : Nat := a.data.size + a.keep.length
theorem UGa_3 : (type_of% (uA c17.eq_1)) ∧ (type_of% (uR r17_0.eq_1)) ∧ (type_of% (uR r17_1.eq_1)) ∧ (type_of% (uA c17_6.eq_1)) ∧ (type_of% (uR r17_2.eq_1)) ∧ (type_of% (uA c17_5.eq_1)) ∧ (type_of% (uA c17_4.eq_1)) ∧ (type_of% (uR r17_3.eq_1)) ∧ (type_of% (uR r17_7.eq_1)) ∧ (type_of% (uA c17_12.eq_1)) ∧ (type_of% (uR r17_8.eq_1)) ∧ (type_of% (uA c17_11.eq_1)) ∧ (type_of% (uA c17_10.eq_1)) ∧ (type_of% (uR r17_9.eq_1)) ∧ (type_of% (uR r17_13.eq_1)) ∧ (type_of% s17.eq_1) :=
  ⟨uA c17.eq_1, uR r17_0.eq_1, uR r17_1.eq_1, uA c17_6.eq_1, uR r17_2.eq_1, uA c17_5.eq_1, uA c17_4.eq_1, uR r17_3.eq_1, uR r17_7.eq_1, uA c17_12.eq_1, uR r17_8.eq_1, uA c17_11.eq_1, uA c17_10.eq_1, uR r17_9.eq_1, uR r17_13.eq_1, s17.eq_1⟩
theorem szLA_ok (a : LA) (left : Int) (h0 : 0 ≤ left ∧ left ≤ 1048576) (ha : okLA a) : ACallsF Try.prog 17 [tLA a, .i left] [] (.i (sub1 left (wLA a))) := by
  have h1 := ha.d
  unfold okS at h1
  have gw0 : IntKind.i64.wrap (left - a.data.size) = left - a.data.size := wrap64 ⟨by omega, by omega⟩
  by_cases hA : (a.data.size : Int) ≤ left
  · have k0 : ¬ left - (a.data.size : Int) < 0 := by omega
    have hC := szIs_ok a.keep (left - a.data.size) ⟨by omega, by omega⟩ ha.k
    by_cases hB : (a.keep.length : Int) ≤ left - a.data.size
    · have k1 : sub1 (left - a.data.size) a.keep.length = left - a.data.size - a.keep.length := by rw [sub1, if_pos (by omega)]
      have k2 : sub1 left (wLA a) = left - a.data.size - a.keep.length := by rw [sub1, if_pos (by unfold wLA; omega), wLA]; omega
      have k3 : ¬ left - (a.data.size : Int) - (a.keep.length : Int) < 0 := by omega
      rw [k1] at hC
      refine ACallsF.intro ok17 follows fun X c0 => ?_
      simp only [RUN, core, T.c, T.s, T.b, T.i, sBin, sInt, sUn, isShift, asInt, P1.cells, loadT, ptrC, storeT, putC, fillP, Nat.reduceAdd, reduceIte, Nat.reduceEqDiff, Nat.reduceLT, Nat.reduceLeDiff, reduceCtorEq, eq_self, FIT, lendCs_map, verC_map, FinC, resPs, resP, lendPl, lendCs, lendC, sealC, partsT, finHs, tupT, verT, verP, verC, verB, verAt, Blk.ver, handsAre, forall_const, CHT, disj, Nat.reduceBEq, beq_self_eq_true, APT, srcOf, sealPs, sealCs, sealC, toVs, Option.map_some, List.mem_singleton, forall_eq, ALT, UGa_3, gw0, k0]
      refine callC hC rfl rfl rfl rfl ?_
      simp only [RUN, core, T.c, T.s, T.b, T.i, sBin, sInt, sUn, isShift, asInt, P1.cells, loadT, ptrC, storeT, putC, fillP, Nat.reduceAdd, reduceIte, Nat.reduceEqDiff, Nat.reduceLT, Nat.reduceLeDiff, reduceCtorEq, eq_self, FIT, lendCs_map, verC_map, FinC, resPs, resP, lendPl, lendCs, lendC, sealC, partsT, finHs, tupT, verT, verP, verC, verB, verAt, Blk.ver, handsAre, forall_const, CHT, disj, Nat.reduceBEq, beq_self_eq_true, APT, srcOf, sealPs, sealCs, sealC, toVs, Option.map_some, List.mem_singleton, forall_eq, ALT, UGa_3, k2, k3]
    · have k1 : sub1 (left - a.data.size) a.keep.length = -1 := by rw [sub1, if_neg (by omega)]
      have k2 : sub1 left (wLA a) = -1 := by rw [sub1, if_neg (by unfold wLA; omega)]
      rw [k1] at hC
      refine ACallsF.intro ok17 follows fun X c0 => ?_
      simp only [RUN, core, T.c, T.s, T.b, T.i, sBin, sInt, sUn, isShift, asInt, P1.cells, loadT, ptrC, storeT, putC, fillP, Nat.reduceAdd, reduceIte, Nat.reduceEqDiff, Nat.reduceLT, Nat.reduceLeDiff, reduceCtorEq, eq_self, FIT, lendCs_map, verC_map, FinC, resPs, resP, lendPl, lendCs, lendC, sealC, partsT, finHs, tupT, verT, verP, verC, verB, verAt, Blk.ver, handsAre, forall_const, CHT, disj, Nat.reduceBEq, beq_self_eq_true, APT, srcOf, sealPs, sealCs, sealC, toVs, Option.map_some, List.mem_singleton, forall_eq, ALT, UGa_3, gw0, k0]
      refine callC hC rfl rfl rfl rfl ?_
      simp only [RUN, core, T.c, T.s, T.b, T.i, sBin, sInt, sUn, isShift, asInt, P1.cells, loadT, ptrC, storeT, putC, fillP, Nat.reduceAdd, reduceIte, Nat.reduceEqDiff, Nat.reduceLT, Nat.reduceLeDiff, reduceCtorEq, eq_self, FIT, lendCs_map, verC_map, FinC, resPs, resP, lendPl, lendCs, lendC, sealC, partsT, finHs, tupT, verT, verP, verC, verB, verAt, Blk.ver, handsAre, forall_const, CHT, disj, Nat.reduceBEq, beq_self_eq_true, APT, srcOf, sealPs, sealCs, sealC, toVs, Option.map_some, List.mem_singleton, forall_eq, ALT, UGa_3, k2, Int.reduceLT]
  · have k0 : left - (a.data.size : Int) < 0 := by omega
    have k2 : sub1 left (wLA a) = -1 := by rw [sub1, if_neg (by unfold wLA; omega)]
    refine ACallsF.intro ok17 follows fun X c0 => ?_
    simp only [RUN, core, T.c, T.s, T.b, T.i, sBin, sInt, sUn, isShift, asInt, P1.cells, loadT, ptrC, storeT, putC, fillP, Nat.reduceAdd, reduceIte, Nat.reduceEqDiff, Nat.reduceLT, Nat.reduceLeDiff, reduceCtorEq, eq_self, FIT, lendCs_map, verC_map, FinC, resPs, resP, lendPl, lendCs, lendC, sealC, partsT, finHs, tupT, verT, verP, verC, verB, verAt, Blk.ver, handsAre, forall_const, CHT, disj, Nat.reduceBEq, beq_self_eq_true, APT, srcOf, sealPs, sealCs, sealC, toVs, Option.map_some, List.mem_singleton, forall_eq, ALT, UGa_3, gw0, k0, k2]
/- loop.example/teagle/laws.toDiskWriteS -/
def r19_0 : List AOper := [ao 0 2 (.mv (.k (.c .nil0)))]
def r19_1 : List AOper := [ao 0 5 (.mv (.t 0)),
  ao 1 6 (.len (.t 5)),
  ao 2 7 (.mks 3 38 40 [(.s (.int .i64 0)), (.s (.string ⟨#[]⟩)), (.s (.string ⟨#[]⟩))] (.t 6) (.t 6)),
  ao 3 3 (.mv (.t 7))]
def r19_2 : List AOper := [ao 0 4 (.mv (.k (.i 0)))]
def r19_3 : List AOper := [ao 0 8 (.mv (.t 4)),
  ao 1 9 (.mv (.t 0)),
  ao 2 10 (.len (.t 9)),
  ao 3 11 (.bin .lss (.t 8) (.t 10))]
def c19_4 : ACode := .cond (.t 11) .skip (.exit 0)
def c19_5 : ACode := .seq (.reg r19_3) c19_4
def r19_6 : List AOper := [ao 0 14 (.mv (.t 3)),
  ao 1 15 (.mv (.t 4)),
  ao 2 16 (.mv (.t 0)),
  ao 3 17 (.mv (.t 4)),
  ao 4 18 (.ia 3 (.t 16) (.t 17)),
  ao 5 19 (.ld 3 true (.t 18)),
  ao 6 20 (.call (.k (.c (.fn 11 []))) [(.t 19)]),
  ao 7 21 (.ia 3 (.t 14) (.t 15)),
  an 8 (.st 3 (.t 21) (.t 20))]
def c19_7 : ACode := .block 1 (.reg r19_6)
def r19_8 : List AOper := [ao 0 12 (.mv (.t 4)),
  ao 1 13 (.bin .add (.t 12) (.k (.i 1))),
  ao 2 4 (.mv (.t 13))]
def c19_9 : ACode := .seq c19_5 (.seq c19_7 (.reg r19_8))
def c19_10 : ACode := .loop c19_9
def c19_11 : ACode := .block 0 c19_10
def c19_12 : ACode := .seq (.reg r19_2) c19_11
def r19_13 : List AOper := [ao 0 22 (.mv (.t 3)),
  ao 1 2 (.mv (.t 22))]
def c19 : ACode := .seq (.reg r19_0) (.seq (.reg r19_1) (.seq c19_12 (.seq (.reg r19_13) .ret)))
def s19 : List ARes := [.tmp 2]
theorem ok19 : okF Try.prog 19 23 c19 s19 := ⟨Try.f19, Try.func19, Try.ntmps19, by kernel_rfl, by kernel_rfl, by kernel_rfl⟩
def inv19 (xs : List DW) (i : Nat) (σ : St) : Prop := σ.t 0 = tL (en eW xs) ∧ (∃ v, σ.t 3 = .c (.own 7 v xs.length) ∧ σ.H 7 = some (.arr v true 3 38 (en eW (part xs zW i)))) ∧ σ.t 4 = .i i
theorem UGa_4 : (type_of% (uA c19.eq_1)) ∧ (type_of% (uR r19_0.eq_1)) ∧ (type_of% (uR r19_1.eq_1)) ∧ (type_of% (uA c19_12.eq_1)) ∧ (type_of% (uR r19_2.eq_1)) ∧ (type_of% (uA c19_11.eq_1)) ∧ (type_of% (uA c19_10.eq_1)) ∧ (type_of% (uR r19_13.eq_1)) ∧ (type_of% s19.eq_1) :=
  ⟨uA c19.eq_1, uR r19_0.eq_1, uR r19_1.eq_1, uA c19_12.eq_1, uR r19_2.eq_1, uA c19_11.eq_1, uA c19_10.eq_1, uR r19_13.eq_1, s19.eq_1⟩
theorem UGa_12 : (type_of% (uA c19_9.eq_1)) ∧ (type_of% (uA c19_5.eq_1)) ∧ (type_of% (uR r19_3.eq_1)) ∧ (type_of% (uA c19_4.eq_1)) ∧ (type_of% (uA c19_7.eq_1)) ∧ (type_of% (uR r19_6.eq_1)) ∧ (type_of% (uR r19_8.eq_1)) ∧ (type_of% (uA c19.eq_1)) ∧ (type_of% (uR r19_0.eq_1)) ∧ (type_of% (uR r19_1.eq_1)) ∧ (type_of% (uA c19_12.eq_1)) ∧ (type_of% (uR r19_2.eq_1)) ∧ (type_of% (uA c19_11.eq_1)) ∧ (type_of% (uA c19_10.eq_1)) ∧ (type_of% (uR r19_13.eq_1)) ∧ (type_of% s19.eq_1) :=
  ⟨uA c19_9.eq_1, uA c19_5.eq_1, uR r19_3.eq_1, uA c19_4.eq_1, uA c19_7.eq_1, uR r19_6.eq_1, uR r19_8.eq_1, uA c19.eq_1, uR r19_0.eq_1, uR r19_1.eq_1, uA c19_12.eq_1, uR r19_2.eq_1, uA c19_11.eq_1, uA c19_10.eq_1, uR r19_13.eq_1, s19.eq_1⟩
theorem toDWs_ok (xs : List DW) (hl : xs.length ≤ 1048576) (m : Nat) : ACallsF Try.prog 19 [tL (en eW xs)] [newH 7 m 3 38 (en eW xs)] (.c (.own 7 0 xs.length)) := by
  refine ACallsF.intro ok19 follows fun X c0 => ?_
  have q0 : (0 : Int) ≤ xs.length := by omega
  have q1 : ((40 : Nat) : Int) * (xs.length : Int) ≤ 281474976710656 := by omega
  have q2 : (xs.length : Int) ≤ 9223372036854775807 := by omega
  simp only [RUN, core, T.c, T.s, T.b, T.i, sBin, sInt, sUn, isShift, asInt, P1.cells, loadT, ptrC, storeT, putC, fillP, Nat.reduceAdd, reduceIte, Nat.reduceEqDiff, Nat.reduceLT, Nat.reduceLeDiff, reduceCtorEq, eq_self, FIT, lendCs_map, verC_map, FinC, resPs, resP, lendPl, lendCs, lendC, sealC, partsT, finHs, tupT, verT, verP, verC, verB, verAt, Blk.ver, handsAre, forall_const, CHT, disj, Nat.reduceBEq, beq_self_eq_true, APT, srcOf, sealPs, sealCs, sealC, toVs, Option.map_some, List.mem_singleton, forall_eq, ALT, UGa_4, q0, q1, q2, Int.le_refl]
  refine AW.upto xs.length (inv19 xs) ?_ fun i t H c hi h => ?_
  · unfold inv19
    rw [part_zero, ← en_rep]
    exact ⟨rfl, ⟨_, rfl, rfl⟩, rfl⟩
  obtain ⟨e0, ⟨v, e3, eH⟩, e4⟩ := h
  simp only [T.c, T.i, tL] at e0 e3 eH e4
  have hpl : (part xs zW i).length = xs.length := part_len xs zW hi
  by_cases hlt : i < xs.length
  · obtain ⟨x, hx⟩ : ∃ x, xs[i]? = some x := ⟨_, List.getElem?_eq_getElem hlt⟩
    have ex := en_at eW hx
    have ez := en_at eW (part_at xs zW hlt)
    have k1 : (i : Int) < xs.length := by omega
    have gz : (0 : Int) ≤ i := by omega
    have gm : i < xs.length := hlt
    have gw : IntKind.i64.wrap ((i : Int) + 1) = ((i + 1 : Nat) : Int) := wrap64 (x := (i : Int) + 1) ⟨by omega, by omega⟩
    have hn : (en eW (part xs zW i)).set i (eW x) = en eW (part xs zW (i + 1)) := by rw [en_set, part_set xs zW hx]
    simp only [RUN, core, T.c, T.s, T.b, T.i, sBin, sInt, sUn, isShift, asInt, P1.cells, loadT, ptrC, storeT, putC, fillP, Nat.reduceAdd, reduceIte, Nat.reduceEqDiff, Nat.reduceLT, Nat.reduceLeDiff, reduceCtorEq, eq_self, FIT, lendCs_map, verC_map, FinC, resPs, resP, lendPl, lendCs, lendC, sealC, partsT, finHs, tupT, verT, verP, verC, verB, verAt, Blk.ver, handsAre, forall_const, CHT, disj, Nat.reduceBEq, beq_self_eq_true, APT, srcOf, sealPs, sealCs, sealC, toVs, Option.map_some, List.mem_singleton, forall_eq, ALT, UGa_12, e0, e3, eH, e4, en_len, k1, gz, gm, ex, ez, eW, Int.toNat_natCast, hpl, gw]
    refine callC (toDW_ok x) rfl rfl (by simp [closedA, closedP, closedC]) (by simp [closedT, closedP, closedC]) ?_
    simp only [RUN, core, T.c, T.s, T.b, T.i, sBin, sInt, sUn, isShift, asInt, P1.cells, loadT, ptrC, storeT, putC, fillP, Nat.reduceAdd, reduceIte, Nat.reduceEqDiff, Nat.reduceLT, Nat.reduceLeDiff, reduceCtorEq, eq_self, FIT, lendCs_map, verC_map, FinC, resPs, resP, lendPl, lendCs, lendC, sealC, partsT, finHs, tupT, verT, verP, verC, verB, verAt, Blk.ver, handsAre, forall_const, CHT, disj, Nat.reduceBEq, beq_self_eq_true, APT, srcOf, sealPs, sealCs, sealC, toVs, Option.map_some, List.mem_singleton, forall_eq, ALT, UGa_12, e0, e3, eH, e4, en_len, k1, gz, gm, ex, ez, eW, Int.toNat_natCast, hpl, gw]
    exact ⟨e0, ⟨v, e3, congrArg (fun q => some (Blk.arr v true 3 38 q)) hn⟩, rfl⟩
  · have k1 : ¬ (i : Int) < xs.length := by omega
    have hi2 : i = xs.length := by omega
    subst hi2
    rw [part_end] at eH
    simp only [RUN, core, T.c, T.s, T.b, T.i, sBin, sInt, sUn, isShift, asInt, P1.cells, loadT, ptrC, storeT, putC, fillP, Nat.reduceAdd, reduceIte, Nat.reduceEqDiff, Nat.reduceLT, Nat.reduceLeDiff, reduceCtorEq, eq_self, FIT, lendCs_map, verC_map, FinC, resPs, resP, lendPl, lendCs, lendC, sealC, partsT, finHs, tupT, verT, verP, verC, verB, verAt, Blk.ver, handsAre, forall_const, CHT, disj, Nat.reduceBEq, beq_self_eq_true, APT, srcOf, sealPs, sealCs, sealC, toVs, Option.map_some, List.mem_singleton, forall_eq, ALT, UGa_12, UGa_4, e0, e3, eH, e4, en_len, k1, imp_self]
/- loop.example/teagle/laws.toIntS -/
def r66_0 : List AOper := [ao 0 2 (.mv (.k (.c .nil0)))]
def r66_1 : List AOper := [ao 0 5 (.mv (.t 0)),
  ao 1 6 (.len (.t 5)),
  ao 2 7 (.mks 1 3 8 [(.s (.int .i64 0))] (.t 6) (.t 6)),
  ao 3 3 (.mv (.t 7))]
def r66_2 : List AOper := [ao 0 4 (.mv (.k (.i 0)))]
def r66_3 : List AOper := [ao 0 8 (.mv (.t 4)),
  ao 1 9 (.mv (.t 0)),
  ao 2 10 (.len (.t 9)),
  ao 3 11 (.bin .lss (.t 8) (.t 10))]
def c66_4 : ACode := .cond (.t 11) .skip (.exit 0)
def c66_5 : ACode := .seq (.reg r66_3) c66_4
def r66_6 : List AOper := [ao 0 14 (.mv (.t 3)),
  ao 1 15 (.mv (.t 4)),
  ao 2 16 (.mv (.t 0)),
  ao 3 17 (.mv (.t 4)),
  ao 4 18 (.ia 1 (.t 16) (.t 17)),
  ao 5 19 (.ld 1 false (.t 18)),
  ao 6 20 (.ia 1 (.t 14) (.t 15)),
  an 7 (.st 1 (.t 20) (.t 19))]
def c66_7 : ACode := .block 1 (.reg r66_6)
def r66_8 : List AOper := [ao 0 12 (.mv (.t 4)),
  ao 1 13 (.bin .add (.t 12) (.k (.i 1))),
  ao 2 4 (.mv (.t 13))]
def c66_9 : ACode := .seq c66_5 (.seq c66_7 (.reg r66_8))
def c66_10 : ACode := .loop c66_9
def c66_11 : ACode := .block 0 c66_10
def c66_12 : ACode := .seq (.reg r66_2) c66_11
def r66_13 : List AOper := [ao 0 21 (.mv (.t 3)),
  ao 1 2 (.mv (.t 21))]
def c66 : ACode := .seq (.reg r66_0) (.seq (.reg r66_1) (.seq c66_12 (.seq (.reg r66_13) .ret)))
def s66 : List ARes := [.tmp 2]
theorem ok66 : okF Try.prog 66 22 c66 s66 := ⟨Try.f66, Try.func66, Try.ntmps66, by kernel_rfl, by kernel_rfl, by kernel_rfl⟩
def inv66 (xs : List Int) (i : Nat) (σ : St) : Prop := σ.t 0 = tL (en eI xs) ∧ (∃ v, σ.t 3 = .c (.own 7 v xs.length) ∧ σ.H 7 = some (.arr v true 1 3 (en eI (part xs (0 : Int) i)))) ∧ σ.t 4 = .i i
theorem UGa_5 : (type_of% (uA c66.eq_1)) ∧ (type_of% (uR r66_0.eq_1)) ∧ (type_of% (uR r66_1.eq_1)) ∧ (type_of% (uA c66_12.eq_1)) ∧ (type_of% (uR r66_2.eq_1)) ∧ (type_of% (uA c66_11.eq_1)) ∧ (type_of% (uA c66_10.eq_1)) ∧ (type_of% (uR r66_13.eq_1)) ∧ (type_of% s66.eq_1) :=
  ⟨uA c66.eq_1, uR r66_0.eq_1, uR r66_1.eq_1, uA c66_12.eq_1, uR r66_2.eq_1, uA c66_11.eq_1, uA c66_10.eq_1, uR r66_13.eq_1, s66.eq_1⟩
theorem UGa_13 : (type_of% (uA c66_9.eq_1)) ∧ (type_of% (uA c66_5.eq_1)) ∧ (type_of% (uR r66_3.eq_1)) ∧ (type_of% (uA c66_4.eq_1)) ∧ (type_of% (uA c66_7.eq_1)) ∧ (type_of% (uR r66_6.eq_1)) ∧ (type_of% (uR r66_8.eq_1)) ∧ (type_of% (uA c66.eq_1)) ∧ (type_of% (uR r66_0.eq_1)) ∧ (type_of% (uR r66_1.eq_1)) ∧ (type_of% (uA c66_12.eq_1)) ∧ (type_of% (uR r66_2.eq_1)) ∧ (type_of% (uA c66_11.eq_1)) ∧ (type_of% (uA c66_10.eq_1)) ∧ (type_of% (uR r66_13.eq_1)) ∧ (type_of% s66.eq_1) :=
  ⟨uA c66_9.eq_1, uA c66_5.eq_1, uR r66_3.eq_1, uA c66_4.eq_1, uA c66_7.eq_1, uR r66_6.eq_1, uR r66_8.eq_1, uA c66.eq_1, uR r66_0.eq_1, uR r66_1.eq_1, uA c66_12.eq_1, uR r66_2.eq_1, uA c66_11.eq_1, uA c66_10.eq_1, uR r66_13.eq_1, s66.eq_1⟩
theorem toIs_ok (xs : List Int) (hl : xs.length ≤ 1048576) (m : Nat) : ACallsF Try.prog 66 [tL (en eI xs)] [newH 7 m 1 3 (en eI xs)] (.c (.own 7 0 xs.length)) := by
  refine ACallsF.intro ok66 follows fun X c0 => ?_
  have q0 : (0 : Int) ≤ xs.length := by omega
  have q1 : ((8 : Nat) : Int) * (xs.length : Int) ≤ 281474976710656 := by omega
  have q2 : (xs.length : Int) ≤ 9223372036854775807 := by omega
  simp only [RUN, core, T.c, T.s, T.b, T.i, sBin, sInt, sUn, isShift, asInt, P1.cells, loadT, ptrC, storeT, putC, fillP, Nat.reduceAdd, reduceIte, Nat.reduceEqDiff, Nat.reduceLT, Nat.reduceLeDiff, reduceCtorEq, eq_self, FIT, lendCs_map, verC_map, FinC, resPs, resP, lendPl, lendCs, lendC, sealC, partsT, finHs, tupT, verT, verP, verC, verB, verAt, Blk.ver, handsAre, forall_const, CHT, disj, Nat.reduceBEq, beq_self_eq_true, APT, srcOf, sealPs, sealCs, sealC, toVs, Option.map_some, List.mem_singleton, forall_eq, ALT, UGa_5, q0, q1, q2, Int.le_refl]
  refine AW.upto xs.length (inv66 xs) ?_ fun i t H c hi h => ?_
  · unfold inv66
    rw [part_zero, ← en_rep]
    exact ⟨rfl, ⟨_, rfl, rfl⟩, rfl⟩
  obtain ⟨e0, ⟨v, e3, eH⟩, e4⟩ := h
  simp only [T.c, T.i, tL] at e0 e3 eH e4
  have hpl : (part xs (0 : Int) i).length = xs.length := part_len xs (0 : Int) hi
  by_cases hlt : i < xs.length
  · obtain ⟨x, hx⟩ : ∃ x, xs[i]? = some x := ⟨_, List.getElem?_eq_getElem hlt⟩
    have ex := en_at eI hx
    have ez := en_at eI (part_at xs (0 : Int) hlt)
    have k1 : (i : Int) < xs.length := by omega
    have gz : (0 : Int) ≤ i := by omega
    have gm : i < xs.length := hlt
    have gw : IntKind.i64.wrap ((i : Int) + 1) = ((i + 1 : Nat) : Int) := wrap64 (x := (i : Int) + 1) ⟨by omega, by omega⟩
    have hn : (en eI (part xs (0 : Int) i)).set i (eI x) = en eI (part xs (0 : Int) (i + 1)) := by rw [en_set, part_set xs (0 : Int) hx]
    simp only [RUN, core, T.c, T.s, T.b, T.i, sBin, sInt, sUn, isShift, asInt, P1.cells, loadT, ptrC, storeT, putC, fillP, Nat.reduceAdd, reduceIte, Nat.reduceEqDiff, Nat.reduceLT, Nat.reduceLeDiff, reduceCtorEq, eq_self, FIT, lendCs_map, verC_map, FinC, resPs, resP, lendPl, lendCs, lendC, sealC, partsT, finHs, tupT, verT, verP, verC, verB, verAt, Blk.ver, handsAre, forall_const, CHT, disj, Nat.reduceBEq, beq_self_eq_true, APT, srcOf, sealPs, sealCs, sealC, toVs, Option.map_some, List.mem_singleton, forall_eq, ALT, UGa_13, e0, e3, eH, e4, en_len, k1, gz, gm, ex, ez, eI, Int.toNat_natCast, hpl, gw]
    exact ⟨e0, ⟨v, e3, congrArg (fun q => some (Blk.arr v true 1 3 q)) hn⟩, rfl⟩
  · have k1 : ¬ (i : Int) < xs.length := by omega
    have hi2 : i = xs.length := by omega
    subst hi2
    rw [part_end] at eH
    simp only [RUN, core, T.c, T.s, T.b, T.i, sBin, sInt, sUn, isShift, asInt, P1.cells, loadT, ptrC, storeT, putC, fillP, Nat.reduceAdd, reduceIte, Nat.reduceEqDiff, Nat.reduceLT, Nat.reduceLeDiff, reduceCtorEq, eq_self, FIT, lendCs_map, verC_map, FinC, resPs, resP, lendPl, lendCs, lendC, sealC, partsT, finHs, tupT, verT, verP, verC, verB, verAt, Blk.ver, handsAre, forall_const, CHT, disj, Nat.reduceBEq, beq_self_eq_true, APT, srcOf, sealPs, sealCs, sealC, toVs, Option.map_some, List.mem_singleton, forall_eq, ALT, UGa_13, UGa_5, e0, e3, eH, e4, en_len, k1, imp_self]
/- loop.example/teagle/laws.toLogAct -/
def r20_0 : List AOper := [ao 0 1 (.box 46 (.t 0)),
  ao 1 2 (.alloc 52 [(.v (.s (.int .i64 0))), (.v (.s (.string ⟨#[]⟩))), (.v (.s (.bool false))), (.v (.s (.int .i64 0))), (.v (.s (.int .i64 0))), .nil0])]
def r20_1 : List AOper := [ao 0 3 (.alloc 52 [(.v (.s (.int .i64 0))), (.v (.s (.string ⟨#[]⟩))), (.v (.s (.bool false))), (.v (.s (.int .i64 0))), (.v (.s (.int .i64 0))), .nil0])]
def r20_2 : List AOper := [ao 0 4 (.fa 0 (.t 1)),
  ao 1 5 (.ld 1 false (.t 4)),
  ao 2 6 (.fa 0 (.t 3)),
  an 3 (.st 1 (.t 6) (.t 5))]
def r20_3 : List AOper := [ao 0 7 (.fa 1 (.t 1)),
  ao 1 8 (.ld 1 false (.t 7)),
  ao 2 9 (.fa 1 (.t 3)),
  an 3 (.st 1 (.t 9) (.t 8))]
def r20_4 : List AOper := [ao 0 10 (.fa 2 (.t 1)),
  ao 1 11 (.ld 1 false (.t 10)),
  ao 2 12 (.fa 2 (.t 3)),
  an 3 (.st 1 (.t 12) (.t 11))]
def r20_5 : List AOper := [ao 0 13 (.fa 3 (.t 1)),
  ao 1 14 (.ld 1 false (.t 13)),
  ao 2 15 (.fa 3 (.t 3)),
  an 3 (.st 1 (.t 15) (.t 14))]
def r20_6 : List AOper := [ao 0 16 (.fa 4 (.t 1)),
  ao 1 17 (.ld 1 false (.t 16)),
  ao 2 18 (.fa 4 (.t 3)),
  an 3 (.st 1 (.t 18) (.t 17))]
def r20_7 : List AOper := [ao 0 19 (.fa 5 (.t 1)),
  ao 1 20 (.ld 1 false (.t 19)),
  ao 2 21 (.call (.k (.c (.fn 66 []))) [(.t 20)]),
  ao 3 22 (.fa 5 (.t 3)),
  an 4 (.st 1 (.t 22) (.t 21))]
def r20_8 : List AOper := [ao 0 23 (.ld 6 true (.t 3)),
  an 1 (.st 6 (.t 2) (.t 23))]
def c20 : ACode := .seq (.reg r20_0) (.seq (.reg r20_1) (.seq (.reg r20_2) (.seq (.reg r20_3) (.seq (.reg r20_4) (.seq (.reg r20_5) (.seq (.reg r20_6) (.seq (.reg r20_7) (.seq (.reg r20_8) .ret))))))))
def s20 : List ARes := [.cell 2 6 true]
theorem ok20 : okF Try.prog 20 24 c20 s20 := ⟨Try.f20, Try.func20, Try.ntmps20, by kernel_rfl, by kernel_rfl, by kernel_rfl⟩
theorem UGa_6 : (type_of% (uA c20.eq_1)) ∧ (type_of% (uR r20_0.eq_1)) ∧ (type_of% (uR r20_1.eq_1)) ∧ (type_of% (uR r20_2.eq_1)) ∧ (type_of% (uR r20_3.eq_1)) ∧ (type_of% (uR r20_4.eq_1)) ∧ (type_of% (uR r20_5.eq_1)) ∧ (type_of% (uR r20_6.eq_1)) ∧ (type_of% (uR r20_7.eq_1)) ∧ (type_of% (uR r20_8.eq_1)) ∧ (type_of% s20.eq_1) :=
  ⟨uA c20.eq_1, uR r20_0.eq_1, uR r20_1.eq_1, uR r20_2.eq_1, uR r20_3.eq_1, uR r20_4.eq_1, uR r20_5.eq_1, uR r20_6.eq_1, uR r20_7.eq_1, uR r20_8.eq_1, s20.eq_1⟩
theorem toLA_ok (a : LA) (hl : a.keep.length ≤ 1048576) (m : Nat) : ACallsF Try.prog 20 [tLA a] [newH 1001 m 1 3 (en eI a.keep)] (.pt (oLA 1001 0 a)) := by
  refine ACallsF.intro ok20 follows fun X c0 => ?_
  simp only [RUN, core, T.c, T.s, T.b, T.i, sBin, sInt, sUn, isShift, asInt, P1.cells, loadT, ptrC, storeT, putC, fillP, Nat.reduceAdd, reduceIte, Nat.reduceEqDiff, Nat.reduceLT, Nat.reduceLeDiff, reduceCtorEq, eq_self, FIT, lendCs_map, verC_map, FinC, resPs, resP, lendPl, lendCs, lendC, sealC, partsT, finHs, tupT, verT, verP, verC, verB, verAt, Blk.ver, handsAre, forall_const, CHT, disj, Nat.reduceBEq, beq_self_eq_true, APT, srcOf, sealPs, sealCs, sealC, toVs, Option.map_some, List.mem_singleton, forall_eq, ALT, UGa_6]
  refine callA1 (m := 1001) (ws := []) (ns := []) (toIs_ok a.keep hl 1001) rfl rfl rfl (en_flat eI eI_flat _) ⟨rfl, ?_⟩
  simp only [RUN, core, T.c, T.s, T.b, T.i, sBin, sInt, sUn, isShift, asInt, P1.cells, loadT, ptrC, storeT, putC, fillP, Nat.reduceAdd, reduceIte, Nat.reduceEqDiff, Nat.reduceLT, Nat.reduceLeDiff, reduceCtorEq, eq_self, FIT, lendCs_map, verC_map, FinC, resPs, resP, lendPl, lendCs, lendC, sealC, partsT, finHs, tupT, verT, verP, verC, verB, verAt, Blk.ver, handsAre, forall_const, CHT, disj, Nat.reduceBEq, beq_self_eq_true, APT, srcOf, sealPs, sealCs, sealC, toVs, Option.map_some, List.mem_singleton, forall_eq, ALT, UGa_6, imp_self]
/- loop.example/teagle/laws.eqDiskWrite -/
def r68_0 : List AOper := [ao 0 2 (.box 38 (.t 0)),
  ao 1 3 (.box 38 (.t 1)),
  ao 2 4 (.mv (.k (.b false)))]
def r68_1 : List AOper := [ao 0 5 (.fa 0 (.t 2)),
  ao 1 6 (.ld 1 false (.t 5)),
  ao 2 7 (.fa 0 (.t 3)),
  ao 3 8 (.ld 1 false (.t 7)),
  ao 4 9 (.bin .neq (.t 6) (.t 8))]
def r68_2 : List AOper := [ao 0 4 (.mv (.k (.b false)))]
def c68_3 : ACode := .seq (.reg r68_2) .ret
def c68_4 : ACode := .cond (.t 9) c68_3 .skip
def c68_5 : ACode := .seq (.reg r68_1) c68_4
def r68_6 : List AOper := [ao 0 10 (.fa 1 (.t 2)),
  ao 1 11 (.ld 1 false (.t 10)),
  ao 2 12 (.fa 1 (.t 3)),
  ao 3 13 (.ld 1 false (.t 12)),
  ao 4 14 (.bin .neq (.t 11) (.t 13))]
def r68_7 : List AOper := [ao 0 4 (.mv (.k (.b false)))]
def c68_8 : ACode := .seq (.reg r68_7) .ret
def c68_9 : ACode := .cond (.t 14) c68_8 .skip
def c68_10 : ACode := .seq (.reg r68_6) c68_9
def r68_11 : List AOper := [ao 0 15 (.fa 2 (.t 2)),
  ao 1 16 (.ld 1 false (.t 15)),
  ao 2 17 (.fa 2 (.t 3)),
  ao 3 18 (.ld 1 false (.t 17)),
  ao 4 19 (.bin .neq (.t 16) (.t 18))]
def r68_12 : List AOper := [ao 0 4 (.mv (.k (.b false)))]
def c68_13 : ACode := .seq (.reg r68_12) .ret
def c68_14 : ACode := .cond (.t 19) c68_13 .skip
def c68_15 : ACode := .seq (.reg r68_11) c68_14
def r68_16 : List AOper := [ao 0 4 (.mv (.k (.b true)))]
def c68 : ACode := .seq (.reg r68_0) (.seq c68_5 (.seq c68_10 (.seq c68_15 (.seq (.reg r68_16) .ret))))
def s68 : List ARes := [.tmp 4]
theorem ok68 : okF Try.prog 68 20 c68 s68 := ⟨Try.f68, Try.func68, Try.ntmps68, by kernel_rfl, by kernel_rfl, by kernel_rfl⟩
theorem UGa_7 : (type_of% (uA c68.eq_1)) ∧ (type_of% (uR r68_0.eq_1)) ∧ (type_of% (uA c68_5.eq_1)) ∧ (type_of% (uR r68_1.eq_1)) ∧ (type_of% (uA c68_4.eq_1)) ∧ (type_of% (uA c68_3.eq_1)) ∧ (type_of% (uR r68_2.eq_1)) ∧ (type_of% (uA c68_10.eq_1)) ∧ (type_of% (uR r68_6.eq_1)) ∧ (type_of% (uA c68_9.eq_1)) ∧ (type_of% (uA c68_8.eq_1)) ∧ (type_of% (uR r68_7.eq_1)) ∧ (type_of% (uA c68_15.eq_1)) ∧ (type_of% (uR r68_11.eq_1)) ∧ (type_of% (uA c68_14.eq_1)) ∧ (type_of% (uA c68_13.eq_1)) ∧ (type_of% (uR r68_12.eq_1)) ∧ (type_of% (uR r68_16.eq_1)) ∧ (type_of% s68.eq_1) :=
  ⟨uA c68.eq_1, uR r68_0.eq_1, uA c68_5.eq_1, uR r68_1.eq_1, uA c68_4.eq_1, uA c68_3.eq_1, uR r68_2.eq_1, uA c68_10.eq_1, uR r68_6.eq_1, uA c68_9.eq_1, uA c68_8.eq_1, uR r68_7.eq_1, uA c68_15.eq_1, uR r68_11.eq_1, uA c68_14.eq_1, uA c68_13.eq_1, uR r68_12.eq_1, uR r68_16.eq_1, s68.eq_1⟩
theorem eqDW_ok (x : DW) : ACallsF Try.prog 68 [tDW x, tDW x] [] (.b true) := by
  have n0 : (x.kind != x.kind) = false := by simp
  refine ACallsF.intro ok68 follows fun X c0 => ?_
  simp only [RUN, core, T.c, T.s, T.b, T.i, sBin, sInt, sUn, isShift, asInt, P1.cells, loadT, ptrC, storeT, putC, fillP, Nat.reduceAdd, reduceIte, Nat.reduceEqDiff, Nat.reduceLT, Nat.reduceLeDiff, reduceCtorEq, eq_self, FIT, lendCs_map, verC_map, FinC, resPs, resP, lendPl, lendCs, lendC, sealC, partsT, finHs, tupT, verT, verP, verC, verB, verAt, Blk.ver, handsAre, forall_const, CHT, disj, Nat.reduceBEq, beq_self_eq_true, APT, srcOf, sealPs, sealCs, sealC, toVs, Option.map_some, List.mem_singleton, forall_eq, ALT, UGa_7, sStr, str_beq, decide_true, n0]
/- loop.example/teagle/laws.eqDiskWriteS -/
def r22_0 : List AOper := [ao 0 4 (.mv (.k (.b false)))]
def r22_1 : List AOper := [ao 0 6 (.mv (.t 0)),
  ao 1 7 (.len (.t 6)),
  ao 2 8 (.mv (.t 1)),
  ao 3 9 (.len (.t 8)),
  ao 4 10 (.bin .neq (.t 7) (.t 9))]
def r22_2 : List AOper := [ao 0 4 (.mv (.k (.b false)))]
def c22_3 : ACode := .seq (.reg r22_2) .ret
def c22_4 : ACode := .cond (.t 10) c22_3 .skip
def c22_5 : ACode := .seq (.reg r22_1) c22_4
def r22_6 : List AOper := [ao 0 5 (.mv (.k (.i 0)))]
def r22_7 : List AOper := [ao 0 11 (.mv (.t 5)),
  ao 1 12 (.mv (.t 0)),
  ao 2 13 (.len (.t 12)),
  ao 3 14 (.bin .lss (.t 11) (.t 13))]
def c22_8 : ACode := .cond (.t 14) .skip (.exit 0)
def c22_9 : ACode := .seq (.reg r22_7) c22_8
def r22_10 : List AOper := [ao 0 17 (.mv (.t 0)),
  au 1 18 [0] (.mv (.t 5)),
  ao 2 19 (.ia 3 (.t 17) (.t 18)),
  ao 3 20 (.ld 3 true (.t 19)),
  au 4 21 (ru 4) (.mv (.t 1)),
  au 5 22 (ru 5) (.mv (.t 5)),
  au 6 23 (ru 4) (.ia 3 (.t 21) (.t 22)),
  au 7 24 (ru 4) (.ld 3 true (.t 23)),
  ao 8 25 (.call (.k (.c (.fn 68 []))) [(.t 20), (.t 24)]),
  ao 9 26 (.un .not (.t 25))]
def r22_11 : List AOper := [ao 0 4 (.mv (.k (.b false)))]
def c22_12 : ACode := .seq (.reg r22_11) .ret
def c22_13 : ACode := .cond (.t 26) c22_12 .skip
def c22_14 : ACode := .seq (.reg r22_10) c22_13
def c22_15 : ACode := .block 1 c22_14
def r22_16 : List AOper := [ao 0 15 (.mv (.t 5)),
  ao 1 16 (.bin .add (.t 15) (.k (.i 1))),
  ao 2 5 (.mv (.t 16))]
def c22_17 : ACode := .seq c22_9 (.seq c22_15 (.reg r22_16))
def c22_18 : ACode := .loop c22_17
def c22_19 : ACode := .block 0 c22_18
def c22_20 : ACode := .seq (.reg r22_6) c22_19
def r22_21 : List AOper := [ao 0 4 (.mv (.k (.b true)))]
def c22 : ACode := .seq (.reg r22_0) (.seq c22_5 (.seq c22_20 (.seq (.reg r22_21) .ret)))
def s22 : List ARes := [.tmp 4]
theorem ok22 : okF Try.prog 22 27 c22 s22 := ⟨Try.f22, Try.func22, Try.ntmps22, by kernel_rfl, by kernel_rfl, by kernel_rfl⟩
def inv22 (xs : List DW) (i : Nat) (σ : St) : Prop := σ.t 0 = tL (en eW xs) ∧ σ.t 1 = tL (en eW xs) ∧ σ.t 5 = .i i
theorem UGa_8 : (type_of% (uA c22.eq_1)) ∧ (type_of% (uR r22_0.eq_1)) ∧ (type_of% (uA c22_5.eq_1)) ∧ (type_of% (uR r22_1.eq_1)) ∧ (type_of% (uA c22_4.eq_1)) ∧ (type_of% (uA c22_3.eq_1)) ∧ (type_of% (uR r22_2.eq_1)) ∧ (type_of% (uA c22_20.eq_1)) ∧ (type_of% (uR r22_6.eq_1)) ∧ (type_of% (uA c22_19.eq_1)) ∧ (type_of% (uA c22_18.eq_1)) ∧ (type_of% (uR r22_21.eq_1)) ∧ (type_of% s22.eq_1) :=
  ⟨uA c22.eq_1, uR r22_0.eq_1, uA c22_5.eq_1, uR r22_1.eq_1, uA c22_4.eq_1, uA c22_3.eq_1, uR r22_2.eq_1, uA c22_20.eq_1, uR r22_6.eq_1, uA c22_19.eq_1, uA c22_18.eq_1, uR r22_21.eq_1, s22.eq_1⟩
theorem UGa_14 : (type_of% (uA c22_17.eq_1)) ∧ (type_of% (uA c22_9.eq_1)) ∧ (type_of% (uR r22_7.eq_1)) ∧ (type_of% (uA c22_8.eq_1)) ∧ (type_of% (uA c22_15.eq_1)) ∧ (type_of% (uA c22_14.eq_1)) ∧ (type_of% (uR r22_10.eq_1)) ∧ (type_of% (uA c22_13.eq_1)) ∧ (type_of% (uA c22_12.eq_1)) ∧ (type_of% (uR r22_11.eq_1)) ∧ (type_of% (uR r22_16.eq_1)) ∧ (type_of% (uA c22.eq_1)) ∧ (type_of% (uR r22_0.eq_1)) ∧ (type_of% (uA c22_5.eq_1)) ∧ (type_of% (uR r22_1.eq_1)) ∧ (type_of% (uA c22_4.eq_1)) ∧ (type_of% (uA c22_3.eq_1)) ∧ (type_of% (uR r22_2.eq_1)) ∧ (type_of% (uA c22_20.eq_1)) ∧ (type_of% (uR r22_6.eq_1)) ∧ (type_of% (uA c22_19.eq_1)) ∧ (type_of% (uA c22_18.eq_1)) ∧ (type_of% (uR r22_21.eq_1)) ∧ (type_of% s22.eq_1) :=
  ⟨uA c22_17.eq_1, uA c22_9.eq_1, uR r22_7.eq_1, uA c22_8.eq_1, uA c22_15.eq_1, uA c22_14.eq_1, uR r22_10.eq_1, uA c22_13.eq_1, uA c22_12.eq_1, uR r22_11.eq_1, uR r22_16.eq_1, uA c22.eq_1, uR r22_0.eq_1, uA c22_5.eq_1, uR r22_1.eq_1, uA c22_4.eq_1, uA c22_3.eq_1, uR r22_2.eq_1, uA c22_20.eq_1, uR r22_6.eq_1, uA c22_19.eq_1, uA c22_18.eq_1, uR r22_21.eq_1, s22.eq_1⟩
theorem eqDWs_ok (xs : List DW) (hl : xs.length ≤ 9000000000000000000) : ACallsF Try.prog 22 [tL (en eW xs), tL (en eW xs)] [] (.b true) := by
  have n0 : ((xs.length : Int) != xs.length) = false := by simp
  refine ACallsF.intro ok22 follows fun X c0 => ?_
  simp only [RUN, core, T.c, T.s, T.b, T.i, sBin, sInt, sUn, isShift, asInt, P1.cells, loadT, ptrC, storeT, putC, fillP, Nat.reduceAdd, reduceIte, Nat.reduceEqDiff, Nat.reduceLT, Nat.reduceLeDiff, reduceCtorEq, eq_self, FIT, lendCs_map, verC_map, FinC, resPs, resP, lendPl, lendCs, lendC, sealC, partsT, finHs, tupT, verT, verP, verC, verB, verAt, Blk.ver, handsAre, forall_const, CHT, disj, Nat.reduceBEq, beq_self_eq_true, APT, srcOf, sealPs, sealCs, sealC, toVs, Option.map_some, List.mem_singleton, forall_eq, ALT, UGa_8, n0]
  refine AW.upto xs.length (inv22 xs) ⟨rfl, rfl, rfl⟩ fun i t H c hi h => ?_
  obtain ⟨e0, e1, e5⟩ := h
  simp only [T.c, T.i, tL] at e0 e1 e5
  by_cases hlt : i < xs.length
  · obtain ⟨x, hx⟩ : ∃ x, xs[i]? = some x := ⟨_, List.getElem?_eq_getElem hlt⟩
    have ex := en_at eW hx
    have k1 : (i : Int) < xs.length := by omega
    have gz : (0 : Int) ≤ i := by omega
    have gw : IntKind.i64.wrap ((i : Int) + 1) = ((i + 1 : Nat) : Int) := wrap64 (x := (i : Int) + 1) ⟨by omega, by omega⟩
    simp only [RUN, core, T.c, T.s, T.b, T.i, sBin, sInt, sUn, isShift, asInt, P1.cells, loadT, ptrC, storeT, putC, fillP, Nat.reduceAdd, reduceIte, Nat.reduceEqDiff, Nat.reduceLT, Nat.reduceLeDiff, reduceCtorEq, eq_self, FIT, lendCs_map, verC_map, FinC, resPs, resP, lendPl, lendCs, lendC, sealC, partsT, finHs, tupT, verT, verP, verC, verB, verAt, Blk.ver, handsAre, forall_const, CHT, disj, Nat.reduceBEq, beq_self_eq_true, APT, srcOf, sealPs, sealCs, sealC, toVs, Option.map_some, List.mem_singleton, forall_eq, ALT, UGa_14, e0, e1, e5, en_len, k1, gz, ex, eW, Int.toNat_natCast]
    refine callC (eqDW_ok x) rfl rfl (by simp [closedA, closedP, closedC]) rfl ?_
    simp only [RUN, core, T.c, T.s, T.b, T.i, sBin, sInt, sUn, isShift, asInt, P1.cells, loadT, ptrC, storeT, putC, fillP, Nat.reduceAdd, reduceIte, Nat.reduceEqDiff, Nat.reduceLT, Nat.reduceLeDiff, reduceCtorEq, eq_self, FIT, lendCs_map, verC_map, FinC, resPs, resP, lendPl, lendCs, lendC, sealC, partsT, finHs, tupT, verT, verP, verC, verB, verAt, Blk.ver, handsAre, forall_const, CHT, disj, Nat.reduceBEq, beq_self_eq_true, APT, srcOf, sealPs, sealCs, sealC, toVs, Option.map_some, List.mem_singleton, forall_eq, ALT, UGa_14, e5, gw]
    exact ⟨hlt, e0, e1, rfl⟩
  · have k1 : ¬ (i : Int) < xs.length := by omega
    simp only [RUN, core, T.c, T.s, T.b, T.i, sBin, sInt, sUn, isShift, asInt, P1.cells, loadT, ptrC, storeT, putC, fillP, Nat.reduceAdd, reduceIte, Nat.reduceEqDiff, Nat.reduceLT, Nat.reduceLeDiff, reduceCtorEq, eq_self, FIT, lendCs_map, verC_map, FinC, resPs, resP, lendPl, lendCs, lendC, sealC, partsT, finHs, tupT, verT, verP, verC, verB, verAt, Blk.ver, handsAre, forall_const, CHT, disj, Nat.reduceBEq, beq_self_eq_true, APT, srcOf, sealPs, sealCs, sealC, toVs, Option.map_some, List.mem_singleton, forall_eq, ALT, UGa_14, UGa_8, e0, e1, e5, en_len, k1]
theorem ne0 (x : Int) : (x != x) = false := by simp
/- loop.example/teagle/laws.eqIntS -/
def r69_0 : List AOper := [ao 0 4 (.mv (.k (.b false)))]
def r69_1 : List AOper := [ao 0 6 (.mv (.t 0)),
  ao 1 7 (.len (.t 6)),
  ao 2 8 (.mv (.t 1)),
  ao 3 9 (.len (.t 8)),
  ao 4 10 (.bin .neq (.t 7) (.t 9))]
def r69_2 : List AOper := [ao 0 4 (.mv (.k (.b false)))]
def c69_3 : ACode := .seq (.reg r69_2) .ret
def c69_4 : ACode := .cond (.t 10) c69_3 .skip
def c69_5 : ACode := .seq (.reg r69_1) c69_4
def r69_6 : List AOper := [ao 0 5 (.mv (.k (.i 0)))]
def r69_7 : List AOper := [ao 0 11 (.mv (.t 5)),
  ao 1 12 (.mv (.t 0)),
  ao 2 13 (.len (.t 12)),
  ao 3 14 (.bin .lss (.t 11) (.t 13))]
def c69_8 : ACode := .cond (.t 14) .skip (.exit 0)
def c69_9 : ACode := .seq (.reg r69_7) c69_8
def r69_10 : List AOper := [ao 0 17 (.mv (.t 0)),
  au 1 18 [0] (.mv (.t 5)),
  ao 2 19 (.ia 1 (.t 17) (.t 18)),
  ao 3 20 (.ld 1 false (.t 19)),
  au 4 21 (ru 4) (.mv (.t 1)),
  au 5 22 (ru 5) (.mv (.t 5)),
  au 6 23 (ru 4) (.ia 1 (.t 21) (.t 22)),
  au 7 24 (ru 4) (.ld 1 false (.t 23)),
  ao 8 25 (.bin .neq (.t 20) (.t 24))]
def r69_11 : List AOper := [ao 0 4 (.mv (.k (.b false)))]
def c69_12 : ACode := .seq (.reg r69_11) .ret
def c69_13 : ACode := .cond (.t 25) c69_12 .skip
def c69_14 : ACode := .seq (.reg r69_10) c69_13
def c69_15 : ACode := .block 1 c69_14
def r69_16 : List AOper := [ao 0 15 (.mv (.t 5)),
  ao 1 16 (.bin .add (.t 15) (.k (.i 1))),
  ao 2 5 (.mv (.t 16))]
def c69_17 : ACode := .seq c69_9 (.seq c69_15 (.reg r69_16))
def c69_18 : ACode := .loop c69_17
def c69_19 : ACode := .block 0 c69_18
def c69_20 : ACode := .seq (.reg r69_6) c69_19
def r69_21 : List AOper := [ao 0 4 (.mv (.k (.b true)))]
def c69 : ACode := .seq (.reg r69_0) (.seq c69_5 (.seq c69_20 (.seq (.reg r69_21) .ret)))
def s69 : List ARes := [.tmp 4]
theorem ok69 : okF Try.prog 69 26 c69 s69 := ⟨Try.f69, Try.func69, Try.ntmps69, by kernel_rfl, by kernel_rfl, by kernel_rfl⟩
def inv69 (xs : List Int) (i : Nat) (σ : St) : Prop := σ.t 0 = tL (en eI xs) ∧ σ.t 1 = tL (en eI xs) ∧ σ.t 5 = .i i
theorem UGa_9 : (type_of% (uA c69.eq_1)) ∧ (type_of% (uR r69_0.eq_1)) ∧ (type_of% (uA c69_5.eq_1)) ∧ (type_of% (uR r69_1.eq_1)) ∧ (type_of% (uA c69_4.eq_1)) ∧ (type_of% (uA c69_3.eq_1)) ∧ (type_of% (uR r69_2.eq_1)) ∧ (type_of% (uA c69_20.eq_1)) ∧ (type_of% (uR r69_6.eq_1)) ∧ (type_of% (uA c69_19.eq_1)) ∧ (type_of% (uA c69_18.eq_1)) ∧ (type_of% (uR r69_21.eq_1)) ∧ (type_of% s69.eq_1) :=
  ⟨uA c69.eq_1, uR r69_0.eq_1, uA c69_5.eq_1, uR r69_1.eq_1, uA c69_4.eq_1, uA c69_3.eq_1, uR r69_2.eq_1, uA c69_20.eq_1, uR r69_6.eq_1, uA c69_19.eq_1, uA c69_18.eq_1, uR r69_21.eq_1, s69.eq_1⟩
theorem UGa_15 : (type_of% (uA c69_17.eq_1)) ∧ (type_of% (uA c69_9.eq_1)) ∧ (type_of% (uR r69_7.eq_1)) ∧ (type_of% (uA c69_8.eq_1)) ∧ (type_of% (uA c69_15.eq_1)) ∧ (type_of% (uA c69_14.eq_1)) ∧ (type_of% (uR r69_10.eq_1)) ∧ (type_of% (uA c69_13.eq_1)) ∧ (type_of% (uA c69_12.eq_1)) ∧ (type_of% (uR r69_11.eq_1)) ∧ (type_of% (uR r69_16.eq_1)) ∧ (type_of% (uA c69.eq_1)) ∧ (type_of% (uR r69_0.eq_1)) ∧ (type_of% (uA c69_5.eq_1)) ∧ (type_of% (uR r69_1.eq_1)) ∧ (type_of% (uA c69_4.eq_1)) ∧ (type_of% (uA c69_3.eq_1)) ∧ (type_of% (uR r69_2.eq_1)) ∧ (type_of% (uA c69_20.eq_1)) ∧ (type_of% (uR r69_6.eq_1)) ∧ (type_of% (uA c69_19.eq_1)) ∧ (type_of% (uA c69_18.eq_1)) ∧ (type_of% (uR r69_21.eq_1)) ∧ (type_of% s69.eq_1) :=
  ⟨uA c69_17.eq_1, uA c69_9.eq_1, uR r69_7.eq_1, uA c69_8.eq_1, uA c69_15.eq_1, uA c69_14.eq_1, uR r69_10.eq_1, uA c69_13.eq_1, uA c69_12.eq_1, uR r69_11.eq_1, uR r69_16.eq_1, uA c69.eq_1, uR r69_0.eq_1, uA c69_5.eq_1, uR r69_1.eq_1, uA c69_4.eq_1, uA c69_3.eq_1, uR r69_2.eq_1, uA c69_20.eq_1, uR r69_6.eq_1, uA c69_19.eq_1, uA c69_18.eq_1, uR r69_21.eq_1, s69.eq_1⟩
theorem eqIs_ok (xs : List Int) (hl : xs.length ≤ 9000000000000000000) : ACallsF Try.prog 69 [tL (en eI xs), tL (en eI xs)] [] (.b true) := by
  have n0 : ((xs.length : Int) != xs.length) = false := by simp
  refine ACallsF.intro ok69 follows fun X c0 => ?_
  simp only [RUN, core, T.c, T.s, T.b, T.i, sBin, sInt, sUn, isShift, asInt, P1.cells, loadT, ptrC, storeT, putC, fillP, Nat.reduceAdd, reduceIte, Nat.reduceEqDiff, Nat.reduceLT, Nat.reduceLeDiff, reduceCtorEq, eq_self, FIT, lendCs_map, verC_map, FinC, resPs, resP, lendPl, lendCs, lendC, sealC, partsT, finHs, tupT, verT, verP, verC, verB, verAt, Blk.ver, handsAre, forall_const, CHT, disj, Nat.reduceBEq, beq_self_eq_true, APT, srcOf, sealPs, sealCs, sealC, toVs, Option.map_some, List.mem_singleton, forall_eq, ALT, UGa_9, n0]
  refine AW.upto xs.length (inv69 xs) ⟨rfl, rfl, rfl⟩ fun i t H c hi h => ?_
  obtain ⟨e0, e1, e5⟩ := h
  simp only [T.c, T.i, tL] at e0 e1 e5
  by_cases hlt : i < xs.length
  · obtain ⟨x, hx⟩ : ∃ x, xs[i]? = some x := ⟨_, List.getElem?_eq_getElem hlt⟩
    have ex := en_at eI hx
    have k1 : (i : Int) < xs.length := by omega
    have gz : (0 : Int) ≤ i := by omega
    have gw : IntKind.i64.wrap ((i : Int) + 1) = ((i + 1 : Nat) : Int) := wrap64 (x := (i : Int) + 1) ⟨by omega, by omega⟩
    simp only [RUN, core, T.c, T.s, T.b, T.i, sBin, sInt, sUn, isShift, asInt, P1.cells, loadT, ptrC, storeT, putC, fillP, Nat.reduceAdd, reduceIte, Nat.reduceEqDiff, Nat.reduceLT, Nat.reduceLeDiff, reduceCtorEq, eq_self, FIT, lendCs_map, verC_map, FinC, resPs, resP, lendPl, lendCs, lendC, sealC, partsT, finHs, tupT, verT, verP, verC, verB, verAt, Blk.ver, handsAre, forall_const, CHT, disj, Nat.reduceBEq, beq_self_eq_true, APT, srcOf, sealPs, sealCs, sealC, toVs, Option.map_some, List.mem_singleton, forall_eq, ALT, UGa_15, e0, e1, e5, en_len, k1, gz, ex, eI, Int.toNat_natCast, ne0 x, gw]
    exact ⟨hlt, e0, e1, rfl⟩
  · have k1 : ¬ (i : Int) < xs.length := by omega
    simp only [RUN, core, T.c, T.s, T.b, T.i, sBin, sInt, sUn, isShift, asInt, P1.cells, loadT, ptrC, storeT, putC, fillP, Nat.reduceAdd, reduceIte, Nat.reduceEqDiff, Nat.reduceLT, Nat.reduceLeDiff, reduceCtorEq, eq_self, FIT, lendCs_map, verC_map, FinC, resPs, resP, lendPl, lendCs, lendC, sealC, partsT, finHs, tupT, verT, verP, verC, verB, verAt, Blk.ver, handsAre, forall_const, CHT, disj, Nat.reduceBEq, beq_self_eq_true, APT, srcOf, sealPs, sealCs, sealC, toVs, Option.map_some, List.mem_singleton, forall_eq, ALT, UGa_15, UGa_9, e0, e1, e5, en_len, k1]
/- loop.example/teagle/laws.eqLogAct -/
def r23_0 : List AOper := [ao 0 2 (.box 52 (.t 0)),
  ao 1 3 (.box 52 (.t 1)),
  ao 2 4 (.mv (.k (.b false)))]
def r23_1 : List AOper := [ao 0 5 (.fa 0 (.t 2)),
  ao 1 6 (.ld 1 false (.t 5)),
  ao 2 7 (.fa 0 (.t 3)),
  ao 3 8 (.ld 1 false (.t 7)),
  ao 4 9 (.bin .neq (.t 6) (.t 8))]
def r23_2 : List AOper := [ao 0 4 (.mv (.k (.b false)))]
def c23_3 : ACode := .seq (.reg r23_2) .ret
def c23_4 : ACode := .cond (.t 9) c23_3 .skip
def c23_5 : ACode := .seq (.reg r23_1) c23_4
def r23_6 : List AOper := [ao 0 10 (.fa 1 (.t 2)),
  ao 1 11 (.ld 1 false (.t 10)),
  ao 2 12 (.fa 1 (.t 3)),
  ao 3 13 (.ld 1 false (.t 12)),
  ao 4 14 (.bin .neq (.t 11) (.t 13))]
def r23_7 : List AOper := [ao 0 4 (.mv (.k (.b false)))]
def c23_8 : ACode := .seq (.reg r23_7) .ret
def c23_9 : ACode := .cond (.t 14) c23_8 .skip
def c23_10 : ACode := .seq (.reg r23_6) c23_9
def r23_11 : List AOper := [ao 0 15 (.fa 2 (.t 2)),
  ao 1 16 (.ld 1 false (.t 15)),
  ao 2 17 (.fa 2 (.t 3)),
  ao 3 18 (.ld 1 false (.t 17)),
  ao 4 19 (.binB .neq (.t 16) (.t 18))]
def r23_12 : List AOper := [ao 0 4 (.mv (.k (.b false)))]
def c23_13 : ACode := .seq (.reg r23_12) .ret
def c23_14 : ACode := .cond (.t 19) c23_13 .skip
def c23_15 : ACode := .seq (.reg r23_11) c23_14
def r23_16 : List AOper := [ao 0 20 (.fa 3 (.t 2)),
  ao 1 21 (.ld 1 false (.t 20)),
  ao 2 22 (.fa 3 (.t 3)),
  ao 3 23 (.ld 1 false (.t 22)),
  ao 4 24 (.bin .neq (.t 21) (.t 23))]
def r23_17 : List AOper := [ao 0 4 (.mv (.k (.b false)))]
def c23_18 : ACode := .seq (.reg r23_17) .ret
def c23_19 : ACode := .cond (.t 24) c23_18 .skip
def c23_20 : ACode := .seq (.reg r23_16) c23_19
def r23_21 : List AOper := [ao 0 25 (.fa 4 (.t 2)),
  ao 1 26 (.ld 1 false (.t 25)),
  ao 2 27 (.fa 4 (.t 3)),
  ao 3 28 (.ld 1 false (.t 27)),
  ao 4 29 (.bin .neq (.t 26) (.t 28))]
def r23_22 : List AOper := [ao 0 4 (.mv (.k (.b false)))]
def c23_23 : ACode := .seq (.reg r23_22) .ret
def c23_24 : ACode := .cond (.t 29) c23_23 .skip
def c23_25 : ACode := .seq (.reg r23_21) c23_24
def r23_26 : List AOper := [ao 0 30 (.fa 5 (.t 2)),
  ao 1 31 (.ld 1 false (.t 30)),
  ao 2 32 (.fa 5 (.t 3)),
  ao 3 33 (.ld 1 false (.t 32)),
  ao 4 34 (.call (.k (.c (.fn 69 []))) [(.t 31), (.t 33)]),
  ao 5 35 (.un .not (.t 34))]
def r23_27 : List AOper := [ao 0 4 (.mv (.k (.b false)))]
def c23_28 : ACode := .seq (.reg r23_27) .ret
def c23_29 : ACode := .cond (.t 35) c23_28 .skip
def c23_30 : ACode := .seq (.reg r23_26) c23_29
def r23_31 : List AOper := [ao 0 4 (.mv (.k (.b true)))]
def c23 : ACode := .seq (.reg r23_0) (.seq c23_5 (.seq c23_10 (.seq c23_15 (.seq c23_20 (.seq c23_25 (.seq c23_30 (.seq (.reg r23_31) .ret)))))))
def s23 : List ARes := [.tmp 4]
theorem ok23 : okF Try.prog 23 36 c23 s23 := ⟨Try.f23, Try.func23, Try.ntmps23, by kernel_rfl, by kernel_rfl, by kernel_rfl⟩
theorem UGa_10 : (type_of% (uA c23.eq_1)) ∧ (type_of% (uR r23_0.eq_1)) ∧ (type_of% (uA c23_5.eq_1)) ∧ (type_of% (uR r23_1.eq_1)) ∧ (type_of% (uA c23_4.eq_1)) ∧ (type_of% (uA c23_3.eq_1)) ∧ (type_of% (uR r23_2.eq_1)) ∧ (type_of% (uA c23_10.eq_1)) ∧ (type_of% (uR r23_6.eq_1)) ∧ (type_of% (uA c23_9.eq_1)) ∧ (type_of% (uA c23_8.eq_1)) ∧ (type_of% (uR r23_7.eq_1)) ∧ (type_of% (uA c23_15.eq_1)) ∧ (type_of% (uR r23_11.eq_1)) ∧ (type_of% (uA c23_14.eq_1)) ∧ (type_of% (uA c23_13.eq_1)) ∧ (type_of% (uR r23_12.eq_1)) ∧ (type_of% (uA c23_20.eq_1)) ∧ (type_of% (uR r23_16.eq_1)) ∧ (type_of% (uA c23_19.eq_1)) ∧ (type_of% (uA c23_18.eq_1)) ∧ (type_of% (uR r23_17.eq_1)) ∧ (type_of% (uA c23_25.eq_1)) ∧ (type_of% (uR r23_21.eq_1)) ∧ (type_of% (uA c23_24.eq_1)) ∧ (type_of% (uA c23_23.eq_1)) ∧ (type_of% (uR r23_22.eq_1)) ∧ (type_of% (uA c23_30.eq_1)) ∧ (type_of% (uR r23_26.eq_1)) ∧ (type_of% (uA c23_29.eq_1)) ∧ (type_of% (uA c23_28.eq_1)) ∧ (type_of% (uR r23_27.eq_1)) ∧ (type_of% (uR r23_31.eq_1)) ∧ (type_of% s23.eq_1) :=
  ⟨uA c23.eq_1, uR r23_0.eq_1, uA c23_5.eq_1, uR r23_1.eq_1, uA c23_4.eq_1, uA c23_3.eq_1, uR r23_2.eq_1, uA c23_10.eq_1, uR r23_6.eq_1, uA c23_9.eq_1, uA c23_8.eq_1, uR r23_7.eq_1, uA c23_15.eq_1, uR r23_11.eq_1, uA c23_14.eq_1, uA c23_13.eq_1, uR r23_12.eq_1, uA c23_20.eq_1, uR r23_16.eq_1, uA c23_19.eq_1, uA c23_18.eq_1, uR r23_17.eq_1, uA c23_25.eq_1, uR r23_21.eq_1, uA c23_24.eq_1, uA c23_23.eq_1, uR r23_22.eq_1, uA c23_30.eq_1, uR r23_26.eq_1, uA c23_29.eq_1, uA c23_28.eq_1, uR r23_27.eq_1, uR r23_31.eq_1, s23.eq_1⟩
theorem eqLA_ok (a : LA) (hl : a.keep.length ≤ 9000000000000000000) : ACallsF Try.prog 23 [tLA a, tLA a] [] (.b true) := by
  refine ACallsF.intro ok23 follows fun X c0 => ?_
  have b0 : (!(a.cuts == a.cuts)) = false := by simp
  simp only [RUN, core, T.c, T.s, T.b, T.i, sBin, sInt, sUn, isShift, asInt, P1.cells, loadT, ptrC, storeT, putC, fillP, Nat.reduceAdd, reduceIte, Nat.reduceEqDiff, Nat.reduceLT, Nat.reduceLeDiff, reduceCtorEq, eq_self, FIT, lendCs_map, verC_map, FinC, resPs, resP, lendPl, lendCs, lendC, sealC, partsT, finHs, tupT, verT, verP, verC, verB, verAt, Blk.ver, handsAre, forall_const, CHT, disj, Nat.reduceBEq, beq_self_eq_true, APT, srcOf, sealPs, sealCs, sealC, toVs, Option.map_some, List.mem_singleton, forall_eq, ALT, UGa_10, ne0, b0, sStr, str_beq, decide_true]
  refine callC (eqIs_ok a.keep hl) rfl rfl rfl rfl ?_
  simp only [RUN, core, T.c, T.s, T.b, T.i, sBin, sInt, sUn, isShift, asInt, P1.cells, loadT, ptrC, storeT, putC, fillP, Nat.reduceAdd, reduceIte, Nat.reduceEqDiff, Nat.reduceLT, Nat.reduceLeDiff, reduceCtorEq, eq_self, FIT, lendCs_map, verC_map, FinC, resPs, resP, lendPl, lendCs, lendC, sealC, partsT, finHs, tupT, verT, verP, verC, verB, verAt, Blk.ver, handsAre, forall_const, CHT, disj, Nat.reduceBEq, beq_self_eq_true, APT, srcOf, sealPs, sealCs, sealC, toVs, Option.map_some, List.mem_singleton, forall_eq, ALT, UGa_10]
end Go.V
set_option linter.unusedSimpArgs false
namespace Go.V
open Go.Proofs
/- loop.example/teagle/laws.markDiskWriteS -/
def r24_0 : List AOper := [ao 0 4 (.mv (.k (.i 0)))]
def r24_1 : List AOper := [ao 0 5 (.mv (.k (.i 0)))]
def r24_2 : List AOper := [ao 0 6 (.mv (.t 5)),
  ao 1 7 (.mv (.t 0)),
  ao 2 8 (.len (.t 7)),
  ao 3 9 (.bin .lss (.t 6) (.t 8))]
def c24_3 : ACode := .cond (.t 9) .skip (.exit 0)
def c24_4 : ACode := .seq (.reg r24_2) c24_3
def r24_5 : List AOper := [ao 0 12 (.mv (.t 0)),
  ao 1 13 (.mv (.t 5)),
  ao 2 14 (.mv (.t 1)),
  ao 3 15 (.ia 3 (.t 12) (.t 13)),
  ao 4 16 (.fa 0 (.t 15)),
  an 5 (.st 1 (.t 16) (.t 14))]
def r24_6 : List AOper := [ao 0 17 (.mv (.t 1)),
  ao 1 18 (.bin .add (.t 17) (.k (.i 1))),
  ao 2 1 (.mv (.t 18))]
def r24_7 : List AOper := [ao 0 19 (.mv (.t 0)),
  ao 1 20 (.mv (.t 5)),
  ao 2 21 (.mv (.t 1)),
  ao 3 22 (.call (.k (.c (.fn 70 []))) [(.t 21)]),
  ao 4 23 (.ia 3 (.t 19) (.t 20)),
  ao 5 24 (.fa 1 (.t 23)),
  an 6 (.st 1 (.t 24) (.t 22))]
def r24_8 : List AOper := [ao 0 25 (.mv (.t 1)),
  ao 1 26 (.bin .add (.t 25) (.k (.i 1))),
  ao 2 1 (.mv (.t 26))]
def r24_9 : List AOper := [ao 0 27 (.mv (.t 0)),
  ao 1 28 (.mv (.t 5)),
  ao 2 29 (.mv (.t 1)),
  ao 3 30 (.call (.k (.c (.fn 70 []))) [(.t 29)]),
  ao 4 31 (.ia 3 (.t 27) (.t 28)),
  ao 5 32 (.fa 2 (.t 31)),
  an 6 (.st 1 (.t 32) (.t 30))]
def r24_10 : List AOper := [ao 0 33 (.mv (.t 1)),
  ao 1 34 (.bin .add (.t 33) (.k (.i 1))),
  ao 2 1 (.mv (.t 34))]
def c24_11 : ACode := .seq (.reg r24_5) (.seq (.reg r24_6) (.seq (.reg r24_7) (.seq (.reg r24_8) (.seq (.reg r24_9) (.reg r24_10)))))
def c24_12 : ACode := .block 1 c24_11
def r24_13 : List AOper := [ao 0 10 (.mv (.t 5)),
  ao 1 11 (.bin .add (.t 10) (.k (.i 1))),
  ao 2 5 (.mv (.t 11))]
def c24_14 : ACode := .seq c24_4 (.seq c24_12 (.reg r24_13))
def c24_15 : ACode := .loop c24_14
def c24_16 : ACode := .block 0 c24_15
def c24_17 : ACode := .seq (.reg r24_1) c24_16
def r24_18 : List AOper := [ao 0 35 (.mv (.t 1)),
  ao 1 4 (.mv (.t 35))]
def c24 : ACode := .seq (.reg r24_0) (.seq c24_17 (.seq (.reg r24_18) .ret))
def s24 : List ARes := [.tmp 4]
theorem ok24 : okF Try.prog 24 36 c24 s24 := ⟨Try.f24, Try.func24, Try.ntmps24, by kernel_rfl, by kernel_rfl, by kernel_rfl⟩
def inv24 (xs : List DW) (k v : Nat) (i : Nat) (σ : St) : Prop := σ.t 0 = .c (.own 2001 v xs.length) ∧ σ.H 2001 = some (.arr v true 3 38 (en eW (mrk mW 3 xs k i))) ∧ σ.t 1 = .i ((k + 3 * i : Nat) : Int) ∧ σ.t 5 = .i i
theorem UGb_1 : (type_of% (uA c24.eq_1)) ∧ (type_of% (uR r24_0.eq_1)) ∧ (type_of% (uA c24_17.eq_1)) ∧ (type_of% (uR r24_1.eq_1)) ∧ (type_of% (uA c24_16.eq_1)) ∧ (type_of% (uA c24_15.eq_1)) ∧ (type_of% (uR r24_18.eq_1)) ∧ (type_of% s24.eq_1) :=
  ⟨uA c24.eq_1, uR r24_0.eq_1, uA c24_17.eq_1, uR r24_1.eq_1, uA c24_16.eq_1, uA c24_15.eq_1, uR r24_18.eq_1, s24.eq_1⟩
theorem UGb_4 : (type_of% (uA c24_14.eq_1)) ∧ (type_of% (uA c24_4.eq_1)) ∧ (type_of% (uR r24_2.eq_1)) ∧ (type_of% (uA c24_3.eq_1)) ∧ (type_of% (uA c24_12.eq_1)) ∧ (type_of% (uA c24_11.eq_1)) ∧ (type_of% (uR r24_5.eq_1)) ∧ (type_of% (uR r24_6.eq_1)) ∧ (type_of% (uR r24_7.eq_1)) ∧ (type_of% (uR r24_8.eq_1)) ∧ (type_of% (uR r24_9.eq_1)) ∧ (type_of% (uR r24_10.eq_1)) ∧ (type_of% (uR r24_13.eq_1)) ∧ (type_of% (uA c24.eq_1)) ∧ (type_of% (uR r24_0.eq_1)) ∧ (type_of% (uA c24_17.eq_1)) ∧ (type_of% (uR r24_1.eq_1)) ∧ (type_of% (uA c24_16.eq_1)) ∧ (type_of% (uA c24_15.eq_1)) ∧ (type_of% (uR r24_18.eq_1)) ∧ (type_of% s24.eq_1) :=
  ⟨uA c24_14.eq_1, uA c24_4.eq_1, uR r24_2.eq_1, uA c24_3.eq_1, uA c24_12.eq_1, uA c24_11.eq_1, uR r24_5.eq_1, uR r24_6.eq_1, uR r24_7.eq_1, uR r24_8.eq_1, uR r24_9.eq_1, uR r24_10.eq_1, uR r24_13.eq_1, uA c24.eq_1, uR r24_0.eq_1, uA c24_17.eq_1, uR r24_1.eq_1, uA c24_16.eq_1, uA c24_15.eq_1, uR r24_18.eq_1, s24.eq_1⟩
theorem markDWs_ok (xs : List DW) (k : Nat) (h1 : 1 ≤ k) (hk : k + 3 * xs.length ≤ 100000000) (m v : Nat) : ACallsF Try.prog 24 [.c (.own 2001 v xs.length), .i k] [arH 2001 m v 3 38 (en eW xs) (en eW (marks mW 3 k xs.length))] (.i ((k + 3 * xs.length : Nat) : Int)) := by
  refine ACallsF.intro ok24 follows fun X c0 => ?_
  simp only [RUN, core, T.c, T.s, T.b, T.i, sBin, sInt, sUn, isShift, asInt, P1.cells, loadT, ptrC, storeT, putC, fillP, Nat.reduceAdd, reduceIte, Nat.reduceEqDiff, Nat.reduceLT, Nat.reduceLeDiff, reduceCtorEq, eq_self, FIT, lendCs_map, verC_map, FinC, resPs, resP, lendPl, lendCs, lendC, sealC, partsT, finHs, tupT, verT, verP, verC, verB, verAt, Blk.ver, handsAre, forall_const, CHT, disj, Nat.reduceBEq, beq_self_eq_true, APT, srcOf, sealPs, sealCs, sealC, toVs, Option.map_some, List.mem_singleton, forall_eq, ALT, UGb_1]
  refine AW.upto xs.length (inv24 xs k v) ?_ fun i t H c hi h => ?_
  · unfold inv24
    rw [mrk_zero]
    exact ⟨rfl, rfl, rfl, rfl⟩
  obtain ⟨e0, eH, e1, e5⟩ := h
  simp only [T.c, T.i] at e0 eH e1 e5
  have hpl : (mrk mW 3 xs k i).length = xs.length := mrk_len mW 3 xs k hi
  by_cases hlt : i < xs.length
  · obtain ⟨x, hx⟩ : ∃ x, xs[i]? = some x := ⟨_, List.getElem?_eq_getElem hlt⟩
    have ex := en_at eW (mrk_at mW 3 xs k hx)
    have k1 : (i : Int) < xs.length := by omega
    have gz : (0 : Int) ≤ i := by omega
    have gm : i < xs.length := hlt
    have gw : IntKind.i64.wrap ((i : Int) + 1) = ((i + 1 : Nat) : Int) := wrap64 (x := (i : Int) + 1) ⟨by omega, by omega⟩
    have h30 : ¬ (3 : Int) = 0 := by omega
    have q3 : ((k + 3 * i : Nat) : Int).tmod 3 = (((k + 3 * i) % 3 : Nat) : Int) := rfl
    have g0 : IntKind.i64.wrap (((k + 3 * i : Nat) : Int) + 1) = ((k + 3 * i + 1 : Nat) : Int) := (wrap64 (x := ((k + 3 * i : Nat) : Int) + 1) ⟨by omega, by omega⟩).trans (by omega)
    have g1 : IntKind.i64.wrap (((k + 3 * i + 1 : Nat) : Int) + 1) = ((k + 3 * i + 2 : Nat) : Int) := (wrap64 (x := ((k + 3 * i + 1 : Nat) : Int) + 1) ⟨by omega, by omega⟩).trans (by omega)
    have g2 : IntKind.i64.wrap (((k + 3 * i + 2 : Nat) : Int) + 1) = ((k + 3 * (i + 1) : Nat) : Int) := (wrap64 (x := ((k + 3 * i + 2 : Nat) : Int) + 1) ⟨by omega, by omega⟩).trans (by omega)
    have hn : (en eW (mrk mW 3 xs k i)).set i (eW (mW (k + 3 * i))) = en eW (mrk mW 3 xs k (i + 1)) := by rw [en_set, mrk_set mW 3 xs k hx]
    simp only [RUN, core, T.c, T.s, T.b, T.i, sBin, sInt, sUn, isShift, asInt, P1.cells, loadT, ptrC, storeT, putC, fillP, Nat.reduceAdd, reduceIte, Nat.reduceEqDiff, Nat.reduceLT, Nat.reduceLeDiff, reduceCtorEq, eq_self, FIT, lendCs_map, verC_map, FinC, resPs, resP, lendPl, lendCs, lendC, sealC, partsT, finHs, tupT, verT, verP, verC, verB, verAt, Blk.ver, handsAre, forall_const, CHT, disj, Nat.reduceBEq, beq_self_eq_true, APT, srcOf, sealPs, sealCs, sealC, toVs, Option.map_some, List.mem_singleton, forall_eq, ALT, UGb_4, SET, e0, eH, e1, e5, en_len, hpl, k1, gz, gm, ex, eW, mW, g0, g1, g2, gw, h30, q3]
    refine callC (mark_ok (k + 3 * i + 1) (by omega) (by omega)) rfl rfl rfl rfl ?_
    simp only [RUN, core, T.c, T.s, T.b, T.i, sBin, sInt, sUn, isShift, asInt, P1.cells, loadT, ptrC, storeT, putC, fillP, Nat.reduceAdd, reduceIte, Nat.reduceEqDiff, Nat.reduceLT, Nat.reduceLeDiff, reduceCtorEq, eq_self, FIT, lendCs_map, verC_map, FinC, resPs, resP, lendPl, lendCs, lendC, sealC, partsT, finHs, tupT, verT, verP, verC, verB, verAt, Blk.ver, handsAre, forall_const, CHT, disj, Nat.reduceBEq, beq_self_eq_true, APT, srcOf, sealPs, sealCs, sealC, toVs, Option.map_some, List.mem_singleton, forall_eq, ALT, UGb_4, SET, e0, eH, e1, e5, en_len, hpl, k1, gz, gm, ex, eW, mW, g0, g1, g2, gw, h30, q3]
    refine callC (mark_ok (k + 3 * i + 2) (by omega) (by omega)) rfl rfl rfl rfl ?_
    simp only [RUN, core, T.c, T.s, T.b, T.i, sBin, sInt, sUn, isShift, asInt, P1.cells, loadT, ptrC, storeT, putC, fillP, Nat.reduceAdd, reduceIte, Nat.reduceEqDiff, Nat.reduceLT, Nat.reduceLeDiff, reduceCtorEq, eq_self, FIT, lendCs_map, verC_map, FinC, resPs, resP, lendPl, lendCs, lendC, sealC, partsT, finHs, tupT, verT, verP, verC, verB, verAt, Blk.ver, handsAre, forall_const, CHT, disj, Nat.reduceBEq, beq_self_eq_true, APT, srcOf, sealPs, sealCs, sealC, toVs, Option.map_some, List.mem_singleton, forall_eq, ALT, UGb_4, SET, e0, eH, e1, e5, en_len, hpl, k1, gz, gm, ex, eW, mW, g0, g1, g2, gw, h30, q3]
    exact ⟨e0, congrArg (fun q => some (Blk.arr v true 3 38 q)) hn, rfl, rfl⟩
  · have k1 : ¬ (i : Int) < xs.length := by omega
    have hi2 : i = xs.length := by omega
    subst hi2
    rw [mrk_end] at eH
    simp only [RUN, core, T.c, T.s, T.b, T.i, sBin, sInt, sUn, isShift, asInt, P1.cells, loadT, ptrC, storeT, putC, fillP, Nat.reduceAdd, reduceIte, Nat.reduceEqDiff, Nat.reduceLT, Nat.reduceLeDiff, reduceCtorEq, eq_self, FIT, lendCs_map, verC_map, FinC, resPs, resP, lendPl, lendCs, lendC, sealC, partsT, finHs, tupT, verT, verP, verC, verB, verAt, Blk.ver, handsAre, forall_const, CHT, disj, Nat.reduceBEq, beq_self_eq_true, APT, srcOf, sealPs, sealCs, sealC, toVs, Option.map_some, List.mem_singleton, forall_eq, ALT, UGb_4, UGb_1, e0, eH, e1, e5, en_len, k1, imp_self]
/- loop.example/teagle/laws.markIntS -/
def r71_0 : List AOper := [ao 0 4 (.mv (.k (.i 0)))]
def r71_1 : List AOper := [ao 0 5 (.mv (.k (.i 0)))]
def r71_2 : List AOper := [ao 0 6 (.mv (.t 5)),
  ao 1 7 (.mv (.t 0)),
  ao 2 8 (.len (.t 7)),
  ao 3 9 (.bin .lss (.t 6) (.t 8))]
def c71_3 : ACode := .cond (.t 9) .skip (.exit 0)
def c71_4 : ACode := .seq (.reg r71_2) c71_3
def r71_5 : List AOper := [ao 0 12 (.mv (.t 0)),
  ao 1 13 (.mv (.t 5)),
  ao 2 14 (.mv (.t 1)),
  ao 3 15 (.ia 1 (.t 12) (.t 13)),
  an 4 (.st 1 (.t 15) (.t 14))]
def r71_6 : List AOper := [ao 0 16 (.mv (.t 1)),
  ao 1 17 (.bin .add (.t 16) (.k (.i 1))),
  ao 2 1 (.mv (.t 17))]
def c71_7 : ACode := .seq (.reg r71_5) (.reg r71_6)
def c71_8 : ACode := .block 1 c71_7
def r71_9 : List AOper := [ao 0 10 (.mv (.t 5)),
  ao 1 11 (.bin .add (.t 10) (.k (.i 1))),
  ao 2 5 (.mv (.t 11))]
def c71_10 : ACode := .seq c71_4 (.seq c71_8 (.reg r71_9))
def c71_11 : ACode := .loop c71_10
def c71_12 : ACode := .block 0 c71_11
def c71_13 : ACode := .seq (.reg r71_1) c71_12
def r71_14 : List AOper := [ao 0 18 (.mv (.t 1)),
  ao 1 4 (.mv (.t 18))]
def c71 : ACode := .seq (.reg r71_0) (.seq c71_13 (.seq (.reg r71_14) .ret))
def s71 : List ARes := [.tmp 4]
theorem ok71 : okF Try.prog 71 19 c71 s71 := ⟨Try.f71, Try.func71, Try.ntmps71, by kernel_rfl, by kernel_rfl, by kernel_rfl⟩
def inv71 (xs : List Int) (k v : Nat) (i : Nat) (σ : St) : Prop := σ.t 0 = .c (.own 2001 v xs.length) ∧ σ.H 2001 = some (.arr v true 1 3 (en eI (mrk mI 1 xs k i))) ∧ σ.t 1 = .i ((k + 1 * i : Nat) : Int) ∧ σ.t 5 = .i i
theorem UGb_2 : (type_of% (uA c71.eq_1)) ∧ (type_of% (uR r71_0.eq_1)) ∧ (type_of% (uA c71_13.eq_1)) ∧ (type_of% (uR r71_1.eq_1)) ∧ (type_of% (uA c71_12.eq_1)) ∧ (type_of% (uA c71_11.eq_1)) ∧ (type_of% (uR r71_14.eq_1)) ∧ (type_of% s71.eq_1) :=
  ⟨uA c71.eq_1, uR r71_0.eq_1, uA c71_13.eq_1, uR r71_1.eq_1, uA c71_12.eq_1, uA c71_11.eq_1, uR r71_14.eq_1, s71.eq_1⟩
theorem UGb_5 : (type_of% (uA c71_10.eq_1)) ∧ (type_of% (uA c71_4.eq_1)) ∧ (type_of% (uR r71_2.eq_1)) ∧ (type_of% (uA c71_3.eq_1)) ∧ (type_of% (uA c71_8.eq_1)) ∧ (type_of% (uA c71_7.eq_1)) ∧ (type_of% (uR r71_5.eq_1)) ∧ (type_of% (uR r71_6.eq_1)) ∧ (type_of% (uR r71_9.eq_1)) ∧ (type_of% (uA c71.eq_1)) ∧ (type_of% (uR r71_0.eq_1)) ∧ (type_of% (uA c71_13.eq_1)) ∧ (type_of% (uR r71_1.eq_1)) ∧ (type_of% (uA c71_12.eq_1)) ∧ (type_of% (uA c71_11.eq_1)) ∧ (type_of% (uR r71_14.eq_1)) ∧ (type_of% s71.eq_1) :=
  ⟨uA c71_10.eq_1, uA c71_4.eq_1, uR r71_2.eq_1, uA c71_3.eq_1, uA c71_8.eq_1, uA c71_7.eq_1, uR r71_5.eq_1, uR r71_6.eq_1, uR r71_9.eq_1, uA c71.eq_1, uR r71_0.eq_1, uA c71_13.eq_1, uR r71_1.eq_1, uA c71_12.eq_1, uA c71_11.eq_1, uR r71_14.eq_1, s71.eq_1⟩
theorem markIs_ok (xs : List Int) (k : Nat) (h1 : 1 ≤ k) (hk : k + 1 * xs.length ≤ 100000000) (m v : Nat) : ACallsF Try.prog 71 [.c (.own 2001 v xs.length), .i k] [arH 2001 m v 1 3 (en eI xs) (en eI (marks mI 1 k xs.length))] (.i ((k + 1 * xs.length : Nat) : Int)) := by
  refine ACallsF.intro ok71 follows fun X c0 => ?_
  simp only [RUN, core, T.c, T.s, T.b, T.i, sBin, sInt, sUn, isShift, asInt, P1.cells, loadT, ptrC, storeT, putC, fillP, Nat.reduceAdd, reduceIte, Nat.reduceEqDiff, Nat.reduceLT, Nat.reduceLeDiff, reduceCtorEq, eq_self, FIT, lendCs_map, verC_map, FinC, resPs, resP, lendPl, lendCs, lendC, sealC, partsT, finHs, tupT, verT, verP, verC, verB, verAt, Blk.ver, handsAre, forall_const, CHT, disj, Nat.reduceBEq, beq_self_eq_true, APT, srcOf, sealPs, sealCs, sealC, toVs, Option.map_some, List.mem_singleton, forall_eq, ALT, UGb_2]
  refine AW.upto xs.length (inv71 xs k v) ?_ fun i t H c hi h => ?_
  · unfold inv71
    rw [mrk_zero]
    exact ⟨rfl, rfl, rfl, rfl⟩
  obtain ⟨e0, eH, e1, e5⟩ := h
  simp only [T.c, T.i] at e0 eH e1 e5
  have hpl : (mrk mI 1 xs k i).length = xs.length := mrk_len mI 1 xs k hi
  by_cases hlt : i < xs.length
  · obtain ⟨x, hx⟩ : ∃ x, xs[i]? = some x := ⟨_, List.getElem?_eq_getElem hlt⟩
    have ex := en_at eI (mrk_at mI 1 xs k hx)
    have k1 : (i : Int) < xs.length := by omega
    have gz : (0 : Int) ≤ i := by omega
    have gm : i < xs.length := hlt
    have gw : IntKind.i64.wrap ((i : Int) + 1) = ((i + 1 : Nat) : Int) := wrap64 (x := (i : Int) + 1) ⟨by omega, by omega⟩
    have h30 : ¬ (3 : Int) = 0 := by omega
    have q3 : ((k + 1 * i : Nat) : Int).tmod 3 = (((k + 1 * i) % 3 : Nat) : Int) := rfl
    have g0 : IntKind.i64.wrap (((k + 1 * i : Nat) : Int) + 1) = ((k + 1 * (i + 1) : Nat) : Int) := (wrap64 (x := ((k + 1 * i : Nat) : Int) + 1) ⟨by omega, by omega⟩).trans (by omega)
    have hn : (en eI (mrk mI 1 xs k i)).set i (eI (mI (k + 1 * i))) = en eI (mrk mI 1 xs k (i + 1)) := by rw [en_set, mrk_set mI 1 xs k hx]
    simp only [RUN, core, T.c, T.s, T.b, T.i, sBin, sInt, sUn, isShift, asInt, P1.cells, loadT, ptrC, storeT, putC, fillP, Nat.reduceAdd, reduceIte, Nat.reduceEqDiff, Nat.reduceLT, Nat.reduceLeDiff, reduceCtorEq, eq_self, FIT, lendCs_map, verC_map, FinC, resPs, resP, lendPl, lendCs, lendC, sealC, partsT, finHs, tupT, verT, verP, verC, verB, verAt, Blk.ver, handsAre, forall_const, CHT, disj, Nat.reduceBEq, beq_self_eq_true, APT, srcOf, sealPs, sealCs, sealC, toVs, Option.map_some, List.mem_singleton, forall_eq, ALT, UGb_5, SET, e0, eH, e1, e5, en_len, hpl, k1, gz, gm, ex, eI, g0, gw, h30, q3]
    exact ⟨e0, congrArg (fun q => some (Blk.arr v true 1 3 q)) hn, rfl, rfl⟩
  · have k1 : ¬ (i : Int) < xs.length := by omega
    have hi2 : i = xs.length := by omega
    subst hi2
    rw [mrk_end] at eH
    simp only [RUN, core, T.c, T.s, T.b, T.i, sBin, sInt, sUn, isShift, asInt, P1.cells, loadT, ptrC, storeT, putC, fillP, Nat.reduceAdd, reduceIte, Nat.reduceEqDiff, Nat.reduceLT, Nat.reduceLeDiff, reduceCtorEq, eq_self, FIT, lendCs_map, verC_map, FinC, resPs, resP, lendPl, lendCs, lendC, sealC, partsT, finHs, tupT, verT, verP, verC, verB, verAt, Blk.ver, handsAre, forall_const, CHT, disj, Nat.reduceBEq, beq_self_eq_true, APT, srcOf, sealPs, sealCs, sealC, toVs, Option.map_some, List.mem_singleton, forall_eq, ALT, UGb_5, UGb_2, e0, eH, e1, e5, en_len, k1, imp_self]
/-- A call that works in place on the array at the end of a struct of the caller's. -/
theorem callMa {P : Program} {t : Nat → T} {H : HMap} {c : Nat} {f : Opd} {args : List Opd} {fid : FuncId} {n m v st : Nat} {ty : TypeId} {a : LA} {es es' : List (List V)} {x r : T} {k : Nat} {d : Option Nat} {un : List Nat} {l : List AOper} {prev : List (Nat × List Nat × List Nat)} {K : St → Prop}
    (hC : ACallsF P fid [.pt (oLA n v a), x] [arH n m v st ty es es'] r) (hf : ev t f = .pt (.one (.fn fid []))) (hl : args.map (ev t) = [.pt (oLA m v a), x]) (hH : H m = some (.arr v true st ty es)) (hx : closedA x = true) (hr : closedT r = true)
    (hk : chk prev un ⟨r, [(m, .arr v true st ty es')], [m], [m]⟩ = true ∧ DRun P l ((k, [m], [m]) :: prev) K ⟨updD t d r, upd H m (some (.arr v true st ty es')), c⟩) :
    step P k d un (.call f args) l prev K t H c := by
  have hN : renN [arH n m v st ty es es'] n = some (arH n m v st ty es es') := by simp [renN]
  obtain ⟨x1, x2⟩ := closed_A [arH n m v st ty es es'] H x hx
  refine callW (caps := []) («as» := [.pt (oLA m v a), x]) (ws := []) (ns := []) (r' := r) (ob := [(m, .arr v true st ty es')]) [arH n m v st ty es es'] hC hf ?_ ?_ ⟨?_, trivial⟩ (by simp) (by simp) (closed_T _ r hr _) ?_ ?_
  · rw [hl]
    have a1 : lendT H (.pt (oLA n v a)) (.pt (oLA m v a)) = some (.pt (oLA m v a), [], []) := rfl
    simp only [List.map_nil, List.append_nil, lendTs, a1, x1]
  · have a1 : renIT [arH n m v st ty es es'] (.pt (oLA n v a)) = some (.pt (oLA m v a)) := by simp only [renIT, renIs, renI, inN, hN, Option.bind_some, Option.map_some]
    simp only [renITs, a1, x2]
  · show (match renIB [arH n m v st ty es es'] (.arr v true st ty es) with | some B => (updH H []) m = some B | none => False)
    simp only [renIB, updH]
    exact hH
  · simp only [renOBs, renOB, verOf, if_true, Blk.ver]
  · have hq : quiet r [arH n m v st ty es es'] = false := by simp [quiet]
    simpa [hq, updH] using hk
/- loop.example/teagle/laws.markLogAct -/
def r25_0 : List AOper := [ao 0 2 (.box 52 (.t 0)),
  ao 1 4 (.mv (.k (.i 0)))]
def r25_1 : List AOper := [ao 0 5 (.fa 5 (.t 2)),
  ao 1 6 (.ld 1 false (.t 5)),
  ao 2 7 (.mv (.t 1)),
  ao 3 8 (.call (.k (.c (.fn 71 []))) [(.t 6), (.t 7)]),
  ao 4 1 (.mv (.t 8))]
def r25_2 : List AOper := [ao 0 9 (.mv (.t 1)),
  ao 1 4 (.mv (.t 9))]
def c25 : ACode := .seq (.reg r25_0) (.seq (.reg r25_1) (.seq (.reg r25_2) .ret))
def s25 : List ARes := [.tmp 4]
theorem ok25 : okF Try.prog 25 10 c25 s25 := ⟨Try.f25, Try.func25, Try.ntmps25, by kernel_rfl, by kernel_rfl, by kernel_rfl⟩
theorem UGb_3 : (type_of% (uA c25.eq_1)) ∧ (type_of% (uR r25_0.eq_1)) ∧ (type_of% (uR r25_1.eq_1)) ∧ (type_of% (uR r25_2.eq_1)) ∧ (type_of% s25.eq_1) :=
  ⟨uA c25.eq_1, uR r25_0.eq_1, uR r25_1.eq_1, uR r25_2.eq_1, s25.eq_1⟩
theorem markLA_ok (a : LA) (k : Nat) (h1 : 1 ≤ k) (hk : k + 1 * a.keep.length ≤ 100000000) (m v : Nat) : ACallsF Try.prog 25 [.pt (oLA 2001 v a), .i k] [arH 2001 m v 1 3 (en eI a.keep) (en eI (marks mI 1 k a.keep.length))] (.i ((k + 1 * a.keep.length : Nat) : Int)) := by
  refine ACallsF.intro ok25 follows fun X c0 => ?_
  simp only [RUN, core, T.c, T.s, T.b, T.i, sBin, sInt, sUn, isShift, asInt, P1.cells, loadT, ptrC, storeT, putC, fillP, Nat.reduceAdd, reduceIte, Nat.reduceEqDiff, Nat.reduceLT, Nat.reduceLeDiff, reduceCtorEq, eq_self, FIT, lendCs_map, verC_map, FinC, resPs, resP, lendPl, lendCs, lendC, sealC, partsT, finHs, tupT, verT, verP, verC, verB, verAt, Blk.ver, handsAre, forall_const, CHT, disj, Nat.reduceBEq, beq_self_eq_true, APT, srcOf, sealPs, sealCs, sealC, toVs, Option.map_some, List.mem_singleton, forall_eq, ALT, UGb_3]
  refine callM1 (m := 2001) (markIs_ok a.keep k h1 hk 2001 v) rfl rfl rfl rfl rfl ⟨rfl, ?_⟩
  simp only [RUN, core, T.c, T.s, T.b, T.i, sBin, sInt, sUn, isShift, asInt, P1.cells, loadT, ptrC, storeT, putC, fillP, Nat.reduceAdd, reduceIte, Nat.reduceEqDiff, Nat.reduceLT, Nat.reduceLeDiff, reduceCtorEq, eq_self, FIT, lendCs_map, verC_map, FinC, resPs, resP, lendPl, lendCs, lendC, sealC, partsT, finHs, tupT, verT, verP, verC, verB, verAt, Blk.ver, handsAre, forall_const, CHT, disj, Nat.reduceBEq, beq_self_eq_true, APT, srcOf, sealPs, sealCs, sealC, toVs, Option.map_some, List.mem_singleton, forall_eq, ALT, UGb_3, imp_self]
end Go.V
set_option linter.unusedSimpArgs false
namespace Go.V
open Go.Proofs
/-! What a write leaves ok. -/
structure DOk2 (d : Dk) : Prop where
  f : d.files.length ≤ 64
  n : d.names.length ≤ 64
  m : d.moves.length ≤ 128
  l : d.files.map DF.name = made d
  nd : (made d).Nodup
  good : ∀ f ∈ d.files, nameOk f.name = true ∧ f.data.size ≤ 20000 ∧ 0 ≤ f.kept ∧ f.kept ≤ f.data.size
  moves : ∀ (i : Nat) (m : DM), d.moves[i]? = some m → m.gone = true → m.name ∈ aft d.names (d.moves.take i)
theorem DOk.two {d : Dk} (h : DOk d) : DOk2 d := by
  refine ⟨h.f, h.n, h.m, List.ext_getElem? fun i => ?_, made_nodup h.l fun i f hf => ⟨(h.files i f hf).made, (h.files i f hf).one⟩, fun f hf => ?_, h.moves⟩
  · rw [List.getElem?_map]
    cases hi : d.files[i]? with
    | none =>
      have := h.l
      rw [List.getElem?_eq_none_iff] at hi
      exact (List.getElem?_eq_none (by omega)).symm
    | some f => exact (h.files i f hi).made.symm
  · obtain ⟨i, hi⟩ := List.mem_iff_getElem?.1 hf
    have := h.files i f hi
    exact ⟨this.name, this.data, this.lo, this.hi⟩
theorem DOk2.ok {d : Dk} (h : DOk2 d) : DOk d := by
  have hat : ∀ (i : Nat) (f : DF), d.files[i]? = some f → (made d)[i]? = some f.name := fun i f hf => by rw [← h.l, List.getElem?_map, hf]; rfl
  refine ⟨h.f, h.n, h.m, by rw [← h.l, List.length_map], fun i f hf => ?_, h.moves⟩
  obtain ⟨g1, g2, g3, g4⟩ := h.good f (List.mem_of_getElem? hf)
  refine ⟨g1, hat i f hf, g2, g3, g4, fnd_at hf rfl fun j hj g hg e => ?_⟩
  have a := hat i f hf
  have b := hat j g hg
  rw [e] at b
  obtain ⟨hi, ha⟩ := List.getElem?_eq_some_iff.1 a
  obtain ⟨hj2, hb⟩ := List.getElem?_eq_some_iff.1 b
  have := (List.pairwise_iff_getElem.1 h.nd) j i hj2 hi hj
  exact this (by rw [ha, hb])
theorem aft_len2 : ∀ (ms : List DM) (ns : List ByteArray), (aft ns ms).length ≤ ns.length + (mades ms).length
  | [], ns => by simp [aft, mades]
  | m :: ms, ns => by
    cases hg : m.gone with
    | true =>
      have h1 := aft_len2 ms (wo m.name ns)
      have h2 := wo_len m.name ns
      have e : mades (m :: ms) = mades ms := by simp [mades, hg]
      rw [e]
      simp only [aft, hg, if_true]
      omega
    | false =>
      have h1 := aft_len2 ms (ns ++ [m.name])
      have e : mades (m :: ms) = m.name :: mades ms := by simp [mades, hg]
      rw [e]
      simp only [aft, hg, Bool.false_eq_true, if_false]
      simp at h1 ⊢
      omega
theorem aft_moves {ns : List ByteArray} {ms : List DM} {m : DM} (h : ∀ (i : Nat) (x : DM), ms[i]? = some x → x.gone = true → x.name ∈ aft ns (ms.take i)) (hm : m.gone = true → m.name ∈ aft ns ms) : ∀ (i : Nat) (x : DM), (ms ++ [m])[i]? = some x → x.gone = true → x.name ∈ aft ns ((ms ++ [m]).take i) := by
  intro i x hx hg
  by_cases hi : i < ms.length
  · rw [List.getElem?_append_left hi] at hx
    rw [List.take_append_of_le_length (by omega)]
    exact h i x hx hg
  · have hlt := (List.getElem?_eq_some_iff.1 hx).1
    simp at hlt
    have e : i = ms.length := by omega
    subst e
    rw [List.getElem?_append_right (Nat.le_refl _)] at hx
    simp at hx
    subst hx
    rw [List.take_left' rfl]
    exact hm hg
theorem map_set_same {fs : List DF} {i : Nat} {f g : DF} (h : fs[i]? = some f) (hn : g.name = f.name) : (fs.set i g).map DF.name = fs.map DF.name := by
  rw [List.map_set]
  obtain ⟨hi, he⟩ := List.getElem?_eq_some_iff.1 h
  refine List.ext_getElem? fun j => ?_
  rw [List.getElem?_set]
  split
  · rename_i e
    subst e
    rw [if_pos (by simpa using hi), List.getElem?_map, h, hn]; rfl
  · rfl
theorem set_good {fs : List DF} {i : Nat} {g : DF} {Q : DF → Prop} (h : ∀ f ∈ fs, Q f) (hg : Q g) : ∀ f ∈ fs.set i g, Q f := fun f hf => by
  rcases List.mem_or_eq_of_mem_set hf with hf | rfl
  · exact h f hf
  · exact hg
/-- A write that is done leaves an ok disk. -/
theorem DOk.step {d : Dk} (w : DW) (h : DOk d) : DOk (doS d w).1 := by
  have h2 := h.two
  have hdone : DOk2 (doS d w).1 → DOk (doS d w).1 := DOk2.ok
  apply hdone
  unfold doS
  split
  · rename_i hk
    split
    · exact h2
    · rename_i hN
      split
      · exact h2
      · rename_i hL
        have hn : nameOk w.name = true := by
          cases hq : nameOk w.name with
          | true => rfl
          | false => exact absurd (.inl hq) hN
        have hmade : made ⟨d.files ++ [⟨w.name, ⟨#[]⟩, 0⟩], d.names, d.moves ++ [⟨false, w.name⟩]⟩ = made d ++ [w.name] := by simp [made, mades]
        have hnew : w.name ∉ made d := fun hm => by
          rw [← h2.l, List.mem_map] at hm
          obtain ⟨f, hf, e⟩ := hm
          obtain ⟨i, hi⟩ := List.mem_iff_getElem?.1 hf
          have := (fnd_le hi).1
          rw [e] at this
          exact hN (.inr this)
        refine ⟨by simp; omega, h2.n, by simp; omega, ?_, ?_, ?_, aft_moves h2.moves (by simp)⟩
        · rw [hmade, ← h2.l]; simp
        · rw [hmade, List.nodup_append]
          exact ⟨h2.nd, by simp, fun a ha b hb => by rw [List.mem_singleton] at hb; subst hb; intro e; subst e; exact hnew ha⟩
        · intro f hf
          rcases List.mem_append.1 hf with hf | hf
          · exact h2.good f hf
          · rw [List.mem_singleton] at hf
            subst hf
            exact ⟨hn, Nat.zero_le _, Int.le_refl _, Int.le_refl _⟩
  · rename_i hk
    split
    · have hnm : ∀ x ∈ aft d.names d.moves, x ∈ made d := fun x hx => DOk.aft_made (n := d.moves.length) (by rw [List.take_length]; exact hx)
      have hN := (nmI_aft h2.nd d.moves.length (Nat.le_refl _)).2
      rw [List.take_length, List.drop_length] at hN
      have hmade : made (keepD d (aft d.names d.moves)) = aft d.names d.moves := by simp [made, keepD, mades]
      have hl := aft_len2 d.moves d.names
      have hml : (made d).length = d.files.length := h.l
      have hm2 : (made d).length = d.names.length + (mades d.moves).length := by simp [made]
      have hf := h2.f
      refine ⟨by simp only [keepD, List.length_map]; omega, by simp only [keepD]; omega, by simp [keepD], ?_, ?_, ?_, fun i m hm => by simp [keepD] at hm⟩
      · rw [hmade]
        simp only [keepD, List.map_map]
        have : (aft d.names d.moves).map (DF.name ∘ fileOf d.files) = (aft d.names d.moves).map id := List.map_congr_left fun x hx => by
          obtain ⟨_, _, _, h4⟩ := h.find (hnm x hx)
          exact h4
        rw [this, List.map_id]
      · rw [hmade]; simpa [mades] using hN
      · intro f hf
        simp only [keepD, List.mem_map] at hf
        obtain ⟨x, hx, rfl⟩ := hf
        obtain ⟨i, _, h3, _⟩ := h.find (hnm x hx)
        exact h2.good _ (List.mem_of_getElem? h3)
    · rename_i hk5
      split
      · exact h2
      · rename_i hr
        split
        · exact h2
        · rename_i hh
          have hin : w.name ∈ aft d.names d.moves := has_true.1 (by cases hq : has (aft d.names d.moves) w.name with | true => rfl | false => exact absurd hq hh)
          obtain ⟨i, h3, h4, h5⟩ := h.find (DOk.aft_made (n := d.moves.length) (by rw [List.take_length]; exact hin))
          have hgd := h2.good _ (List.mem_of_getElem? h4)
          rw [h3, Int.toNat_natCast]
          split
          · split
            · exact h2
            · rename_i hsz
              refine ⟨by simp only [List.length_set]; exact h2.f, h2.n, h2.m, ?_, h2.nd, set_good h2.good ⟨hgd.1, ?_, hgd.2.2.1, ?_⟩, h2.moves⟩
              · exact (map_set_same (g := ⟨(fileOf d.files w.name).name, (fileOf d.files w.name).data ++ w.data, (fileOf d.files w.name).kept⟩) h4 rfl).trans h2.l
              · simp only [ByteArray.size_append]; omega
              · simp only [ByteArray.size_append]; have := hgd.2.2.2; omega
          · split
            · refine ⟨by simp only [List.length_set]; exact h2.f, h2.n, h2.m, ?_, h2.nd, set_good h2.good ⟨hgd.1, hgd.2.1, by simp, by simp⟩, h2.moves⟩
              exact (map_set_same (g := ⟨(fileOf d.files w.name).name, (fileOf d.files w.name).data, (fileOf d.files w.name).data.size⟩) h4 rfl).trans h2.l
            · split
              · exact h2
              · rename_i hL
                have hmade : made ⟨d.files, d.names, d.moves ++ [⟨true, w.name⟩]⟩ = made d := by simp [made, mades]
                refine ⟨h2.f, h2.n, by simp; omega, by rw [hmade]; exact h2.l, by rw [hmade]; exact h2.nd, h2.good, aft_moves h2.moves fun _ => hin⟩
theorem nameOk_len {s : ByteArray} (h : nameOk s = true) : s.size ≤ 8 := by
  simp only [nameOk, Bool.and_eq_true, decide_eq_true_eq] at h
  exact h.1.1.2
theorem DOk.fine {d : Dk} (h : DOk d) : fineDk d := by
  have h2 := h.two
  have l1 := h2.f
  have l2 := h2.n
  have l3 := h2.m
  have hm : ∀ x ∈ made d, x.size ≤ 8 := fun x hx => by
    rw [← h2.l, List.mem_map] at hx
    obtain ⟨f, hf, rfl⟩ := hx
    exact nameOk_len (h2.good f hf).1
  refine ⟨⟨by omega, by omega, by omega⟩, fun f hf => ?_, fun x hx => ?_, fun m hmm => ?_⟩
  · have a := h2.good f hf
    have b := nameOk_len a.1
    omega
  · have := hm x (List.mem_append.2 (.inl hx)); omega
  · have : m.name ∈ made d := by
      cases hg : m.gone with
      | false => exact List.mem_append.2 (.inr (List.mem_map.2 ⟨m, List.mem_filter.2 ⟨hmm, by simp [hg]⟩, rfl⟩))
      | true =>
        obtain ⟨i, hi⟩ := List.mem_iff_getElem?.1 hmm
        exact DOk.aft_made (h2.moves i m hi hg)
    have := hm _ this; omega
end Go.V
set_option linter.unusedSimpArgs false
namespace Go.V
open Go.Proofs
theorem lendN {H : HMap} {m1 m2 m3 m v1 v2 v3 v n1 n2 n3 n : Nat} {w1 w2 w3 w : Bool} {d : Dk} {ns : List ByteArray} (h1 : H m1 = some (.arr v1 w1 3 88 (en eF d.files))) (h2 : H m2 = some (.arr v2 w2 1 9 (en eS d.names))) (h3 : H m3 = some (.arr v3 w3 2 90 (en eM d.moves))) (h4 : H m = some (.arr v w 1 9 (en eS ns))) (e1 : n1 = d.files.length) (e2 : n2 = d.names.length) (e3 : n3 = d.moves.length) (e4 : n = ns.length) :
    lendTs H [tDk d, tL (en eS ns)] [.pt (.agg [.own m1 v1 n1, .own m2 v2 n2, .own m3 v3 n3]), .c (.own m v n)] = some ([tDk d, tL (en eS ns)], dkL m1 v1 m2 v2 m3 v3 d ++ [(m, .arr v false 1 9 (en eS ns))], [m1, m2, m3, m]) := by
  subst e4
  have a : lendT H (tL (en eS ns)) (.c (.own m v ns.length)) = some (tL (en eS ns), [(m, .arr v false 1 9 (en eS ns))], [m]) := by
    simp only [tL, T.c, lendT, lendC, sealC, h4, en_len, en_take, Nat.le_refl, and_self, if_true, Option.map_some]
  simp only [lendTs, lendDk h1 h2 h3 e1 e2 e3, a, List.append_nil, List.cons_append, List.nil_append]
/-! What a loss of power leaves of a disk. -/
def cutM (k : Int) (f : DF) : Int := if 0 < k then min k ((f.data.size : Int) - f.kept) else 0
def cutF (k : Int) (f : DF) : DF := ⟨f.name, f.data.extract 0 (f.kept + cutM k f).toNat, f.kept + cutM k f⟩
def keepAt (keep : List Int) (i : Nat) : Int := (keep[i]?).getD 0
def cutP (keep : List Int) (fs : List DF) (n : Nat) : List DF := fs.mapIdx fun i f => if i < n then cutF (keepAt keep i) f else f
theorem cutP_len (keep : List Int) (fs : List DF) (n : Nat) : (cutP keep fs n).length = fs.length := by simp [cutP]
theorem cutP_zero (keep : List Int) (fs : List DF) : cutP keep fs 0 = fs := by
  refine List.ext_getElem? fun i => ?_
  rw [cutP, List.getElem?_mapIdx]; cases fs[i]? <;> simp
theorem cutP_at (keep : List Int) {fs : List DF} {i : Nat} {f : DF} (h : fs[i]? = some f) (n : Nat) : (cutP keep fs n)[i]? = some (if i < n then cutF (keepAt keep i) f else f) := by
  rw [cutP, List.getElem?_mapIdx, h]; rfl
theorem cutP_set (keep : List Int) {fs : List DF} {i : Nat} {f : DF} (h : fs[i]? = some f) : (cutP keep fs i).set i (cutF (keepAt keep i) f) = cutP keep fs (i + 1) := by
  have hi := (List.getElem?_eq_some_iff.1 h).1
  refine List.ext_getElem? fun j => ?_
  rw [List.getElem?_set]
  split
  · rename_i e
    subst e
    rw [if_pos (by rw [cutP_len]; exact hi), cutP_at keep h, if_pos (Nat.lt_succ_self _)]
  · rename_i e
    cases hj : fs[j]? with
    | none =>
      have := List.getElem?_eq_none_iff.1 hj
      rw [List.getElem?_eq_none (by rw [cutP_len]; exact this), List.getElem?_eq_none (by rw [cutP_len]; exact this)]
    | some g =>
      rw [cutP_at keep hj, cutP_at keep hj]
      by_cases hlt : j < i
      · rw [if_pos hlt, if_pos (by omega)]
      · rw [if_neg hlt, if_neg (by omega)]
def cutA (keep : List Int) (d : Dk) : Dk := ⟨cutP keep d.files d.files.length, d.names, d.moves⟩
theorem cutM_le {k : Int} {f : DF} (_h0 : 0 ≤ f.kept) (h1 : f.kept ≤ f.data.size) : 0 ≤ cutM k f ∧ f.kept + cutM k f ≤ f.data.size := by
  unfold cutM; split <;> omega
theorem cut_size {k : Int} {f : DF} (h0 : 0 ≤ f.kept) (h1 : f.kept ≤ f.data.size) : ((f.data.extract 0 (f.kept + cutM k f).toNat).size : Int) = f.kept + cutM k f := by
  have := cutM_le (k := k) h0 h1
  rw [ByteArray.size_extract]; omega
theorem DOk.cutA {d : Dk} (keep : List Int) (h : DOk d) : DOk (cutA keep d) := by
  have h2 := h.two
  refine DOk2.ok ⟨by simp only [Go.V.cutA, cutP_len]; exact h2.f, h2.n, h2.m, Eq.trans ?_ h2.l, h2.nd, fun f hf => ?_, h2.moves⟩
  · refine List.ext_getElem? fun i => ?_
    rw [List.getElem?_map, List.getElem?_map]
    cases hi : d.files[i]? with
    | none => rw [List.getElem?_eq_none (by simp only [Go.V.cutA, cutP_len]; exact List.getElem?_eq_none_iff.1 hi)]
    | some f =>
      have : (Go.V.cutA keep d).files[i]? = _ := cutP_at keep hi d.files.length
      rw [this]
      split <;> rfl
  · obtain ⟨i, hi⟩ := List.mem_iff_getElem?.1 hf
    have hl := (List.getElem?_eq_some_iff.1 hi).1
    simp only [Go.V.cutA, cutP_len] at hl
    obtain ⟨g, hg⟩ : ∃ g, d.files[i]? = some g := ⟨_, List.getElem?_eq_getElem hl⟩
    have e : (Go.V.cutA keep d).files[i]? = _ := cutP_at keep hg d.files.length
    rw [hi, if_pos hl] at e
    have e := Option.some.inj e
    obtain ⟨g1, g2, g3, g4⟩ := h2.good g (List.mem_of_getElem? hg)
    have hM := cutM_le (k := keepAt keep i) g3 g4
    have hS := cut_size (k := keepAt keep i) g3 g4
    subst e
    have hz : (cutF (keepAt keep i) g).data.size = (g.data.extract 0 (g.kept + cutM (keepAt keep i) g).toNat).size := rfl
    have hk : (cutF (keepAt keep i) g).kept = g.kept + cutM (keepAt keep i) g := rfl
    exact ⟨g1, by omega, by omega, by omega⟩
def cutN (m : Int) (d : Dk) : Nat := (min (max m 0) (d.moves.length : Int)).toNat
def cutD (d : Dk) (m : Int) (keep : List Int) : Dk := keepD (cutA keep d) (aft d.names (d.moves.take (cutN m d)))
/- loop.example/teagle/spec.DiskCut -/
def r65_0 : List AOper := [ao 0 3 (.box 34 (.t 0)),
  ao 1 6 (.alloc 34 [.nil0, .nil0, .nil0])]
def r65_1 : List AOper := [ao 0 11 (.ld 3 true (.t 3)),
  ao 1 12 (.call (.k (.c (.fn 41 []))) [(.t 11)]),
  ao 2 13 (.un .not (.t 12))]
def r65_2 : List AOper := [ao 0 14 (.build [.nil0, .nil0, .nil0] []),
  an 1 (.st 3 (.t 6) (.t 14))]
def c65_3 : ACode := .seq (.reg r65_2) .ret
def c65_4 : ACode := .cond (.t 13) c65_3 .skip
def c65_5 : ACode := .seq (.reg r65_1) c65_4
def r65_6 : List AOper := [ao 0 15 (.mv (.t 1)),
  ao 1 16 (.bin .lss (.t 15) (.k (.i 0)))]
def r65_7 : List AOper := [ao 0 1 (.mv (.k (.i 0)))]
def c65_8 : ACode := .cond (.t 16) (.reg r65_7) .skip
def c65_9 : ACode := .seq (.reg r65_6) c65_8
def r65_10 : List AOper := [ao 0 17 (.mv (.t 1)),
  ao 1 18 (.fa 2 (.t 3)),
  ao 2 19 (.ld 1 false (.t 18)),
  ao 3 20 (.len (.t 19)),
  ao 4 21 (.bin .gtr (.t 17) (.t 20))]
def r65_11 : List AOper := [ao 0 22 (.fa 2 (.t 3)),
  ao 1 23 (.ld 1 false (.t 22)),
  ao 2 24 (.len (.t 23)),
  ao 3 1 (.mv (.t 24))]
def c65_12 : ACode := .cond (.t 21) (.reg r65_11) .skip
def c65_13 : ACode := .seq (.reg r65_10) c65_12
def r65_14 : List AOper := [ao 0 25 (.ld 3 true (.t 3)),
  ao 1 26 (.call (.k (.c (.fn 42 []))) [(.t 25)]),
  ao 2 7 (.alloc 34 [.nil0, .nil0, .nil0]),
  an 3 (.st 3 (.t 7) (.t 26))]
def r65_15 : List AOper := [ao 0 8 (.mv (.k (.i 0)))]
def r65_16 : List AOper := [ao 0 27 (.mv (.t 8)),
  ao 1 28 (.fa 0 (.t 3)),
  ao 2 29 (.ld 1 false (.t 28)),
  ao 3 30 (.len (.t 29)),
  ao 4 31 (.bin .lss (.t 27) (.t 30))]
def c65_17 : ACode := .cond (.t 31) .skip (.exit 0)
def c65_18 : ACode := .seq (.reg r65_16) c65_17
def r65_19 : List AOper := [ao 0 34 (.fa 0 (.t 3)),
  ao 1 35 (.ld 1 false (.t 34)),
  ao 2 36 (.mv (.t 8)),
  ao 3 37 (.ia 3 (.t 35) (.t 36)),
  ao 4 38 (.ld 3 true (.t 37)),
  ao 5 9 (.alloc 88 [(.v (.s (.string ⟨#[]⟩))), (.v (.s (.string ⟨#[]⟩))), (.v (.s (.int .i64 0)))]),
  an 6 (.st 3 (.t 9) (.t 38))]
def r65_20 : List AOper := [ao 0 10 (.mv (.k (.i 0)))]
def r65_21 : List AOper := [ao 0 39 (.mv (.t 8)),
  ao 1 40 (.mv (.t 2)),
  ao 2 41 (.len (.t 40)),
  ao 3 42 (.bin .lss (.t 39) (.t 41)),
  ao 4 43 (.mv (.t 42)),
  ag 5 44 43 true [] (.mv (.t 2)),
  ag 6 45 43 true [] (.mv (.t 8)),
  ag 7 46 43 true [] (.ia 1 (.t 44) (.t 45)),
  ag 8 47 43 true [] (.ld 1 false (.t 46)),
  ag 9 48 43 true [] (.bin .gtr (.t 47) (.k (.i 0))),
  ao 10 49 (.pick (.t 43) (.t 48) (.k (.b false)))]
def r65_22 : List AOper := [ao 0 50 (.fa 1 (.t 9)),
  ao 1 51 (.ld 1 false (.t 50)),
  ao 2 52 (.lenS (.t 51)),
  ao 3 53 (.fa 2 (.t 9)),
  ao 4 54 (.ld 1 false (.t 53)),
  ao 5 55 (.bin .sub (.t 52) (.t 54)),
  ao 6 10 (.mv (.t 55))]
def r65_23 : List AOper := [ao 0 56 (.mv (.t 2)),
  ao 1 57 (.mv (.t 8)),
  ao 2 58 (.ia 1 (.t 56) (.t 57)),
  ao 3 59 (.ld 1 false (.t 58)),
  ao 4 60 (.mv (.t 10)),
  ao 5 61 (.bin .lss (.t 59) (.t 60))]
def r65_24 : List AOper := [ao 0 62 (.mv (.t 2)),
  ao 1 63 (.mv (.t 8)),
  ao 2 64 (.ia 1 (.t 62) (.t 63)),
  ao 3 65 (.ld 1 false (.t 64)),
  ao 4 10 (.mv (.t 65))]
def c65_25 : ACode := .cond (.t 61) (.reg r65_24) .skip
def c65_26 : ACode := .seq (.reg r65_22) (.seq (.reg r65_23) c65_25)
def c65_27 : ACode := .cond (.t 49) c65_26 .skip
def c65_28 : ACode := .seq (.reg r65_21) c65_27
def r65_29 : List AOper := [ao 0 66 (.fa 0 (.t 7)),
  ao 1 67 (.ld 1 false (.t 66)),
  au 2 68 [0, 1] (.mv (.t 8)),
  au 3 69 (ru 3) (.fa 1 (.t 9)),
  au 4 70 (ru 3) (.ld 1 false (.t 69)),
  au 5 71 (ru 5) (.fa 2 (.t 9)),
  au 6 72 (ru 5) (.ld 1 false (.t 71)),
  au 7 73 (ru 7) (.mv (.t 10)),
  au 8 74 (ru 5) (.bin .add (.t 72) (.t 73)),
  au 9 75 (ru 3) (.slcS (.t 70) none (some (.t 74))),
  ao 10 76 (.ia 3 (.t 67) (.t 68)),
  ao 11 77 (.fa 1 (.t 76)),
  an 12 (.st 1 (.t 77) (.t 75))]
def r65_30 : List AOper := [ao 0 78 (.fa 0 (.t 7)),
  ao 1 79 (.ld 1 false (.t 78)),
  ao 2 80 (.mv (.t 8)),
  ao 3 81 (.fa 2 (.t 9)),
  ao 4 82 (.ld 1 false (.t 81)),
  ao 5 83 (.mv (.t 10)),
  ao 6 84 (.bin .add (.t 82) (.t 83)),
  ao 7 85 (.ia 3 (.t 79) (.t 80)),
  ao 8 86 (.fa 2 (.t 85)),
  an 9 (.st 1 (.t 86) (.t 84))]
def c65_31 : ACode := .seq (.reg r65_19) (.seq (.reg r65_20) (.seq c65_28 (.seq (.reg r65_29) (.reg r65_30))))
def c65_32 : ACode := .block 1 c65_31
def r65_33 : List AOper := [ao 0 32 (.mv (.t 8)),
  ao 1 33 (.bin .add (.t 32) (.k (.i 1))),
  ao 2 8 (.mv (.t 33))]
def c65_34 : ACode := .seq c65_18 (.seq c65_32 (.reg r65_33))
def c65_35 : ACode := .loop c65_34
def c65_36 : ACode := .block 0 c65_35
def c65_37 : ACode := .seq (.reg r65_15) c65_36
def r65_38 : List AOper := [ao 0 87 (.ld 3 true (.t 7)),
  au 1 88 [0] (.ld 3 true (.t 3)),
  au 2 89 [0, 1] (.mv (.t 1)),
  au 3 90 [0] (.call (.k (.c (.fn 98 []))) [(.t 88), (.t 89)]),
  ao 4 91 (.call (.k (.c (.fn 45 []))) [(.t 87), (.t 90)]),
  an 5 (.st 3 (.t 6) (.t 91))]
def c65 : ACode := .seq (.reg r65_0) (.seq c65_5 (.seq c65_9 (.seq c65_13 (.seq (.reg r65_14) (.seq c65_37 (.seq (.reg r65_38) .ret))))))
def s65 : List ARes := [.cell 6 3 true]
theorem ok65 : okF Try.prog 65 92 c65 s65 := ⟨Try.f65, Try.func65, Try.ntmps65, by kernel_rfl, by kernel_rfl, by kernel_rfl⟩
def inv65 (d : Dk) (keep : List Int) (n : Nat) (i : Nat) (σ : St) : Prop := (∃ u, σ.t 3 = .c (.ptr 3 u 0) ∧ σ.H 3 = some (.var u 34 [.v (.sl (en eF d.files)), .v (.sl (en eS d.names)), .v (.sl (en eM d.moves))])) ∧ σ.t 1 = .i n ∧ σ.t 2 = tL (en eI keep) ∧ (∃ u, σ.t 6 = .c (.ptr 6 u 0) ∧ σ.H 6 = some (.var u 34 [.nil0, .nil0, .nil0])) ∧
  (∃ u v, σ.t 7 = .c (.ptr 7 u 0) ∧ σ.H 7 = some (.var u 34 [.own 1001 v d.files.length, .own 1002 v d.names.length, .own 1003 v d.moves.length]) ∧ σ.H 1001 = some (.arr v true 3 88 (en eF (cutP keep d.files i))) ∧ σ.H 1002 = some (.arr v true 1 9 (en eS d.names)) ∧ σ.H 1003 = some (.arr v true 2 90 (en eM d.moves))) ∧ σ.t 8 = .i i
theorem UGd_1 : (type_of% (uA c65.eq_1)) ∧ (type_of% (uR r65_0.eq_1)) ∧ (type_of% (uA c65_5.eq_1)) ∧ (type_of% (uR r65_1.eq_1)) ∧ (type_of% (uA c65_4.eq_1)) ∧ (type_of% (uA c65_3.eq_1)) ∧ (type_of% (uR r65_2.eq_1)) ∧ (type_of% (uA c65_9.eq_1)) ∧ (type_of% (uR r65_6.eq_1)) ∧ (type_of% (uA c65_8.eq_1)) ∧ (type_of% (uR r65_7.eq_1)) ∧ (type_of% (uA c65_13.eq_1)) ∧ (type_of% (uR r65_10.eq_1)) ∧ (type_of% (uA c65_12.eq_1)) ∧ (type_of% (uR r65_11.eq_1)) ∧ (type_of% (uR r65_14.eq_1)) ∧ (type_of% (uA c65_37.eq_1)) ∧ (type_of% (uR r65_15.eq_1)) ∧ (type_of% (uA c65_36.eq_1)) ∧ (type_of% (uA c65_35.eq_1)) ∧ (type_of% (uR r65_38.eq_1)) ∧ (type_of% s65.eq_1) :=
  ⟨uA c65.eq_1, uR r65_0.eq_1, uA c65_5.eq_1, uR r65_1.eq_1, uA c65_4.eq_1, uA c65_3.eq_1, uR r65_2.eq_1, uA c65_9.eq_1, uR r65_6.eq_1, uA c65_8.eq_1, uR r65_7.eq_1, uA c65_13.eq_1, uR r65_10.eq_1, uA c65_12.eq_1, uR r65_11.eq_1, uR r65_14.eq_1, uA c65_37.eq_1, uR r65_15.eq_1, uA c65_36.eq_1, uA c65_35.eq_1, uR r65_38.eq_1, s65.eq_1⟩
theorem UGd_2 : (type_of% (uA c65.eq_1)) ∧ (type_of% (uR r65_0.eq_1)) ∧ (type_of% (uA c65_5.eq_1)) ∧ (type_of% (uR r65_1.eq_1)) ∧ (type_of% (uA c65_4.eq_1)) ∧ (type_of% (uA c65_3.eq_1)) ∧ (type_of% (uR r65_2.eq_1)) ∧ (type_of% (uA c65_9.eq_1)) ∧ (type_of% (uR r65_6.eq_1)) ∧ (type_of% (uA c65_8.eq_1)) ∧ (type_of% (uR r65_7.eq_1)) ∧ (type_of% (uA c65_13.eq_1)) ∧ (type_of% (uR r65_10.eq_1)) ∧ (type_of% (uA c65_12.eq_1)) ∧ (type_of% (uR r65_11.eq_1)) ∧ (type_of% (uR r65_14.eq_1)) ∧ (type_of% (uA c65_37.eq_1)) ∧ (type_of% (uR r65_15.eq_1)) ∧ (type_of% (uR r65_38.eq_1)) ∧ (type_of% s65.eq_1) :=
  ⟨uA c65.eq_1, uR r65_0.eq_1, uA c65_5.eq_1, uR r65_1.eq_1, uA c65_4.eq_1, uA c65_3.eq_1, uR r65_2.eq_1, uA c65_9.eq_1, uR r65_6.eq_1, uA c65_8.eq_1, uR r65_7.eq_1, uA c65_13.eq_1, uR r65_10.eq_1, uA c65_12.eq_1, uR r65_11.eq_1, uR r65_14.eq_1, uA c65_37.eq_1, uR r65_15.eq_1, uR r65_38.eq_1, s65.eq_1⟩
theorem UGd_3 : (type_of% (uA c65_34.eq_1)) ∧ (type_of% (uA c65_18.eq_1)) ∧ (type_of% (uR r65_16.eq_1)) ∧ (type_of% (uA c65_17.eq_1)) ∧ (type_of% (uA c65_32.eq_1)) ∧ (type_of% (uA c65_31.eq_1)) ∧ (type_of% (uR r65_19.eq_1)) ∧ (type_of% (uR r65_20.eq_1)) ∧ (type_of% (uA c65_28.eq_1)) ∧ (type_of% (uR r65_21.eq_1)) ∧ (type_of% (uA c65_27.eq_1)) ∧ (type_of% (uA c65_26.eq_1)) ∧ (type_of% (uR r65_22.eq_1)) ∧ (type_of% (uR r65_23.eq_1)) ∧ (type_of% (uA c65_25.eq_1)) ∧ (type_of% (uR r65_24.eq_1)) ∧ (type_of% (uR r65_29.eq_1)) ∧ (type_of% (uR r65_30.eq_1)) ∧ (type_of% (uR r65_33.eq_1)) ∧ (type_of% (uA c65.eq_1)) ∧ (type_of% (uR r65_0.eq_1)) ∧ (type_of% (uA c65_5.eq_1)) ∧ (type_of% (uR r65_1.eq_1)) ∧ (type_of% (uA c65_4.eq_1)) ∧ (type_of% (uA c65_3.eq_1)) ∧ (type_of% (uR r65_2.eq_1)) ∧ (type_of% (uA c65_9.eq_1)) ∧ (type_of% (uR r65_6.eq_1)) ∧ (type_of% (uA c65_8.eq_1)) ∧ (type_of% (uR r65_7.eq_1)) ∧ (type_of% (uA c65_13.eq_1)) ∧ (type_of% (uR r65_10.eq_1)) ∧ (type_of% (uA c65_12.eq_1)) ∧ (type_of% (uR r65_11.eq_1)) ∧ (type_of% (uR r65_14.eq_1)) ∧ (type_of% (uA c65_37.eq_1)) ∧ (type_of% (uR r65_15.eq_1)) ∧ (type_of% (uA c65_36.eq_1)) ∧ (type_of% (uA c65_35.eq_1)) ∧ (type_of% (uR r65_38.eq_1)) ∧ (type_of% s65.eq_1) :=
  ⟨uA c65_34.eq_1, uA c65_18.eq_1, uR r65_16.eq_1, uA c65_17.eq_1, uA c65_32.eq_1, uA c65_31.eq_1, uR r65_19.eq_1, uR r65_20.eq_1, uA c65_28.eq_1, uR r65_21.eq_1, uA c65_27.eq_1, uA c65_26.eq_1, uR r65_22.eq_1, uR r65_23.eq_1, uA c65_25.eq_1, uR r65_24.eq_1, uR r65_29.eq_1, uR r65_30.eq_1, uR r65_33.eq_1, uA c65.eq_1, uR r65_0.eq_1, uA c65_5.eq_1, uR r65_1.eq_1, uA c65_4.eq_1, uA c65_3.eq_1, uR r65_2.eq_1, uA c65_9.eq_1, uR r65_6.eq_1, uA c65_8.eq_1, uR r65_7.eq_1, uA c65_13.eq_1, uR r65_10.eq_1, uA c65_12.eq_1, uR r65_11.eq_1, uR r65_14.eq_1, uA c65_37.eq_1, uR r65_15.eq_1, uA c65_36.eq_1, uA c65_35.eq_1, uR r65_38.eq_1, s65.eq_1⟩
set_option maxRecDepth 20000 in
set_option maxHeartbeats 1000000 in
theorem cutS_ok (d : Dk) (hD : DOk d) (m : Int) (keep : List Int) : ACallsF Try.prog 65 [tDk d, .i m, tL (en eI keep)] [] (tDk (cutD d m keep)) := by
  have hd := hD.fine
  obtain ⟨b, hb, hC⟩ := okS_ok d hd
  rw [hb.2 hD] at hC
  have l1 := hD.f
  have l2 := hD.n
  have l3 := hD.m
  have hcp := copyDk_ok d hd.s 1001 1002 1003
  have hn := hD.cutA keep
  have loop : ∀ (n : Nat) (hn0 : n = cutN m d) (X : Ctx) (t : Nat → T) (H : HMap) (c : Nat), inv65 d keep n 0 ⟨t, H, c⟩ → wpa Try.prog X c65_36 (thenW Try.prog X (.seq (.reg r65_38) .ret) (endA (FinC s65 (tDk (cutD d m keep)) []))) ⟨t, H, c⟩ := by
    intro n hn0 X t H c h0
    have hnl : n ≤ d.moves.length := by rw [hn0, cutN]; omega
    simp only [RUN, core, T.c, T.s, T.b, T.i, sBin, sInt, sUn, isShift, asInt, P1.cells, loadT, ptrC, storeT, putC, fillP, Nat.reduceAdd, reduceIte, Nat.reduceEqDiff, Nat.reduceLT, Nat.reduceLeDiff, reduceCtorEq, eq_self, FIT, lendCs_map, verC_map, FinC, resPs, resP, lendPl, lendCs, lendC, sealC, partsT, finHs, tupT, verT, verP, verC, verB, verAt, Blk.ver, handsAre, forall_const, CHT, disj, Nat.reduceBEq, beq_self_eq_true, APT, srcOf, sealPs, sealCs, sealC, toVs, Option.map_some, List.mem_singleton, forall_eq, ALT, UGd_1]
    refine AW.upto d.files.length (inv65 d keep n) h0 fun i t H c hi h => ?_
    obtain ⟨⟨u3, e3, eH3⟩, e1, e2, ⟨u6, e6, eH6⟩, ⟨u7, v, e7, eH7, eHf, eHn, eHm⟩, e8⟩ := h
    simp only [T.c, T.i, tL] at e3 eH3 e1 e2 e6 eH6 e7 eH7 eHf eHn eHm e8
    by_cases hlt : i < d.files.length
    · obtain ⟨f, hf⟩ : ∃ f, d.files[i]? = some f := ⟨_, List.getElem?_eq_getElem hlt⟩
      have hF := hD.files i f hf
      have g3 := hF.lo
      have g4 := hF.hi
      have g5 := hF.data
      have hM := cutM_le (k := keepAt keep i) g3 g4
      have ef := en_at eF hf
      have ep : (cutP keep d.files i)[i]? = some f := by rw [cutP_at keep hf, if_neg (Nat.lt_irrefl _)]
      have ep2 := en_at eF ep
      have hpl := cutP_len keep d.files i
      have k1 : (i : Int) < d.files.length := by omega
      have gz : (0 : Int) ≤ i := by omega
      have gw : IntKind.i64.wrap ((i : Int) + 1) = ((i + 1 : Nat) : Int) := wrap64 (x := (i : Int) + 1) ⟨by omega, by omega⟩
      have gs : IntKind.i64.wrap ((f.data.size : Int) - f.kept) = (f.data.size : Int) - f.kept := wrap64 ⟨by omega, by omega⟩
      have gm : IntKind.i64.wrap (f.kept + cutM (keepAt keep i) f) = f.kept + cutM (keepAt keep i) f := wrap64 ⟨by omega, by omega⟩
      have gh : (0 : Int) ≤ f.kept + cutM (keepAt keep i) f := by omega
      have gh2 : f.kept + cutM (keepAt keep i) f ≤ f.data.size := hM.2
      have hs : (en eF (cutP keep d.files i)).set i [.s (.string f.name), .s (.string (f.data.extract 0 (f.kept + cutM (keepAt keep i) f).toNat)), .s (.int .i64 (f.kept + cutM (keepAt keep i) f))] = en eF (cutP keep d.files (i + 1)) := by
        rw [← cutP_set keep hf]; exact en_set eF (cutP keep d.files i) i (cutF (keepAt keep i) f)
      by_cases hk : i < keep.length
      · obtain ⟨q, hq⟩ : ∃ q, keep[i]? = some q := ⟨_, List.getElem?_eq_getElem hk⟩
        have eq := en_at eI hq
        have hka : keepAt keep i = q := by rw [keepAt, hq]; rfl
        have k2 : (i : Int) < keep.length := by omega
        by_cases p1 : q > 0
        · by_cases p2 : q < (f.data.size : Int) - f.kept
          · have hcm : cutM (keepAt keep i) f = q := by rw [hka, cutM, if_pos (by omega)]; omega
            rw [hcm] at gm gh gh2 hs
            simp only [RUN, core, T.c, T.s, T.b, T.i, sBin, sInt, sUn, isShift, asInt, P1.cells, loadT, ptrC, storeT, putC, fillP, Nat.reduceAdd, reduceIte, Nat.reduceEqDiff, Nat.reduceLT, Nat.reduceLeDiff, reduceCtorEq, eq_self, FIT, lendCs_map, verC_map, FinC, resPs, resP, lendPl, lendCs, lendC, sealC, partsT, finHs, tupT, verT, verP, verC, verB, verAt, Blk.ver, handsAre, forall_const, CHT, disj, Nat.reduceBEq, beq_self_eq_true, APT, srcOf, sealPs, sealCs, sealC, toVs, Option.map_some, List.mem_singleton, forall_eq, ALT, UGd_3, e3, eH3, e1, e2, e6, eH6, e7, eH7, eHf, eHn, eHm, e8, SET, en_len, hpl, k1, k2, gz, hlt, ef, ep2, eq, eF, eI, p1, p2, gs, gm, gh, gh2, lohi, Int.le_refl, Int.toNat_zero, gw]
            exact ⟨⟨u3, e3, eH3⟩, e1, e2, ⟨u6, e6, eH6⟩, ⟨u7, v, e7, eH7, congrArg (fun q => some (Blk.arr v true 3 88 q)) hs, eHn, eHm⟩, rfl⟩
          · have hcm : cutM (keepAt keep i) f = (f.data.size : Int) - f.kept := by rw [hka, cutM, if_pos (by omega)]; omega
            rw [hcm] at gm gh gh2 hs
            simp only [RUN, core, T.c, T.s, T.b, T.i, sBin, sInt, sUn, isShift, asInt, P1.cells, loadT, ptrC, storeT, putC, fillP, Nat.reduceAdd, reduceIte, Nat.reduceEqDiff, Nat.reduceLT, Nat.reduceLeDiff, reduceCtorEq, eq_self, FIT, lendCs_map, verC_map, FinC, resPs, resP, lendPl, lendCs, lendC, sealC, partsT, finHs, tupT, verT, verP, verC, verB, verAt, Blk.ver, handsAre, forall_const, CHT, disj, Nat.reduceBEq, beq_self_eq_true, APT, srcOf, sealPs, sealCs, sealC, toVs, Option.map_some, List.mem_singleton, forall_eq, ALT, UGd_3, e3, eH3, e1, e2, e6, eH6, e7, eH7, eHf, eHn, eHm, e8, SET, en_len, hpl, k1, k2, gz, hlt, ef, ep2, eq, eF, eI, p1, p2, gs, gm, gh, gh2, lohi, Int.le_refl, Int.toNat_zero, gw]
            exact ⟨⟨u3, e3, eH3⟩, e1, e2, ⟨u6, e6, eH6⟩, ⟨u7, v, e7, eH7, congrArg (fun q => some (Blk.arr v true 3 88 q)) hs, eHn, eHm⟩, rfl⟩
        · have hcm : cutM (keepAt keep i) f = 0 := by rw [hka, cutM, if_neg (by omega)]
          rw [hcm] at gm gh gh2 hs
          simp only [RUN, core, T.c, T.s, T.b, T.i, sBin, sInt, sUn, isShift, asInt, P1.cells, loadT, ptrC, storeT, putC, fillP, Nat.reduceAdd, reduceIte, Nat.reduceEqDiff, Nat.reduceLT, Nat.reduceLeDiff, reduceCtorEq, eq_self, FIT, lendCs_map, verC_map, FinC, resPs, resP, lendPl, lendCs, lendC, sealC, partsT, finHs, tupT, verT, verP, verC, verB, verAt, Blk.ver, handsAre, forall_const, CHT, disj, Nat.reduceBEq, beq_self_eq_true, APT, srcOf, sealPs, sealCs, sealC, toVs, Option.map_some, List.mem_singleton, forall_eq, ALT, UGd_3, e3, eH3, e1, e2, e6, eH6, e7, eH7, eHf, eHn, eHm, e8, SET, en_len, hpl, k1, k2, gz, hlt, ef, ep2, eq, eF, eI, p1, gs, gm, gh, gh2, lohi, Int.le_refl, Int.toNat_zero, gw]
          exact ⟨⟨u3, e3, eH3⟩, e1, e2, ⟨u6, e6, eH6⟩, ⟨u7, v, e7, eH7, congrArg (fun q => some (Blk.arr v true 3 88 q)) hs, eHn, eHm⟩, rfl⟩
      · have hka : keepAt keep i = 0 := by rw [keepAt, List.getElem?_eq_none (by omega)]; rfl
        have k2 : ¬ (i : Int) < keep.length := by omega
        have hcm : cutM (keepAt keep i) f = 0 := by rw [hka, cutM, if_neg (by omega)]
        rw [hcm] at gm gh gh2 hs
        simp only [RUN, core, T.c, T.s, T.b, T.i, sBin, sInt, sUn, isShift, asInt, P1.cells, loadT, ptrC, storeT, putC, fillP, Nat.reduceAdd, reduceIte, Nat.reduceEqDiff, Nat.reduceLT, Nat.reduceLeDiff, reduceCtorEq, eq_self, FIT, lendCs_map, verC_map, FinC, resPs, resP, lendPl, lendCs, lendC, sealC, partsT, finHs, tupT, verT, verP, verC, verB, verAt, Blk.ver, handsAre, forall_const, CHT, disj, Nat.reduceBEq, beq_self_eq_true, APT, srcOf, sealPs, sealCs, sealC, toVs, Option.map_some, List.mem_singleton, forall_eq, ALT, UGd_3, e3, eH3, e1, e2, e6, eH6, e7, eH7, eHf, eHn, eHm, e8, SET, en_len, hpl, k1, k2, gz, hlt, ef, ep2, eF, eI, gs, gm, gh, gh2, lohi, Int.le_refl, Int.toNat_zero, gw]
        exact ⟨⟨u3, e3, eH3⟩, e1, e2, ⟨u6, e6, eH6⟩, ⟨u7, v, e7, eH7, congrArg (fun q => some (Blk.arr v true 3 88 q)) hs, eHn, eHm⟩, rfl⟩
    · have hi2 : i = d.files.length := by omega
      subst hi2
      have k1 : ¬ (d.files.length : Int) < d.files.length := by omega
      simp only [RUN, core, T.c, T.s, T.b, T.i, sBin, sInt, sUn, isShift, asInt, P1.cells, loadT, ptrC, storeT, putC, fillP, Nat.reduceAdd, reduceIte, Nat.reduceEqDiff, Nat.reduceLT, Nat.reduceLeDiff, reduceCtorEq, eq_self, FIT, lendCs_map, verC_map, FinC, resPs, resP, lendPl, lendCs, lendC, sealC, partsT, finHs, tupT, verT, verP, verC, verB, verAt, Blk.ver, handsAre, forall_const, CHT, disj, Nat.reduceBEq, beq_self_eq_true, APT, srcOf, sealPs, sealCs, sealC, toVs, Option.map_some, List.mem_singleton, forall_eq, ALT, UGd_3, UGd_1, e3, eH3, e1, e2, e6, eH6, e7, eH7, eHf, eHn, eHm, e8, en_len, k1]
      refine callA1 (m := 2001) (ws := []) (ns := []) (after_ok d hd.s n hnl 2001) rfl rfl rfl (en_flat eS eS_flat _) ⟨rfl, ?_⟩
      simp only [RUN, core, T.c, T.s, T.b, T.i, sBin, sInt, sUn, isShift, asInt, P1.cells, loadT, ptrC, storeT, putC, fillP, Nat.reduceAdd, reduceIte, Nat.reduceEqDiff, Nat.reduceLT, Nat.reduceLeDiff, reduceCtorEq, eq_self, FIT, lendCs_map, verC_map, FinC, resPs, resP, lendPl, lendCs, lendC, sealC, partsT, finHs, tupT, verT, verP, verC, verB, verAt, Blk.ver, handsAre, forall_const, CHT, disj, Nat.reduceBEq, beq_self_eq_true, APT, srcOf, sealPs, sealCs, sealC, toVs, Option.map_some, List.mem_singleton, forall_eq, ALT, UGd_3, UGd_1, e3, eH3, e1, e2, e6, eH6, e7, eH7, eHf, eHn, eHm, e8, en_len, k1]
      refine callL (ws := dkL 1001 _ 1002 _ 1003 _ (cutA keep d) ++ [(2001, .arr _ false 1 9 (en eS (aft d.names (d.moves.take n))))]) (ns := [1001, 1002, 1003, 2001]) (keep_ok (cutA keep d) hn.fine hn (aft d.names (d.moves.take n)) (by have := aft_len (d.moves.take n) d.names; rw [List.length_take] at this; omega) (fun x hx => DOk.aft_made (d := cutA keep d) (n := n) hx)) rfl (lendN (d := cutA keep d) (by exact eHf) (by exact eHn) (by exact eHm) rfl (by rw [Go.V.cutA, cutP_len]) rfl rfl rfl) rfl rfl ⟨?_, ?_⟩
      · simp only [RUN, core, T.c, T.s, T.b, T.i, sBin, sInt, sUn, isShift, asInt, P1.cells, loadT, ptrC, storeT, putC, fillP, Nat.reduceAdd, reduceIte, Nat.reduceEqDiff, Nat.reduceLT, Nat.reduceLeDiff, reduceCtorEq, eq_self, FIT, lendCs_map, verC_map, FinC, resPs, resP, lendPl, lendCs, lendC, sealC, partsT, finHs, tupT, verT, verP, verC, verB, verAt, Blk.ver, handsAre, forall_const, CHT, disj, Nat.reduceBEq, beq_self_eq_true, APT, srcOf, sealPs, sealCs, sealC, toVs, Option.map_some, List.mem_singleton, forall_eq, ALT, UGd_1]
      subst hn0
      simp only [RUN, core, T.c, T.s, T.b, T.i, sBin, sInt, sUn, isShift, asInt, P1.cells, loadT, ptrC, storeT, putC, fillP, Nat.reduceAdd, reduceIte, Nat.reduceEqDiff, Nat.reduceLT, Nat.reduceLeDiff, reduceCtorEq, eq_self, FIT, lendCs_map, verC_map, FinC, resPs, resP, lendPl, lendCs, lendC, sealC, partsT, finHs, tupT, verT, verP, verC, verB, verAt, Blk.ver, handsAre, forall_const, CHT, disj, Nat.reduceBEq, beq_self_eq_true, APT, srcOf, sealPs, sealCs, sealC, toVs, Option.map_some, List.mem_singleton, forall_eq, ALT, UGd_1, scalarT, scalarP, scalarC, e6, eH6, cutD, List.all_cons, Bool.false_and]
  have main : ∀ n, n = cutN m d → (m < 0 ∧ n = 0) ∨ (¬ m < 0 ∧ m > (d.moves.length : Int) ∧ n = d.moves.length) ∨ (¬ m < 0 ∧ ¬ m > (d.moves.length : Int) ∧ m = n) := by
    intro n hn; rw [cutN] at hn; omega
  have fin : ∀ (n : Nat) (X : Ctx) (t : Nat → T) (H : HMap) (c : Nat), (∃ u, t 3 = .c (.ptr 3 u 0) ∧ H 3 = some (.var u 34 [.v (.sl (en eF d.files)), .v (.sl (en eS d.names)), .v (.sl (en eM d.moves))])) → t 1 = .i n → t 2 = tL (en eI keep) → (∃ u, t 6 = .c (.ptr 6 u 0) ∧ H 6 = some (.var u 34 [.nil0, .nil0, .nil0])) → (∃ u v, t 7 = .c (.ptr 7 u 0) ∧ H 7 = some (.var u 34 [.own 1001 v d.files.length, .own 1002 v d.names.length, .own 1003 v d.moves.length]) ∧ H 1001 = some (.arr v true 3 88 (en eF d.files)) ∧ H 1002 = some (.arr v true 1 9 (en eS d.names)) ∧ H 1003 = some (.arr v true 2 90 (en eM d.moves))) → t 8 = .i 0 → inv65 d keep n 0 ⟨t, H, c⟩ := by
    intro n X t H c a1 a2 a3 a4 ⟨u, v, b1, b2, b3, b4, b5⟩ a6
    exact ⟨a1, a2, a3, a4, ⟨u, v, b1, b2, by rw [cutP_zero]; exact b3, b4, b5⟩, a6⟩
  have lz : (d.moves.length : Int) = ((d.moves.length : Nat) : Int) := rfl
  have l0 : (0 : Int) ≤ d.moves.length := by omega
  have n0 : ¬ (0 : Int) > d.moves.length := by omega
  rcases main _ rfl with ⟨c1, c2⟩ | ⟨c1, c2, c3⟩ | ⟨c1, c2, c3⟩
  · refine ACallsF.intro ok65 follows fun X c0 => ?_
    simp only [RUN, core, T.c, T.s, T.b, T.i, sBin, sInt, sUn, isShift, asInt, P1.cells, loadT, ptrC, storeT, putC, fillP, Nat.reduceAdd, reduceIte, Nat.reduceEqDiff, Nat.reduceLT, Nat.reduceLeDiff, reduceCtorEq, eq_self, FIT, lendCs_map, verC_map, FinC, resPs, resP, lendPl, lendCs, lendC, sealC, partsT, finHs, tupT, verT, verP, verC, verB, verAt, Blk.ver, handsAre, forall_const, CHT, disj, Nat.reduceBEq, beq_self_eq_true, APT, srcOf, sealPs, sealCs, sealC, toVs, Option.map_some, List.mem_singleton, forall_eq, ALT, UGd_2]
    refine callC hC rfl rfl rfl rfl ?_
    simp only [RUN, core, T.c, T.s, T.b, T.i, sBin, sInt, sUn, isShift, asInt, P1.cells, loadT, ptrC, storeT, putC, fillP, Nat.reduceAdd, reduceIte, Nat.reduceEqDiff, Nat.reduceLT, Nat.reduceLeDiff, reduceCtorEq, eq_self, FIT, lendCs_map, verC_map, FinC, resPs, resP, lendPl, lendCs, lendC, sealC, partsT, finHs, tupT, verT, verP, verC, verB, verAt, Blk.ver, handsAre, forall_const, CHT, disj, Nat.reduceBEq, beq_self_eq_true, APT, srcOf, sealPs, sealCs, sealC, toVs, Option.map_some, List.mem_singleton, forall_eq, ALT, UGd_2, c1, n0]
    refine callDk (ws := []) (ns := []) hcp rfl rfl rfl (by decide) ⟨rfl, ?_⟩
    simp only [RUN, core, T.c, T.s, T.b, T.i, sBin, sInt, sUn, isShift, asInt, P1.cells, loadT, ptrC, storeT, putC, fillP, Nat.reduceAdd, reduceIte, Nat.reduceEqDiff, Nat.reduceLT, Nat.reduceLeDiff, reduceCtorEq, eq_self, FIT, lendCs_map, verC_map, FinC, resPs, resP, lendPl, lendCs, lendC, sealC, partsT, finHs, tupT, verT, verP, verC, verB, verAt, Blk.ver, handsAre, forall_const, CHT, disj, Nat.reduceBEq, beq_self_eq_true, APT, srcOf, sealPs, sealCs, sealC, toVs, Option.map_some, List.mem_singleton, forall_eq, ALT, UGd_2]
    exact loop 0 c2.symm X _ _ _ (fin 0 X _ _ _ ⟨_, rfl, rfl⟩ rfl rfl ⟨_, rfl, rfl⟩ ⟨_, _, rfl, rfl, rfl, rfl, rfl⟩ rfl)
  · refine ACallsF.intro ok65 follows fun X c0 => ?_
    simp only [RUN, core, T.c, T.s, T.b, T.i, sBin, sInt, sUn, isShift, asInt, P1.cells, loadT, ptrC, storeT, putC, fillP, Nat.reduceAdd, reduceIte, Nat.reduceEqDiff, Nat.reduceLT, Nat.reduceLeDiff, reduceCtorEq, eq_self, FIT, lendCs_map, verC_map, FinC, resPs, resP, lendPl, lendCs, lendC, sealC, partsT, finHs, tupT, verT, verP, verC, verB, verAt, Blk.ver, handsAre, forall_const, CHT, disj, Nat.reduceBEq, beq_self_eq_true, APT, srcOf, sealPs, sealCs, sealC, toVs, Option.map_some, List.mem_singleton, forall_eq, ALT, UGd_2]
    refine callC hC rfl rfl rfl rfl ?_
    simp only [RUN, core, T.c, T.s, T.b, T.i, sBin, sInt, sUn, isShift, asInt, P1.cells, loadT, ptrC, storeT, putC, fillP, Nat.reduceAdd, reduceIte, Nat.reduceEqDiff, Nat.reduceLT, Nat.reduceLeDiff, reduceCtorEq, eq_self, FIT, lendCs_map, verC_map, FinC, resPs, resP, lendPl, lendCs, lendC, sealC, partsT, finHs, tupT, verT, verP, verC, verB, verAt, Blk.ver, handsAre, forall_const, CHT, disj, Nat.reduceBEq, beq_self_eq_true, APT, srcOf, sealPs, sealCs, sealC, toVs, Option.map_some, List.mem_singleton, forall_eq, ALT, UGd_2, en_len, c1, c2]
    refine callDk (ws := []) (ns := []) hcp rfl rfl rfl (by decide) ⟨rfl, ?_⟩
    simp only [RUN, core, T.c, T.s, T.b, T.i, sBin, sInt, sUn, isShift, asInt, P1.cells, loadT, ptrC, storeT, putC, fillP, Nat.reduceAdd, reduceIte, Nat.reduceEqDiff, Nat.reduceLT, Nat.reduceLeDiff, reduceCtorEq, eq_self, FIT, lendCs_map, verC_map, FinC, resPs, resP, lendPl, lendCs, lendC, sealC, partsT, finHs, tupT, verT, verP, verC, verB, verAt, Blk.ver, handsAre, forall_const, CHT, disj, Nat.reduceBEq, beq_self_eq_true, APT, srcOf, sealPs, sealCs, sealC, toVs, Option.map_some, List.mem_singleton, forall_eq, ALT, UGd_2]
    exact loop d.moves.length c3.symm X _ _ _ (fin _ X _ _ _ ⟨_, rfl, rfl⟩ rfl rfl ⟨_, rfl, rfl⟩ ⟨_, _, rfl, rfl, rfl, rfl, rfl⟩ rfl)
  · refine ACallsF.intro ok65 follows fun X c0 => ?_
    simp only [RUN, core, T.c, T.s, T.b, T.i, sBin, sInt, sUn, isShift, asInt, P1.cells, loadT, ptrC, storeT, putC, fillP, Nat.reduceAdd, reduceIte, Nat.reduceEqDiff, Nat.reduceLT, Nat.reduceLeDiff, reduceCtorEq, eq_self, FIT, lendCs_map, verC_map, FinC, resPs, resP, lendPl, lendCs, lendC, sealC, partsT, finHs, tupT, verT, verP, verC, verB, verAt, Blk.ver, handsAre, forall_const, CHT, disj, Nat.reduceBEq, beq_self_eq_true, APT, srcOf, sealPs, sealCs, sealC, toVs, Option.map_some, List.mem_singleton, forall_eq, ALT, UGd_2]
    refine callC hC rfl rfl rfl rfl ?_
    simp only [RUN, core, T.c, T.s, T.b, T.i, sBin, sInt, sUn, isShift, asInt, P1.cells, loadT, ptrC, storeT, putC, fillP, Nat.reduceAdd, reduceIte, Nat.reduceEqDiff, Nat.reduceLT, Nat.reduceLeDiff, reduceCtorEq, eq_self, FIT, lendCs_map, verC_map, FinC, resPs, resP, lendPl, lendCs, lendC, sealC, partsT, finHs, tupT, verT, verP, verC, verB, verAt, Blk.ver, handsAre, forall_const, CHT, disj, Nat.reduceBEq, beq_self_eq_true, APT, srcOf, sealPs, sealCs, sealC, toVs, Option.map_some, List.mem_singleton, forall_eq, ALT, UGd_2, en_len, c1, c2]
    refine callDk (ws := []) (ns := []) hcp rfl rfl rfl (by decide) ⟨rfl, ?_⟩
    simp only [RUN, core, T.c, T.s, T.b, T.i, sBin, sInt, sUn, isShift, asInt, P1.cells, loadT, ptrC, storeT, putC, fillP, Nat.reduceAdd, reduceIte, Nat.reduceEqDiff, Nat.reduceLT, Nat.reduceLeDiff, reduceCtorEq, eq_self, FIT, lendCs_map, verC_map, FinC, resPs, resP, lendPl, lendCs, lendC, sealC, partsT, finHs, tupT, verT, verP, verC, verB, verAt, Blk.ver, handsAre, forall_const, CHT, disj, Nat.reduceBEq, beq_self_eq_true, APT, srcOf, sealPs, sealCs, sealC, toVs, Option.map_some, List.mem_singleton, forall_eq, ALT, UGd_2]
    exact loop (cutN m d) rfl X _ _ _ (fin _ X _ _ _ ⟨_, rfl, rfl⟩ (congrArg T.i c3) rfl ⟨_, rfl, rfl⟩ ⟨_, _, rfl, rfl, rfl, rfl, rfl⟩ rfl)
end Go.V
set_option linter.unusedSimpArgs false
namespace Go.V
open Go.Proofs
/-! Writes, one behind the other, until power is lost. -/
def goS (a : LA) : Nat → Dk → List DW → Dk × Int
  | _, d, [] => if a.cuts then (cutD d a.moves a.keep, 6) else (d, 0)
  | i, d, w :: ws => if a.cuts = true ∧ (i : Int) ≥ a.after then (cutD d a.moves a.keep, 6) else if (doS d w).2 = 0 then goS a (i + 1) (doS d w).1 ws else ((doS d w).1, 4)
def stS (d : Dk) (ws : List DW) (a : LA) : Dk × Int := if 2000 < ws.length then (d, 5) else goS a 0 d ws
abbrev StR (d : Dk) (ws : List DW) (a : LA) (r : Dk × Int) : Prop := (DOk d ∧ r = stS d ws a) ∨ (¬ DOk d ∧ r = (⟨[], [], []⟩, 7))
theorem st_det {d : Dk} {ws : List DW} {a : LA} {r r' : Dk × Int} (h : StR d ws a r) (h' : StR d ws a r') : r = r' := by
  rcases h with ⟨h1, h2⟩ | ⟨h1, h2⟩ <;> rcases h' with ⟨g1, g2⟩ | ⟨g1, g2⟩
  · rw [h2, g2]
  · exact absurd h1 g1
  · exact absurd g1 h1
  · rw [h2, g2]
theorem drop_at {α : Type} {xs : List α} {i : Nat} {x : α} (h : xs[i]? = some x) : xs.drop i = x :: xs.drop (i + 1) := by
  obtain ⟨hi, he⟩ := List.getElem?_eq_some_iff.1 h
  rw [List.drop_eq_getElem_cons hi, he]
abbrev cDk (d : Dk) : List C := [.v (.sl (en eF d.files)), .v (.sl (en eS d.names)), .v (.sl (en eM d.moves))]
/- loop.example/teagle/spec.StoreDo -/
def r18_0 : List AOper := [ao 0 3 (.box 34 (.t 0)),
  ao 1 5 (.box 52 (.t 2)),
  ao 2 6 (.alloc 34 [.nil0, .nil0, .nil0]),
  ao 3 7 (.mv (.k (.i 0)))]
def r18_1 : List AOper := [ao 0 11 (.ld 3 true (.t 3)),
  ao 1 12 (.call (.k (.c (.fn 41 []))) [(.t 11)]),
  ao 2 13 (.un .not (.t 12))]
def r18_2 : List AOper := [ao 0 14 (.build [.nil0, .nil0, .nil0] []),
  an 1 (.st 3 (.t 6) (.t 14)),
  ao 2 7 (.mv (.k (.i 7)))]
def c18_3 : ACode := .seq (.reg r18_2) .ret
def c18_4 : ACode := .cond (.t 13) c18_3 .skip
def c18_5 : ACode := .seq (.reg r18_1) c18_4
def r18_6 : List AOper := [ao 0 15 (.mv (.t 1)),
  ao 1 16 (.len (.t 15)),
  ao 2 17 (.bin .gtr (.t 16) (.k (.i 2000)))]
def r18_7 : List AOper := [ao 0 18 (.ld 3 true (.t 3)),
  ao 1 19 (.call (.k (.c (.fn 42 []))) [(.t 18)]),
  an 2 (.st 3 (.t 6) (.t 19)),
  ao 3 7 (.mv (.k (.i 5)))]
def c18_8 : ACode := .seq (.reg r18_7) .ret
def c18_9 : ACode := .cond (.t 17) c18_8 .skip
def c18_10 : ACode := .seq (.reg r18_6) c18_9
def r18_11 : List AOper := [ao 0 8 (.mv (.k (.i 0)))]
def r18_12 : List AOper := [ao 0 20 (.mv (.t 8)),
  ao 1 21 (.mv (.t 1)),
  ao 2 22 (.len (.t 21)),
  ao 3 23 (.bin .lss (.t 20) (.t 22))]
def c18_13 : ACode := .cond (.t 23) .skip (.exit 0)
def c18_14 : ACode := .seq (.reg r18_12) c18_13
def r18_15 : List AOper := [ao 0 26 (.fa 2 (.t 5)),
  ao 1 27 (.ld 1 false (.t 26)),
  ao 2 28 (.mv (.t 27)),
  ag 3 29 28 true [] (.mv (.t 8)),
  ag 4 30 28 true [] (.fa 3 (.t 5)),
  ag 5 31 28 true [] (.ld 1 false (.t 30)),
  ag 6 32 28 true [] (.bin .geq (.t 29) (.t 31)),
  ao 7 33 (.pick (.t 28) (.t 32) (.k (.b false)))]
def r18_16 : List AOper := [ao 0 34 (.ld 3 true (.t 3)),
  ao 1 35 (.fa 4 (.t 5)),
  ao 2 36 (.ld 1 false (.t 35)),
  ao 3 37 (.fa 5 (.t 5)),
  ao 4 38 (.ld 1 false (.t 37)),
  ao 5 39 (.call (.k (.c (.fn 65 []))) [(.t 34), (.t 36), (.t 38)]),
  an 6 (.st 3 (.t 6) (.t 39)),
  ao 7 7 (.mv (.k (.i 6)))]
def c18_17 : ACode := .seq (.reg r18_16) .ret
def c18_18 : ACode := .cond (.t 33) c18_17 .skip
def c18_19 : ACode := .seq (.reg r18_15) c18_18
def r18_20 : List AOper := [ao 0 41 (.ld 3 true (.t 3)),
  au 1 42 [0] (.mv (.t 1)),
  au 2 43 [0, 1] (.mv (.t 8)),
  au 3 44 [0] (.ia 3 (.t 42) (.t 43)),
  au 4 45 [0] (.ld 3 true (.t 44)),
  ao 5 46 (.call (.k (.c (.fn 9 []))) [(.t 41), (.t 45)]),
  ao 6 40 (.mv (.t 46)),
  ao 7 47 (.ext 0 (.t 40)),
  au 8 48 [7] (.ext 1 (.t 40)),
  au 9 9 (ru 9) (.alloc 34 [.nil0, .nil0, .nil0]),
  ax 10 none none [8] (.st 3 (.t 9) (.t 47)),
  ao 11 10 (.mv (.t 48))]
def r18_21 : List AOper := [ao 0 49 (.mv (.t 10)),
  ao 1 50 (.bin .neq (.t 49) (.k (.i 0)))]
def r18_22 : List AOper := [ao 0 51 (.ld 3 true (.t 9)),
  an 1 (.st 3 (.t 6) (.t 51)),
  ao 2 7 (.mv (.k (.i 4)))]
def c18_23 : ACode := .seq (.reg r18_22) .ret
def c18_24 : ACode := .cond (.t 50) c18_23 .skip
def c18_25 : ACode := .seq (.reg r18_21) c18_24
def r18_26 : List AOper := [ao 0 52 (.ld 3 true (.t 9)),
  an 1 (.st 3 (.t 3) (.t 52))]
def c18_27 : ACode := .seq c18_19 (.seq (.reg r18_20) (.seq c18_25 (.reg r18_26)))
def c18_28 : ACode := .block 1 c18_27
def r18_29 : List AOper := [ao 0 24 (.mv (.t 8)),
  ao 1 25 (.bin .add (.t 24) (.k (.i 1))),
  ao 2 8 (.mv (.t 25))]
def c18_30 : ACode := .seq c18_14 (.seq c18_28 (.reg r18_29))
def c18_31 : ACode := .loop c18_30
def c18_32 : ACode := .block 0 c18_31
def c18_33 : ACode := .seq (.reg r18_11) c18_32
def r18_34 : List AOper := [ao 0 53 (.fa 2 (.t 5)),
  ao 1 54 (.ld 1 false (.t 53))]
def r18_35 : List AOper := [ao 0 55 (.ld 3 true (.t 3)),
  ao 1 56 (.fa 4 (.t 5)),
  ao 2 57 (.ld 1 false (.t 56)),
  ao 3 58 (.fa 5 (.t 5)),
  ao 4 59 (.ld 1 false (.t 58)),
  ao 5 60 (.call (.k (.c (.fn 65 []))) [(.t 55), (.t 57), (.t 59)]),
  an 6 (.st 3 (.t 6) (.t 60)),
  ao 7 7 (.mv (.k (.i 6)))]
def c18_36 : ACode := .seq (.reg r18_35) .ret
def c18_37 : ACode := .cond (.t 54) c18_36 .skip
def c18_38 : ACode := .seq (.reg r18_34) c18_37
def r18_39 : List AOper := [ao 0 61 (.ld 3 true (.t 3)),
  ao 1 62 (.call (.k (.c (.fn 42 []))) [(.t 61)]),
  an 2 (.st 3 (.t 6) (.t 62)),
  ao 3 7 (.mv (.k (.i 0)))]
def c18 : ACode := .seq (.reg r18_0) (.seq c18_5 (.seq c18_10 (.seq c18_33 (.seq c18_38 (.seq (.reg r18_39) .ret)))))
def s18 : List ARes := [.cell 6 3 true, .tmp 7]
theorem ok18 : okF Try.prog 18 63 c18 s18 := ⟨Try.f18, Try.func18, Try.ntmps18, by kernel_rfl, by kernel_rfl, by kernel_rfl⟩
def inv18 (r : Dk × Int) (ws : List DW) (a : LA) (i : Nat) (σ : St) : Prop := ∃ d, DOk d ∧ r = goS a i d (ws.drop i) ∧ (∃ u, σ.t 3 = .c (.ptr 3 u 0) ∧ σ.H 3 = some (.var u 34 (cDk d))) ∧ σ.t 1 = tL (en eW ws) ∧
  (∃ u, σ.t 5 = .c (.ptr 5 u 0) ∧ σ.H 5 = some (.var u 52 [.v (.s (.int .i64 a.kind)), .v (.s (.string a.data)), .v (.s (.bool a.cuts)), .v (.s (.int .i64 a.after)), .v (.s (.int .i64 a.moves)), .v (.sl (en eI a.keep))])) ∧ (∃ u, σ.t 6 = .c (.ptr 6 u 0) ∧ σ.H 6 = some (.var u 34 [.nil0, .nil0, .nil0])) ∧ σ.t 8 = .i i
theorem UGe_1 : (type_of% (uA c18.eq_1)) ∧ (type_of% (uR r18_0.eq_1)) ∧ (type_of% (uA c18_5.eq_1)) ∧ (type_of% (uR r18_1.eq_1)) ∧ (type_of% (uA c18_4.eq_1)) ∧ (type_of% (uA c18_3.eq_1)) ∧ (type_of% (uR r18_2.eq_1)) ∧ (type_of% (uA c18_10.eq_1)) ∧ (type_of% (uR r18_6.eq_1)) ∧ (type_of% (uA c18_9.eq_1)) ∧ (type_of% (uA c18_8.eq_1)) ∧ (type_of% (uR r18_7.eq_1)) ∧ (type_of% (uA c18_33.eq_1)) ∧ (type_of% (uR r18_11.eq_1)) ∧ (type_of% (uA c18_32.eq_1)) ∧ (type_of% (uA c18_31.eq_1)) ∧ (type_of% (uA c18_38.eq_1)) ∧ (type_of% (uR r18_34.eq_1)) ∧ (type_of% (uA c18_37.eq_1)) ∧ (type_of% (uA c18_36.eq_1)) ∧ (type_of% (uR r18_35.eq_1)) ∧ (type_of% (uR r18_39.eq_1)) ∧ (type_of% s18.eq_1) :=
  ⟨uA c18.eq_1, uR r18_0.eq_1, uA c18_5.eq_1, uR r18_1.eq_1, uA c18_4.eq_1, uA c18_3.eq_1, uR r18_2.eq_1, uA c18_10.eq_1, uR r18_6.eq_1, uA c18_9.eq_1, uA c18_8.eq_1, uR r18_7.eq_1, uA c18_33.eq_1, uR r18_11.eq_1, uA c18_32.eq_1, uA c18_31.eq_1, uA c18_38.eq_1, uR r18_34.eq_1, uA c18_37.eq_1, uA c18_36.eq_1, uR r18_35.eq_1, uR r18_39.eq_1, s18.eq_1⟩
theorem UGe_2 : (type_of% (uA c18_30.eq_1)) ∧ (type_of% (uA c18_14.eq_1)) ∧ (type_of% (uR r18_12.eq_1)) ∧ (type_of% (uA c18_13.eq_1)) ∧ (type_of% (uA c18_28.eq_1)) ∧ (type_of% (uA c18_27.eq_1)) ∧ (type_of% (uA c18_19.eq_1)) ∧ (type_of% (uR r18_15.eq_1)) ∧ (type_of% (uA c18_18.eq_1)) ∧ (type_of% (uA c18_17.eq_1)) ∧ (type_of% (uR r18_16.eq_1)) ∧ (type_of% (uR r18_20.eq_1)) ∧ (type_of% (uA c18_25.eq_1)) ∧ (type_of% (uR r18_21.eq_1)) ∧ (type_of% (uA c18_24.eq_1)) ∧ (type_of% (uA c18_23.eq_1)) ∧ (type_of% (uR r18_22.eq_1)) ∧ (type_of% (uR r18_26.eq_1)) ∧ (type_of% (uR r18_29.eq_1)) ∧ (type_of% (uA c18.eq_1)) ∧ (type_of% (uR r18_0.eq_1)) ∧ (type_of% (uA c18_5.eq_1)) ∧ (type_of% (uR r18_1.eq_1)) ∧ (type_of% (uA c18_4.eq_1)) ∧ (type_of% (uA c18_3.eq_1)) ∧ (type_of% (uR r18_2.eq_1)) ∧ (type_of% (uA c18_10.eq_1)) ∧ (type_of% (uR r18_6.eq_1)) ∧ (type_of% (uA c18_9.eq_1)) ∧ (type_of% (uA c18_8.eq_1)) ∧ (type_of% (uR r18_7.eq_1)) ∧ (type_of% (uA c18_33.eq_1)) ∧ (type_of% (uR r18_11.eq_1)) ∧ (type_of% (uA c18_32.eq_1)) ∧ (type_of% (uA c18_31.eq_1)) ∧ (type_of% (uA c18_38.eq_1)) ∧ (type_of% (uR r18_34.eq_1)) ∧ (type_of% (uA c18_37.eq_1)) ∧ (type_of% (uA c18_36.eq_1)) ∧ (type_of% (uR r18_35.eq_1)) ∧ (type_of% (uR r18_39.eq_1)) ∧ (type_of% s18.eq_1) :=
  ⟨uA c18_30.eq_1, uA c18_14.eq_1, uR r18_12.eq_1, uA c18_13.eq_1, uA c18_28.eq_1, uA c18_27.eq_1, uA c18_19.eq_1, uR r18_15.eq_1, uA c18_18.eq_1, uA c18_17.eq_1, uR r18_16.eq_1, uR r18_20.eq_1, uA c18_25.eq_1, uR r18_21.eq_1, uA c18_24.eq_1, uA c18_23.eq_1, uR r18_22.eq_1, uR r18_26.eq_1, uR r18_29.eq_1, uA c18.eq_1, uR r18_0.eq_1, uA c18_5.eq_1, uR r18_1.eq_1, uA c18_4.eq_1, uA c18_3.eq_1, uR r18_2.eq_1, uA c18_10.eq_1, uR r18_6.eq_1, uA c18_9.eq_1, uA c18_8.eq_1, uR r18_7.eq_1, uA c18_33.eq_1, uR r18_11.eq_1, uA c18_32.eq_1, uA c18_31.eq_1, uA c18_38.eq_1, uR r18_34.eq_1, uA c18_37.eq_1, uA c18_36.eq_1, uR r18_35.eq_1, uR r18_39.eq_1, s18.eq_1⟩
set_option maxRecDepth 20000 in
set_option maxHeartbeats 1000000 in
theorem stS_ok (d : Dk) (ws : List DW) (a : LA) (hd : fineDk d) (hl : ws.length ≤ 9000000000000000000) (hw : ∀ w ∈ ws, fineDW w) : ∃ r, StR d ws a r ∧ ACallsF Try.prog 18 [tDk d, tL (en eW ws), tLA a] [] (tDkI r) := by
  obtain ⟨b, hb, hC⟩ := okS_ok d hd
  by_cases hD : DOk d
  rotate_left
  · have hbf : b = false := by cases hq : b with | false => rfl | true => exact absurd (hb.1 hq) hD
    rw [hbf] at hC
    refine ⟨_, .inr ⟨hD, rfl⟩, ACallsF.intro ok18 follows fun X c0 => ?_⟩
    simp only [RUN, core, T.c, T.s, T.b, T.i, sBin, sInt, sUn, isShift, asInt, P1.cells, loadT, ptrC, storeT, putC, fillP, Nat.reduceAdd, reduceIte, Nat.reduceEqDiff, Nat.reduceLT, Nat.reduceLeDiff, reduceCtorEq, eq_self, FIT, lendCs_map, verC_map, FinC, resPs, resP, lendPl, lendCs, lendC, sealC, partsT, finHs, tupT, verT, verP, verC, verB, verAt, Blk.ver, handsAre, forall_const, CHT, disj, Nat.reduceBEq, beq_self_eq_true, APT, srcOf, sealPs, sealCs, sealC, toVs, Option.map_some, List.mem_singleton, forall_eq, ALT, UGe_1]
    refine callC hC rfl rfl rfl rfl ?_
    simp only [RUN, core, T.c, T.s, T.b, T.i, sBin, sInt, sUn, isShift, asInt, P1.cells, loadT, ptrC, storeT, putC, fillP, Nat.reduceAdd, reduceIte, Nat.reduceEqDiff, Nat.reduceLT, Nat.reduceLeDiff, reduceCtorEq, eq_self, FIT, lendCs_map, verC_map, FinC, resPs, resP, lendPl, lendCs, lendC, sealC, partsT, finHs, tupT, verT, verP, verC, verB, verAt, Blk.ver, handsAre, forall_const, CHT, disj, Nat.reduceBEq, beq_self_eq_true, APT, srcOf, sealPs, sealCs, sealC, toVs, Option.map_some, List.mem_singleton, forall_eq, ALT, UGe_1]
  rw [hb.2 hD] at hC
  refine ⟨_, .inl ⟨hD, rfl⟩, ?_⟩
  by_cases hL : 2000 < ws.length
  · have g1 : (ws.length : Int) > 2000 := by omega
    have hr : stS d ws a = (d, 5) := by rw [stS, if_pos hL]
    rw [hr]
    refine ACallsF.intro ok18 follows fun X c0 => ?_
    simp only [RUN, core, T.c, T.s, T.b, T.i, sBin, sInt, sUn, isShift, asInt, P1.cells, loadT, ptrC, storeT, putC, fillP, Nat.reduceAdd, reduceIte, Nat.reduceEqDiff, Nat.reduceLT, Nat.reduceLeDiff, reduceCtorEq, eq_self, FIT, lendCs_map, verC_map, FinC, resPs, resP, lendPl, lendCs, lendC, sealC, partsT, finHs, tupT, verT, verP, verC, verB, verAt, Blk.ver, handsAre, forall_const, CHT, disj, Nat.reduceBEq, beq_self_eq_true, APT, srcOf, sealPs, sealCs, sealC, toVs, Option.map_some, List.mem_singleton, forall_eq, ALT, UGe_1]
    refine callC hC rfl rfl rfl rfl ?_
    simp only [RUN, core, T.c, T.s, T.b, T.i, sBin, sInt, sUn, isShift, asInt, P1.cells, loadT, ptrC, storeT, putC, fillP, Nat.reduceAdd, reduceIte, Nat.reduceEqDiff, Nat.reduceLT, Nat.reduceLeDiff, reduceCtorEq, eq_self, FIT, lendCs_map, verC_map, FinC, resPs, resP, lendPl, lendCs, lendC, sealC, partsT, finHs, tupT, verT, verP, verC, verB, verAt, Blk.ver, handsAre, forall_const, CHT, disj, Nat.reduceBEq, beq_self_eq_true, APT, srcOf, sealPs, sealCs, sealC, toVs, Option.map_some, List.mem_singleton, forall_eq, ALT, UGe_1, g1]
    refine callDk (ws := []) (ns := []) (copyDk_ok d hd.s 1001 1002 1003) rfl rfl rfl (by decide) ⟨rfl, ?_⟩
    simp only [RUN, core, T.c, T.s, T.b, T.i, sBin, sInt, sUn, isShift, asInt, P1.cells, loadT, ptrC, storeT, putC, fillP, Nat.reduceAdd, reduceIte, Nat.reduceEqDiff, Nat.reduceLT, Nat.reduceLeDiff, reduceCtorEq, eq_self, FIT, lendCs_map, verC_map, FinC, resPs, resP, lendPl, lendCs, lendC, sealC, partsT, finHs, tupT, verT, verP, verC, verB, verAt, Blk.ver, handsAre, forall_const, CHT, disj, Nat.reduceBEq, beq_self_eq_true, APT, srcOf, sealPs, sealCs, sealC, toVs, Option.map_some, List.mem_singleton, forall_eq, ALT, UGe_1]
  have g1 : ¬ (ws.length : Int) > 2000 := by omega
  have hr : stS d ws a = goS a 0 d ws := by rw [stS, if_neg hL]
  rw [hr]
  generalize hrr : goS a 0 d ws = r
  refine ACallsF.intro ok18 follows fun X c0 => ?_
  simp only [RUN, core, T.c, T.s, T.b, T.i, sBin, sInt, sUn, isShift, asInt, P1.cells, loadT, ptrC, storeT, putC, fillP, Nat.reduceAdd, reduceIte, Nat.reduceEqDiff, Nat.reduceLT, Nat.reduceLeDiff, reduceCtorEq, eq_self, FIT, lendCs_map, verC_map, FinC, resPs, resP, lendPl, lendCs, lendC, sealC, partsT, finHs, tupT, verT, verP, verC, verB, verAt, Blk.ver, handsAre, forall_const, CHT, disj, Nat.reduceBEq, beq_self_eq_true, APT, srcOf, sealPs, sealCs, sealC, toVs, Option.map_some, List.mem_singleton, forall_eq, ALT, UGe_1]
  refine callC hC rfl rfl rfl rfl ?_
  simp only [RUN, core, T.c, T.s, T.b, T.i, sBin, sInt, sUn, isShift, asInt, P1.cells, loadT, ptrC, storeT, putC, fillP, Nat.reduceAdd, reduceIte, Nat.reduceEqDiff, Nat.reduceLT, Nat.reduceLeDiff, reduceCtorEq, eq_self, FIT, lendCs_map, verC_map, FinC, resPs, resP, lendPl, lendCs, lendC, sealC, partsT, finHs, tupT, verT, verP, verC, verB, verAt, Blk.ver, handsAre, forall_const, CHT, disj, Nat.reduceBEq, beq_self_eq_true, APT, srcOf, sealPs, sealCs, sealC, toVs, Option.map_some, List.mem_singleton, forall_eq, ALT, UGe_1, g1]
  refine AW.upto ws.length (inv18 r ws a) ⟨d, hD, hrr.symm, ⟨_, rfl, rfl⟩, rfl, ⟨_, rfl, rfl⟩, ⟨_, rfl, rfl⟩, rfl⟩ fun i t H c hi h => ?_
  obtain ⟨d, hD, hg, ⟨u3, e3, eH3⟩, e1, ⟨u5, e5, eH5⟩, ⟨u6, e6, eH6⟩, e8⟩ := h
  simp only [T.c, T.i, tL] at e3 eH3 e1 e5 eH5 e6 eH6 e8
  have hd := hD.fine
  have eH5o := eH5
  by_cases hlt : i < ws.length
  · obtain ⟨w, hw1⟩ : ∃ w, ws[i]? = some w := ⟨_, List.getElem?_eq_getElem hlt⟩
    have ew := en_at eW hw1
    have k1 : (i : Int) < ws.length := by omega
    have gz : (0 : Int) ≤ i := by omega
    have gw : IntKind.i64.wrap ((i : Int) + 1) = ((i + 1 : Nat) : Int) := wrap64 (x := (i : Int) + 1) ⟨by omega, by omega⟩
    rw [drop_at hw1] at hg
    obtain ⟨q, hq, hCD⟩ := doS_ok d w hd (hw w (List.mem_of_getElem? hw1))
    have hq : q = doS d w := by
      rcases hq with ⟨_, h⟩ | ⟨h, _⟩
      · exact h
      · exact absurd hD h
    by_cases hcut : a.cuts = true ∧ (i : Int) ≥ a.after
    · have p1 := hcut.1
      have p2 := hcut.2
      have hg' : r = (cutD d a.moves a.keep, 6) := by rw [hg, goS, if_pos hcut]
      rw [hg']
      simp only [RUN, core, T.c, T.s, T.b, T.i, sBin, sInt, sUn, isShift, asInt, P1.cells, loadT, ptrC, storeT, putC, fillP, Nat.reduceAdd, reduceIte, Nat.reduceEqDiff, Nat.reduceLT, Nat.reduceLeDiff, reduceCtorEq, eq_self, FIT, lendCs_map, verC_map, FinC, resPs, resP, lendPl, lendCs, lendC, sealC, partsT, finHs, tupT, verT, verP, verC, verB, verAt, Blk.ver, handsAre, forall_const, CHT, disj, Nat.reduceBEq, beq_self_eq_true, APT, srcOf, sealPs, sealCs, sealC, toVs, Option.map_some, List.mem_singleton, forall_eq, ALT, UGe_2, UGe_1, e3, eH3, e1, e5, eH5, e6, eH6, e8, en_len, k1, p1, p2]
      refine callC (cutS_ok d hD a.moves a.keep) rfl rfl rfl rfl ?_
      simp only [RUN, core, T.c, T.s, T.b, T.i, sBin, sInt, sUn, isShift, asInt, P1.cells, loadT, ptrC, storeT, putC, fillP, Nat.reduceAdd, reduceIte, Nat.reduceEqDiff, Nat.reduceLT, Nat.reduceLeDiff, reduceCtorEq, eq_self, FIT, lendCs_map, verC_map, FinC, resPs, resP, lendPl, lendCs, lendC, sealC, partsT, finHs, tupT, verT, verP, verC, verB, verAt, Blk.ver, handsAre, forall_const, CHT, disj, Nat.reduceBEq, beq_self_eq_true, APT, srcOf, sealPs, sealCs, sealC, toVs, Option.map_some, List.mem_singleton, forall_eq, ALT, UGe_2, UGe_1, e6, eH6]
    · have hg' : r = if q.2 = 0 then goS a (i + 1) q.1 (ws.drop (i + 1)) else (q.1, 4) := by rw [hg, goS, if_neg hcut, hq]
      have hDq : DOk q.1 := by rw [hq]; exact hD.step w
      obtain ⟨qd, qc⟩ := q
      by_cases h0 : qc = 0
      · subst h0
        rw [if_pos rfl] at hg'
        have n0 : ((0 : Int) != 0) = false := rfl
        cases p1 : a.cuts with
        | false =>
          rw [p1] at eH5
          simp only [RUN, core, T.c, T.s, T.b, T.i, sBin, sInt, sUn, isShift, asInt, P1.cells, loadT, ptrC, storeT, putC, fillP, Nat.reduceAdd, reduceIte, Nat.reduceEqDiff, Nat.reduceLT, Nat.reduceLeDiff, reduceCtorEq, eq_self, FIT, lendCs_map, verC_map, FinC, resPs, resP, lendPl, lendCs, lendC, sealC, partsT, finHs, tupT, verT, verP, verC, verB, verAt, Blk.ver, handsAre, forall_const, CHT, disj, Nat.reduceBEq, beq_self_eq_true, APT, srcOf, sealPs, sealCs, sealC, toVs, Option.map_some, List.mem_singleton, forall_eq, ALT, UGe_2, e3, eH3, e1, e5, eH5, e6, eH6, e8, en_len, k1, gz, ew, eW]
          refine callC hCD rfl rfl rfl rfl ?_
          simp only [RUN, core, T.c, T.s, T.b, T.i, sBin, sInt, sUn, isShift, asInt, P1.cells, loadT, ptrC, storeT, putC, fillP, Nat.reduceAdd, reduceIte, Nat.reduceEqDiff, Nat.reduceLT, Nat.reduceLeDiff, reduceCtorEq, eq_self, FIT, lendCs_map, verC_map, FinC, resPs, resP, lendPl, lendCs, lendC, sealC, partsT, finHs, tupT, verT, verP, verC, verB, verAt, Blk.ver, handsAre, forall_const, CHT, disj, Nat.reduceBEq, beq_self_eq_true, APT, srcOf, sealPs, sealCs, sealC, toVs, Option.map_some, List.mem_singleton, forall_eq, ALT, UGe_2, e3, eH3, e1, e5, eH5, e6, eH6, e8, gw, n0]
          exact ⟨hlt, qd, hDq, hg', ⟨u3, e3, rfl⟩, e1, ⟨u5, e5, eH5o⟩, ⟨u6, e6, eH6⟩, rfl⟩
        | true =>
          have p2 : ¬ (i : Int) ≥ a.after := fun h => hcut ⟨p1, h⟩
          rw [p1] at eH5
          simp only [RUN, core, T.c, T.s, T.b, T.i, sBin, sInt, sUn, isShift, asInt, P1.cells, loadT, ptrC, storeT, putC, fillP, Nat.reduceAdd, reduceIte, Nat.reduceEqDiff, Nat.reduceLT, Nat.reduceLeDiff, reduceCtorEq, eq_self, FIT, lendCs_map, verC_map, FinC, resPs, resP, lendPl, lendCs, lendC, sealC, partsT, finHs, tupT, verT, verP, verC, verB, verAt, Blk.ver, handsAre, forall_const, CHT, disj, Nat.reduceBEq, beq_self_eq_true, APT, srcOf, sealPs, sealCs, sealC, toVs, Option.map_some, List.mem_singleton, forall_eq, ALT, UGe_2, e3, eH3, e1, e5, eH5, e6, eH6, e8, en_len, k1, gz, ew, eW, p2]
          refine callC hCD rfl rfl rfl rfl ?_
          simp only [RUN, core, T.c, T.s, T.b, T.i, sBin, sInt, sUn, isShift, asInt, P1.cells, loadT, ptrC, storeT, putC, fillP, Nat.reduceAdd, reduceIte, Nat.reduceEqDiff, Nat.reduceLT, Nat.reduceLeDiff, reduceCtorEq, eq_self, FIT, lendCs_map, verC_map, FinC, resPs, resP, lendPl, lendCs, lendC, sealC, partsT, finHs, tupT, verT, verP, verC, verB, verAt, Blk.ver, handsAre, forall_const, CHT, disj, Nat.reduceBEq, beq_self_eq_true, APT, srcOf, sealPs, sealCs, sealC, toVs, Option.map_some, List.mem_singleton, forall_eq, ALT, UGe_2, e3, eH3, e1, e5, eH5, e6, eH6, e8, gw, n0]
          exact ⟨hlt, qd, hDq, hg', ⟨u3, e3, rfl⟩, e1, ⟨u5, e5, eH5o⟩, ⟨u6, e6, eH6⟩, rfl⟩
      · rw [if_neg h0] at hg'
        have n0 : (qc != 0) = true := by simpa using h0
        rw [hg']
        cases p1 : a.cuts with
        | false =>
          rw [p1] at eH5
          simp only [RUN, core, T.c, T.s, T.b, T.i, sBin, sInt, sUn, isShift, asInt, P1.cells, loadT, ptrC, storeT, putC, fillP, Nat.reduceAdd, reduceIte, Nat.reduceEqDiff, Nat.reduceLT, Nat.reduceLeDiff, reduceCtorEq, eq_self, FIT, lendCs_map, verC_map, FinC, resPs, resP, lendPl, lendCs, lendC, sealC, partsT, finHs, tupT, verT, verP, verC, verB, verAt, Blk.ver, handsAre, forall_const, CHT, disj, Nat.reduceBEq, beq_self_eq_true, APT, srcOf, sealPs, sealCs, sealC, toVs, Option.map_some, List.mem_singleton, forall_eq, ALT, UGe_2, UGe_1, e3, eH3, e1, e5, eH5, e6, eH6, e8, en_len, k1, gz, ew, eW]
          refine callC hCD rfl rfl rfl rfl ?_
          simp only [RUN, core, T.c, T.s, T.b, T.i, sBin, sInt, sUn, isShift, asInt, P1.cells, loadT, ptrC, storeT, putC, fillP, Nat.reduceAdd, reduceIte, Nat.reduceEqDiff, Nat.reduceLT, Nat.reduceLeDiff, reduceCtorEq, eq_self, FIT, lendCs_map, verC_map, FinC, resPs, resP, lendPl, lendCs, lendC, sealC, partsT, finHs, tupT, verT, verP, verC, verB, verAt, Blk.ver, handsAre, forall_const, CHT, disj, Nat.reduceBEq, beq_self_eq_true, APT, srcOf, sealPs, sealCs, sealC, toVs, Option.map_some, List.mem_singleton, forall_eq, ALT, UGe_2, UGe_1, e3, eH3, e1, e5, eH5, e6, eH6, e8, n0]
        | true =>
          have p2 : ¬ (i : Int) ≥ a.after := fun h => hcut ⟨p1, h⟩
          rw [p1] at eH5
          simp only [RUN, core, T.c, T.s, T.b, T.i, sBin, sInt, sUn, isShift, asInt, P1.cells, loadT, ptrC, storeT, putC, fillP, Nat.reduceAdd, reduceIte, Nat.reduceEqDiff, Nat.reduceLT, Nat.reduceLeDiff, reduceCtorEq, eq_self, FIT, lendCs_map, verC_map, FinC, resPs, resP, lendPl, lendCs, lendC, sealC, partsT, finHs, tupT, verT, verP, verC, verB, verAt, Blk.ver, handsAre, forall_const, CHT, disj, Nat.reduceBEq, beq_self_eq_true, APT, srcOf, sealPs, sealCs, sealC, toVs, Option.map_some, List.mem_singleton, forall_eq, ALT, UGe_2, UGe_1, e3, eH3, e1, e5, eH5, e6, eH6, e8, en_len, k1, gz, ew, eW, p2]
          refine callC hCD rfl rfl rfl rfl ?_
          simp only [RUN, core, T.c, T.s, T.b, T.i, sBin, sInt, sUn, isShift, asInt, P1.cells, loadT, ptrC, storeT, putC, fillP, Nat.reduceAdd, reduceIte, Nat.reduceEqDiff, Nat.reduceLT, Nat.reduceLeDiff, reduceCtorEq, eq_self, FIT, lendCs_map, verC_map, FinC, resPs, resP, lendPl, lendCs, lendC, sealC, partsT, finHs, tupT, verT, verP, verC, verB, verAt, Blk.ver, handsAre, forall_const, CHT, disj, Nat.reduceBEq, beq_self_eq_true, APT, srcOf, sealPs, sealCs, sealC, toVs, Option.map_some, List.mem_singleton, forall_eq, ALT, UGe_2, UGe_1, e3, eH3, e1, e5, eH5, e6, eH6, e8, n0]
  · have hi2 : i = ws.length := by omega
    subst hi2
    have k1 : ¬ (ws.length : Int) < ws.length := by omega
    rw [List.drop_length] at hg
    cases p1 : a.cuts with
    | true =>
      have hg' : r = (cutD d a.moves a.keep, 6) := by rw [hg, goS, if_pos p1]
      rw [hg']
      rw [p1] at eH5
      simp only [RUN, core, T.c, T.s, T.b, T.i, sBin, sInt, sUn, isShift, asInt, P1.cells, loadT, ptrC, storeT, putC, fillP, Nat.reduceAdd, reduceIte, Nat.reduceEqDiff, Nat.reduceLT, Nat.reduceLeDiff, reduceCtorEq, eq_self, FIT, lendCs_map, verC_map, FinC, resPs, resP, lendPl, lendCs, lendC, sealC, partsT, finHs, tupT, verT, verP, verC, verB, verAt, Blk.ver, handsAre, forall_const, CHT, disj, Nat.reduceBEq, beq_self_eq_true, APT, srcOf, sealPs, sealCs, sealC, toVs, Option.map_some, List.mem_singleton, forall_eq, ALT, UGe_2, UGe_1, e3, eH3, e1, e5, eH5, e6, eH6, e8, en_len, k1]
      refine callC (cutS_ok d hD a.moves a.keep) rfl rfl rfl rfl ?_
      simp only [RUN, core, T.c, T.s, T.b, T.i, sBin, sInt, sUn, isShift, asInt, P1.cells, loadT, ptrC, storeT, putC, fillP, Nat.reduceAdd, reduceIte, Nat.reduceEqDiff, Nat.reduceLT, Nat.reduceLeDiff, reduceCtorEq, eq_self, FIT, lendCs_map, verC_map, FinC, resPs, resP, lendPl, lendCs, lendC, sealC, partsT, finHs, tupT, verT, verP, verC, verB, verAt, Blk.ver, handsAre, forall_const, CHT, disj, Nat.reduceBEq, beq_self_eq_true, APT, srcOf, sealPs, sealCs, sealC, toVs, Option.map_some, List.mem_singleton, forall_eq, ALT, UGe_2, UGe_1, e6, eH6]
    | false =>
      have hg' : r = (d, 0) := by rw [hg, goS, if_neg (by rw [p1]; decide)]
      rw [hg']
      rw [p1] at eH5
      simp only [RUN, core, T.c, T.s, T.b, T.i, sBin, sInt, sUn, isShift, asInt, P1.cells, loadT, ptrC, storeT, putC, fillP, Nat.reduceAdd, reduceIte, Nat.reduceEqDiff, Nat.reduceLT, Nat.reduceLeDiff, reduceCtorEq, eq_self, FIT, lendCs_map, verC_map, FinC, resPs, resP, lendPl, lendCs, lendC, sealC, partsT, finHs, tupT, verT, verP, verC, verB, verAt, Blk.ver, handsAre, forall_const, CHT, disj, Nat.reduceBEq, beq_self_eq_true, APT, srcOf, sealPs, sealCs, sealC, toVs, Option.map_some, List.mem_singleton, forall_eq, ALT, UGe_2, UGe_1, e3, eH3, e1, e5, eH5, e6, eH6, e8, en_len, k1]
      refine callDk (ws := []) (ns := []) (copyDk_ok d hd.s 1001 1002 1003) rfl rfl rfl (by decide) ⟨rfl, ?_⟩
      simp only [RUN, core, T.c, T.s, T.b, T.i, sBin, sInt, sUn, isShift, asInt, P1.cells, loadT, ptrC, storeT, putC, fillP, Nat.reduceAdd, reduceIte, Nat.reduceEqDiff, Nat.reduceLT, Nat.reduceLeDiff, reduceCtorEq, eq_self, FIT, lendCs_map, verC_map, FinC, resPs, resP, lendPl, lendCs, lendC, sealC, partsT, finHs, tupT, verT, verP, verC, verB, verAt, Blk.ver, handsAre, forall_const, CHT, disj, Nat.reduceBEq, beq_self_eq_true, APT, srcOf, sealPs, sealCs, sealC, toVs, Option.map_some, List.mem_singleton, forall_eq, ALT, UGe_2, UGe_1, e6, eH6]
end Go.V
set_option linter.unusedSimpArgs false
namespace Go.V
open Go.Proofs
theorem fileOf_cut {d : Dk} (hD : DOk d) (keep : List Int) {x : ByteArray} (hx : x ∈ made d) : ∃ (j : Nat), fnd d.files x = j ∧ d.files[j]? = some (fileOf d.files x) ∧ (fileOf d.files x).name = x ∧ fileOf (cutA keep d).files x = cutF (keepAt keep j) (fileOf d.files x) := by
  obtain ⟨j, h1, h2, h3⟩ := hD.find hx
  obtain ⟨j', g1, g2, g3⟩ := (hD.cutA keep).find (x := x) hx
  refine ⟨j, h1, h2, h3, ?_⟩
  have hj : j' = j := by
    have hl := (List.getElem?_eq_some_iff.1 g2).1
    have hl' : j' < d.files.length := by simpa only [cutA, cutP_len] using hl
    obtain ⟨f', hf'⟩ : ∃ f', d.files[j']? = some f' := ⟨_, List.getElem?_eq_getElem hl'⟩
    have e : (cutA keep d).files[j']? = _ := cutP_at keep hf' d.files.length
    rw [g2, if_pos hl'] at e
    have e := Option.some.inj e
    have hn : f'.name = x := by rw [← g3, e]; rfl
    have := (hD.files j' f' hf').one
    rw [hn, h1] at this
    omega
  subst hj
  have e : (cutA keep d).files[j']? = _ := cutP_at keep h2 d.files.length
  rw [g2, if_pos (List.getElem?_eq_some_iff.1 h2).1] at e
  exact Option.some.inj e
theorem cutM_impl (k : Int) {f : DF} (h1 : f.kept ≤ f.data.size) : min (max k 0) ((f.data.size : Int) - f.kept) = cutM k f := by unfold cutM; split <;> omega
theorem cutM_none {f : DF} (h1 : f.kept ≤ f.data.size) : min 0 ((f.data.size : Int) - f.kept) = cutM 0 f := by unfold cutM; split <;> omega
/- (loop.example/teagle/impl.Disk).cut -/
def r155_0 : List AOper := [ao 0 3 (.box 34 (.t 0)),
  ao 1 6 (.alloc 34 [.nil0, .nil0, .nil0])]
def r155_1 : List AOper := [ao 0 14 (.ld 3 true (.t 3)),
  ao 1 15 (.mv (.t 1)),
  ao 2 16 (.mmx true (.t 15) (.k (.i 0))),
  ao 3 17 (.fa 2 (.t 3)),
  ao 4 18 (.ld 1 false (.t 17)),
  ao 5 19 (.len (.t 18)),
  ao 6 20 (.mmx false (.t 16) (.t 19)),
  ao 7 21 (.call (.k (.c (.fn 103 []))) [(.t 14), (.t 20)]),
  ao 8 22 (.build [.nil0, .nil0, .nil0] [(1, 1, (.t 21))]),
  ao 9 7 (.alloc 34 [.nil0, .nil0, .nil0]),
  an 10 (.st 3 (.t 7) (.t 22))]
def r155_2 : List AOper := [ao 0 23 (.fa 1 (.t 7)),
  ao 1 24 (.ld 1 false (.t 23)),
  ao 2 25 (.len (.t 24)),
  ao 3 26 (.mv (.k (.i 0)))]
def r155_3 : List AOper := [ao 0 27 (.bin .lss (.t 26) (.t 25))]
def c155_4 : ACode := .cond (.t 27) .skip (.exit 0)
def r155_5 : List AOper := [ao 0 28 (.ia 1 (.t 24) (.t 26)),
  ao 1 29 (.ld 1 false (.t 28)),
  ao 2 9 (.mv (.t 29))]
def r155_6 : List AOper := [ao 0 30 (.ld 3 true (.t 3)),
  ao 1 31 (.mv (.t 9)),
  ao 2 32 (.call (.k (.c (.fn 105 []))) [(.t 30), (.t 31)]),
  ao 3 10 (.mv (.t 32))]
def r155_7 : List AOper := [ao 0 33 (.fa 0 (.t 3)),
  ao 1 34 (.ld 1 false (.t 33)),
  ao 2 35 (.mv (.t 10)),
  ao 3 36 (.ia 3 (.t 34) (.t 35)),
  ao 4 37 (.ld 3 true (.t 36)),
  ao 5 11 (.alloc 88 [(.v (.s (.string ⟨#[]⟩))), (.v (.s (.string ⟨#[]⟩))), (.v (.s (.int .i64 0)))]),
  an 6 (.st 3 (.t 11) (.t 37)),
  ao 7 12 (.mv (.k (.i 0)))]
def r155_8 : List AOper := [ao 0 38 (.mv (.t 10)),
  ao 1 39 (.mv (.t 2)),
  ao 2 40 (.len (.t 39)),
  ao 3 41 (.bin .lss (.t 38) (.t 40))]
def r155_9 : List AOper := [ao 0 42 (.mv (.t 2)),
  ao 1 43 (.mv (.t 10)),
  ao 2 44 (.ia 1 (.t 42) (.t 43)),
  ao 3 45 (.ld 1 false (.t 44)),
  ao 4 46 (.mmx true (.t 45) (.k (.i 0))),
  ao 5 12 (.mv (.t 46))]
def c155_10 : ACode := .cond (.t 41) (.reg r155_9) .skip
def c155_11 : ACode := .seq (.reg r155_8) c155_10
def r155_12 : List AOper := [ao 0 47 (.fa 1 (.t 11)),
  ao 1 48 (.ld 1 false (.t 47)),
  ao 2 49 (.fa 2 (.t 11)),
  ao 3 50 (.ld 1 false (.t 49)),
  ao 4 51 (.mv (.t 12)),
  ao 5 52 (.fa 1 (.t 11)),
  ao 6 53 (.ld 1 false (.t 52)),
  ao 7 54 (.lenS (.t 53)),
  ao 8 55 (.fa 2 (.t 11)),
  ao 9 56 (.ld 1 false (.t 55)),
  ao 10 57 (.bin .sub (.t 54) (.t 56)),
  ao 11 58 (.mmx false (.t 51) (.t 57)),
  ao 12 59 (.bin .add (.t 50) (.t 58)),
  ao 13 60 (.slcS (.t 48) none (some (.t 59))),
  ao 14 13 (.mv (.t 60))]
def r155_13 : List AOper := [ao 0 61 (.fa 0 (.t 7)),
  ao 1 62 (.ld 1 false (.t 61)),
  ao 2 63 (.mv (.t 9)),
  ao 3 64 (.mv (.t 13)),
  ao 4 65 (.mv (.t 13)),
  ao 5 66 (.lenS (.t 65)),
  ao 6 67 (.build [(.v (.s (.string ⟨#[]⟩))), (.v (.s (.string ⟨#[]⟩))), (.v (.s (.int .i64 0)))] [(0, 1, (.t 63)), (1, 1, (.t 64)), (2, 1, (.t 66))]),
  ao 7 68 (.bsl 3 88 [(.t 67)]),
  ao 8 69 (.app 3 88 40 (.t 62) (.t 68)),
  ao 9 70 (.fa 0 (.t 7)),
  an 10 (.st 1 (.t 70) (.t 69))]
def c155_14 : ACode := .seq (.reg r155_5) (.seq (.reg r155_6) (.seq (.reg r155_7) (.seq c155_11 (.seq (.reg r155_12) (.reg r155_13)))))
def c155_15 : ACode := .block 1 c155_14
def r155_16 : List AOper := [ao 0 71 (.bin .add (.t 26) (.k (.i 1))),
  ao 1 26 (.mv (.t 71))]
def c155_17 : ACode := .seq (.reg r155_3) (.seq c155_4 (.seq c155_15 (.reg r155_16)))
def c155_18 : ACode := .loop c155_17
def c155_19 : ACode := .block 0 c155_18
def c155_20 : ACode := .seq (.reg r155_2) c155_19
def r155_21 : List AOper := [ao 0 72 (.ld 3 true (.t 7)),
  an 1 (.st 3 (.t 6) (.t 72))]
def c155 : ACode := .seq (.reg r155_0) (.seq (.reg r155_1) (.seq c155_20 (.seq (.reg r155_21) .ret)))
def s155 : List ARes := [.cell 6 3 true]
theorem ok155 : okF Try.prog 155 73 c155 s155 := ⟨Try.f155, Try.func155, Try.ntmps155, by kernel_rfl, by kernel_rfl, by kernel_rfl⟩
def inv155 (d : Dk) (keep : List Int) (ns rest : List ByteArray) (i : Nat) (σ : St) : Prop := (∃ u, σ.t 3 = .c (.ptr 3 u 0) ∧ σ.H 3 = some (.var u 34 [.v (.sl (en eF d.files)), .v (.sl (en eS d.names)), .v (.sl (en eM d.moves))])) ∧ σ.t 2 = tL (en eI keep) ∧ (∃ u, σ.t 6 = .c (.ptr 6 u 0) ∧ σ.H 6 = some (.var u 34 [.nil0, .nil0, .nil0])) ∧
  (∃ u v w, σ.t 7 = .c (.ptr 7 u 0) ∧ σ.H 7 = some (.var u 34 [.own 2005 v ((ns.take i).map (fileOf (cutA keep d).files)).length, .own 2001 w ns.length, .nil0]) ∧ σ.H 2005 = some (.arr v true 3 88 (en eF ((ns.take i).map (fileOf (cutA keep d).files)))) ∧ σ.H 2001 = some (.arr w true 1 9 (en eS (ns ++ rest))) ∧ σ.t 24 = .c (.own 2001 w ns.length)) ∧ σ.t 25 = .i ns.length ∧ σ.t 26 = .i i
theorem UGf_1 : (type_of% (uA c155.eq_1)) ∧ (type_of% (uR r155_0.eq_1)) ∧ (type_of% (uR r155_1.eq_1)) ∧ (type_of% (uA c155_20.eq_1)) ∧ (type_of% (uR r155_2.eq_1)) ∧ (type_of% (uA c155_19.eq_1)) ∧ (type_of% (uA c155_18.eq_1)) ∧ (type_of% (uR r155_21.eq_1)) ∧ (type_of% s155.eq_1) :=
  ⟨uA c155.eq_1, uR r155_0.eq_1, uR r155_1.eq_1, uA c155_20.eq_1, uR r155_2.eq_1, uA c155_19.eq_1, uA c155_18.eq_1, uR r155_21.eq_1, s155.eq_1⟩
theorem UGf_2 : (type_of% (uA c155_17.eq_1)) ∧ (type_of% (uR r155_3.eq_1)) ∧ (type_of% (uA c155_4.eq_1)) ∧ (type_of% (uA c155_15.eq_1)) ∧ (type_of% (uA c155_14.eq_1)) ∧ (type_of% (uR r155_5.eq_1)) ∧ (type_of% (uR r155_6.eq_1)) ∧ (type_of% (uR r155_7.eq_1)) ∧ (type_of% (uA c155_11.eq_1)) ∧ (type_of% (uR r155_8.eq_1)) ∧ (type_of% (uA c155_10.eq_1)) ∧ (type_of% (uR r155_9.eq_1)) ∧ (type_of% (uR r155_12.eq_1)) ∧ (type_of% (uR r155_13.eq_1)) ∧ (type_of% (uR r155_16.eq_1)) ∧ (type_of% (uA c155.eq_1)) ∧ (type_of% (uR r155_0.eq_1)) ∧ (type_of% (uR r155_1.eq_1)) ∧ (type_of% (uA c155_20.eq_1)) ∧ (type_of% (uR r155_2.eq_1)) ∧ (type_of% (uA c155_19.eq_1)) ∧ (type_of% (uA c155_18.eq_1)) ∧ (type_of% (uR r155_21.eq_1)) ∧ (type_of% s155.eq_1) :=
  ⟨uA c155_17.eq_1, uR r155_3.eq_1, uA c155_4.eq_1, uA c155_15.eq_1, uA c155_14.eq_1, uR r155_5.eq_1, uR r155_6.eq_1, uR r155_7.eq_1, uA c155_11.eq_1, uR r155_8.eq_1, uA c155_10.eq_1, uR r155_9.eq_1, uR r155_12.eq_1, uR r155_13.eq_1, uR r155_16.eq_1, uA c155.eq_1, uR r155_0.eq_1, uR r155_1.eq_1, uA c155_20.eq_1, uR r155_2.eq_1, uA c155_19.eq_1, uA c155_18.eq_1, uR r155_21.eq_1, s155.eq_1⟩
set_option maxRecDepth 20000 in
set_option maxHeartbeats 1000000 in
theorem cutI_ok (d : Dk) (hD : DOk d) (m : Int) (keep : List Int) : ACallsF Try.prog 155 [tDk d, .i m, tL (en eI keep)] [] (tDk (cutD d m keep)) := by
  have hd := hD.fine
  have l1 := hD.f
  have l2 := hD.n
  have l3 := hD.m
  have hn : min (max m 0) (d.moves.length : Int) = ((cutN m d : Nat) : Int) := by rw [cutN]; omega
  have hcd : cutD d m keep = keepD (cutA keep d) (aft d.names (d.moves.take (cutN m d))) := rfl
  have hnl : cutN m d ≤ d.moves.length := by rw [cutN]; omega
  have hN := namesI_ok d hd.s (cutN m d) hnl
  rw [hD.nmI (cutN m d) hnl] at hN
  have hal := aft_len (d.moves.take (cutN m d)) d.names
  rw [List.length_take] at hal
  have hmade : ∀ x ∈ aft d.names (d.moves.take (cutN m d)), x ∈ made d := fun x hx => DOk.aft_made hx
  rw [hcd]
  generalize hns : aft d.names (d.moves.take (cutN m d)) = ns at *
  generalize hrest : (runI d.names (d.moves.take (cutN m d))).2 = rest at *
  refine ACallsF.intro ok155 follows fun X c0 => ?_
  simp only [RUN, core, T.c, T.s, T.b, T.i, sBin, sInt, sUn, isShift, asInt, P1.cells, loadT, ptrC, storeT, putC, fillP, Nat.reduceAdd, reduceIte, Nat.reduceEqDiff, Nat.reduceLT, Nat.reduceLeDiff, reduceCtorEq, eq_self, FIT, lendCs_map, verC_map, FinC, resPs, resP, lendPl, lendCs, lendC, sealC, partsT, finHs, tupT, verT, verP, verC, verB, verAt, Blk.ver, handsAre, forall_const, CHT, disj, Nat.reduceBEq, beq_self_eq_true, APT, srcOf, sealPs, sealCs, sealC, toVs, Option.map_some, List.mem_singleton, forall_eq, ALT, UGf_1, hn]
  refine callA1 (m := 2001) (ws := []) (ns := []) (hN 2001) rfl rfl rfl (en_flat eS eS_flat _) ⟨rfl, ?_⟩
  simp only [RUN, core, T.c, T.s, T.b, T.i, sBin, sInt, sUn, isShift, asInt, P1.cells, loadT, ptrC, storeT, putC, fillP, Nat.reduceAdd, reduceIte, Nat.reduceEqDiff, Nat.reduceLT, Nat.reduceLeDiff, reduceCtorEq, eq_self, FIT, lendCs_map, verC_map, FinC, resPs, resP, lendPl, lendCs, lendC, sealC, partsT, finHs, tupT, verT, verP, verC, verB, verAt, Blk.ver, handsAre, forall_const, CHT, disj, Nat.reduceBEq, beq_self_eq_true, APT, srcOf, sealPs, sealCs, sealC, toVs, Option.map_some, List.mem_singleton, forall_eq, ALT, UGf_1]
  refine AW.reify 7 0 2005 3 88 rfl rfl rfl (by decide) ?_
  refine AW.upto ns.length (inv155 d keep ns rest) ⟨⟨_, rfl, rfl⟩, rfl, ⟨_, rfl, rfl⟩, ⟨_, _, _, rfl, rfl, rfl, rfl, rfl⟩, rfl, rfl⟩ fun i t H c hi h => ?_
  obtain ⟨⟨u3, e3, eH3⟩, e2, ⟨u6, e6, eH6⟩, ⟨u7, v, w, e7, eH7, eHf, eHn, e24⟩, e25, e26⟩ := h
  simp only [T.c, T.i, T.s, tL] at e3 eH3 e2 e6 eH6 e7 eH7 eHf eHn e24 e25 e26
  by_cases hlt : i < ns.length
  · obtain ⟨x, hx⟩ : ∃ x, ns[i]? = some x := ⟨_, List.getElem?_eq_getElem hlt⟩
    have hxm := hmade x (List.mem_of_getElem? hx)
    obtain ⟨j, hj1, hj2, hj3, hj4⟩ := fileOf_cut hD keep hxm
    have hxr : (ns ++ rest)[i]? = some x := by rw [List.getElem?_append_left hlt]; exact hx
    have ex := en_at eS hxr
    have k1 : (i : Int) < ns.length := by omega
    have gz : (0 : Int) ≤ i := by omega
    have gj : (0 : Int) ≤ j := by omega
    have gl : ns.length ≤ ns.length + rest.length := Nat.le_add_right _ _
    have gw : IntKind.i64.wrap ((i : Int) + 1) = ((i + 1 : Nat) : Int) := wrap64 (x := (i : Int) + 1) ⟨by omega, by omega⟩
    have ht : (ns.take (i + 1)).map (fileOf (cutA keep d).files) = (ns.take i).map (fileOf (cutA keep d).files) ++ [fileOf (cutA keep d).files x] := by rw [List.take_add_one, hx]; simp
    have hl : ((ns.take i).map (fileOf (cutA keep d).files)).length ≤ 3000000 := by rw [List.length_map, List.length_take]; omega
    rw [hj4] at ht
    generalize hq : (ns.take i).map (fileOf (cutA keep d).files) = q at *
    have q3 : (q.length + 1) * 40 ≤ 140737488355328 := by omega
    have q4 : q.length + 1 ≤ 9223372036854775807 := by omega
    have hfo := fileAt_ok d x (by omega)
    rw [hj1] at hfo
    have hF := hD.files j _ hj2
    generalize hf : fileOf d.files x = f at *
    have g3 := hF.lo
    have g4 := hF.hi
    have g5 := hF.data
    have hM := cutM_le (k := keepAt keep j) g3 g4
    have hS := cut_size (k := keepAt keep j) g3 g4
    have ef := en_at eF hj2
    have gs : IntKind.i64.wrap ((f.data.size : Int) - f.kept) = (f.data.size : Int) - f.kept := wrap64 ⟨by omega, by omega⟩
    have gm : IntKind.i64.wrap (f.kept + cutM (keepAt keep j) f) = f.kept + cutM (keepAt keep j) f := wrap64 ⟨by omega, by omega⟩
    have gh : (0 : Int) ≤ f.kept + cutM (keepAt keep j) f := by omega
    have gh2 : f.kept + cutM (keepAt keep j) f ≤ f.data.size := hM.2
    have hsn : en eF q ++ [[.s (.string x), .s (.string (f.data.extract 0 (f.kept + cutM (keepAt keep j) f).toNat)), .s (.int .i64 (f.kept + cutM (keepAt keep j) f))]] = en eF (q ++ [cutF (keepAt keep j) f]) := by
      rw [en_snoc, ← hj3]; rfl
    by_cases hk : j < keep.length
    · obtain ⟨z, hz⟩ : ∃ z, keep[j]? = some z := ⟨_, List.getElem?_eq_getElem hk⟩
      have ez := en_at eI hz
      have hka : keepAt keep j = z := by rw [keepAt, hz]; rfl
      have k2 : (j : Int) < keep.length := by omega
      have hmi := cutM_impl z g4
      rw [hka] at gm gh gh2 hsn hS
      simp only [RUN, core, T.c, T.s, T.b, T.i, sBin, sInt, sUn, isShift, asInt, P1.cells, loadT, ptrC, storeT, putC, fillP, Nat.reduceAdd, reduceIte, Nat.reduceEqDiff, Nat.reduceLT, Nat.reduceLeDiff, reduceCtorEq, eq_self, FIT, lendCs_map, verC_map, FinC, resPs, resP, lendPl, lendCs, lendC, sealC, partsT, finHs, tupT, verT, verP, verC, verB, verAt, Blk.ver, handsAre, forall_const, CHT, disj, Nat.reduceBEq, beq_self_eq_true, APT, srcOf, sealPs, sealCs, sealC, toVs, Option.map_some, List.mem_singleton, forall_eq, ALT, UGf_2, e3, eH3, e2, e6, eH6, e7, eH7, eHf, eHn, e24, e25, e26, en_len, k1, gz, hlt, gl, ex, eS]
      refine callC hfo rfl rfl rfl rfl ?_
      simp only [RUN, core, T.c, T.s, T.b, T.i, sBin, sInt, sUn, isShift, asInt, P1.cells, loadT, ptrC, storeT, putC, fillP, Nat.reduceAdd, reduceIte, Nat.reduceEqDiff, Nat.reduceLT, Nat.reduceLeDiff, reduceCtorEq, eq_self, FIT, lendCs_map, verC_map, FinC, resPs, resP, lendPl, lendCs, lendC, sealC, partsT, finHs, tupT, verT, verP, verC, verB, verAt, Blk.ver, handsAre, forall_const, CHT, disj, Nat.reduceBEq, beq_self_eq_true, APT, srcOf, sealPs, sealCs, sealC, toVs, Option.map_some, List.mem_singleton, forall_eq, ALT, UGf_2, e3, eH3, e2, e6, eH6, e7, eH7, eHf, eHn, e24, e25, e26, en_len, k1, k2, gj, ef, eF, ez, eI, lohi, gs, hmi, gm, gh, gh2, hS, Int.le_refl, Int.toNat_zero, gw, q3, q4]
      unfold inv155
      rw [ht, hka, ← hsn, List.length_append]
      exact ⟨⟨u3, e3, eH3⟩, e2, ⟨u6, e6, eH6⟩, ⟨u7, _, w, e7, rfl, rfl, eHn, e24⟩, e25, rfl⟩
    · have hka : keepAt keep j = 0 := by rw [keepAt, List.getElem?_eq_none (by omega)]; rfl
      have k2 : ¬ (j : Int) < keep.length := by omega
      have hmi := cutM_none g4
      rw [hka] at gm gh gh2 hsn hS
      simp only [RUN, core, T.c, T.s, T.b, T.i, sBin, sInt, sUn, isShift, asInt, P1.cells, loadT, ptrC, storeT, putC, fillP, Nat.reduceAdd, reduceIte, Nat.reduceEqDiff, Nat.reduceLT, Nat.reduceLeDiff, reduceCtorEq, eq_self, FIT, lendCs_map, verC_map, FinC, resPs, resP, lendPl, lendCs, lendC, sealC, partsT, finHs, tupT, verT, verP, verC, verB, verAt, Blk.ver, handsAre, forall_const, CHT, disj, Nat.reduceBEq, beq_self_eq_true, APT, srcOf, sealPs, sealCs, sealC, toVs, Option.map_some, List.mem_singleton, forall_eq, ALT, UGf_2, e3, eH3, e2, e6, eH6, e7, eH7, eHf, eHn, e24, e25, e26, en_len, k1, gz, hlt, gl, ex, eS]
      refine callC hfo rfl rfl rfl rfl ?_
      simp only [RUN, core, T.c, T.s, T.b, T.i, sBin, sInt, sUn, isShift, asInt, P1.cells, loadT, ptrC, storeT, putC, fillP, Nat.reduceAdd, reduceIte, Nat.reduceEqDiff, Nat.reduceLT, Nat.reduceLeDiff, reduceCtorEq, eq_self, FIT, lendCs_map, verC_map, FinC, resPs, resP, lendPl, lendCs, lendC, sealC, partsT, finHs, tupT, verT, verP, verC, verB, verAt, Blk.ver, handsAre, forall_const, CHT, disj, Nat.reduceBEq, beq_self_eq_true, APT, srcOf, sealPs, sealCs, sealC, toVs, Option.map_some, List.mem_singleton, forall_eq, ALT, UGf_2, e3, eH3, e2, e6, eH6, e7, eH7, eHf, eHn, e24, e25, e26, en_len, k1, k2, gj, ef, eF, lohi, gs, hmi, gm, gh, gh2, hS, Int.le_refl, Int.toNat_zero, gw, q3, q4]
      unfold inv155
      rw [ht, hka, ← hsn, List.length_append]
      exact ⟨⟨u3, e3, eH3⟩, e2, ⟨u6, e6, eH6⟩, ⟨u7, _, w, e7, rfl, rfl, eHn, e24⟩, e25, rfl⟩
  · have k1 : ¬ (i : Int) < ns.length := by omega
    have hi2 : i = ns.length := by omega
    subst hi2
    rw [List.take_length] at eH7 eHf
    have ht2 := en_take2 eS ns rest
    have gl : ns.length ≤ ns.length + rest.length := Nat.le_add_right _ _
    simp only [RUN, core, T.c, T.s, T.b, T.i, sBin, sInt, sUn, isShift, asInt, P1.cells, loadT, ptrC, storeT, putC, fillP, Nat.reduceAdd, reduceIte, Nat.reduceEqDiff, Nat.reduceLT, Nat.reduceLeDiff, reduceCtorEq, eq_self, FIT, lendCs_map, verC_map, FinC, resPs, resP, lendPl, lendCs, lendC, sealC, partsT, finHs, tupT, verT, verP, verC, verB, verAt, Blk.ver, handsAre, forall_const, CHT, disj, Nat.reduceBEq, beq_self_eq_true, APT, srcOf, sealPs, sealCs, sealC, toVs, Option.map_some, List.mem_singleton, forall_eq, ALT, UGf_2, UGf_1, e3, eH3, e2, e6, eH6, e7, eH7, eHf, eHn, e24, e25, e26, en_len, k1, keepD, ht2, gl]
end Go.V
set_option linter.unusedSimpArgs false
namespace Go.V
open Go.Proofs
theorem recell2 {w : World} {imm : Imm} {H : HMap} {L : Locs} {U : Nat → Prop} (hH : HOk w imm H L U) {n v : Nat} {ty : TypeId} {cs ds : List C} (hn : H n = some (.var v ty cs)) (hc : ∀ g cur, L n = some g → w.heap[g]? = some (.cells cur ty (0, 0)) → CsRep w imm H L U cur.toList cs → CsRep w imm H L U cur.toList ds) :
    HOk w imm (upd H n (some (.var v ty ds))) L U ∧ Ext w H L U w (upd H n (some (.var v ty ds))) L U ∧ Step w imm (foot H L) w imm ∧ Near w (foot H L) (upd H n (some (.var v ty ds))) L := by
  have hb := hH.blk n _ hn
  obtain ⟨b1, g, cur, b2, b3, b4, b5⟩ := hb
  have := upd_all (w' := w) (imm' := imm) (U' := U) hH n (.var v ty ds) (L n) rfl rfl rfl (Nat.le_refl _) (fun _ _ _ => rfl) (fun _ _ h => ⟨h, rfl⟩) (fun _ _ h => .inl h)
    (fun g hg => .inr ⟨by simp [hn], hg⟩) (fun _ h => h) (.inr (.inl ⟨v, ty, ds, ty, cs, rfl, hn, rfl⟩)) (fun m he hm => by
      subst hm
      rw [upd_self L m] at he ⊢
      exact ⟨b1, g, cur, b2, b3, (hc g cur b2 b3 b4).mono (fun _ _ h => ⟨h, rfl⟩) he, b5⟩)
  rw [upd_self] at this
  exact this
/-- An own array in a variable is told by less: what stands behind its end is dropped. -/
theorem AW.trim {P : Program} {X : Ctx} {ac : ACode} {Q : Exit → St → Prop} {t : Nat → T} {H : HMap} {c : Nat} (n j id : Nat) {v vi k st : Nat} {ty aty : TypeId} {cs : List C} {es : List (List V)} (h1 : H n = some (.var v ty cs)) (h2 : cs[j]? = some (.own id vi k)) (h3 : H id = some (.arr vi true st aty es)) (hk : k ≤ es.length)
    (h : AW P X ac Q ⟨t, upd (upd H id (some (.arr c true st aty (es.take k)))) n (some (.var v ty (putC cs j [.own id c k]))), c + 1⟩) : AW P X ac Q ⟨t, H, c⟩ := by
  intro cd hcc hm a w hS
  refine h cd hcc hm a w ?_
  obtain ⟨imm, L, hS⟩ := hS
  have hne : n ≠ id := fun e => by rw [e, h3] at h1; cases h1
  obtain ⟨_, g0, cur0, hg0, hh0, hcs0, _⟩ := hS.hok.blk n _ h1
  have hjl : j < cs.length := (List.getElem?_eq_some_iff.1 h2).1
  obtain ⟨x, hx⟩ : ∃ x, cur0.toList[j]? = some x := ⟨_, List.getElem?_eq_getElem (by rw [hcs0.1]; exact hjl)⟩
  obtain ⟨hx1, hx2, hx3⟩ := (show CRep w imm H L (· < c) x (.own id vi k) from hcs0.2 j x _ hx h2)
  have hx4 := (hx3 _ _ _ _ h3).2
  have hg := goes_arr_same (w := w) (imm := imm) (L := L) hS.hok id vi c (by simp) true st aty es (es.take k) h3 k rfl hk (.inr rfl) x hx4
  have h1' : upd H id (some (.arr c true st aty (es.take k))) n = some (.var v ty cs) := by rw [upd_ne _ _ hne]; exact h1
  obtain ⟨k1, k2, k3, k4⟩ := recell2 (ds := putC cs j [.own id c k]) hg.hok h1' fun g cur hgl hcur hcr => by
    rw [hg0] at hgl; cases hgl
    rw [hh0] at hcur; cases hcur
    have hpl : (putC cs j [C.own id c k]).length = cs.length := by simp [putC]; omega
    refine ⟨by rw [hpl]; exact hcr.1, fun q u y hu hy => ?_⟩
    by_cases hq : q = j
    · subst hq
      have : y = .own id c k := by
        simp only [putC, List.append_assoc] at hy
        rw [List.getElem?_append_right (by simp; omega)] at hy
        have e0 : q - (cs.take q).length = 0 := by simp; omega
        rw [e0] at hy
        simpa using hy.symm
      subst this
      rw [hx] at hu; cases hu
      exact hg.val
    · refine hcr.2 q u y hu ?_
      rw [← hy]
      simp only [putC, List.append_assoc]
      rcases Nat.lt_or_ge q j with hlt | hge
      · rw [List.getElem?_append_left (by simp; omega), List.getElem?_take, if_pos hlt]
      · rw [List.getElem?_append_right (by simp; omega)]
        have e0 : q - (cs.take j).length = (q - j - 1) + 1 := by simp; omega
        rw [e0]
        simp only [List.singleton_append, List.getElem?_cons_succ, List.getElem?_drop, List.length_singleton]
        congr 1
        omega
  have hkk : ∀ b o, imm b o → imm b o ∧ w.cell? ⟨b, o, none⟩ = w.cell? ⟨b, o, none⟩ := fun _ _ h => ⟨h, rfl⟩
  obtain ⟨s1, s2⟩ := Step.trans hg.step hg.near k3 k4
  obtain ⟨s3, s4⟩ := Step.trans hS.step hS.near s1 s2
  have hu : ∀ v, with_ (· < c) c v → v < c + 1 := fun v hv => by rcases hv with hv | hv <;> omega
  have hext := (hg.ext.trans k2).trans (CRep.use (w := w) hu)
  exact ⟨imm, L, k1.use hu, fun i => (hS.tmp i).mono hkk hext, hS.size, hS.defers, s3, s4, hS.ext.trans hext⟩
/-- A nil slice in a variable, told as an own empty array, under a name that was used before. -/
theorem AW.reify2 {P : Program} {X : Ctx} {ac : ACode} {Q : Exit → St → Prop} {t : Nat → T} {H : HMap} {c : Nat} (n j id st : Nat) (aty : TypeId) {v : Nat} {ty : TypeId} {cs : List C} (h1 : H n = some (.var v ty cs)) (h2 : cs[j]? = some .nil0) (hne : n ≠ id) (hst : 0 < st)
    (h : AW P X ac Q ⟨t, upd (upd H id (some (.arr c true st aty []))) n (some (.var v ty (putC cs j [.own id c 0]))), c + 1⟩) : AW P X ac Q ⟨t, H, c⟩ := by
  intro cd hcc hm a w hS
  refine h cd hcc hm a w ?_
  obtain ⟨imm, L, hS⟩ := hS
  have hg := goes_arr_nil (w := w) (imm := imm) (L := L) hS.hok id c (by simp) true st aty hst none
  have h1' : upd H id (some (.arr c true st aty [])) n = some (.var v ty cs) := by rw [upd_ne _ _ hne]; exact h1
  have hjl : j < cs.length := (List.getElem?_eq_some_iff.1 h2).1
  obtain ⟨k1, k2, k3, k4⟩ := recell2 (ds := putC cs j [.own id c 0]) hg.hok h1' fun g cur hgl hcur hcr => by
    have hpl : (putC cs j [C.own id c 0]).length = cs.length := by simp [putC]; omega
    refine ⟨by rw [hpl]; exact hcr.1, fun k u y hu hy => ?_⟩
    by_cases hk : k = j
    · subst hk
      have : y = .own id c 0 := by
        simp only [putC, List.append_assoc] at hy
        rw [List.getElem?_append_right (by simp; omega)] at hy
        have e0 : k - (cs.take k).length = 0 := by simp; omega
        rw [e0] at hy
        simpa using hy.symm
      subst this
      obtain ⟨a0, rfl⟩ := hcr.2 k u .nil0 hu h2
      refine ⟨.inr rfl, ⟨a0, 0, rfl, Nat.le_refl _⟩, fun wr' st' ty' es' hH => ?_⟩
      simp only [upd_same, Option.some.injEq, Blk.arr.injEq] at hH
      obtain ⟨_, _, _, _, rfl⟩ := hH
      exact ⟨Nat.le_refl _, .inl ⟨a0, rfl, rfl⟩⟩
    · refine hcr.2 k u y hu ?_
      rw [← hy]
      simp only [putC, List.append_assoc]
      rcases Nat.lt_or_ge k j with hlt | hge
      · rw [List.getElem?_append_left (by simp; omega), List.getElem?_take, if_pos hlt]
      · rw [List.getElem?_append_right (by simp; omega)]
        have e0 : k - (cs.take j).length = (k - j - 1) + 1 := by simp; omega
        rw [e0]
        simp only [List.singleton_append, List.getElem?_cons_succ, List.getElem?_drop, List.length_singleton]
        congr 1
        omega
  have hk : ∀ b o, imm b o → imm b o ∧ w.cell? ⟨b, o, none⟩ = w.cell? ⟨b, o, none⟩ := fun _ _ h => ⟨h, rfl⟩
  obtain ⟨s1, s2⟩ := Step.trans hg.step hg.near k3 k4
  obtain ⟨s3, s4⟩ := Step.trans hS.step hS.near s1 s2
  have hu : ∀ v, with_ (· < c) c v → v < c + 1 := fun v hv => by rcases hv with hv | hv <;> omega
  have hext := (hg.ext.trans k2).trans (CRep.use (w := w) hu)
  exact ⟨imm, upd L id none, k1.use hu, fun i => (hS.tmp i).mono hk hext, hS.size, hS.defers, s3, s4, hS.ext.trans hext⟩
/-- A loop that counts, where a round may tell its state anew first. -/
theorem AW.uptoA {P : Program} {X : Ctx} {Q : Exit → St → Prop} {t : Nat → T} {H : HMap} {c : Nat} {x : ACode} (n : Nat) (I : Nat → St → Prop) (h0 : I 0 ⟨t, H, c⟩)
    (round : ∀ i t H c, i ≤ n → I i ⟨t, H, c⟩ → AW P X x (thenA (fun σ => i < n ∧ I (i + 1) σ) Q) ⟨t, H, c⟩) : AW P X (.loop x) Q ⟨t, H, c⟩ := by
  refine AW.loop (ι := Nat) (fun i σ => i ≤ n ∧ I i σ) (fun i => n - i) 0 ⟨Nat.zero_le n, h0⟩ ?_
  rintro i ⟨t, H, c⟩ ⟨h1, h2⟩
  refine AW.mono (round i t H c h1 h2) fun e σ h => ?_
  cases e with
  | normal =>
    have h3 : i < n := h.1
    exact ⟨i + 1, by omega, h3, h.2⟩
  | _ => exact h
theorem lendK {H : HMap} {m1 m2 m3 v1 v2 v3 n1 n2 n3 : Nat} {w1 w2 w3 : Bool} {d : Dk} {xs : List T} (h1 : H m1 = some (.arr v1 w1 3 88 (en eF d.files))) (h2 : H m2 = some (.arr v2 w2 1 9 (en eS d.names))) (h3 : H m3 = some (.arr v3 w3 2 90 (en eM d.moves))) (e1 : n1 = d.files.length) (e2 : n2 = d.names.length) (e3 : n3 = d.moves.length) (hx : xs.all closedA = true) :
    lendTs H (tDk d :: xs) (.pt (.agg [.own m1 v1 n1, .own m2 v2 n2, .own m3 v3 n3]) :: xs) = some (tDk d :: xs, dkL m1 v1 m2 v2 m3 v3 d, [m1, m2, m3]) := by
  simp only [lendTs, lendDk h1 h2 h3 e1 e2 e3, (closed_As [] H xs hx).1, List.append_nil]
end Go.V

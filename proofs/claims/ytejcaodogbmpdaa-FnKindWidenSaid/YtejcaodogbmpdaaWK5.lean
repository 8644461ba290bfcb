/- It is proved that the law FnKindWiden returns true for every input and leaves its input as it was; no condition. -/
import Derived.Test.YtejcaodogbmpdaaWK4
set_option linter.unusedSimpArgs false
namespace Go.V
open Go.Proofs
/- loop.example/teagle/spec.l1TextOk -/
def r112_0 : List AOper := [ao 0 2 (.mv (.k (.b false)))]
def r112_1 : List AOper := [ao 0 4 (.mv (.t 0)),
  ao 1 5 (.lenS (.t 4)),
  ao 2 6 (.bin .gtr (.t 5) (.k (.i 60)))]
def r112_2 : List AOper := [ao 0 2 (.mv (.k (.b false)))]
def c112_3 : ACode := .seq (.reg r112_2) .ret
def c112_4 : ACode := .cond (.t 6) c112_3 .skip
def c112_5 : ACode := .seq (.reg r112_1) c112_4
def r112_6 : List AOper := [ao 0 3 (.mv (.k (.i 0)))]
def r112_7 : List AOper := [ao 0 7 (.mv (.t 3)),
  ao 1 8 (.mv (.t 0)),
  ao 2 9 (.lenS (.t 8)),
  ao 3 10 (.bin .lss (.t 7) (.t 9))]
def c112_8 : ACode := .cond (.t 10) .skip (.exit 0)
def c112_9 : ACode := .seq (.reg r112_7) c112_8
def r112_10 : List AOper := [ao 0 13 (.mv (.t 0)),
  ao 1 14 (.mv (.t 3)),
  ao 2 15 (.ix (.t 13) (.t 14)),
  ao 3 16 (.bin .lss (.t 15) (.k (.s (.int .u8 32)))),
  ao 4 17 (.mv (.t 16)),
  ag 5 18 17 false [] (.mv (.t 0)),
  ag 6 19 17 false [] (.mv (.t 3)),
  ag 7 20 17 false [] (.ix (.t 18) (.t 19)),
  ag 8 21 17 false [] (.bin .gtr (.t 20) (.k (.s (.int .u8 126)))),
  ao 9 22 (.pick (.t 17) (.k (.b true)) (.t 21)),
  ao 10 23 (.mv (.t 22)),
  ag 11 24 23 false [] (.mv (.t 0)),
  ag 12 25 23 false [] (.mv (.t 3)),
  ag 13 26 23 false [] (.ix (.t 24) (.t 25)),
  ag 14 27 23 false [] (.bin .eql (.t 26) (.k (.s (.int .u8 34)))),
  ao 15 28 (.pick (.t 23) (.k (.b true)) (.t 27))]
def r112_11 : List AOper := [ao 0 2 (.mv (.k (.b false)))]
def c112_12 : ACode := .seq (.reg r112_11) .ret
def c112_13 : ACode := .cond (.t 28) c112_12 .skip
def c112_14 : ACode := .seq (.reg r112_10) c112_13
def c112_15 : ACode := .block 1 c112_14
def r112_16 : List AOper := [ao 0 11 (.mv (.t 3)),
  ao 1 12 (.bin .add (.t 11) (.k (.i 1))),
  ao 2 3 (.mv (.t 12))]
def c112_17 : ACode := .seq c112_9 (.seq c112_15 (.reg r112_16))
def c112_18 : ACode := .loop c112_17
def c112_19 : ACode := .block 0 c112_18
def c112_20 : ACode := .seq (.reg r112_6) c112_19
def r112_21 : List AOper := [ao 0 2 (.mv (.k (.b true)))]
def c112 : ACode := .seq (.reg r112_0) (.seq c112_5 (.seq c112_20 (.seq (.reg r112_21) .ret)))
def s112 : List ARes := [.tmp 2]
theorem ok112 : okF Try.prog 112 29 c112 s112 := ⟨Try.f112, Try.func112, Try.ntmps112, by kernel_rfl, by kernel_rfl, by kernel_rfl⟩
def inv112 (s : ByteArray) (i : Nat) (σ : St) : Prop := (∀ (j : Nat) b, j < i → s.data[j]? = some b → printB b) ∧ σ.t 0 = .s (.string s) ∧ σ.t 3 = .i i
theorem UMa_1 : (type_of% (uA c112.eq_1)) ∧ (type_of% (uR r112_0.eq_1)) ∧ (type_of% (uA c112_5.eq_1)) ∧ (type_of% (uR r112_1.eq_1)) ∧ (type_of% (uA c112_4.eq_1)) ∧ (type_of% (uA c112_3.eq_1)) ∧ (type_of% (uR r112_2.eq_1)) ∧ (type_of% (uA c112_20.eq_1)) ∧ (type_of% (uR r112_6.eq_1)) ∧ (type_of% (uA c112_19.eq_1)) ∧ (type_of% (uA c112_18.eq_1)) ∧ (type_of% (uR r112_21.eq_1)) ∧ (type_of% s112.eq_1) :=
  ⟨uA c112.eq_1, uR r112_0.eq_1, uA c112_5.eq_1, uR r112_1.eq_1, uA c112_4.eq_1, uA c112_3.eq_1, uR r112_2.eq_1, uA c112_20.eq_1, uR r112_6.eq_1, uA c112_19.eq_1, uA c112_18.eq_1, uR r112_21.eq_1, s112.eq_1⟩
theorem UMa_3 : (type_of% (uA c112_17.eq_1)) ∧ (type_of% (uA c112_9.eq_1)) ∧ (type_of% (uR r112_7.eq_1)) ∧ (type_of% (uA c112_8.eq_1)) ∧ (type_of% (uA c112_15.eq_1)) ∧ (type_of% (uA c112_14.eq_1)) ∧ (type_of% (uR r112_10.eq_1)) ∧ (type_of% (uA c112_13.eq_1)) ∧ (type_of% (uA c112_12.eq_1)) ∧ (type_of% (uR r112_11.eq_1)) ∧ (type_of% (uR r112_16.eq_1)) ∧ (type_of% (uA c112.eq_1)) ∧ (type_of% (uR r112_0.eq_1)) ∧ (type_of% (uA c112_5.eq_1)) ∧ (type_of% (uR r112_1.eq_1)) ∧ (type_of% (uA c112_4.eq_1)) ∧ (type_of% (uA c112_3.eq_1)) ∧ (type_of% (uR r112_2.eq_1)) ∧ (type_of% (uA c112_20.eq_1)) ∧ (type_of% (uR r112_6.eq_1)) ∧ (type_of% (uA c112_19.eq_1)) ∧ (type_of% (uA c112_18.eq_1)) ∧ (type_of% (uR r112_21.eq_1)) ∧ (type_of% s112.eq_1) :=
  ⟨uA c112_17.eq_1, uA c112_9.eq_1, uR r112_7.eq_1, uA c112_8.eq_1, uA c112_15.eq_1, uA c112_14.eq_1, uR r112_10.eq_1, uA c112_13.eq_1, uA c112_12.eq_1, uR r112_11.eq_1, uR r112_16.eq_1, uA c112.eq_1, uR r112_0.eq_1, uA c112_5.eq_1, uR r112_1.eq_1, uA c112_4.eq_1, uA c112_3.eq_1, uR r112_2.eq_1, uA c112_20.eq_1, uR r112_6.eq_1, uA c112_19.eq_1, uA c112_18.eq_1, uR r112_21.eq_1, s112.eq_1⟩
theorem textOkS_ok (s : ByteArray) (hs : s.size ≤ 4611686018427387904) : ACallsF Try.prog 112 [.s (.string s)] [] (.b (textOk s)) := by
  refine ACallsF.intro ok112 follows fun X c0 => ?_
  by_cases h60 : (s.size : Int) > 60
  · have hm : textOk s = false := textOk_false.2 fun h => by have := h.2; omega
    simp only [RUN, core, T.c, T.s, T.b, T.i, sBin, sInt, sUn, isShift, asInt, P1.cells, loadT, ptrC, storeT, putC, fillP, Nat.reduceAdd, reduceIte, Nat.reduceEqDiff, Nat.reduceLT, Nat.reduceLeDiff, reduceCtorEq, eq_self, FIT, lendCs_map, verC_map, FinC, resPs, resP, lendPl, lendCs, lendC, sealC, partsT, finHs, tupT, verT, verP, verC, verB, verAt, Blk.ver, handsAre, forall_const, UMa_1, h60, hm]
  simp only [RUN, core, T.c, T.s, T.b, T.i, sBin, sInt, sUn, isShift, asInt, P1.cells, loadT, ptrC, storeT, putC, fillP, Nat.reduceAdd, reduceIte, Nat.reduceEqDiff, Nat.reduceLT, Nat.reduceLeDiff, reduceCtorEq, eq_self, FIT, lendCs_map, verC_map, FinC, resPs, resP, lendPl, lendCs, lendC, sealC, partsT, finHs, tupT, verT, verP, verC, verB, verAt, Blk.ver, handsAre, forall_const, UMa_1, h60]
  refine AW.upto s.size (inv112 s) ⟨fun j _ hj => absurd hj (Nat.not_lt_zero j), rfl, rfl⟩ fun i t H c hi h => ?_
  obtain ⟨g0, e0, e3⟩ := h
  simp only [T.c, T.i, T.s] at e0 e3
  by_cases hlt : i < s.size
  · have g1 : (i : Int) < s.size := by omega
    have gz : (0 : Int) ≤ i := by omega
    have gw : IntKind.i64.wrap ((i : Int) + 1) = ((i + 1 : Nat) : Int) := wrap64 (x := (i : Int) + 1) ⟨by omega, by omega⟩
    obtain ⟨b, hb⟩ : ∃ b, s.data[i]? = some b := ⟨_, Array.getElem?_eq_getElem (by rw [← size_data]; omega)⟩
    have hbad : ¬ printB b → textOk s = false := fun h => textOk_false.2 fun h2 => h (h2.1 i b hb)
    by_cases k1 : (b.toNat : Int) < 32
    · have hm := hbad fun h => h.1 k1
      simp only [RUN, core, T.c, T.s, T.b, T.i, sBin, sInt, sUn, isShift, asInt, P1.cells, loadT, ptrC, storeT, putC, fillP, Nat.reduceAdd, reduceIte, Nat.reduceEqDiff, Nat.reduceLT, Nat.reduceLeDiff, reduceCtorEq, eq_self, FIT, lendCs_map, verC_map, FinC, resPs, resP, lendPl, lendCs, lendC, sealC, partsT, finHs, tupT, verT, verP, verC, verB, verAt, Blk.ver, handsAre, forall_const, UMa_3, e0, e3, g1, gz, hb, Int.toNat_natCast, k1, hm]
    by_cases k2 : (b.toNat : Int) > 126
    · have hm := hbad fun h => h.2.1 k2
      simp only [RUN, core, T.c, T.s, T.b, T.i, sBin, sInt, sUn, isShift, asInt, P1.cells, loadT, ptrC, storeT, putC, fillP, Nat.reduceAdd, reduceIte, Nat.reduceEqDiff, Nat.reduceLT, Nat.reduceLeDiff, reduceCtorEq, eq_self, FIT, lendCs_map, verC_map, FinC, resPs, resP, lendPl, lendCs, lendC, sealC, partsT, finHs, tupT, verT, verP, verC, verB, verAt, Blk.ver, handsAre, forall_const, UMa_3, e0, e3, g1, gz, hb, Int.toNat_natCast, k1, k2, hm]
    by_cases k3 : (b.toNat : Int) = 34
    · have hm := hbad fun h => h.2.2 k3
      have k3b : ((b.toNat : Int) == 34) = true := beq_iff_eq.2 k3
      simp only [RUN, core, T.c, T.s, T.b, T.i, sBin, sInt, sUn, isShift, asInt, P1.cells, loadT, ptrC, storeT, putC, fillP, Nat.reduceAdd, reduceIte, Nat.reduceEqDiff, Nat.reduceLT, Nat.reduceLeDiff, reduceCtorEq, eq_self, FIT, lendCs_map, verC_map, FinC, resPs, resP, lendPl, lendCs, lendC, sealC, partsT, finHs, tupT, verT, verP, verC, verB, verAt, Blk.ver, handsAre, forall_const, UMa_3, e0, e3, g1, gz, hb, Int.toNat_natCast, k1, k2, k3b, hm]
    · have k3b : ((b.toNat : Int) == 34) = false := beq_eq_false_iff_ne.2 k3
      simp only [RUN, core, T.c, T.s, T.b, T.i, sBin, sInt, sUn, isShift, asInt, P1.cells, loadT, ptrC, storeT, putC, fillP, Nat.reduceAdd, reduceIte, Nat.reduceEqDiff, Nat.reduceLT, Nat.reduceLeDiff, reduceCtorEq, eq_self, FIT, lendCs_map, verC_map, FinC, resPs, resP, lendPl, lendCs, lendC, sealC, partsT, finHs, tupT, verT, verP, verC, verB, verAt, Blk.ver, handsAre, forall_const, UMa_3, e0, e3, g1, gz, hb, Int.toNat_natCast, k1, k2, k3b, gw]
      refine ⟨hlt, fun j b' hj hj2 => ?_, e0, rfl⟩
      rcases Nat.lt_succ_iff_lt_or_eq.1 hj with hj | rfl
      · exact g0 j b' hj hj2
      · rw [hb] at hj2; cases hj2; exact ⟨k1, k2, k3⟩
  · have g1 : ¬ (i : Int) < s.size := by omega
    have hp : printP s := fun j b hj => g0 j b (by have := (Array.getElem?_eq_some_iff.1 hj).1; rw [size_data] at hlt; omega) hj
    have hm : textOk s = true := textOk_true.2 ⟨hp, by omega⟩
    simp only [RUN, core, T.c, T.s, T.b, T.i, sBin, sInt, sUn, isShift, asInt, P1.cells, loadT, ptrC, storeT, putC, fillP, Nat.reduceAdd, reduceIte, Nat.reduceEqDiff, Nat.reduceLT, Nat.reduceLeDiff, reduceCtorEq, eq_self, FIT, lendCs_map, verC_map, FinC, resPs, resP, lendPl, lendCs, lendC, sealC, partsT, finHs, tupT, verT, verP, verC, verB, verAt, Blk.ver, handsAre, forall_const, UMa_3, UMa_1, e0, e3, g1, hm]
/- loop.example/teagle/spec.l1Alone -/
def r101_0 : List AOper := [ao 0 1 (.box 29 (.t 0)),
  ao 1 2 (.mv (.k (.b false)))]
def r101_1 : List AOper := [ao 0 4 (.fa 4 (.t 1)),
  ao 1 5 (.ld 1 false (.t 4)),
  ao 2 6 (.len (.t 5)),
  ao 3 3 (.mv (.t 6))]
def r101_2 : List AOper := [ao 0 7 (.fa 0 (.t 1)),
  ao 1 8 (.ld 1 false (.t 7))]
def r101_3 : List AOper := [ao 0 10 (.bin .eql (.t 8) (.k (.i 1))),
  ao 1 9 (.mv (.t 10))]
def r101_4 : List AOper := [ao 0 11 (.fa 1 (.t 1)),
  ao 1 12 (.ld 1 false (.t 11)),
  ao 2 13 (.call (.k (.c (.fn 84 []))) [(.t 12), (.k (.i (-999999999))), (.k (.i 999999999))]),
  ao 3 14 (.mv (.t 13)),
  ag 4 15 14 true [] (.fa 2 (.t 1)),
  ag 5 16 14 true [] (.ld 1 false (.t 15)),
  ag 6 17 14 true [] (.bin .eql (.t 16) (.k (.s (.string ⟨#[]⟩)))),
  ao 7 18 (.pick (.t 14) (.t 17) (.k (.b false))),
  ao 8 19 (.mv (.t 18)),
  ag 9 20 19 true [] (.fa 3 (.t 1)),
  ag 10 21 19 true [] (.ld 1 false (.t 20)),
  ag 11 22 19 true [] (.len (.t 21)),
  ag 12 23 19 true [] (.bin .eql (.t 22) (.k (.i 0))),
  ao 13 24 (.pick (.t 19) (.t 23) (.k (.b false))),
  ao 14 25 (.mv (.t 24)),
  ag 15 26 25 true [] (.mv (.t 3)),
  ag 16 27 25 true [] (.bin .eql (.t 26) (.k (.i 0))),
  ao 17 28 (.pick (.t 25) (.t 27) (.k (.b false))),
  ao 18 2 (.mv (.t 28))]
def c101_5 : ACode := .seq (.reg r101_4) .ret
def r101_6 : List AOper := [ao 0 30 (.bin .eql (.t 8) (.k (.i 2))),
  ao 1 29 (.mv (.t 30))]
def r101_7 : List AOper := [ao 0 31 (.fa 1 (.t 1)),
  ao 1 32 (.ld 1 false (.t 31)),
  ao 2 33 (.bin .eql (.t 32) (.k (.i 0))),
  ao 3 34 (.mv (.t 33)),
  ag 4 35 34 true [] (.fa 2 (.t 1)),
  ag 5 36 34 true [] (.ld 1 false (.t 35)),
  ag 6 37 34 true [] (.call (.k (.c (.fn 112 []))) [(.t 36)]),
  ao 7 38 (.pick (.t 34) (.t 37) (.k (.b false))),
  ao 8 39 (.mv (.t 38)),
  ag 9 40 39 true [] (.fa 3 (.t 1)),
  ag 10 41 39 true [] (.ld 1 false (.t 40)),
  ag 11 42 39 true [] (.len (.t 41)),
  ag 12 43 39 true [] (.bin .eql (.t 42) (.k (.i 0))),
  ao 13 44 (.pick (.t 39) (.t 43) (.k (.b false))),
  ao 14 45 (.mv (.t 44)),
  ag 15 46 45 true [] (.mv (.t 3)),
  ag 16 47 45 true [] (.bin .eql (.t 46) (.k (.i 0))),
  ao 17 48 (.pick (.t 45) (.t 47) (.k (.b false))),
  ao 18 2 (.mv (.t 48))]
def c101_8 : ACode := .seq (.reg r101_7) .ret
def r101_9 : List AOper := [ao 0 50 (.bin .eql (.t 8) (.k (.i 3))),
  ao 1 49 (.mv (.t 50))]
def r101_10 : List AOper := [ao 0 51 (.fa 1 (.t 1)),
  ao 1 52 (.ld 1 false (.t 51)),
  ao 2 53 (.call (.k (.c (.fn 84 []))) [(.t 52), (.k (.i 0)), (.k (.i 1))]),
  ao 3 54 (.mv (.t 53)),
  ag 4 55 54 true [] (.fa 2 (.t 1)),
  ag 5 56 54 true [] (.ld 1 false (.t 55)),
  ag 6 57 54 true [] (.bin .eql (.t 56) (.k (.s (.string ⟨#[]⟩)))),
  ao 7 58 (.pick (.t 54) (.t 57) (.k (.b false))),
  ao 8 59 (.mv (.t 58)),
  ag 9 60 59 true [] (.fa 3 (.t 1)),
  ag 10 61 59 true [] (.ld 1 false (.t 60)),
  ag 11 62 59 true [] (.len (.t 61)),
  ag 12 63 59 true [] (.bin .eql (.t 62) (.k (.i 0))),
  ao 13 64 (.pick (.t 59) (.t 63) (.k (.b false))),
  ao 14 65 (.mv (.t 64)),
  ag 15 66 65 true [] (.mv (.t 3)),
  ag 16 67 65 true [] (.bin .eql (.t 66) (.k (.i 0))),
  ao 17 68 (.pick (.t 65) (.t 67) (.k (.b false))),
  ao 18 2 (.mv (.t 68))]
def c101_11 : ACode := .seq (.reg r101_10) .ret
def r101_12 : List AOper := [ao 0 70 (.bin .eql (.t 8) (.k (.i 4))),
  ao 1 69 (.mv (.t 70))]
def r101_13 : List AOper := [ao 0 71 (.fa 1 (.t 1)),
  ao 1 72 (.ld 1 false (.t 71)),
  ao 2 73 (.bin .eql (.t 72) (.k (.i 0))),
  ao 3 74 (.mv (.t 73)),
  ag 4 75 74 true [] (.fa 2 (.t 1)),
  ag 5 76 74 true [] (.ld 1 false (.t 75)),
  ag 6 77 74 true [] (.bin .eql (.t 76) (.k (.s (.string ⟨#[]⟩)))),
  ao 7 78 (.pick (.t 74) (.t 77) (.k (.b false))),
  ao 8 79 (.mv (.t 78)),
  ag 9 80 79 true [] (.fa 3 (.t 1)),
  ag 10 81 79 true [] (.ld 1 false (.t 80)),
  ag 11 82 79 true [] (.len (.t 81)),
  ag 12 83 79 true [] (.bin .eql (.t 82) (.k (.i 0))),
  ao 13 84 (.pick (.t 79) (.t 83) (.k (.b false))),
  ao 14 85 (.mv (.t 84)),
  ag 15 86 85 true [] (.mv (.t 3)),
  ag 16 87 85 true [] (.bin .leq (.t 86) (.k (.i 20))),
  ao 17 88 (.pick (.t 85) (.t 87) (.k (.b false))),
  ao 18 2 (.mv (.t 88))]
def c101_14 : ACode := .seq (.reg r101_13) .ret
def r101_15 : List AOper := [ao 0 90 (.bin .eql (.t 8) (.k (.i 5))),
  ao 1 89 (.mv (.t 90))]
def r101_16 : List AOper := [ao 0 91 (.fa 1 (.t 1)),
  ao 1 92 (.ld 1 false (.t 91)),
  ao 2 93 (.bin .eql (.t 92) (.k (.i 0))),
  ao 3 94 (.mv (.t 93)),
  ag 4 95 94 true [] (.fa 2 (.t 1)),
  ag 5 96 94 true [] (.ld 1 false (.t 95)),
  ag 6 97 94 true [] (.bin .eql (.t 96) (.k (.s (.string ⟨#[]⟩)))),
  ao 7 98 (.pick (.t 94) (.t 97) (.k (.b false))),
  ao 8 99 (.mv (.t 98)),
  ag 9 100 99 true [] (.fa 3 (.t 1)),
  ag 10 101 99 true [] (.ld 1 false (.t 100)),
  ag 11 102 99 true [] (.len (.t 101)),
  ag 12 103 99 true [] (.mv (.t 3)),
  ag 13 104 99 true [] (.bin .eql (.t 102) (.t 103)),
  ao 14 105 (.pick (.t 99) (.t 104) (.k (.b false))),
  ao 15 106 (.mv (.t 105)),
  ag 16 107 106 true [] (.fa 3 (.t 1)),
  ag 17 108 106 true [] (.ld 1 false (.t 107)),
  ag 18 109 106 true [] (.call (.k (.c (.fn 85 []))) [(.t 108)]),
  ao 19 110 (.pick (.t 106) (.t 109) (.k (.b false))),
  ao 20 2 (.mv (.t 110))]
def c101_17 : ACode := .seq (.reg r101_16) .ret
def r101_18 : List AOper := [ao 0 112 (.bin .eql (.t 8) (.k (.i 6))),
  ao 1 111 (.mv (.t 112))]
def r101_19 : List AOper := [ao 0 113 (.fa 1 (.t 1)),
  ao 1 114 (.ld 1 false (.t 113)),
  ao 2 115 (.bin .eql (.t 114) (.k (.i 0))),
  ao 3 116 (.mv (.t 115)),
  ag 4 117 116 true [] (.fa 2 (.t 1)),
  ag 5 118 116 true [] (.ld 1 false (.t 117)),
  ag 6 119 116 true [] (.bin .eql (.t 118) (.k (.s (.string ⟨#[]⟩)))),
  ao 7 120 (.pick (.t 116) (.t 119) (.k (.b false))),
  ao 8 121 (.mv (.t 120)),
  ag 9 122 121 true [] (.fa 3 (.t 1)),
  ag 10 123 121 true [] (.ld 1 false (.t 122)),
  ag 11 124 121 true [] (.len (.t 123)),
  ag 12 125 121 true [] (.bin .eql (.t 124) (.k (.i 0))),
  ao 13 126 (.pick (.t 121) (.t 125) (.k (.b false))),
  ao 14 127 (.mv (.t 126)),
  ag 15 128 127 true [] (.mv (.t 3)),
  ag 16 129 127 true [] (.bin .leq (.t 128) (.k (.i 1))),
  ao 17 130 (.pick (.t 127) (.t 129) (.k (.b false))),
  ao 18 2 (.mv (.t 130))]
def c101_20 : ACode := .seq (.reg r101_19) .ret
def c101_21 : ACode := .cond (.t 111) c101_20 .skip
def c101_22 : ACode := .seq (.reg r101_18) c101_21
def c101_23 : ACode := .cond (.t 89) c101_17 c101_22
def c101_24 : ACode := .seq (.reg r101_15) c101_23
def c101_25 : ACode := .cond (.t 69) c101_14 c101_24
def c101_26 : ACode := .seq (.reg r101_12) c101_25
def c101_27 : ACode := .cond (.t 49) c101_11 c101_26
def c101_28 : ACode := .seq (.reg r101_9) c101_27
def c101_29 : ACode := .cond (.t 29) c101_8 c101_28
def c101_30 : ACode := .seq (.reg r101_6) c101_29
def c101_31 : ACode := .cond (.t 9) c101_5 c101_30
def c101_32 : ACode := .seq (.reg r101_3) c101_31
def c101_33 : ACode := .block 0 c101_32
def c101_34 : ACode := .seq (.reg r101_2) c101_33
def r101_35 : List AOper := [ao 0 2 (.mv (.k (.b false)))]
def c101 : ACode := .seq (.reg r101_0) (.seq (.reg r101_1) (.seq c101_34 (.seq (.reg r101_35) .ret)))
def s101 : List ARes := [.tmp 2]
theorem ok101 : okF Try.prog 101 131 c101 s101 := ⟨Try.f101, Try.func101, Try.ntmps101, by kernel_rfl, by kernel_rfl, by kernel_rfl⟩
theorem add0 (a b : Nat) : ((a : Int) + (b : Int) == 0) = (((a : Int) == 0) && ((b : Int) == 0)) := by
  by_cases h1 : a = 0 <;> by_cases h2 : b = 0
  · subst h1 h2; rfl
  · rw [beq_eq_false_iff_ne.2 (show (a : Int) + (b : Int) ≠ 0 by omega), beq_eq_false_iff_ne.2 (show (b : Int) ≠ 0 by omega), Bool.and_false]
  · rw [beq_eq_false_iff_ne.2 (show (a : Int) + (b : Int) ≠ 0 by omega), beq_eq_false_iff_ne.2 (show (a : Int) ≠ 0 by omega), Bool.false_and]
  · rw [beq_eq_false_iff_ne.2 (show (a : Int) + (b : Int) ≠ 0 by omega), beq_eq_false_iff_ne.2 (show (a : Int) ≠ 0 by omega), Bool.false_and]
theorem UMa_2 : (type_of% (uA c101.eq_1)) ∧ (type_of% (uR r101_0.eq_1)) ∧ (type_of% (uR r101_1.eq_1)) ∧ (type_of% (uA c101_34.eq_1)) ∧ (type_of% (uR r101_2.eq_1)) ∧ (type_of% (uA c101_33.eq_1)) ∧ (type_of% (uA c101_32.eq_1)) ∧ (type_of% (uR r101_3.eq_1)) ∧ (type_of% (uA c101_31.eq_1)) ∧ (type_of% (uA c101_5.eq_1)) ∧ (type_of% (uR r101_4.eq_1)) ∧ (type_of% (uA c101_30.eq_1)) ∧ (type_of% (uR r101_6.eq_1)) ∧ (type_of% (uA c101_29.eq_1)) ∧ (type_of% (uA c101_8.eq_1)) ∧ (type_of% (uR r101_7.eq_1)) ∧ (type_of% (uA c101_28.eq_1)) ∧ (type_of% (uR r101_9.eq_1)) ∧ (type_of% (uA c101_27.eq_1)) ∧ (type_of% (uA c101_11.eq_1)) ∧ (type_of% (uR r101_10.eq_1)) ∧ (type_of% (uA c101_26.eq_1)) ∧ (type_of% (uR r101_12.eq_1)) ∧ (type_of% (uA c101_25.eq_1)) ∧ (type_of% (uA c101_14.eq_1)) ∧ (type_of% (uR r101_13.eq_1)) ∧ (type_of% (uA c101_24.eq_1)) ∧ (type_of% (uR r101_15.eq_1)) ∧ (type_of% (uA c101_23.eq_1)) ∧ (type_of% (uA c101_17.eq_1)) ∧ (type_of% (uR r101_16.eq_1)) ∧ (type_of% (uA c101_22.eq_1)) ∧ (type_of% (uR r101_18.eq_1)) ∧ (type_of% (uA c101_21.eq_1)) ∧ (type_of% (uA c101_20.eq_1)) ∧ (type_of% (uR r101_19.eq_1)) ∧ (type_of% (uR r101_35.eq_1)) ∧ (type_of% s101.eq_1) :=
  ⟨uA c101.eq_1, uR r101_0.eq_1, uR r101_1.eq_1, uA c101_34.eq_1, uR r101_2.eq_1, uA c101_33.eq_1, uA c101_32.eq_1, uR r101_3.eq_1, uA c101_31.eq_1, uA c101_5.eq_1, uR r101_4.eq_1, uA c101_30.eq_1, uR r101_6.eq_1, uA c101_29.eq_1, uA c101_8.eq_1, uR r101_7.eq_1, uA c101_28.eq_1, uR r101_9.eq_1, uA c101_27.eq_1, uA c101_11.eq_1, uR r101_10.eq_1, uA c101_26.eq_1, uR r101_12.eq_1, uA c101_25.eq_1, uA c101_14.eq_1, uR r101_13.eq_1, uA c101_24.eq_1, uR r101_15.eq_1, uA c101_23.eq_1, uA c101_17.eq_1, uR r101_16.eq_1, uA c101_22.eq_1, uR r101_18.eq_1, uA c101_21.eq_1, uA c101_20.eq_1, uR r101_19.eq_1, uR r101_35.eq_1, s101.eq_1⟩
theorem alone_ok (s n : Int) (x : ByteArray) (ns : List ByteArray) (ks : List Tr) (hx : x.size ≤ 1000000) (hl : ns.length ≤ 1000000 ∧ ks.length ≤ 1000000) (hs : ∀ s ∈ ns, s.size ≤ 1000000) : ACallsF Try.prog 101 [tT (.mk s n x ns ks)] [] (.b (tshape s n x ns ks.length)) := by
  refine ACallsF.intro ok101 follows fun X c0 => ?_
  by_cases h1 : s = 1
  · subst h1
    have hm : tshape 1 n x ns ks.length = ((decide (-999999999 ≤ n) && decide (n ≤ 999999999)) && (decide (x = ⟨#[]⟩) && (((ns.length : Int) == 0) && ((ks.length : Int) == 0)))) := by rw [← add0]; exact if_pos rfl
    simp only [RUN, core, T.c, T.s, T.b, T.i, sBin, sInt, sUn, isShift, asInt, P1.cells, loadT, ptrC, storeT, putC, fillP, Nat.reduceAdd, reduceIte, Nat.reduceEqDiff, Nat.reduceLT, Nat.reduceLeDiff, reduceCtorEq, eq_self, FIT, lendCs_map, verC_map, FinC, resPs, resP, lendPl, lendCs, lendC, sealC, partsT, finHs, tupT, verT, verP, verC, verB, verAt, Blk.ver, handsAre, forall_const, CHT, disj, Nat.reduceBEq, beq_self_eq_true, APT, srcOf, sealPs, sealCs, sealC, List.mem_singleton, forall_eq, ALT, UMa_2, encT_mk, encTs_len, encS_len, Int.reduceBEq]
    refine callC (l6In_ok n (-999999999) 999999999) rfl rfl rfl rfl ?_
    rw [hm]
    generalize (decide (-999999999 ≤ n) && decide (n ≤ 999999999)) = A
    cases A
    · simp only [RUN, core, T.c, T.s, T.b, T.i, sBin, sInt, sUn, isShift, asInt, P1.cells, loadT, ptrC, storeT, putC, fillP, Nat.reduceAdd, reduceIte, Nat.reduceEqDiff, Nat.reduceLT, Nat.reduceLeDiff, reduceCtorEq, eq_self, FIT, lendCs_map, verC_map, FinC, resPs, resP, lendPl, lendCs, lendC, sealC, partsT, finHs, tupT, verT, verP, verC, verB, verAt, Blk.ver, handsAre, forall_const, CHT, disj, Nat.reduceBEq, beq_self_eq_true, APT, srcOf, sealPs, sealCs, sealC, List.mem_singleton, forall_eq, ALT, UMa_2, encT_mk, encTs_len, encS_len]
    by_cases hx0 : x = ⟨#[]⟩
    · cases hn0 : ((ns.length : Int) == 0) <;> simp only [RUN, core, T.c, T.s, T.b, T.i, sBin, sInt, sUn, isShift, asInt, P1.cells, loadT, ptrC, storeT, putC, fillP, Nat.reduceAdd, reduceIte, Nat.reduceEqDiff, Nat.reduceLT, Nat.reduceLeDiff, reduceCtorEq, eq_self, FIT, lendCs_map, verC_map, FinC, resPs, resP, lendPl, lendCs, lendC, sealC, partsT, finHs, tupT, verT, verP, verC, verB, verAt, Blk.ver, handsAre, forall_const, CHT, disj, Nat.reduceBEq, beq_self_eq_true, APT, srcOf, sealPs, sealCs, sealC, List.mem_singleton, forall_eq, ALT, UMa_2, encT_mk, encTs_len, encS_len, sStr, str_beq, hx0, hn0]
    · simp only [RUN, core, T.c, T.s, T.b, T.i, sBin, sInt, sUn, isShift, asInt, P1.cells, loadT, ptrC, storeT, putC, fillP, Nat.reduceAdd, reduceIte, Nat.reduceEqDiff, Nat.reduceLT, Nat.reduceLeDiff, reduceCtorEq, eq_self, FIT, lendCs_map, verC_map, FinC, resPs, resP, lendPl, lendCs, lendC, sealC, partsT, finHs, tupT, verT, verP, verC, verB, verAt, Blk.ver, handsAre, forall_const, CHT, disj, Nat.reduceBEq, beq_self_eq_true, APT, srcOf, sealPs, sealCs, sealC, List.mem_singleton, forall_eq, ALT, UMa_2, encT_mk, encTs_len, encS_len, sStr, str_beq, hx0]
  have b1 : (s == 1) = false := beq_eq_false_iff_ne.2 h1
  by_cases h2 : s = 2
  · subst h2
    have hm : tshape 2 n x ns ks.length = ((n == 0) && (textOk x && (((ns.length : Int) == 0) && ((ks.length : Int) == 0)))) := by rw [← add0]; rfl
    rw [hm]
    cases hn : (n == 0) with
    | false => simp only [RUN, core, T.c, T.s, T.b, T.i, sBin, sInt, sUn, isShift, asInt, P1.cells, loadT, ptrC, storeT, putC, fillP, Nat.reduceAdd, reduceIte, Nat.reduceEqDiff, Nat.reduceLT, Nat.reduceLeDiff, reduceCtorEq, eq_self, FIT, lendCs_map, verC_map, FinC, resPs, resP, lendPl, lendCs, lendC, sealC, partsT, finHs, tupT, verT, verP, verC, verB, verAt, Blk.ver, handsAre, forall_const, CHT, disj, Nat.reduceBEq, beq_self_eq_true, APT, srcOf, sealPs, sealCs, sealC, List.mem_singleton, forall_eq, ALT, UMa_2, encT_mk, encTs_len, encS_len, Int.reduceBEq, hn]
    | true =>
      simp only [RUN, core, T.c, T.s, T.b, T.i, sBin, sInt, sUn, isShift, asInt, P1.cells, loadT, ptrC, storeT, putC, fillP, Nat.reduceAdd, reduceIte, Nat.reduceEqDiff, Nat.reduceLT, Nat.reduceLeDiff, reduceCtorEq, eq_self, FIT, lendCs_map, verC_map, FinC, resPs, resP, lendPl, lendCs, lendC, sealC, partsT, finHs, tupT, verT, verP, verC, verB, verAt, Blk.ver, handsAre, forall_const, CHT, disj, Nat.reduceBEq, beq_self_eq_true, APT, srcOf, sealPs, sealCs, sealC, List.mem_singleton, forall_eq, ALT, UMa_2, encT_mk, encTs_len, encS_len, Int.reduceBEq, hn]
      refine callC (textOkS_ok x (by omega)) rfl rfl rfl rfl ?_
      cases ht : textOk x with
      | false => simp only [RUN, core, T.c, T.s, T.b, T.i, sBin, sInt, sUn, isShift, asInt, P1.cells, loadT, ptrC, storeT, putC, fillP, Nat.reduceAdd, reduceIte, Nat.reduceEqDiff, Nat.reduceLT, Nat.reduceLeDiff, reduceCtorEq, eq_self, FIT, lendCs_map, verC_map, FinC, resPs, resP, lendPl, lendCs, lendC, sealC, partsT, finHs, tupT, verT, verP, verC, verB, verAt, Blk.ver, handsAre, forall_const, CHT, disj, Nat.reduceBEq, beq_self_eq_true, APT, srcOf, sealPs, sealCs, sealC, List.mem_singleton, forall_eq, ALT, UMa_2, encT_mk, encTs_len, encS_len]
      | true => cases hn0 : ((ns.length : Int) == 0) <;> simp only [RUN, core, T.c, T.s, T.b, T.i, sBin, sInt, sUn, isShift, asInt, P1.cells, loadT, ptrC, storeT, putC, fillP, Nat.reduceAdd, reduceIte, Nat.reduceEqDiff, Nat.reduceLT, Nat.reduceLeDiff, reduceCtorEq, eq_self, FIT, lendCs_map, verC_map, FinC, resPs, resP, lendPl, lendCs, lendC, sealC, partsT, finHs, tupT, verT, verP, verC, verB, verAt, Blk.ver, handsAre, forall_const, CHT, disj, Nat.reduceBEq, beq_self_eq_true, APT, srcOf, sealPs, sealCs, sealC, List.mem_singleton, forall_eq, ALT, UMa_2, encT_mk, encTs_len, encS_len, hn0]
  have b2 : (s == 2) = false := beq_eq_false_iff_ne.2 h2
  by_cases h3 : s = 3
  · subst h3
    have hm : tshape 3 n x ns ks.length = ((decide (0 ≤ n) && decide (n ≤ 1)) && (decide (x = ⟨#[]⟩) && (((ns.length : Int) == 0) && ((ks.length : Int) == 0)))) := by rw [← add0]; rfl
    simp only [RUN, core, T.c, T.s, T.b, T.i, sBin, sInt, sUn, isShift, asInt, P1.cells, loadT, ptrC, storeT, putC, fillP, Nat.reduceAdd, reduceIte, Nat.reduceEqDiff, Nat.reduceLT, Nat.reduceLeDiff, reduceCtorEq, eq_self, FIT, lendCs_map, verC_map, FinC, resPs, resP, lendPl, lendCs, lendC, sealC, partsT, finHs, tupT, verT, verP, verC, verB, verAt, Blk.ver, handsAre, forall_const, CHT, disj, Nat.reduceBEq, beq_self_eq_true, APT, srcOf, sealPs, sealCs, sealC, List.mem_singleton, forall_eq, ALT, UMa_2, encT_mk, encTs_len, encS_len, Int.reduceBEq]
    refine callC (l6In_ok n 0 1) rfl rfl rfl rfl ?_
    rw [hm]
    generalize (decide (0 ≤ n) && decide (n ≤ 1)) = A
    cases A
    · simp only [RUN, core, T.c, T.s, T.b, T.i, sBin, sInt, sUn, isShift, asInt, P1.cells, loadT, ptrC, storeT, putC, fillP, Nat.reduceAdd, reduceIte, Nat.reduceEqDiff, Nat.reduceLT, Nat.reduceLeDiff, reduceCtorEq, eq_self, FIT, lendCs_map, verC_map, FinC, resPs, resP, lendPl, lendCs, lendC, sealC, partsT, finHs, tupT, verT, verP, verC, verB, verAt, Blk.ver, handsAre, forall_const, CHT, disj, Nat.reduceBEq, beq_self_eq_true, APT, srcOf, sealPs, sealCs, sealC, List.mem_singleton, forall_eq, ALT, UMa_2, encT_mk, encTs_len, encS_len]
    by_cases hx0 : x = ⟨#[]⟩
    · cases hn0 : ((ns.length : Int) == 0) <;> simp only [RUN, core, T.c, T.s, T.b, T.i, sBin, sInt, sUn, isShift, asInt, P1.cells, loadT, ptrC, storeT, putC, fillP, Nat.reduceAdd, reduceIte, Nat.reduceEqDiff, Nat.reduceLT, Nat.reduceLeDiff, reduceCtorEq, eq_self, FIT, lendCs_map, verC_map, FinC, resPs, resP, lendPl, lendCs, lendC, sealC, partsT, finHs, tupT, verT, verP, verC, verB, verAt, Blk.ver, handsAre, forall_const, CHT, disj, Nat.reduceBEq, beq_self_eq_true, APT, srcOf, sealPs, sealCs, sealC, List.mem_singleton, forall_eq, ALT, UMa_2, encT_mk, encTs_len, encS_len, sStr, str_beq, hx0, hn0]
    · simp only [RUN, core, T.c, T.s, T.b, T.i, sBin, sInt, sUn, isShift, asInt, P1.cells, loadT, ptrC, storeT, putC, fillP, Nat.reduceAdd, reduceIte, Nat.reduceEqDiff, Nat.reduceLT, Nat.reduceLeDiff, reduceCtorEq, eq_self, FIT, lendCs_map, verC_map, FinC, resPs, resP, lendPl, lendCs, lendC, sealC, partsT, finHs, tupT, verT, verP, verC, verB, verAt, Blk.ver, handsAre, forall_const, CHT, disj, Nat.reduceBEq, beq_self_eq_true, APT, srcOf, sealPs, sealCs, sealC, List.mem_singleton, forall_eq, ALT, UMa_2, encT_mk, encTs_len, encS_len, sStr, str_beq, hx0]
  have b3 : (s == 3) = false := beq_eq_false_iff_ne.2 h3
  by_cases h4 : s = 4
  · subst h4
    have hm : tshape 4 n x ns ks.length = ((n == 0) && (decide (x = ⟨#[]⟩) && (((ns.length : Int) == 0) && decide ((ks.length : Int) ≤ 20)))) := rfl
    rw [hm]
    cases hn : (n == 0) with
    | false => simp only [RUN, core, T.c, T.s, T.b, T.i, sBin, sInt, sUn, isShift, asInt, P1.cells, loadT, ptrC, storeT, putC, fillP, Nat.reduceAdd, reduceIte, Nat.reduceEqDiff, Nat.reduceLT, Nat.reduceLeDiff, reduceCtorEq, eq_self, FIT, lendCs_map, verC_map, FinC, resPs, resP, lendPl, lendCs, lendC, sealC, partsT, finHs, tupT, verT, verP, verC, verB, verAt, Blk.ver, handsAre, forall_const, CHT, disj, Nat.reduceBEq, beq_self_eq_true, APT, srcOf, sealPs, sealCs, sealC, List.mem_singleton, forall_eq, ALT, UMa_2, encT_mk, encTs_len, encS_len, Int.reduceBEq, hn]
    | true =>
      by_cases hx0 : x = ⟨#[]⟩
      · cases hl0 : ((ns.length : Int) == 0) <;> simp only [RUN, core, T.c, T.s, T.b, T.i, sBin, sInt, sUn, isShift, asInt, P1.cells, loadT, ptrC, storeT, putC, fillP, Nat.reduceAdd, reduceIte, Nat.reduceEqDiff, Nat.reduceLT, Nat.reduceLeDiff, reduceCtorEq, eq_self, FIT, lendCs_map, verC_map, FinC, resPs, resP, lendPl, lendCs, lendC, sealC, partsT, finHs, tupT, verT, verP, verC, verB, verAt, Blk.ver, handsAre, forall_const, CHT, disj, Nat.reduceBEq, beq_self_eq_true, APT, srcOf, sealPs, sealCs, sealC, List.mem_singleton, forall_eq, ALT, UMa_2, encT_mk, encTs_len, encS_len, Int.reduceBEq, hn, sStr, str_beq, hx0, hl0]
      · simp only [RUN, core, T.c, T.s, T.b, T.i, sBin, sInt, sUn, isShift, asInt, P1.cells, loadT, ptrC, storeT, putC, fillP, Nat.reduceAdd, reduceIte, Nat.reduceEqDiff, Nat.reduceLT, Nat.reduceLeDiff, reduceCtorEq, eq_self, FIT, lendCs_map, verC_map, FinC, resPs, resP, lendPl, lendCs, lendC, sealC, partsT, finHs, tupT, verT, verP, verC, verB, verAt, Blk.ver, handsAre, forall_const, CHT, disj, Nat.reduceBEq, beq_self_eq_true, APT, srcOf, sealPs, sealCs, sealC, List.mem_singleton, forall_eq, ALT, UMa_2, encT_mk, encTs_len, encS_len, Int.reduceBEq, hn, sStr, str_beq, hx0]
  have b4 : (s == 4) = false := beq_eq_false_iff_ne.2 h4
  by_cases h5 : s = 5
  · subst h5
    have hm : tshape 5 n x ns ks.length = ((n == 0) && (decide (x = ⟨#[]⟩) && (((ns.length : Int) == (ks.length : Int)) && rise ns))) := by rw [Bool.and_comm ((ns.length : Int) == (ks.length : Int)) (rise ns)]; rfl
    rw [hm]
    cases hn : (n == 0) with
    | false => simp only [RUN, core, T.c, T.s, T.b, T.i, sBin, sInt, sUn, isShift, asInt, P1.cells, loadT, ptrC, storeT, putC, fillP, Nat.reduceAdd, reduceIte, Nat.reduceEqDiff, Nat.reduceLT, Nat.reduceLeDiff, reduceCtorEq, eq_self, FIT, lendCs_map, verC_map, FinC, resPs, resP, lendPl, lendCs, lendC, sealC, partsT, finHs, tupT, verT, verP, verC, verB, verAt, Blk.ver, handsAre, forall_const, CHT, disj, Nat.reduceBEq, beq_self_eq_true, APT, srcOf, sealPs, sealCs, sealC, List.mem_singleton, forall_eq, ALT, UMa_2, encT_mk, encTs_len, encS_len, Int.reduceBEq, hn]
    | true =>
      by_cases hx0 : x = ⟨#[]⟩
      · cases hl0 : ((ns.length : Int) == (ks.length : Int)) with
        | false => simp only [RUN, core, T.c, T.s, T.b, T.i, sBin, sInt, sUn, isShift, asInt, P1.cells, loadT, ptrC, storeT, putC, fillP, Nat.reduceAdd, reduceIte, Nat.reduceEqDiff, Nat.reduceLT, Nat.reduceLeDiff, reduceCtorEq, eq_self, FIT, lendCs_map, verC_map, FinC, resPs, resP, lendPl, lendCs, lendC, sealC, partsT, finHs, tupT, verT, verP, verC, verB, verAt, Blk.ver, handsAre, forall_const, CHT, disj, Nat.reduceBEq, beq_self_eq_true, APT, srcOf, sealPs, sealCs, sealC, List.mem_singleton, forall_eq, ALT, UMa_2, encT_mk, encTs_len, encS_len, Int.reduceBEq, hn, sStr, str_beq, hx0, hl0]
        | true =>
          simp only [RUN, core, T.c, T.s, T.b, T.i, sBin, sInt, sUn, isShift, asInt, P1.cells, loadT, ptrC, storeT, putC, fillP, Nat.reduceAdd, reduceIte, Nat.reduceEqDiff, Nat.reduceLT, Nat.reduceLeDiff, reduceCtorEq, eq_self, FIT, lendCs_map, verC_map, FinC, resPs, resP, lendPl, lendCs, lendC, sealC, partsT, finHs, tupT, verT, verP, verC, verB, verAt, Blk.ver, handsAre, forall_const, CHT, disj, Nat.reduceBEq, beq_self_eq_true, APT, srcOf, sealPs, sealCs, sealC, List.mem_singleton, forall_eq, ALT, UMa_2, encT_mk, encTs_len, encS_len, Int.reduceBEq, hn, sStr, str_beq, hx0, hl0]
          refine callC (rise_ok ns (by omega) (fun s h => by have := hs s h; omega)) rfl rfl rfl rfl ?_
          simp only [RUN, core, T.c, T.s, T.b, T.i, sBin, sInt, sUn, isShift, asInt, P1.cells, loadT, ptrC, storeT, putC, fillP, Nat.reduceAdd, reduceIte, Nat.reduceEqDiff, Nat.reduceLT, Nat.reduceLeDiff, reduceCtorEq, eq_self, FIT, lendCs_map, verC_map, FinC, resPs, resP, lendPl, lendCs, lendC, sealC, partsT, finHs, tupT, verT, verP, verC, verB, verAt, Blk.ver, handsAre, forall_const, CHT, disj, Nat.reduceBEq, beq_self_eq_true, APT, srcOf, sealPs, sealCs, sealC, List.mem_singleton, forall_eq, ALT, UMa_2]
      · simp only [RUN, core, T.c, T.s, T.b, T.i, sBin, sInt, sUn, isShift, asInt, P1.cells, loadT, ptrC, storeT, putC, fillP, Nat.reduceAdd, reduceIte, Nat.reduceEqDiff, Nat.reduceLT, Nat.reduceLeDiff, reduceCtorEq, eq_self, FIT, lendCs_map, verC_map, FinC, resPs, resP, lendPl, lendCs, lendC, sealC, partsT, finHs, tupT, verT, verP, verC, verB, verAt, Blk.ver, handsAre, forall_const, CHT, disj, Nat.reduceBEq, beq_self_eq_true, APT, srcOf, sealPs, sealCs, sealC, List.mem_singleton, forall_eq, ALT, UMa_2, encT_mk, encTs_len, encS_len, Int.reduceBEq, hn, sStr, str_beq, hx0]
  have b5 : (s == 5) = false := beq_eq_false_iff_ne.2 h5
  by_cases h6 : s = 6
  · subst h6
    have hm : tshape 6 n x ns ks.length = ((n == 0) && (decide (x = ⟨#[]⟩) && (((ns.length : Int) == 0) && decide ((ks.length : Int) ≤ 1)))) := rfl
    rw [hm]
    cases hn : (n == 0) with
    | false => simp only [RUN, core, T.c, T.s, T.b, T.i, sBin, sInt, sUn, isShift, asInt, P1.cells, loadT, ptrC, storeT, putC, fillP, Nat.reduceAdd, reduceIte, Nat.reduceEqDiff, Nat.reduceLT, Nat.reduceLeDiff, reduceCtorEq, eq_self, FIT, lendCs_map, verC_map, FinC, resPs, resP, lendPl, lendCs, lendC, sealC, partsT, finHs, tupT, verT, verP, verC, verB, verAt, Blk.ver, handsAre, forall_const, CHT, disj, Nat.reduceBEq, beq_self_eq_true, APT, srcOf, sealPs, sealCs, sealC, List.mem_singleton, forall_eq, ALT, UMa_2, encT_mk, encTs_len, encS_len, Int.reduceBEq, hn]
    | true =>
      by_cases hx0 : x = ⟨#[]⟩
      · cases hl0 : ((ns.length : Int) == 0) <;> simp only [RUN, core, T.c, T.s, T.b, T.i, sBin, sInt, sUn, isShift, asInt, P1.cells, loadT, ptrC, storeT, putC, fillP, Nat.reduceAdd, reduceIte, Nat.reduceEqDiff, Nat.reduceLT, Nat.reduceLeDiff, reduceCtorEq, eq_self, FIT, lendCs_map, verC_map, FinC, resPs, resP, lendPl, lendCs, lendC, sealC, partsT, finHs, tupT, verT, verP, verC, verB, verAt, Blk.ver, handsAre, forall_const, CHT, disj, Nat.reduceBEq, beq_self_eq_true, APT, srcOf, sealPs, sealCs, sealC, List.mem_singleton, forall_eq, ALT, UMa_2, encT_mk, encTs_len, encS_len, Int.reduceBEq, hn, sStr, str_beq, hx0, hl0]
      · simp only [RUN, core, T.c, T.s, T.b, T.i, sBin, sInt, sUn, isShift, asInt, P1.cells, loadT, ptrC, storeT, putC, fillP, Nat.reduceAdd, reduceIte, Nat.reduceEqDiff, Nat.reduceLT, Nat.reduceLeDiff, reduceCtorEq, eq_self, FIT, lendCs_map, verC_map, FinC, resPs, resP, lendPl, lendCs, lendC, sealC, partsT, finHs, tupT, verT, verP, verC, verB, verAt, Blk.ver, handsAre, forall_const, CHT, disj, Nat.reduceBEq, beq_self_eq_true, APT, srcOf, sealPs, sealCs, sealC, List.mem_singleton, forall_eq, ALT, UMa_2, encT_mk, encTs_len, encS_len, Int.reduceBEq, hn, sStr, str_beq, hx0]
  have b6 : (s == 6) = false := beq_eq_false_iff_ne.2 h6
  have hm : tshape s n x ns ks.length = false := by simp [tshape, h1, h2, h3, h4, h5, h6]
  simp only [RUN, core, T.c, T.s, T.b, T.i, sBin, sInt, sUn, isShift, asInt, P1.cells, loadT, ptrC, storeT, putC, fillP, Nat.reduceAdd, reduceIte, Nat.reduceEqDiff, Nat.reduceLT, Nat.reduceLeDiff, reduceCtorEq, eq_self, FIT, lendCs_map, verC_map, FinC, resPs, resP, lendPl, lendCs, lendC, sealC, partsT, finHs, tupT, verT, verP, verC, verB, verAt, Blk.ver, handsAre, forall_const, CHT, disj, Nat.reduceBEq, beq_self_eq_true, APT, srcOf, sealPs, sealCs, sealC, List.mem_singleton, forall_eq, ALT, UMa_2, encT_mk, encTs_len, encS_len, b1, b2, b3, b4, b5, b6, hm]
end Go.V
set_option linter.unusedSimpArgs false
namespace Go.V
open Go.Proofs
theorem tpartsL_mem {ks : List Tr} {k : Tr} (h : k ∈ ks) : tparts k ≤ tpartsL ks := by
  induction ks with
  | nil => cases h
  | cons x xs ih =>
    rcases List.mem_cons.1 h with rfl | h
    · simp [tpartsL]
    · have := ih h; simp only [tpartsL]; omega
/- loop.example/teagle/spec.l1Parts -/
def r82_0 : List AOper := [ao 0 2 (.box 29 (.t 0)),
  ao 1 4 (.mv (.k (.i 0)))]
def r82_1 : List AOper := [ao 0 8 (.mv (.t 1)),
  ao 1 9 (.bin .gtr (.t 8) (.k (.i 6))),
  ao 2 10 (.mv (.t 9)),
  ag 3 11 10 false [] (.ld 5 true (.t 2)),
  ag 4 12 10 false [] (.call (.k (.c (.fn 101 []))) [(.t 11)]),
  ag 5 13 10 false [] (.un .not (.t 12)),
  ao 6 14 (.pick (.t 10) (.k (.b true)) (.t 13))]
def r82_2 : List AOper := [ao 0 4 (.mv (.k (.i (-1))))]
def c82_3 : ACode := .seq (.reg r82_2) .ret
def c82_4 : ACode := .cond (.t 14) c82_3 .skip
def c82_5 : ACode := .seq (.reg r82_1) c82_4
def r82_6 : List AOper := [ao 0 5 (.mv (.k (.i 1)))]
def r82_7 : List AOper := [ao 0 6 (.mv (.k (.i 0)))]
def r82_8 : List AOper := [ao 0 15 (.mv (.t 6)),
  ao 1 16 (.fa 4 (.t 2)),
  ao 2 17 (.ld 1 false (.t 16)),
  ao 3 18 (.len (.t 17)),
  ao 4 19 (.bin .lss (.t 15) (.t 18))]
def c82_9 : ACode := .cond (.t 19) .skip (.exit 0)
def c82_10 : ACode := .seq (.reg r82_8) c82_9
def r82_11 : List AOper := [ao 0 22 (.fa 4 (.t 2)),
  ao 1 23 (.ld 1 false (.t 22)),
  ao 2 24 (.mv (.t 6)),
  ao 3 25 (.ia 5 (.t 23) (.t 24)),
  ao 4 26 (.ld 5 true (.t 25)),
  ao 5 27 (.mv (.t 1)),
  ao 6 28 (.bin .add (.t 27) (.k (.i 1))),
  ao 7 29 (.call (.k (.c (.fn 82 []))) [(.t 26), (.t 28)]),
  ao 8 7 (.mv (.t 29))]
def r82_12 : List AOper := [ao 0 30 (.mv (.t 7)),
  ao 1 31 (.bin .lss (.t 30) (.k (.i 0))),
  ao 2 32 (.mv (.t 31)),
  ag 3 33 32 false [] (.mv (.t 5)),
  ag 4 34 32 false [] (.mv (.t 7)),
  ag 5 35 32 false [] (.bin .add (.t 33) (.t 34)),
  ag 6 36 32 false [] (.bin .gtr (.t 35) (.k (.i 120))),
  ao 7 37 (.pick (.t 32) (.k (.b true)) (.t 36))]
def r82_13 : List AOper := [ao 0 4 (.mv (.k (.i (-1))))]
def c82_14 : ACode := .seq (.reg r82_13) .ret
def c82_15 : ACode := .cond (.t 37) c82_14 .skip
def c82_16 : ACode := .seq (.reg r82_12) c82_15
def r82_17 : List AOper := [ao 0 38 (.mv (.t 5)),
  ao 1 39 (.mv (.t 7)),
  ao 2 40 (.bin .add (.t 38) (.t 39)),
  ao 3 5 (.mv (.t 40))]
def c82_18 : ACode := .seq (.reg r82_11) (.seq c82_16 (.reg r82_17))
def c82_19 : ACode := .block 1 c82_18
def r82_20 : List AOper := [ao 0 20 (.mv (.t 6)),
  ao 1 21 (.bin .add (.t 20) (.k (.i 1))),
  ao 2 6 (.mv (.t 21))]
def c82_21 : ACode := .seq c82_10 (.seq c82_19 (.reg r82_20))
def c82_22 : ACode := .loop c82_21
def c82_23 : ACode := .block 0 c82_22
def c82_24 : ACode := .seq (.reg r82_7) c82_23
def r82_25 : List AOper := [ao 0 41 (.mv (.t 5)),
  ao 1 4 (.mv (.t 41))]
def c82 : ACode := .seq (.reg r82_0) (.seq c82_5 (.seq (.reg r82_6) (.seq c82_24 (.seq (.reg r82_25) .ret))))
def s82 : List ARes := [.tmp 4]
theorem ok82 : okF Try.prog 82 42 c82 s82 := ⟨Try.f82, Try.func82, Try.ntmps82, by kernel_rfl, by kernel_rfl, by kernel_rfl⟩
def PartsS (d : Nat) (k : Tr) (q : Int) : Prop := (TOk d k ∧ tparts k ≤ 120 ∧ q = tparts k) ∨ (¬ (TOk d k ∧ tparts k ≤ 120) ∧ q = -1)
def inv82 (d : Nat) (s n : Int) (x : ByteArray) (ns : List ByteArray) (ks : List Tr) (i : Nat) (σ : St) : Prop :=
  (∀ j k, j < i → ks[j]? = some k → TOk (d + 1) k) ∧ tpartsL (ks.take i) ≤ 119 ∧ σ.t 1 = .i d ∧ σ.t 5 = .i ((1 + tpartsL (ks.take i) : Nat) : Int) ∧ σ.t 6 = .i i ∧
  ∃ u, σ.t 2 = .c (.ptr 2 u 0) ∧ σ.H 2 = some (.var u 29 [.v (.s (.int .i64 s)), .v (.s (.int .i64 n)), .v (.s (.string x)), .v (.sl (encS ns)), .v (.sl (encTs ks))])
theorem UMb_1 : (type_of% (uA c82.eq_1)) ∧ (type_of% (uR r82_0.eq_1)) ∧ (type_of% (uA c82_5.eq_1)) ∧ (type_of% (uR r82_1.eq_1)) ∧ (type_of% (uA c82_4.eq_1)) ∧ (type_of% (uA c82_3.eq_1)) ∧ (type_of% (uR r82_2.eq_1)) ∧ (type_of% (uR r82_6.eq_1)) ∧ (type_of% (uA c82_24.eq_1)) ∧ (type_of% (uR r82_7.eq_1)) ∧ (type_of% (uA c82_23.eq_1)) ∧ (type_of% (uA c82_22.eq_1)) ∧ (type_of% (uR r82_25.eq_1)) ∧ (type_of% s82.eq_1) :=
  ⟨uA c82.eq_1, uR r82_0.eq_1, uA c82_5.eq_1, uR r82_1.eq_1, uA c82_4.eq_1, uA c82_3.eq_1, uR r82_2.eq_1, uR r82_6.eq_1, uA c82_24.eq_1, uR r82_7.eq_1, uA c82_23.eq_1, uA c82_22.eq_1, uR r82_25.eq_1, s82.eq_1⟩
theorem UMb_3 : (type_of% (uA c82_21.eq_1)) ∧ (type_of% (uA c82_10.eq_1)) ∧ (type_of% (uR r82_8.eq_1)) ∧ (type_of% (uA c82_9.eq_1)) ∧ (type_of% (uA c82_19.eq_1)) ∧ (type_of% (uA c82_18.eq_1)) ∧ (type_of% (uR r82_11.eq_1)) ∧ (type_of% (uA c82_16.eq_1)) ∧ (type_of% (uR r82_12.eq_1)) ∧ (type_of% (uA c82_15.eq_1)) ∧ (type_of% (uA c82_14.eq_1)) ∧ (type_of% (uR r82_13.eq_1)) ∧ (type_of% (uR r82_17.eq_1)) ∧ (type_of% (uR r82_20.eq_1)) ∧ (type_of% (uA c82.eq_1)) ∧ (type_of% (uR r82_0.eq_1)) ∧ (type_of% (uA c82_5.eq_1)) ∧ (type_of% (uR r82_1.eq_1)) ∧ (type_of% (uA c82_4.eq_1)) ∧ (type_of% (uA c82_3.eq_1)) ∧ (type_of% (uR r82_2.eq_1)) ∧ (type_of% (uR r82_6.eq_1)) ∧ (type_of% (uA c82_24.eq_1)) ∧ (type_of% (uR r82_7.eq_1)) ∧ (type_of% (uA c82_23.eq_1)) ∧ (type_of% (uA c82_22.eq_1)) ∧ (type_of% (uR r82_25.eq_1)) ∧ (type_of% s82.eq_1) :=
  ⟨uA c82_21.eq_1, uA c82_10.eq_1, uR r82_8.eq_1, uA c82_9.eq_1, uA c82_19.eq_1, uA c82_18.eq_1, uR r82_11.eq_1, uA c82_16.eq_1, uR r82_12.eq_1, uA c82_15.eq_1, uA c82_14.eq_1, uR r82_13.eq_1, uR r82_17.eq_1, uR r82_20.eq_1, uA c82.eq_1, uR r82_0.eq_1, uA c82_5.eq_1, uR r82_1.eq_1, uA c82_4.eq_1, uA c82_3.eq_1, uR r82_2.eq_1, uR r82_6.eq_1, uA c82_24.eq_1, uR r82_7.eq_1, uA c82_23.eq_1, uA c82_22.eq_1, uR r82_25.eq_1, s82.eq_1⟩
theorem partsS_ok : ∀ (k : Tr), TB 1000000 k → ∀ d : Nat, d ≤ 100 → ∃ q, PartsS d k q ∧ ACallsF Try.prog 82 [tT k, .i d] [] (.i q) := by
  intro k
  induction k using Tr.ind with
  | _ s n x ns ks ih =>
    intro hB d hd
    obtain ⟨hB0, hB1, hB2, hB3, hB4⟩ := hB.inv
    have hq : ∃ q, PartsS d (.mk s n x ns ks) q := by
      by_cases h : TOk d (.mk s n x ns ks) ∧ tparts (.mk s n x ns ks) ≤ 120
      · exact ⟨_, .inl ⟨h.1, h.2, rfl⟩⟩
      · exact ⟨_, .inr ⟨h, rfl⟩⟩
    obtain ⟨q, hq⟩ := hq
    refine ⟨q, hq, ACallsF.intro ok82 follows fun X c0 => ?_⟩
    have hno : ¬ (TOk d (.mk s n x ns ks) ∧ tparts (.mk s n x ns ks) ≤ 120) → q = -1 := fun h => by
      rcases hq with ⟨h1, h2, _⟩ | ⟨_, h⟩
      · exact absurd ⟨h1, h2⟩ h
      · exact h
    by_cases hd6 : (d : Int) > 6
    · have hm := hno fun h => by have := h.1.inv.1; omega
      simp only [RUN, core, T.c, T.s, T.b, T.i, sBin, sInt, sUn, isShift, asInt, P1.cells, loadT, ptrC, storeT, putC, fillP, Nat.reduceAdd, reduceIte, Nat.reduceEqDiff, Nat.reduceLT, Nat.reduceLeDiff, reduceCtorEq, eq_self, FIT, lendCs_map, verC_map, FinC, resPs, resP, lendPl, lendCs, lendC, sealC, partsT, finHs, tupT, verT, verP, verC, verB, verAt, Blk.ver, handsAre, forall_const, CHT, disj, Nat.reduceBEq, beq_self_eq_true, APT, srcOf, sealPs, sealCs, sealC, List.mem_singleton, forall_eq, ALT, UMb_1, encT_mk, encTs_len, hd6, hm]
    have hCs := alone_ok s n x ns ks hB0 ⟨hB1, hB2⟩ hB3
    simp only [tT, encT_mk, List.map_cons, List.map_nil] at hCs
    simp only [RUN, core, T.c, T.s, T.b, T.i, sBin, sInt, sUn, isShift, asInt, P1.cells, loadT, ptrC, storeT, putC, fillP, Nat.reduceAdd, reduceIte, Nat.reduceEqDiff, Nat.reduceLT, Nat.reduceLeDiff, reduceCtorEq, eq_self, FIT, lendCs_map, verC_map, FinC, resPs, resP, lendPl, lendCs, lendC, sealC, partsT, finHs, tupT, verT, verP, verC, verB, verAt, Blk.ver, handsAre, forall_const, CHT, disj, Nat.reduceBEq, beq_self_eq_true, APT, srcOf, sealPs, sealCs, sealC, List.mem_singleton, forall_eq, ALT, UMb_1, encT_mk, encTs_len, hd6]
    refine callC hCs rfl rfl (by simp [closedA, closedP, closedC]) rfl ?_
    cases hsh : tshape s n x ns ks.length with
    | false =>
      have hm := hno fun h => by have := h.1.inv.2.1; rw [hsh] at this; cases this
      simp only [RUN, core, T.c, T.s, T.b, T.i, sBin, sInt, sUn, isShift, asInt, P1.cells, loadT, ptrC, storeT, putC, fillP, Nat.reduceAdd, reduceIte, Nat.reduceEqDiff, Nat.reduceLT, Nat.reduceLeDiff, reduceCtorEq, eq_self, FIT, lendCs_map, verC_map, FinC, resPs, resP, lendPl, lendCs, lendC, sealC, partsT, finHs, tupT, verT, verP, verC, verB, verAt, Blk.ver, handsAre, forall_const, CHT, disj, Nat.reduceBEq, beq_self_eq_true, APT, srcOf, sealPs, sealCs, sealC, List.mem_singleton, forall_eq, ALT, UMb_1, hm]
    | true =>
      simp only [RUN, core, T.c, T.s, T.b, T.i, sBin, sInt, sUn, isShift, asInt, P1.cells, loadT, ptrC, storeT, putC, fillP, Nat.reduceAdd, reduceIte, Nat.reduceEqDiff, Nat.reduceLT, Nat.reduceLeDiff, reduceCtorEq, eq_self, FIT, lendCs_map, verC_map, FinC, resPs, resP, lendPl, lendCs, lendC, sealC, partsT, finHs, tupT, verT, verP, verC, verB, verAt, Blk.ver, handsAre, forall_const, CHT, disj, Nat.reduceBEq, beq_self_eq_true, APT, srcOf, sealPs, sealCs, sealC, List.mem_singleton, forall_eq, ALT, UMb_1]
      refine AW.upto ks.length (inv82 d s n x ns ks) ⟨fun j _ hj => absurd hj (Nat.not_lt_zero j), by simp [tpartsL], rfl, by simp [tpartsL]; rfl, rfl, ⟨_, rfl, rfl⟩⟩ fun i t H c hi h => ?_
      obtain ⟨g0, g1, e1, e5, e6, ⟨u2, e2, eH⟩⟩ := h
      simp only [T.c, T.i] at e1 e5 e6 e2 eH
      by_cases hlt : i < ks.length
      · have k1 : (i : Int) < ks.length := by omega
        have gz : (0 : Int) ≤ i := by omega
        have gw : IntKind.i64.wrap ((i : Int) + 1) = ((i + 1 : Nat) : Int) := wrap64 (x := (i : Int) + 1) ⟨by omega, by omega⟩
        have gd : IntKind.i64.wrap ((d : Int) + 1) = ((d + 1 : Nat) : Int) := wrap64 (x := (d : Int) + 1) ⟨by omega, by omega⟩
        obtain ⟨kd, hk⟩ : ∃ kd, ks[i]? = some kd := ⟨_, List.getElem?_eq_getElem hlt⟩
        have hmem := List.mem_of_getElem? hk
        have ek := encTs_at hk
        obtain ⟨y, hy, hC⟩ := ih kd hmem (hB4 kd hmem) (d + 1) (by omega)
        have htake : tpartsL (ks.take (i + 1)) = tpartsL (ks.take i) + tparts kd := by
          rw [List.take_add_one, hk]; exact tpartsL_snoc _ _
        have hle := tpartsL_take_le ks (i + 1)
        have hpos := tparts_pos kd
        simp only [RUN, core, T.c, T.s, T.b, T.i, sBin, sInt, sUn, isShift, asInt, P1.cells, loadT, ptrC, storeT, putC, fillP, Nat.reduceAdd, reduceIte, Nat.reduceEqDiff, Nat.reduceLT, Nat.reduceLeDiff, reduceCtorEq, eq_self, FIT, lendCs_map, verC_map, FinC, resPs, resP, lendPl, lendCs, lendC, sealC, partsT, finHs, tupT, verT, verP, verC, verB, verAt, Blk.ver, handsAre, forall_const, CHT, disj, Nat.reduceBEq, beq_self_eq_true, APT, srcOf, sealPs, sealCs, sealC, List.mem_singleton, forall_eq, ALT, UMb_3, e1, e2, eH, e6, encTs_len, k1, gz, ek, Int.toNat_natCast, List.length_map, encT_len, takeT, Nat.le_refl, gd]
        refine callC hC rfl rfl (by simp [closedA, closedP, closedC]) rfl ?_
        rcases hy with ⟨x1, x2, rfl⟩ | ⟨x1, rfl⟩
        · have k2 : ¬ (tparts kd : Int) < 0 := by omega
          by_cases k3 : ((1 + tpartsL (ks.take i) : Nat) : Int) + (tparts kd : Int) > 120
          · have hm := hno fun h => by have := h.2; simp only [tparts] at this; omega
            have kw : IntKind.i64.wrap (((1 + tpartsL (ks.take i) : Nat) : Int) + (tparts kd : Int)) = ((1 + tpartsL (ks.take i) : Nat) : Int) + (tparts kd : Int) := wrap64 ⟨by omega, by omega⟩
            simp only [RUN, core, T.c, T.s, T.b, T.i, sBin, sInt, sUn, isShift, asInt, P1.cells, loadT, ptrC, storeT, putC, fillP, Nat.reduceAdd, reduceIte, Nat.reduceEqDiff, Nat.reduceLT, Nat.reduceLeDiff, reduceCtorEq, eq_self, FIT, lendCs_map, verC_map, FinC, resPs, resP, lendPl, lendCs, lendC, sealC, partsT, finHs, tupT, verT, verP, verC, verB, verAt, Blk.ver, handsAre, forall_const, CHT, disj, Nat.reduceBEq, beq_self_eq_true, APT, srcOf, sealPs, sealCs, sealC, List.mem_singleton, forall_eq, ALT, UMb_3, e5, k2, kw, k3, hm]
          · have kw : IntKind.i64.wrap (((1 + tpartsL (ks.take i) : Nat) : Int) + (tparts kd : Int)) = ((1 + tpartsL (ks.take (i + 1)) : Nat) : Int) := (wrap64 (x := ((1 + tpartsL (ks.take i) : Nat) : Int) + (tparts kd : Int)) ⟨by omega, by omega⟩).trans (by rw [htake]; omega)
            have k4 : ¬ ((1 + tpartsL (ks.take (i + 1)) : Nat) : Int) > 120 := by rw [htake]; omega
            simp only [RUN, core, T.c, T.s, T.b, T.i, sBin, sInt, sUn, isShift, asInt, P1.cells, loadT, ptrC, storeT, putC, fillP, Nat.reduceAdd, reduceIte, Nat.reduceEqDiff, Nat.reduceLT, Nat.reduceLeDiff, reduceCtorEq, eq_self, FIT, lendCs_map, verC_map, FinC, resPs, resP, lendPl, lendCs, lendC, sealC, partsT, finHs, tupT, verT, verP, verC, verB, verAt, Blk.ver, handsAre, forall_const, CHT, disj, Nat.reduceBEq, beq_self_eq_true, APT, srcOf, sealPs, sealCs, sealC, List.mem_singleton, forall_eq, ALT, UMb_3, e5, e6, k2, kw, k4, gw]
            exact ⟨hlt, fun j k hj hj2 => by
              rcases Nat.lt_succ_iff_lt_or_eq.1 hj with hj | rfl
              · exact g0 j k hj hj2
              · rw [hk] at hj2; cases hj2; exact x1, by rw [htake]; omega, e1, rfl, rfl, ⟨u2, e2, eH⟩⟩
        · have hm := hno fun h => x1 ⟨h.1.inv.2.2 kd hmem, by have := h.2; simp only [tparts] at this; have := tpartsL_mem hmem; omega⟩
          have k2 : (-1 : Int) < 0 := by omega
          simp only [RUN, core, T.c, T.s, T.b, T.i, sBin, sInt, sUn, isShift, asInt, P1.cells, loadT, ptrC, storeT, putC, fillP, Nat.reduceAdd, reduceIte, Nat.reduceEqDiff, Nat.reduceLT, Nat.reduceLeDiff, reduceCtorEq, eq_self, FIT, lendCs_map, verC_map, FinC, resPs, resP, lendPl, lendCs, lendC, sealC, partsT, finHs, tupT, verT, verP, verC, verB, verAt, Blk.ver, handsAre, forall_const, CHT, disj, Nat.reduceBEq, beq_self_eq_true, APT, srcOf, sealPs, sealCs, sealC, List.mem_singleton, forall_eq, ALT, UMb_3, k2, hm]
      · have hi2 : i = ks.length := by omega
        subst hi2
        have k1 : ¬ ((ks.length : Nat) : Int) < ks.length := by omega
        rw [List.take_length] at g1 e5
        have hm : q = ((1 + tpartsL ks : Nat) : Int) := by
          rcases hq with ⟨_, _, h⟩ | ⟨h, _⟩
          · rw [h]; simp [tparts]
          · refine absurd ⟨.mk _ _ _ _ _ _ (by omega) hsh fun k hk => ?_, by simp only [tparts]; omega⟩ h
            obtain ⟨j, hj⟩ := List.getElem?_of_mem hk
            exact g0 j k (List.getElem?_eq_some_iff.1 hj).1 hj
        simp only [RUN, core, T.c, T.s, T.b, T.i, sBin, sInt, sUn, isShift, asInt, P1.cells, loadT, ptrC, storeT, putC, fillP, Nat.reduceAdd, reduceIte, Nat.reduceEqDiff, Nat.reduceLT, Nat.reduceLeDiff, reduceCtorEq, eq_self, FIT, lendCs_map, verC_map, FinC, resPs, resP, lendPl, lendCs, lendC, sealC, partsT, finHs, tupT, verT, verP, verC, verB, verAt, Blk.ver, handsAre, forall_const, CHT, disj, Nat.reduceBEq, beq_self_eq_true, APT, srcOf, sealPs, sealCs, sealC, List.mem_singleton, forall_eq, ALT, UMb_3, UMb_1, e2, eH, e5, e6, encTs_len, k1, hm]
/- loop.example/teagle/spec.TreeOk -/
def r50_0 : List AOper := [ao 0 1 (.box 29 (.t 0)),
  ao 1 2 (.mv (.k (.b false)))]
def r50_1 : List AOper := [ao 0 3 (.ld 5 true (.t 1)),
  ao 1 4 (.call (.k (.c (.fn 82 []))) [(.t 3), (.k (.i 1))]),
  ao 2 5 (.bin .gtr (.t 4) (.k (.i 0))),
  ao 3 2 (.mv (.t 5))]
def c50 : ACode := .seq (.reg r50_0) (.seq (.reg r50_1) .ret)
def s50 : List ARes := [.tmp 2]
theorem ok50 : okF Try.prog 50 6 c50 s50 := ⟨Try.f50, Try.func50, Try.ntmps50, by kernel_rfl, by kernel_rfl, by kernel_rfl⟩
theorem UMb_2 : (type_of% (uA c50.eq_1)) ∧ (type_of% (uR r50_0.eq_1)) ∧ (type_of% (uR r50_1.eq_1)) ∧ (type_of% s50.eq_1) :=
  ⟨uA c50.eq_1, uR r50_0.eq_1, uR r50_1.eq_1, s50.eq_1⟩
theorem treeOkS_ok (t : Tr) (hB : TB 1000000 t) : ACallsF Try.prog 50 [tT t] [] (.b (okT t)) := by
  obtain ⟨q, hq, hC⟩ := partsS_ok t hB 1 (by omega)
  refine ACallsF.intro ok50 follows fun X c0 => ?_
  have e1 : ((1 : Nat) : Int) = 1 := rfl
  rw [e1] at hC
  simp only [RUN, core, T.c, T.s, T.b, T.i, sBin, sInt, sUn, isShift, asInt, P1.cells, loadT, ptrC, storeT, putC, fillP, Nat.reduceAdd, reduceIte, Nat.reduceEqDiff, Nat.reduceLT, Nat.reduceLeDiff, reduceCtorEq, eq_self, FIT, lendCs_map, verC_map, FinC, resPs, resP, lendPl, lendCs, lendC, sealC, partsT, finHs, tupT, verT, verP, verC, verB, verAt, Blk.ver, handsAre, forall_const, CHT, disj, Nat.reduceBEq, beq_self_eq_true, APT, srcOf, sealPs, sealCs, sealC, List.mem_singleton, forall_eq, ALT, UMb_2, List.length_map, encT_len, takeT, Nat.le_refl]
  refine callC hC rfl rfl (by simp [closedA, closedP, closedC]) rfl ?_
  rcases hq with ⟨h1, h2, rfl⟩ | ⟨h1, rfl⟩
  · have hm : okT t = true := okT_true.2 ⟨h1, h2⟩
    have k1 : (tparts t : Int) > 0 := by have := tparts_pos t; omega
    simp only [RUN, core, T.c, T.s, T.b, T.i, sBin, sInt, sUn, isShift, asInt, P1.cells, loadT, ptrC, storeT, putC, fillP, Nat.reduceAdd, reduceIte, Nat.reduceEqDiff, Nat.reduceLT, Nat.reduceLeDiff, reduceCtorEq, eq_self, FIT, lendCs_map, verC_map, FinC, resPs, resP, lendPl, lendCs, lendC, sealC, partsT, finHs, tupT, verT, verP, verC, verB, verAt, Blk.ver, handsAre, forall_const, CHT, disj, Nat.reduceBEq, beq_self_eq_true, APT, srcOf, sealPs, sealCs, sealC, List.mem_singleton, forall_eq, ALT, UMb_2, hm, k1]
  · have hm : okT t = false := okT_false.2 h1
    have k1 : ¬ (-1 : Int) > 0 := by omega
    simp only [RUN, core, T.c, T.s, T.b, T.i, sBin, sInt, sUn, isShift, asInt, P1.cells, loadT, ptrC, storeT, putC, fillP, Nat.reduceAdd, reduceIte, Nat.reduceEqDiff, Nat.reduceLT, Nat.reduceLeDiff, reduceCtorEq, eq_self, FIT, lendCs_map, verC_map, FinC, resPs, resP, lendPl, lendCs, lendC, sealC, partsT, finHs, tupT, verT, verP, verC, verB, verAt, Blk.ver, handsAre, forall_const, CHT, disj, Nat.reduceBEq, beq_self_eq_true, APT, srcOf, sealPs, sealCs, sealC, List.mem_singleton, forall_eq, ALT, UMb_2, hm, k1]
end Go.V
set_option linter.unusedSimpArgs false
namespace Go.V
open Go.Proofs
/- loop.example/teagle/spec.l2Has -/
def r62_0 : List AOper := [ao 0 2 (.box 26 (.t 0)),
  ao 1 3 (.box 29 (.t 1)),
  ao 2 4 (.mv (.k (.b false)))]
def r62_1 : List AOper := [ao 0 8 (.fa 0 (.t 2)),
  ao 1 9 (.ld 1 false (.t 8)),
  ao 2 10 (.fa 0 (.t 3)),
  ao 3 11 (.ld 1 false (.t 10)),
  ao 4 12 (.bin .neq (.t 9) (.t 11)),
  ao 5 13 (.mv (.t 12)),
  ag 6 14 13 false [] (.fa 1 (.t 2)),
  ag 7 15 13 false [] (.ld 1 false (.t 14)),
  ag 8 16 13 false [] (.len (.t 15)),
  ag 9 17 13 false [] (.fa 3 (.t 3)),
  ag 10 18 13 false [] (.ld 1 false (.t 17)),
  ag 11 19 13 false [] (.len (.t 18)),
  ag 12 20 13 false [] (.bin .neq (.t 16) (.t 19)),
  ao 13 21 (.pick (.t 13) (.k (.b true)) (.t 20))]
def r62_2 : List AOper := [ao 0 4 (.mv (.k (.b false)))]
def c62_3 : ACode := .seq (.reg r62_2) .ret
def c62_4 : ACode := .cond (.t 21) c62_3 .skip
def c62_5 : ACode := .seq (.reg r62_1) c62_4
def r62_6 : List AOper := [ao 0 5 (.mv (.k (.i 0)))]
def r62_7 : List AOper := [ao 0 22 (.mv (.t 5)),
  ao 1 23 (.fa 1 (.t 2)),
  ao 2 24 (.ld 1 false (.t 23)),
  ao 3 25 (.len (.t 24)),
  ao 4 26 (.bin .lss (.t 22) (.t 25))]
def c62_8 : ACode := .cond (.t 26) .skip (.exit 0)
def c62_9 : ACode := .seq (.reg r62_7) c62_8
def r62_10 : List AOper := [ao 0 29 (.fa 1 (.t 2)),
  ao 1 30 (.ld 1 false (.t 29)),
  au 2 31 [0, 1] (.mv (.t 5)),
  ao 3 32 (.ia 1 (.t 30) (.t 31)),
  ao 4 33 (.ld 1 false (.t 32)),
  au 5 34 (ru 5) (.fa 3 (.t 3)),
  au 6 35 (ru 5) (.ld 1 false (.t 34)),
  au 7 36 (ru 7) (.mv (.t 5)),
  au 8 37 (ru 5) (.ia 1 (.t 35) (.t 36)),
  au 9 38 (ru 5) (.ld 1 false (.t 37)),
  ao 10 39 (.bin .neq (.t 33) (.t 38))]
def r62_11 : List AOper := [ao 0 4 (.mv (.k (.b false)))]
def c62_12 : ACode := .seq (.reg r62_11) .ret
def c62_13 : ACode := .cond (.t 39) c62_12 .skip
def c62_14 : ACode := .seq (.reg r62_10) c62_13
def c62_15 : ACode := .block 1 c62_14
def r62_16 : List AOper := [ao 0 27 (.mv (.t 5)),
  ao 1 28 (.bin .add (.t 27) (.k (.i 1))),
  ao 2 5 (.mv (.t 28))]
def c62_17 : ACode := .seq c62_9 (.seq c62_15 (.reg r62_16))
def c62_18 : ACode := .loop c62_17
def c62_19 : ACode := .block 0 c62_18
def c62_20 : ACode := .seq (.reg r62_6) c62_19
def r62_21 : List AOper := [ao 0 6 (.mv (.k (.i 0)))]
def r62_22 : List AOper := [ao 0 40 (.mv (.t 6)),
  ao 1 41 (.fa 4 (.t 3)),
  ao 2 42 (.ld 1 false (.t 41)),
  ao 3 43 (.len (.t 42)),
  ao 4 44 (.bin .lss (.t 40) (.t 43))]
def c62_23 : ACode := .cond (.t 44) .skip (.exit 2)
def c62_24 : ACode := .seq (.reg r62_22) c62_23
def r62_25 : List AOper := [ao 0 47 (.fa 2 (.t 2)),
  ao 1 48 (.ld 1 false (.t 47)),
  ao 2 49 (.ia 3 (.t 48) (.k (.i 0))),
  ao 3 50 (.ld 3 true (.t 49)),
  ao 4 7 (.alloc 26 [(.v (.s (.int .i64 0))), .nil0, .nil0]),
  an 5 (.st 3 (.t 7) (.t 50))]
def r62_26 : List AOper := [ao 0 51 (.fa 0 (.t 2)),
  ao 1 52 (.ld 1 false (.t 51)),
  ao 2 53 (.bin .eql (.t 52) (.k (.i 5)))]
def r62_27 : List AOper := [ao 0 54 (.fa 2 (.t 2)),
  ao 1 55 (.ld 1 false (.t 54)),
  ao 2 56 (.mv (.t 6)),
  ao 3 57 (.ia 3 (.t 55) (.t 56)),
  ao 4 58 (.ld 3 true (.t 57)),
  an 5 (.st 3 (.t 7) (.t 58))]
def c62_28 : ACode := .cond (.t 53) (.reg r62_27) .skip
def c62_29 : ACode := .seq (.reg r62_26) c62_28
def r62_30 : List AOper := [ao 0 59 (.ld 3 true (.t 7)),
  au 1 60 [0] (.fa 4 (.t 3)),
  au 2 61 [0] (.ld 1 false (.t 60)),
  au 3 62 (ru 3) (.mv (.t 6)),
  au 4 63 [0] (.ia 5 (.t 61) (.t 62)),
  au 5 64 [0] (.ld 5 true (.t 63)),
  ao 6 65 (.call (.k (.c (.fn 62 []))) [(.t 59), (.t 64)]),
  ao 7 66 (.un .not (.t 65))]
def r62_31 : List AOper := [ao 0 4 (.mv (.k (.b false)))]
def c62_32 : ACode := .seq (.reg r62_31) .ret
def c62_33 : ACode := .cond (.t 66) c62_32 .skip
def c62_34 : ACode := .seq (.reg r62_25) (.seq c62_29 (.seq (.reg r62_30) c62_33))
def c62_35 : ACode := .block 3 c62_34
def r62_36 : List AOper := [ao 0 45 (.mv (.t 6)),
  ao 1 46 (.bin .add (.t 45) (.k (.i 1))),
  ao 2 6 (.mv (.t 46))]
def c62_37 : ACode := .seq c62_24 (.seq c62_35 (.reg r62_36))
def c62_38 : ACode := .loop c62_37
def c62_39 : ACode := .block 2 c62_38
def c62_40 : ACode := .seq (.reg r62_21) c62_39
def r62_41 : List AOper := [ao 0 4 (.mv (.k (.b true)))]
def c62 : ACode := .seq (.reg r62_0) (.seq c62_5 (.seq c62_20 (.seq c62_40 (.seq (.reg r62_41) .ret))))
def s62 : List ARes := [.tmp 4]
theorem ok62 : okF Try.prog 62 67 c62 s62 := ⟨Try.f62, Try.func62, Try.ntmps62, by kernel_rfl, by kernel_rfl, by kernel_rfl⟩
def inv62 (s n : Int) (x : ByteArray) (ns : List ByteArray) (ks : List Kd) (ns' : List ByteArray) (ts : List Tr) (σ : St) : Prop :=
  (∃ u, σ.t 2 = .c (.ptr 2 u 0) ∧ σ.H 2 = some (.var u 26 [.v (.s (.int .i64 s)), .v (.sl (encS ns)), .v (.sl (encKs ks))])) ∧
  (∃ u, σ.t 3 = .c (.ptr 3 u 0) ∧ σ.H 3 = some (.var u 29 [.v (.s (.int .i64 s)), .v (.s (.int .i64 n)), .v (.s (.string x)), .v (.sl (encS ns')), .v (.sl (encTs ts))]))
def inv62a (s n : Int) (x : ByteArray) (ns : List ByteArray) (ks : List Kd) (ns' : List ByteArray) (ts : List Tr) (i : Nat) (σ : St) : Prop := (∀ j, j < i → ns[j]? = ns'[j]?) ∧ inv62 s n x ns ks ns' ts σ ∧ σ.t 5 = .i i
def inv62b (s n : Int) (x : ByteArray) (ns : List ByteArray) (ks : List Kd) (ns' : List ByteArray) (ts : List Tr) (i : Nat) (σ : St) : Prop := (∀ j, j < i → ∀ t k, ts[j]? = some t → sel s ks j = some k → Has k t) ∧ inv62 s n x ns ks ns' ts σ ∧ σ.t 6 = .i i
theorem UMc_1 : (type_of% (uA c62.eq_1)) ∧ (type_of% (uR r62_0.eq_1)) ∧ (type_of% (uA c62_5.eq_1)) ∧ (type_of% (uR r62_1.eq_1)) ∧ (type_of% (uA c62_4.eq_1)) ∧ (type_of% (uA c62_3.eq_1)) ∧ (type_of% (uR r62_2.eq_1)) ∧ (type_of% (uA c62_20.eq_1)) ∧ (type_of% (uR r62_6.eq_1)) ∧ (type_of% (uA c62_19.eq_1)) ∧ (type_of% (uA c62_18.eq_1)) ∧ (type_of% (uA c62_40.eq_1)) ∧ (type_of% (uR r62_21.eq_1)) ∧ (type_of% (uA c62_39.eq_1)) ∧ (type_of% (uA c62_38.eq_1)) ∧ (type_of% (uR r62_41.eq_1)) ∧ (type_of% s62.eq_1) :=
  ⟨uA c62.eq_1, uR r62_0.eq_1, uA c62_5.eq_1, uR r62_1.eq_1, uA c62_4.eq_1, uA c62_3.eq_1, uR r62_2.eq_1, uA c62_20.eq_1, uR r62_6.eq_1, uA c62_19.eq_1, uA c62_18.eq_1, uA c62_40.eq_1, uR r62_21.eq_1, uA c62_39.eq_1, uA c62_38.eq_1, uR r62_41.eq_1, s62.eq_1⟩
theorem UMc_3 : (type_of% (uA c62_17.eq_1)) ∧ (type_of% (uA c62_9.eq_1)) ∧ (type_of% (uR r62_7.eq_1)) ∧ (type_of% (uA c62_8.eq_1)) ∧ (type_of% (uA c62_15.eq_1)) ∧ (type_of% (uA c62_14.eq_1)) ∧ (type_of% (uR r62_10.eq_1)) ∧ (type_of% (uA c62_13.eq_1)) ∧ (type_of% (uA c62_12.eq_1)) ∧ (type_of% (uR r62_11.eq_1)) ∧ (type_of% (uR r62_16.eq_1)) ∧ (type_of% (uA c62.eq_1)) ∧ (type_of% (uR r62_0.eq_1)) ∧ (type_of% (uA c62_5.eq_1)) ∧ (type_of% (uR r62_1.eq_1)) ∧ (type_of% (uA c62_4.eq_1)) ∧ (type_of% (uA c62_3.eq_1)) ∧ (type_of% (uR r62_2.eq_1)) ∧ (type_of% (uA c62_20.eq_1)) ∧ (type_of% (uR r62_6.eq_1)) ∧ (type_of% (uA c62_19.eq_1)) ∧ (type_of% (uA c62_18.eq_1)) ∧ (type_of% (uA c62_40.eq_1)) ∧ (type_of% (uR r62_21.eq_1)) ∧ (type_of% (uA c62_39.eq_1)) ∧ (type_of% (uA c62_38.eq_1)) ∧ (type_of% (uR r62_41.eq_1)) ∧ (type_of% s62.eq_1) :=
  ⟨uA c62_17.eq_1, uA c62_9.eq_1, uR r62_7.eq_1, uA c62_8.eq_1, uA c62_15.eq_1, uA c62_14.eq_1, uR r62_10.eq_1, uA c62_13.eq_1, uA c62_12.eq_1, uR r62_11.eq_1, uR r62_16.eq_1, uA c62.eq_1, uR r62_0.eq_1, uA c62_5.eq_1, uR r62_1.eq_1, uA c62_4.eq_1, uA c62_3.eq_1, uR r62_2.eq_1, uA c62_20.eq_1, uR r62_6.eq_1, uA c62_19.eq_1, uA c62_18.eq_1, uA c62_40.eq_1, uR r62_21.eq_1, uA c62_39.eq_1, uA c62_38.eq_1, uR r62_41.eq_1, s62.eq_1⟩
theorem UMc_4 : (type_of% (uA c62_37.eq_1)) ∧ (type_of% (uA c62_24.eq_1)) ∧ (type_of% (uR r62_22.eq_1)) ∧ (type_of% (uA c62_23.eq_1)) ∧ (type_of% (uA c62_35.eq_1)) ∧ (type_of% (uA c62_34.eq_1)) ∧ (type_of% (uR r62_25.eq_1)) ∧ (type_of% (uA c62_29.eq_1)) ∧ (type_of% (uR r62_26.eq_1)) ∧ (type_of% (uA c62_28.eq_1)) ∧ (type_of% (uR r62_27.eq_1)) ∧ (type_of% (uR r62_30.eq_1)) ∧ (type_of% (uA c62_33.eq_1)) ∧ (type_of% (uA c62_32.eq_1)) ∧ (type_of% (uR r62_31.eq_1)) ∧ (type_of% (uR r62_36.eq_1)) ∧ (type_of% (uA c62.eq_1)) ∧ (type_of% (uR r62_0.eq_1)) ∧ (type_of% (uA c62_5.eq_1)) ∧ (type_of% (uR r62_1.eq_1)) ∧ (type_of% (uA c62_4.eq_1)) ∧ (type_of% (uA c62_3.eq_1)) ∧ (type_of% (uR r62_2.eq_1)) ∧ (type_of% (uA c62_20.eq_1)) ∧ (type_of% (uR r62_6.eq_1)) ∧ (type_of% (uA c62_19.eq_1)) ∧ (type_of% (uA c62_18.eq_1)) ∧ (type_of% (uA c62_40.eq_1)) ∧ (type_of% (uR r62_21.eq_1)) ∧ (type_of% (uA c62_39.eq_1)) ∧ (type_of% (uA c62_38.eq_1)) ∧ (type_of% (uR r62_41.eq_1)) ∧ (type_of% s62.eq_1) :=
  ⟨uA c62_37.eq_1, uA c62_24.eq_1, uR r62_22.eq_1, uA c62_23.eq_1, uA c62_35.eq_1, uA c62_34.eq_1, uR r62_25.eq_1, uA c62_29.eq_1, uR r62_26.eq_1, uA c62_28.eq_1, uR r62_27.eq_1, uR r62_30.eq_1, uA c62_33.eq_1, uA c62_32.eq_1, uR r62_31.eq_1, uR r62_36.eq_1, uA c62.eq_1, uR r62_0.eq_1, uA c62_5.eq_1, uR r62_1.eq_1, uA c62_4.eq_1, uA c62_3.eq_1, uR r62_2.eq_1, uA c62_20.eq_1, uR r62_6.eq_1, uA c62_19.eq_1, uA c62_18.eq_1, uA c62_40.eq_1, uR r62_21.eq_1, uA c62_39.eq_1, uA c62_38.eq_1, uR r62_41.eq_1, s62.eq_1⟩
set_option maxHeartbeats 1000000 in
theorem hasS_ok : ∀ (k : Kd) (t : Tr) (d d' : Nat), KOk d k → TOk d' t → KB 2000 k → TB 1000000 t → ACallsF Try.prog 62 [tK k, tT t] [] (.b (has k t)) := by
  intro k
  induction k using Kd.ind with
  | _ s ns ks ih =>
    intro t d d' hOk hOt hBk hBt
    obtain ⟨s', n, x, ns', ts⟩ := t
    obtain ⟨_, hS, hK⟩ := hOk.inv
    obtain ⟨_, hT, hTk⟩ := hOt.inv
    have hT := tshape_sh hT
    obtain ⟨k1, k2, k3, k4⟩ := hBk.inv
    obtain ⟨t0, t1, t2, t3, t4⟩ := hBt.inv
    refine ACallsF.intro ok62 follows fun X c0 => ?_
    by_cases hss : s = s'
    case neg =>
      have hne : (s != s') = true := by simp [hss]
      have hm : has (.mk s ns ks) (.mk s' n x ns' ts) = false := has_false.2 fun h => hss h.inv.1
      simp only [RUN, core, T.c, T.s, T.b, T.i, sBin, sInt, sUn, isShift, asInt, P1.cells, loadT, ptrC, storeT, putC, fillP, Nat.reduceAdd, reduceIte, Nat.reduceEqDiff, Nat.reduceLT, Nat.reduceLeDiff, reduceCtorEq, eq_self, FIT, lendCs_map, verC_map, FinC, resPs, resP, lendPl, lendCs, lendC, sealC, partsT, finHs, tupT, verT, verP, verC, verB, verAt, Blk.ver, handsAre, forall_const, CHT, disj, Nat.reduceBEq, beq_self_eq_true, APT, srcOf, sealPs, sealCs, sealC, List.mem_singleton, forall_eq, ALT, UMc_1, encK_mk, encT_mk, hne, hm]
    subst hss
    have hne : (s != s) = false := by simp
    have hnn : s ≠ 5 → ns = ns' := fun h => by rw [List.length_eq_zero_iff.1 (hS.other h), List.length_eq_zero_iff.1 (hT.other h)]
    have hno : ns ≠ ns' → has (.mk s ns ks) (.mk s n x ns' ts) = false := fun h => has_false.2 fun h2 => h (by
      by_cases h5 : s = 5
      · exact h2.inv.2.1 h5
      · exact hnn h5)
    by_cases hl : ns.length = ns'.length
    case neg =>
      have hln : ((ns.length : Int) != (ns'.length : Int)) = true := by simp; omega
      have hm := hno fun e => hl (by rw [e])
      simp only [RUN, core, T.c, T.s, T.b, T.i, sBin, sInt, sUn, isShift, asInt, P1.cells, loadT, ptrC, storeT, putC, fillP, Nat.reduceAdd, reduceIte, Nat.reduceEqDiff, Nat.reduceLT, Nat.reduceLeDiff, reduceCtorEq, eq_self, FIT, lendCs_map, verC_map, FinC, resPs, resP, lendPl, lendCs, lendC, sealC, partsT, finHs, tupT, verT, verP, verC, verB, verAt, Blk.ver, handsAre, forall_const, CHT, disj, Nat.reduceBEq, beq_self_eq_true, APT, srcOf, sealPs, sealCs, sealC, List.mem_singleton, forall_eq, ALT, UMc_1, encK_mk, encT_mk, encS_len, hne, hln, hm]
    have hln : ((ns.length : Int) != (ns'.length : Int)) = false := by simp; omega
    simp only [RUN, core, T.c, T.s, T.b, T.i, sBin, sInt, sUn, isShift, asInt, P1.cells, loadT, ptrC, storeT, putC, fillP, Nat.reduceAdd, reduceIte, Nat.reduceEqDiff, Nat.reduceLT, Nat.reduceLeDiff, reduceCtorEq, eq_self, FIT, lendCs_map, verC_map, FinC, resPs, resP, lendPl, lendCs, lendC, sealC, partsT, finHs, tupT, verT, verP, verC, verB, verAt, Blk.ver, handsAre, forall_const, CHT, disj, Nat.reduceBEq, beq_self_eq_true, APT, srcOf, sealPs, sealCs, sealC, List.mem_singleton, forall_eq, ALT, UMc_1, encK_mk, encT_mk, encS_len, hne, hln]
    refine AW.upto ns.length (inv62a s n x ns ks ns' ts) ⟨fun j hj => absurd hj (Nat.not_lt_zero j), ⟨⟨_, rfl, rfl⟩, ⟨_, rfl, rfl⟩⟩, rfl⟩ fun i t H c hi h => ?_
    obtain ⟨g0, ⟨⟨u2, e2, eH2⟩, ⟨u3, e3, eH3⟩⟩, e5⟩ := h
    simp only [T.c, T.i] at e2 eH2 e3 eH3 e5
    by_cases hlt : i < ns.length
    · have g1 : (i : Int) < ns.length := by omega
      have gz : (0 : Int) ≤ i := by omega
      have gw : IntKind.i64.wrap ((i : Int) + 1) = ((i + 1 : Nat) : Int) := wrap64 (x := (i : Int) + 1) ⟨by omega, by omega⟩
      obtain ⟨y, hy⟩ : ∃ y, ns[i]? = some y := ⟨_, List.getElem?_eq_getElem hlt⟩
      obtain ⟨y', hy'⟩ : ∃ y, ns'[i]? = some y := ⟨_, List.getElem?_eq_getElem (by omega)⟩
      have es := encS_at hy
      have es' := encS_at hy'
      by_cases hyy : y = y'
      · subst hyy
        simp only [RUN, core, T.c, T.s, T.b, T.i, sBin, sInt, sUn, isShift, asInt, P1.cells, loadT, ptrC, storeT, putC, fillP, Nat.reduceAdd, reduceIte, Nat.reduceEqDiff, Nat.reduceLT, Nat.reduceLeDiff, reduceCtorEq, eq_self, FIT, lendCs_map, verC_map, FinC, resPs, resP, lendPl, lendCs, lendC, sealC, partsT, finHs, tupT, verT, verP, verC, verB, verAt, Blk.ver, handsAre, forall_const, CHT, disj, Nat.reduceBEq, beq_self_eq_true, APT, srcOf, sealPs, sealCs, sealC, List.mem_singleton, forall_eq, ALT, UMc_3, e2, eH2, e3, eH3, e5, encS_len, g1, gz, es, es', Int.toNat_natCast, sStr, str_beq, gw]
        refine ⟨hlt, fun j hj => ?_, ⟨⟨u2, e2, eH2⟩, ⟨u3, e3, eH3⟩⟩, rfl⟩
        rcases Nat.lt_succ_iff_lt_or_eq.1 hj with hj | rfl
        · exact g0 j hj
        · rw [hy, hy']
      · have hm := hno fun e => hyy (by rw [e, hy'] at hy; cases hy; rfl)
        simp only [RUN, core, T.c, T.s, T.b, T.i, sBin, sInt, sUn, isShift, asInt, P1.cells, loadT, ptrC, storeT, putC, fillP, Nat.reduceAdd, reduceIte, Nat.reduceEqDiff, Nat.reduceLT, Nat.reduceLeDiff, reduceCtorEq, eq_self, FIT, lendCs_map, verC_map, FinC, resPs, resP, lendPl, lendCs, lendC, sealC, partsT, finHs, tupT, verT, verP, verC, verB, verAt, Blk.ver, handsAre, forall_const, CHT, disj, Nat.reduceBEq, beq_self_eq_true, APT, srcOf, sealPs, sealCs, sealC, List.mem_singleton, forall_eq, ALT, UMc_3, e2, eH2, e3, eH3, e5, encS_len, g1, gz, es, es', Int.toNat_natCast, sStr, str_beq, hyy, hm]
    · have hin : i = ns.length := by omega
      subst hin
      have hnames : ns = ns' := List.ext_getElem? fun j => by
        by_cases hj : j < ns.length
        · exact g0 j hj
        · rw [List.getElem?_eq_none (by omega), List.getElem?_eq_none (by omega)]
      have g1 : ¬ ((ns.length : Nat) : Int) < ns.length := by omega
      simp only [RUN, core, T.c, T.s, T.b, T.i, sBin, sInt, sUn, isShift, asInt, P1.cells, loadT, ptrC, storeT, putC, fillP, Nat.reduceAdd, reduceIte, Nat.reduceEqDiff, Nat.reduceLT, Nat.reduceLeDiff, reduceCtorEq, eq_self, FIT, lendCs_map, verC_map, FinC, resPs, resP, lendPl, lendCs, lendC, sealC, partsT, finHs, tupT, verT, verP, verC, verB, verAt, Blk.ver, handsAre, forall_const, CHT, disj, Nat.reduceBEq, beq_self_eq_true, APT, srcOf, sealPs, sealCs, sealC, List.mem_singleton, forall_eq, ALT, UMc_3, e2, eH2, e5, encS_len, g1]
      refine AW.upto ts.length (inv62b s n x ns ks ns' ts) ⟨fun j hj => absurd hj (Nat.not_lt_zero j), ⟨⟨u2, e2, eH2⟩, ⟨u3, e3, eH3⟩⟩, rfl⟩ fun i t H c hi h => ?_
      clear e2 eH2 e3 eH3 e5
      obtain ⟨g2, ⟨⟨u2, e2, eH2⟩, ⟨u3, e3, eH3⟩⟩, e6⟩ := h
      simp only [T.c, T.i] at e2 eH2 e3 eH3 e6
      by_cases hlt : i < ts.length
      · have g1 : (i : Int) < ts.length := by omega
        have gz : (0 : Int) ≤ i := by omega
        have gw : IntKind.i64.wrap ((i : Int) + 1) = ((i + 1 : Nat) : Int) := wrap64 (x := (i : Int) + 1) ⟨by omega, by omega⟩
        obtain ⟨u, hu⟩ : ∃ u, ts[i]? = some u := ⟨_, List.getElem?_eq_getElem hlt⟩
        have hmu := List.mem_of_getElem? hu
        have eu := encTs_at hu
        obtain ⟨k, k0, hsel, hk0, hmk⟩ := sel_some hS hT (fun _ => hnames) hlt
        have ek0 := encKs_at hk0
        have hC := ih k hmk u _ _ (hK k hmk) (hTk u hmu) (k4 k hmk) (t4 u hmu)
        have hno : ¬ Has k u → has (.mk s ns ks) (.mk s n x ns' ts) = false := fun h => has_false.2 fun h2 => h (h2.inv.2.2 i u k hu hsel)
        have hgo : Has k u → ∀ j, j < i + 1 → ∀ t k, ts[j]? = some t → sel s ks j = some k → Has k t := by
          intro h j hj t2 k2 h1 h2
          rcases Nat.lt_succ_iff_lt_or_eq.1 hj with hj | rfl
          · exact g2 j hj t2 k2 h1 h2
          · rw [hu] at h1; rw [hsel] at h2; cases h1; cases h2; exact h
        by_cases h5 : s = 5
        · have h5b : (s == 5) = true := beq_iff_eq.2 h5
          rw [sel, if_pos h5] at hsel
          have ek := encKs_at hsel
          simp only [RUN, core, T.c, T.s, T.b, T.i, sBin, sInt, sUn, isShift, asInt, P1.cells, loadT, ptrC, storeT, putC, fillP, Nat.reduceAdd, reduceIte, Nat.reduceEqDiff, Nat.reduceLT, Nat.reduceLeDiff, reduceCtorEq, eq_self, FIT, lendCs_map, verC_map, FinC, resPs, resP, lendPl, lendCs, lendC, sealC, partsT, finHs, tupT, verT, verP, verC, verB, verAt, Blk.ver, handsAre, forall_const, CHT, disj, Nat.reduceBEq, beq_self_eq_true, APT, srcOf, sealPs, sealCs, sealC, List.mem_singleton, forall_eq, ALT, UMc_4, e2, eH2, e3, eH3, e6, encTs_len, g1, gz, eu, ek0, ek, h5b, dropK, List.append_nil, Int.toNat_natCast, Int.toNat_zero, Int.le_refl, List.length_map, encK_len, takeK, encT_len, takeT, Nat.le_refl]
          refine callC hC rfl rfl (by simp [closedA, closedP, closedC]) rfl ?_
          cases hh : has k u with
          | false =>
            have hm := hno (has_false.1 hh)
            simp only [RUN, core, T.c, T.s, T.b, T.i, sBin, sInt, sUn, isShift, asInt, P1.cells, loadT, ptrC, storeT, putC, fillP, Nat.reduceAdd, reduceIte, Nat.reduceEqDiff, Nat.reduceLT, Nat.reduceLeDiff, reduceCtorEq, eq_self, FIT, lendCs_map, verC_map, FinC, resPs, resP, lendPl, lendCs, lendC, sealC, partsT, finHs, tupT, verT, verP, verC, verB, verAt, Blk.ver, handsAre, forall_const, CHT, disj, Nat.reduceBEq, beq_self_eq_true, APT, srcOf, sealPs, sealCs, sealC, List.mem_singleton, forall_eq, ALT, UMc_4, hm]
          | true =>
            simp only [RUN, core, T.c, T.s, T.b, T.i, sBin, sInt, sUn, isShift, asInt, P1.cells, loadT, ptrC, storeT, putC, fillP, Nat.reduceAdd, reduceIte, Nat.reduceEqDiff, Nat.reduceLT, Nat.reduceLeDiff, reduceCtorEq, eq_self, FIT, lendCs_map, verC_map, FinC, resPs, resP, lendPl, lendCs, lendC, sealC, partsT, finHs, tupT, verT, verP, verC, verB, verAt, Blk.ver, handsAre, forall_const, CHT, disj, Nat.reduceBEq, beq_self_eq_true, APT, srcOf, sealPs, sealCs, sealC, List.mem_singleton, forall_eq, ALT, UMc_4, e6, gw]
            exact ⟨hlt, hgo (has_true.1 hh), ⟨⟨u2, e2, eH2⟩, ⟨u3, e3, eH3⟩⟩, rfl⟩
        · have h5b : (s == 5) = false := beq_eq_false_iff_ne.2 h5
          rw [sel, if_neg h5, hk0] at hsel
          cases hsel
          simp only [RUN, core, T.c, T.s, T.b, T.i, sBin, sInt, sUn, isShift, asInt, P1.cells, loadT, ptrC, storeT, putC, fillP, Nat.reduceAdd, reduceIte, Nat.reduceEqDiff, Nat.reduceLT, Nat.reduceLeDiff, reduceCtorEq, eq_self, FIT, lendCs_map, verC_map, FinC, resPs, resP, lendPl, lendCs, lendC, sealC, partsT, finHs, tupT, verT, verP, verC, verB, verAt, Blk.ver, handsAre, forall_const, CHT, disj, Nat.reduceBEq, beq_self_eq_true, APT, srcOf, sealPs, sealCs, sealC, List.mem_singleton, forall_eq, ALT, UMc_4, e2, eH2, e3, eH3, e6, encTs_len, g1, gz, eu, ek0, h5b, Int.toNat_natCast, Int.toNat_zero, Int.le_refl, List.length_map, encK_len, takeK, encT_len, takeT, Nat.le_refl]
          refine callC hC rfl rfl (by simp [closedA, closedP, closedC]) rfl ?_
          cases hh : has k u with
          | false =>
            have hm := hno (has_false.1 hh)
            simp only [RUN, core, T.c, T.s, T.b, T.i, sBin, sInt, sUn, isShift, asInt, P1.cells, loadT, ptrC, storeT, putC, fillP, Nat.reduceAdd, reduceIte, Nat.reduceEqDiff, Nat.reduceLT, Nat.reduceLeDiff, reduceCtorEq, eq_self, FIT, lendCs_map, verC_map, FinC, resPs, resP, lendPl, lendCs, lendC, sealC, partsT, finHs, tupT, verT, verP, verC, verB, verAt, Blk.ver, handsAre, forall_const, CHT, disj, Nat.reduceBEq, beq_self_eq_true, APT, srcOf, sealPs, sealCs, sealC, List.mem_singleton, forall_eq, ALT, UMc_4, hm]
          | true =>
            simp only [RUN, core, T.c, T.s, T.b, T.i, sBin, sInt, sUn, isShift, asInt, P1.cells, loadT, ptrC, storeT, putC, fillP, Nat.reduceAdd, reduceIte, Nat.reduceEqDiff, Nat.reduceLT, Nat.reduceLeDiff, reduceCtorEq, eq_self, FIT, lendCs_map, verC_map, FinC, resPs, resP, lendPl, lendCs, lendC, sealC, partsT, finHs, tupT, verT, verP, verC, verB, verAt, Blk.ver, handsAre, forall_const, CHT, disj, Nat.reduceBEq, beq_self_eq_true, APT, srcOf, sealPs, sealCs, sealC, List.mem_singleton, forall_eq, ALT, UMc_4, e6, gw]
            exact ⟨hlt, hgo (has_true.1 hh), ⟨⟨u2, e2, eH2⟩, ⟨u3, e3, eH3⟩⟩, rfl⟩
      · have hin : i = ts.length := by omega
        subst hin
        have g1 : ¬ ((ts.length : Nat) : Int) < ts.length := by omega
        have hm : has (.mk s ns ks) (.mk s n x ns' ts) = true := has_true.2 (.mk _ _ _ _ _ _ _ (fun _ => hnames) fun j t k h1 h2 => g2 j (List.getElem?_eq_some_iff.1 h1).1 t k h1 h2)
        simp only [RUN, core, T.c, T.s, T.b, T.i, sBin, sInt, sUn, isShift, asInt, P1.cells, loadT, ptrC, storeT, putC, fillP, Nat.reduceAdd, reduceIte, Nat.reduceEqDiff, Nat.reduceLT, Nat.reduceLeDiff, reduceCtorEq, eq_self, FIT, lendCs_map, verC_map, FinC, resPs, resP, lendPl, lendCs, lendC, sealC, partsT, finHs, tupT, verT, verP, verC, verB, verAt, Blk.ver, handsAre, forall_const, CHT, disj, Nat.reduceBEq, beq_self_eq_true, APT, srcOf, sealPs, sealCs, sealC, List.mem_singleton, forall_eq, ALT, UMc_4, UMc_1, e3, eH3, e6, encTs_len, g1, hm]
/- loop.example/teagle/spec.KindHas -/
def r24_0 : List AOper := [ao 0 2 (.box 26 (.t 0)),
  ao 1 3 (.box 29 (.t 1)),
  ao 2 4 (.mv (.k (.b false)))]
def r24_1 : List AOper := [ao 0 5 (.ld 3 true (.t 2)),
  ao 1 6 (.call (.k (.c (.fn 25 []))) [(.t 5)]),
  ao 2 7 (.mv (.t 6)),
  ag 3 8 7 true [] (.ld 5 true (.t 3)),
  ag 4 9 7 true [] (.call (.k (.c (.fn 50 []))) [(.t 8)]),
  ao 5 10 (.pick (.t 7) (.t 9) (.k (.b false))),
  ao 6 11 (.mv (.t 10)),
  ag 7 12 11 true [] (.ld 3 true (.t 2)),
  ag 8 13 11 true [] (.ld 5 true (.t 3)),
  ag 9 14 11 true [] (.call (.k (.c (.fn 62 []))) [(.t 12), (.t 13)]),
  ao 10 15 (.pick (.t 11) (.t 14) (.k (.b false))),
  ao 11 4 (.mv (.t 15))]
def c24 : ACode := .seq (.reg r24_0) (.seq (.reg r24_1) .ret)
def s24 : List ARes := [.tmp 4]
theorem ok24 : okF Try.prog 24 16 c24 s24 := ⟨Try.f24, Try.func24, Try.ntmps24, by kernel_rfl, by kernel_rfl, by kernel_rfl⟩
theorem UMc_2 : (type_of% (uA c24.eq_1)) ∧ (type_of% (uR r24_0.eq_1)) ∧ (type_of% (uR r24_1.eq_1)) ∧ (type_of% s24.eq_1) :=
  ⟨uA c24.eq_1, uR r24_0.eq_1, uR r24_1.eq_1, s24.eq_1⟩
theorem kindHasS_ok (k : Kd) (t : Tr) (hk : KB 2000 k) (ht : TB 1000000 t) : ACallsF Try.prog 24 [tK k, tT t] [] (.b (okK k && (okT t && has k t))) := by
  refine ACallsF.intro ok24 follows fun X c0 => ?_
  simp only [RUN, core, T.c, T.s, T.b, T.i, sBin, sInt, sUn, isShift, asInt, P1.cells, loadT, ptrC, storeT, putC, fillP, Nat.reduceAdd, reduceIte, Nat.reduceEqDiff, Nat.reduceLT, Nat.reduceLeDiff, reduceCtorEq, eq_self, FIT, lendCs_map, verC_map, FinC, resPs, resP, lendPl, lendCs, lendC, sealC, partsT, finHs, tupT, verT, verP, verC, verB, verAt, Blk.ver, handsAre, forall_const, CHT, disj, Nat.reduceBEq, beq_self_eq_true, APT, srcOf, sealPs, sealCs, sealC, List.mem_singleton, forall_eq, ALT, UMc_2, List.length_map, encK_len, takeK, encT_len, takeT, Nat.le_refl]
  refine callC (kindOkS_ok k (hk.le (by omega))) rfl rfl (by simp [closedA, closedP, closedC]) rfl ?_
  cases h1 : okK k with
  | false => simp only [RUN, core, T.c, T.s, T.b, T.i, sBin, sInt, sUn, isShift, asInt, P1.cells, loadT, ptrC, storeT, putC, fillP, Nat.reduceAdd, reduceIte, Nat.reduceEqDiff, Nat.reduceLT, Nat.reduceLeDiff, reduceCtorEq, eq_self, FIT, lendCs_map, verC_map, FinC, resPs, resP, lendPl, lendCs, lendC, sealC, partsT, finHs, tupT, verT, verP, verC, verB, verAt, Blk.ver, handsAre, forall_const, CHT, disj, Nat.reduceBEq, beq_self_eq_true, APT, srcOf, sealPs, sealCs, sealC, List.mem_singleton, forall_eq, ALT, UMc_2]
  | true =>
    simp only [RUN, core, T.c, T.s, T.b, T.i, sBin, sInt, sUn, isShift, asInt, P1.cells, loadT, ptrC, storeT, putC, fillP, Nat.reduceAdd, reduceIte, Nat.reduceEqDiff, Nat.reduceLT, Nat.reduceLeDiff, reduceCtorEq, eq_self, FIT, lendCs_map, verC_map, FinC, resPs, resP, lendPl, lendCs, lendC, sealC, partsT, finHs, tupT, verT, verP, verC, verB, verAt, Blk.ver, handsAre, forall_const, CHT, disj, Nat.reduceBEq, beq_self_eq_true, APT, srcOf, sealPs, sealCs, sealC, List.mem_singleton, forall_eq, ALT, UMc_2, List.length_map, encK_len, takeK, encT_len, takeT, Nat.le_refl]
    refine callC (treeOkS_ok t ht) rfl rfl (by simp [closedA, closedP, closedC]) rfl ?_
    cases h2 : okT t with
    | false => simp only [RUN, core, T.c, T.s, T.b, T.i, sBin, sInt, sUn, isShift, asInt, P1.cells, loadT, ptrC, storeT, putC, fillP, Nat.reduceAdd, reduceIte, Nat.reduceEqDiff, Nat.reduceLT, Nat.reduceLeDiff, reduceCtorEq, eq_self, FIT, lendCs_map, verC_map, FinC, resPs, resP, lendPl, lendCs, lendC, sealC, partsT, finHs, tupT, verT, verP, verC, verB, verAt, Blk.ver, handsAre, forall_const, CHT, disj, Nat.reduceBEq, beq_self_eq_true, APT, srcOf, sealPs, sealCs, sealC, List.mem_singleton, forall_eq, ALT, UMc_2]
    | true =>
      simp only [RUN, core, T.c, T.s, T.b, T.i, sBin, sInt, sUn, isShift, asInt, P1.cells, loadT, ptrC, storeT, putC, fillP, Nat.reduceAdd, reduceIte, Nat.reduceEqDiff, Nat.reduceLT, Nat.reduceLeDiff, reduceCtorEq, eq_self, FIT, lendCs_map, verC_map, FinC, resPs, resP, lendPl, lendCs, lendC, sealC, partsT, finHs, tupT, verT, verP, verC, verB, verAt, Blk.ver, handsAre, forall_const, CHT, disj, Nat.reduceBEq, beq_self_eq_true, APT, srcOf, sealPs, sealCs, sealC, List.mem_singleton, forall_eq, ALT, UMc_2, List.length_map, encK_len, takeK, encT_len, takeT, Nat.le_refl]
      refine callC (hasS_ok k t 1 1 (okK_true.1 h1).1 (okT_true.1 h2).1 hk ht) rfl rfl (by simp [closedA, closedP, closedC]) rfl ?_
      simp only [RUN, core, T.c, T.s, T.b, T.i, sBin, sInt, sUn, isShift, asInt, P1.cells, loadT, ptrC, storeT, putC, fillP, Nat.reduceAdd, reduceIte, Nat.reduceEqDiff, Nat.reduceLT, Nat.reduceLeDiff, reduceCtorEq, eq_self, FIT, lendCs_map, verC_map, FinC, resPs, resP, lendPl, lendCs, lendC, sealC, partsT, finHs, tupT, verT, verP, verC, verB, verAt, Blk.ver, handsAre, forall_const, CHT, disj, Nat.reduceBEq, beq_self_eq_true, APT, srcOf, sealPs, sealCs, sealC, List.mem_singleton, forall_eq, ALT, UMc_2]
end Go.V
set_option linter.unusedSimpArgs false
namespace Go.V
open Go.Proofs
/- loop.example/teagle/spec.l3Widen -/
def r49_0 : List AOper := [ao 0 3 (.box 26 (.t 0)),
  ao 1 4 (.box 26 (.t 1)),
  ao 2 5 (.box 29 (.t 2)),
  ao 3 6 (.alloc 29 [(.v (.s (.int .i64 0))), (.v (.s (.int .i64 0))), (.v (.s (.string ⟨#[]⟩))), .nil0, .nil0])]
def r49_1 : List AOper := [ao 0 13 (.fa 0 (.t 4)),
  ao 1 14 (.ld 1 false (.t 13)),
  ao 2 15 (.fa 1 (.t 5)),
  ao 3 16 (.ld 1 false (.t 15)),
  ao 4 17 (.fa 2 (.t 5)),
  ao 5 18 (.ld 1 false (.t 17)),
  ao 6 19 (.build [(.v (.s (.int .i64 0))), (.v (.s (.int .i64 0))), (.v (.s (.string ⟨#[]⟩))), .nil0, .nil0] [(0, 1, (.t 14)), (1, 1, (.t 16)), (2, 1, (.t 18))]),
  ao 7 7 (.alloc 29 [(.v (.s (.int .i64 0))), (.v (.s (.int .i64 0))), (.v (.s (.string ⟨#[]⟩))), .nil0, .nil0]),
  an 8 (.st 5 (.t 7) (.t 19))]
def r49_2 : List AOper := [ao 0 20 (.fa 0 (.t 4)),
  ao 1 21 (.ld 1 false (.t 20))]
def r49_3 : List AOper := [ao 0 23 (.bin .eql (.t 21) (.k (.i 6))),
  ao 1 22 (.mv (.t 23))]
def r49_4 : List AOper := [ao 0 24 (.fa 0 (.t 3)),
  ao 1 25 (.ld 1 false (.t 24)),
  ao 2 26 (.bin .neq (.t 25) (.k (.i 6)))]
def r49_5 : List AOper := [ao 0 27 (.ld 3 true (.t 3)),
  au 1 28 [0] (.fa 2 (.t 4)),
  au 2 29 [0] (.ld 1 false (.t 28)),
  au 3 30 [0] (.ia 3 (.t 29) (.k (.i 0))),
  au 4 31 [0] (.ld 3 true (.t 30)),
  au 5 32 (ru 5) (.ld 5 true (.t 5)),
  ao 6 33 (.call (.k (.c (.fn 49 []))) [(.t 27), (.t 31), (.t 32)]),
  ao 7 34 (.bsl 5 29 [(.t 33)]),
  ao 8 35 (.build [(.v (.s (.int .i64 0))), (.v (.s (.int .i64 0))), (.v (.s (.string ⟨#[]⟩))), .nil0, .nil0] [(0, 1, (.k (.i 6))), (4, 1, (.t 34))]),
  an 9 (.st 5 (.t 6) (.t 35))]
def c49_6 : ACode := .seq (.reg r49_5) .ret
def c49_7 : ACode := .cond (.t 26) c49_6 .skip
def c49_8 : ACode := .seq (.reg r49_4) c49_7
def r49_9 : List AOper := [ao 0 8 (.mv (.k (.i 0)))]
def r49_10 : List AOper := [ao 0 36 (.mv (.t 8)),
  ao 1 37 (.fa 4 (.t 5)),
  ao 2 38 (.ld 1 false (.t 37)),
  ao 3 39 (.len (.t 38)),
  ao 4 40 (.bin .lss (.t 36) (.t 39))]
def c49_11 : ACode := .cond (.t 40) .skip (.exit 1)
def c49_12 : ACode := .seq (.reg r49_10) c49_11
def r49_13 : List AOper := [ao 0 43 (.fa 4 (.t 7)),
  ao 1 44 (.ld 1 false (.t 43)),
  au 2 45 [0, 1] (.fa 2 (.t 3)),
  au 3 46 [0, 1] (.ld 1 false (.t 45)),
  au 4 47 [0, 1] (.ia 3 (.t 46) (.k (.i 0))),
  au 5 48 [0, 1] (.ld 3 true (.t 47)),
  au 6 49 (ru 6) (.fa 2 (.t 4)),
  au 7 50 (ru 6) (.ld 1 false (.t 49)),
  au 8 51 (ru 6) (.ia 3 (.t 50) (.k (.i 0))),
  au 9 52 (ru 6) (.ld 3 true (.t 51)),
  au 10 53 (ru 10) (.fa 4 (.t 5)),
  au 11 54 (ru 10) (.ld 1 false (.t 53)),
  au 12 55 (ru 12) (.mv (.t 8)),
  au 13 56 (ru 10) (.ia 5 (.t 54) (.t 55)),
  au 14 57 (ru 10) (.ld 5 true (.t 56)),
  au 15 58 [0, 1] (.call (.k (.c (.fn 49 []))) [(.t 48), (.t 52), (.t 57)]),
  au 16 59 [0, 1] (.bsl 5 29 [(.t 58)]),
  ao 17 60 (.app 5 29 80 (.t 44) (.t 59)),
  ao 18 61 (.fa 4 (.t 7)),
  an 19 (.st 1 (.t 61) (.t 60))]
def c49_14 : ACode := .block 2 (.reg r49_13)
def r49_15 : List AOper := [ao 0 41 (.mv (.t 8)),
  ao 1 42 (.bin .add (.t 41) (.k (.i 1))),
  ao 2 8 (.mv (.t 42))]
def c49_16 : ACode := .seq c49_12 (.seq c49_14 (.reg r49_15))
def c49_17 : ACode := .loop c49_16
def c49_18 : ACode := .block 1 c49_17
def c49_19 : ACode := .seq c49_8 (.seq (.reg r49_9) c49_18)
def r49_20 : List AOper := [ao 0 63 (.bin .eql (.t 21) (.k (.i 4))),
  ao 1 62 (.mv (.t 63))]
def r49_21 : List AOper := [ao 0 9 (.mv (.k (.i 0)))]
def r49_22 : List AOper := [ao 0 64 (.mv (.t 9)),
  ao 1 65 (.fa 4 (.t 5)),
  ao 2 66 (.ld 1 false (.t 65)),
  ao 3 67 (.len (.t 66)),
  ao 4 68 (.bin .lss (.t 64) (.t 67))]
def c49_23 : ACode := .cond (.t 68) .skip (.exit 3)
def c49_24 : ACode := .seq (.reg r49_22) c49_23
def r49_25 : List AOper := [ao 0 71 (.fa 4 (.t 7)),
  ao 1 72 (.ld 1 false (.t 71)),
  au 2 73 [0, 1] (.fa 2 (.t 3)),
  au 3 74 [0, 1] (.ld 1 false (.t 73)),
  au 4 75 [0, 1] (.ia 3 (.t 74) (.k (.i 0))),
  au 5 76 [0, 1] (.ld 3 true (.t 75)),
  au 6 77 (ru 6) (.fa 2 (.t 4)),
  au 7 78 (ru 6) (.ld 1 false (.t 77)),
  au 8 79 (ru 6) (.ia 3 (.t 78) (.k (.i 0))),
  au 9 80 (ru 6) (.ld 3 true (.t 79)),
  au 10 81 (ru 10) (.fa 4 (.t 5)),
  au 11 82 (ru 10) (.ld 1 false (.t 81)),
  au 12 83 (ru 12) (.mv (.t 9)),
  au 13 84 (ru 10) (.ia 5 (.t 82) (.t 83)),
  au 14 85 (ru 10) (.ld 5 true (.t 84)),
  au 15 86 [0, 1] (.call (.k (.c (.fn 49 []))) [(.t 76), (.t 80), (.t 85)]),
  au 16 87 [0, 1] (.bsl 5 29 [(.t 86)]),
  ao 17 88 (.app 5 29 80 (.t 72) (.t 87)),
  ao 18 89 (.fa 4 (.t 7)),
  an 19 (.st 1 (.t 89) (.t 88))]
def c49_26 : ACode := .block 4 (.reg r49_25)
def r49_27 : List AOper := [ao 0 69 (.mv (.t 9)),
  ao 1 70 (.bin .add (.t 69) (.k (.i 1))),
  ao 2 9 (.mv (.t 70))]
def c49_28 : ACode := .seq c49_24 (.seq c49_26 (.reg r49_27))
def c49_29 : ACode := .loop c49_28
def c49_30 : ACode := .block 3 c49_29
def c49_31 : ACode := .seq (.reg r49_21) c49_30
def r49_32 : List AOper := [ao 0 91 (.bin .eql (.t 21) (.k (.i 5))),
  ao 1 90 (.mv (.t 91))]
def r49_33 : List AOper := [ao 0 10 (.mv (.k (.i 0)))]
def r49_34 : List AOper := [ao 0 92 (.mv (.t 10)),
  ao 1 93 (.fa 1 (.t 4)),
  ao 2 94 (.ld 1 false (.t 93)),
  ao 3 95 (.len (.t 94)),
  ao 4 96 (.bin .lss (.t 92) (.t 95))]
def c49_35 : ACode := .cond (.t 96) .skip (.exit 5)
def c49_36 : ACode := .seq (.reg r49_34) c49_35
def r49_37 : List AOper := [ao 0 99 (.build [(.v (.s (.int .i64 0))), (.v (.s (.int .i64 0))), (.v (.s (.string ⟨#[]⟩))), .nil0, .nil0] [(0, 1, (.k (.i 6)))]),
  ao 1 11 (.alloc 29 [(.v (.s (.int .i64 0))), (.v (.s (.int .i64 0))), (.v (.s (.string ⟨#[]⟩))), .nil0, .nil0]),
  an 2 (.st 5 (.t 11) (.t 99))]
def r49_38 : List AOper := [ao 0 12 (.mv (.k (.i 0)))]
def r49_39 : List AOper := [ao 0 100 (.mv (.t 12)),
  ao 1 101 (.fa 1 (.t 3)),
  ao 2 102 (.ld 1 false (.t 101)),
  ao 3 103 (.len (.t 102)),
  ao 4 104 (.bin .lss (.t 100) (.t 103))]
def c49_40 : ACode := .cond (.t 104) .skip (.exit 7)
def c49_41 : ACode := .seq (.reg r49_39) c49_40
def r49_42 : List AOper := [ao 0 107 (.fa 1 (.t 3)),
  ao 1 108 (.ld 1 false (.t 107)),
  au 2 109 [0, 1] (.mv (.t 12)),
  ao 3 110 (.ia 1 (.t 108) (.t 109)),
  ao 4 111 (.ld 1 false (.t 110)),
  au 5 112 (ru 5) (.fa 1 (.t 4)),
  au 6 113 (ru 5) (.ld 1 false (.t 112)),
  au 7 114 (ru 7) (.mv (.t 10)),
  au 8 115 (ru 5) (.ia 1 (.t 113) (.t 114)),
  au 9 116 (ru 5) (.ld 1 false (.t 115)),
  ao 10 117 (.bin .eql (.t 111) (.t 116))]
def r49_43 : List AOper := [ao 0 118 (.fa 2 (.t 3)),
  ao 1 119 (.ld 1 false (.t 118)),
  au 2 120 [0, 1] (.mv (.t 12)),
  ao 3 121 (.ia 3 (.t 119) (.t 120)),
  ao 4 122 (.ld 3 true (.t 121)),
  au 5 123 (ru 5) (.fa 2 (.t 4)),
  au 6 124 (ru 5) (.ld 1 false (.t 123)),
  au 7 125 (ru 7) (.mv (.t 10)),
  au 8 126 (ru 5) (.ia 3 (.t 124) (.t 125)),
  au 9 127 (ru 5) (.ld 3 true (.t 126)),
  au 10 128 (ru 10) (.fa 4 (.t 5)),
  au 11 129 (ru 10) (.ld 1 false (.t 128)),
  au 12 130 (ru 12) (.mv (.t 12)),
  au 13 131 (ru 10) (.ia 5 (.t 129) (.t 130)),
  au 14 132 (ru 10) (.ld 5 true (.t 131)),
  ao 15 133 (.call (.k (.c (.fn 49 []))) [(.t 122), (.t 127), (.t 132)]),
  an 16 (.st 5 (.t 11) (.t 133))]
def c49_44 : ACode := .cond (.t 117) (.reg r49_43) .skip
def c49_45 : ACode := .seq (.reg r49_42) c49_44
def c49_46 : ACode := .block 8 c49_45
def r49_47 : List AOper := [ao 0 105 (.mv (.t 12)),
  ao 1 106 (.bin .add (.t 105) (.k (.i 1))),
  ao 2 12 (.mv (.t 106))]
def c49_48 : ACode := .seq c49_41 (.seq c49_46 (.reg r49_47))
def c49_49 : ACode := .loop c49_48
def c49_50 : ACode := .block 7 c49_49
def c49_51 : ACode := .seq (.reg r49_38) c49_50
def r49_52 : List AOper := [ao 0 134 (.fa 3 (.t 7)),
  ao 1 135 (.ld 1 false (.t 134)),
  au 2 136 [0, 1] (.fa 1 (.t 4)),
  au 3 137 [0, 1] (.ld 1 false (.t 136)),
  au 4 138 (ru 4) (.mv (.t 10)),
  au 5 139 [0, 1] (.ia 1 (.t 137) (.t 138)),
  au 6 140 [0, 1] (.ld 1 false (.t 139)),
  au 7 141 [0, 1] (.bsl 1 9 [(.t 140)]),
  ao 8 142 (.app 1 9 16 (.t 135) (.t 141)),
  ao 9 143 (.fa 3 (.t 7)),
  an 10 (.st 1 (.t 143) (.t 142))]
def r49_53 : List AOper := [ao 0 144 (.fa 4 (.t 7)),
  ao 1 145 (.ld 1 false (.t 144)),
  ao 2 146 (.ld 5 true (.t 11)),
  ao 3 147 (.bsl 5 29 [(.t 146)]),
  ao 4 148 (.app 5 29 80 (.t 145) (.t 147)),
  ao 5 149 (.fa 4 (.t 7)),
  an 6 (.st 1 (.t 149) (.t 148))]
def c49_54 : ACode := .seq (.reg r49_37) (.seq c49_51 (.seq (.reg r49_52) (.reg r49_53)))
def c49_55 : ACode := .block 6 c49_54
def r49_56 : List AOper := [ao 0 97 (.mv (.t 10)),
  ao 1 98 (.bin .add (.t 97) (.k (.i 1))),
  ao 2 10 (.mv (.t 98))]
def c49_57 : ACode := .seq c49_36 (.seq c49_55 (.reg r49_56))
def c49_58 : ACode := .loop c49_57
def c49_59 : ACode := .block 5 c49_58
def c49_60 : ACode := .seq (.reg r49_33) c49_59
def c49_61 : ACode := .cond (.t 90) c49_60 .skip
def c49_62 : ACode := .seq (.reg r49_32) c49_61
def c49_63 : ACode := .cond (.t 62) c49_31 c49_62
def c49_64 : ACode := .seq (.reg r49_20) c49_63
def c49_65 : ACode := .cond (.t 22) c49_19 c49_64
def c49_66 : ACode := .seq (.reg r49_3) c49_65
def c49_67 : ACode := .block 0 c49_66
def c49_68 : ACode := .seq (.reg r49_2) c49_67
def r49_69 : List AOper := [ao 0 150 (.ld 5 true (.t 7)),
  an 1 (.st 5 (.t 6) (.t 150))]
def c49 : ACode := .seq (.reg r49_0) (.seq (.reg r49_1) (.seq c49_68 (.seq (.reg r49_69) .ret)))
def s49 : List ARes := [.cell 6 5 true]
theorem ok49 : okF Try.prog 49 151 c49 s49 := ⟨Try.f49, Try.func49, Try.ntmps49, by kernel_rfl, by kernel_rfl, by kernel_rfl⟩
def WS (ns : List ByteArray) (ks : List Kd) (ns' : List ByteArray) (ks' : List Kd) (tks : List Tr) (i : Nat) (o : Tr) : Prop :=
  TB 2000 o ∧ ∃ x k', ns'[i]? = some x ∧ ks'[i]? = some k' ∧ ((∃ (J : Nat) (k : Kd) (u : Tr), ns[J]? = some x ∧ ks[J]? = some k ∧ tks[J]? = some u ∧ Wd k k' u o ∧ ACallsF Try.prog 49 [tK k, tK k', tT u] [] (tT o)) ∨ ((∀ j : Nat, ns[j]? ≠ some x) ∧ o = noT))
def inv49 (ss : Int) (ns : List ByteArray) (ks : List Kd) (s' : Int) (ns' : List ByteArray) (ks' : List Kd) (ts tn : Int) (tx : ByteArray) (tns : List ByteArray) (tks : List Tr) (σ : St) : Prop :=
  (∃ u, σ.t 3 = .c (.ptr 3 u 0) ∧ σ.H 3 = some (.var u 26 [.v (.s (.int .i64 ss)), .v (.sl (encS ns)), .v (.sl (encKs ks))])) ∧ (∃ u, σ.t 4 = .c (.ptr 4 u 0) ∧ σ.H 4 = some (.var u 26 [.v (.s (.int .i64 s')), .v (.sl (encS ns')), .v (.sl (encKs ks'))])) ∧
  (∃ u, σ.t 5 = .c (.ptr 5 u 0) ∧ σ.H 5 = some (.var u 29 [.v (.s (.int .i64 ts)), .v (.s (.int .i64 tn)), .v (.s (.string tx)), .v (.sl (encS tns)), .v (.sl (encTs tks))])) ∧ (∃ u, σ.t 6 = .c (.ptr 6 u 0) ∧ σ.H 6 = some (.var u 29 zT))
def WSC (ks ks' : List Kd) (tks : List Tr) (i : Nat) (o : Tr) : Prop :=
  TB 2000 o ∧ ∃ k k' u, ks[0]? = some k ∧ ks'[0]? = some k' ∧ tks[i]? = some u ∧ Wd k k' u o ∧ ACallsF Try.prog 49 [tK k, tK k', tT u] [] (tT o)
def outK (s' tn : Int) (tx : ByteArray) (outs : List Tr) (i : Nat) (σ : St) : Prop :=
  ∃ u b, σ.t 7 = .c (.ptr 7 u 0) ∧ σ.H 7 = some (.var u 29 [.v (.s (.int .i64 s')), .v (.s (.int .i64 tn)), .v (.s (.string tx)), .nil0, .own 2004 b i]) ∧ σ.H 2004 = some (.arr b true 5 29 (encTs (outs.take i)))
theorem UMd_1 : (type_of% (uA c49_16.eq_1)) ∧ (type_of% (uA c49_12.eq_1)) ∧ (type_of% (uR r49_10.eq_1)) ∧ (type_of% (uA c49_11.eq_1)) ∧ (type_of% (uA c49_14.eq_1)) ∧ (type_of% (uR r49_13.eq_1)) ∧ (type_of% (uR r49_15.eq_1)) ∧ (type_of% (uA c49.eq_1)) ∧ (type_of% (uR r49_0.eq_1)) ∧ (type_of% (uR r49_1.eq_1)) ∧ (type_of% (uA c49_68.eq_1)) ∧ (type_of% (uR r49_2.eq_1)) ∧ (type_of% (uA c49_67.eq_1)) ∧ (type_of% (uA c49_66.eq_1)) ∧ (type_of% (uR r49_3.eq_1)) ∧ (type_of% (uA c49_65.eq_1)) ∧ (type_of% (uA c49_19.eq_1)) ∧ (type_of% (uA c49_8.eq_1)) ∧ (type_of% (uR r49_4.eq_1)) ∧ (type_of% (uA c49_7.eq_1)) ∧ (type_of% (uA c49_6.eq_1)) ∧ (type_of% (uR r49_5.eq_1)) ∧ (type_of% (uR r49_9.eq_1)) ∧ (type_of% (uA c49_18.eq_1)) ∧ (type_of% (uA c49_17.eq_1)) ∧ (type_of% (uA c49_64.eq_1)) ∧ (type_of% (uR r49_20.eq_1)) ∧ (type_of% (uA c49_63.eq_1)) ∧ (type_of% (uA c49_31.eq_1)) ∧ (type_of% (uR r49_21.eq_1)) ∧ (type_of% (uA c49_30.eq_1)) ∧ (type_of% (uA c49_29.eq_1)) ∧ (type_of% (uA c49_62.eq_1)) ∧ (type_of% (uR r49_32.eq_1)) ∧ (type_of% (uA c49_61.eq_1)) ∧ (type_of% (uA c49_60.eq_1)) ∧ (type_of% (uR r49_33.eq_1)) ∧ (type_of% (uA c49_59.eq_1)) ∧ (type_of% (uA c49_58.eq_1)) ∧ (type_of% (uR r49_69.eq_1)) ∧ (type_of% s49.eq_1) :=
  ⟨uA c49_16.eq_1, uA c49_12.eq_1, uR r49_10.eq_1, uA c49_11.eq_1, uA c49_14.eq_1, uR r49_13.eq_1, uR r49_15.eq_1, uA c49.eq_1, uR r49_0.eq_1, uR r49_1.eq_1, uA c49_68.eq_1, uR r49_2.eq_1, uA c49_67.eq_1, uA c49_66.eq_1, uR r49_3.eq_1, uA c49_65.eq_1, uA c49_19.eq_1, uA c49_8.eq_1, uR r49_4.eq_1, uA c49_7.eq_1, uA c49_6.eq_1, uR r49_5.eq_1, uR r49_9.eq_1, uA c49_18.eq_1, uA c49_17.eq_1, uA c49_64.eq_1, uR r49_20.eq_1, uA c49_63.eq_1, uA c49_31.eq_1, uR r49_21.eq_1, uA c49_30.eq_1, uA c49_29.eq_1, uA c49_62.eq_1, uR r49_32.eq_1, uA c49_61.eq_1, uA c49_60.eq_1, uR r49_33.eq_1, uA c49_59.eq_1, uA c49_58.eq_1, uR r49_69.eq_1, s49.eq_1⟩
theorem UMd_2 : (type_of% (uA c49_28.eq_1)) ∧ (type_of% (uA c49_24.eq_1)) ∧ (type_of% (uR r49_22.eq_1)) ∧ (type_of% (uA c49_23.eq_1)) ∧ (type_of% (uA c49_26.eq_1)) ∧ (type_of% (uR r49_25.eq_1)) ∧ (type_of% (uR r49_27.eq_1)) ∧ (type_of% (uA c49.eq_1)) ∧ (type_of% (uR r49_0.eq_1)) ∧ (type_of% (uR r49_1.eq_1)) ∧ (type_of% (uA c49_68.eq_1)) ∧ (type_of% (uR r49_2.eq_1)) ∧ (type_of% (uA c49_67.eq_1)) ∧ (type_of% (uA c49_66.eq_1)) ∧ (type_of% (uR r49_3.eq_1)) ∧ (type_of% (uA c49_65.eq_1)) ∧ (type_of% (uA c49_19.eq_1)) ∧ (type_of% (uA c49_8.eq_1)) ∧ (type_of% (uR r49_4.eq_1)) ∧ (type_of% (uA c49_7.eq_1)) ∧ (type_of% (uA c49_6.eq_1)) ∧ (type_of% (uR r49_5.eq_1)) ∧ (type_of% (uR r49_9.eq_1)) ∧ (type_of% (uA c49_18.eq_1)) ∧ (type_of% (uA c49_17.eq_1)) ∧ (type_of% (uA c49_64.eq_1)) ∧ (type_of% (uR r49_20.eq_1)) ∧ (type_of% (uA c49_63.eq_1)) ∧ (type_of% (uA c49_31.eq_1)) ∧ (type_of% (uR r49_21.eq_1)) ∧ (type_of% (uA c49_30.eq_1)) ∧ (type_of% (uA c49_29.eq_1)) ∧ (type_of% (uA c49_62.eq_1)) ∧ (type_of% (uR r49_32.eq_1)) ∧ (type_of% (uA c49_61.eq_1)) ∧ (type_of% (uA c49_60.eq_1)) ∧ (type_of% (uR r49_33.eq_1)) ∧ (type_of% (uA c49_59.eq_1)) ∧ (type_of% (uA c49_58.eq_1)) ∧ (type_of% (uR r49_69.eq_1)) ∧ (type_of% s49.eq_1) :=
  ⟨uA c49_28.eq_1, uA c49_24.eq_1, uR r49_22.eq_1, uA c49_23.eq_1, uA c49_26.eq_1, uR r49_25.eq_1, uR r49_27.eq_1, uA c49.eq_1, uR r49_0.eq_1, uR r49_1.eq_1, uA c49_68.eq_1, uR r49_2.eq_1, uA c49_67.eq_1, uA c49_66.eq_1, uR r49_3.eq_1, uA c49_65.eq_1, uA c49_19.eq_1, uA c49_8.eq_1, uR r49_4.eq_1, uA c49_7.eq_1, uA c49_6.eq_1, uR r49_5.eq_1, uR r49_9.eq_1, uA c49_18.eq_1, uA c49_17.eq_1, uA c49_64.eq_1, uR r49_20.eq_1, uA c49_63.eq_1, uA c49_31.eq_1, uR r49_21.eq_1, uA c49_30.eq_1, uA c49_29.eq_1, uA c49_62.eq_1, uR r49_32.eq_1, uA c49_61.eq_1, uA c49_60.eq_1, uR r49_33.eq_1, uA c49_59.eq_1, uA c49_58.eq_1, uR r49_69.eq_1, s49.eq_1⟩
theorem UMd_3 : (type_of% (uA c49_48.eq_1)) ∧ (type_of% (uA c49_41.eq_1)) ∧ (type_of% (uR r49_39.eq_1)) ∧ (type_of% (uA c49_40.eq_1)) ∧ (type_of% (uA c49_46.eq_1)) ∧ (type_of% (uA c49_45.eq_1)) ∧ (type_of% (uR r49_42.eq_1)) ∧ (type_of% (uA c49_44.eq_1)) ∧ (type_of% (uR r49_43.eq_1)) ∧ (type_of% (uR r49_47.eq_1)) ∧ (type_of% (uA c49.eq_1)) ∧ (type_of% (uR r49_0.eq_1)) ∧ (type_of% (uR r49_1.eq_1)) ∧ (type_of% (uA c49_68.eq_1)) ∧ (type_of% (uR r49_2.eq_1)) ∧ (type_of% (uA c49_67.eq_1)) ∧ (type_of% (uA c49_66.eq_1)) ∧ (type_of% (uR r49_3.eq_1)) ∧ (type_of% (uA c49_65.eq_1)) ∧ (type_of% (uA c49_19.eq_1)) ∧ (type_of% (uA c49_8.eq_1)) ∧ (type_of% (uR r49_4.eq_1)) ∧ (type_of% (uA c49_7.eq_1)) ∧ (type_of% (uA c49_6.eq_1)) ∧ (type_of% (uR r49_5.eq_1)) ∧ (type_of% (uR r49_9.eq_1)) ∧ (type_of% (uA c49_18.eq_1)) ∧ (type_of% (uA c49_17.eq_1)) ∧ (type_of% (uA c49_64.eq_1)) ∧ (type_of% (uR r49_20.eq_1)) ∧ (type_of% (uA c49_63.eq_1)) ∧ (type_of% (uA c49_31.eq_1)) ∧ (type_of% (uR r49_21.eq_1)) ∧ (type_of% (uA c49_30.eq_1)) ∧ (type_of% (uA c49_29.eq_1)) ∧ (type_of% (uA c49_62.eq_1)) ∧ (type_of% (uR r49_32.eq_1)) ∧ (type_of% (uA c49_61.eq_1)) ∧ (type_of% (uA c49_60.eq_1)) ∧ (type_of% (uR r49_33.eq_1)) ∧ (type_of% (uA c49_59.eq_1)) ∧ (type_of% (uA c49_58.eq_1)) ∧ (type_of% (uR r49_69.eq_1)) ∧ (type_of% s49.eq_1) :=
  ⟨uA c49_48.eq_1, uA c49_41.eq_1, uR r49_39.eq_1, uA c49_40.eq_1, uA c49_46.eq_1, uA c49_45.eq_1, uR r49_42.eq_1, uA c49_44.eq_1, uR r49_43.eq_1, uR r49_47.eq_1, uA c49.eq_1, uR r49_0.eq_1, uR r49_1.eq_1, uA c49_68.eq_1, uR r49_2.eq_1, uA c49_67.eq_1, uA c49_66.eq_1, uR r49_3.eq_1, uA c49_65.eq_1, uA c49_19.eq_1, uA c49_8.eq_1, uR r49_4.eq_1, uA c49_7.eq_1, uA c49_6.eq_1, uR r49_5.eq_1, uR r49_9.eq_1, uA c49_18.eq_1, uA c49_17.eq_1, uA c49_64.eq_1, uR r49_20.eq_1, uA c49_63.eq_1, uA c49_31.eq_1, uR r49_21.eq_1, uA c49_30.eq_1, uA c49_29.eq_1, uA c49_62.eq_1, uR r49_32.eq_1, uA c49_61.eq_1, uA c49_60.eq_1, uR r49_33.eq_1, uA c49_59.eq_1, uA c49_58.eq_1, uR r49_69.eq_1, s49.eq_1⟩
section
variable (ss : Int) (ns : List ByteArray) (ks : List Kd) (s' : Int) (ns' : List ByteArray) (ks' : List Kd) (ts tn : Int) (tx : ByteArray) (tns : List ByteArray) (tks outs : List Tr)
theorem widenS_loop0 (hl : outs.length = tks.length) (hn : tks.length ≤ 2000) (hW : ∀ i, i < tks.length → ∃ o, outs[i]? = some o ∧ WSC ks ks' tks i o) {X : Ctx} {Q : Exit → St → Prop} {t : Nat → T} {H : HMap} {c : Nat}
    (h : inv49 ss ns ks s' ns' ks' ts tn tx tns tks ⟨t, H, c⟩ ∧ outK s' tn tx outs 0 ⟨t, H, c⟩ ∧ t 8 = .i (0 : Nat)) (hQ : ∀ t H c, inv49 ss ns ks s' ns' ks' ts tn tx tns tks ⟨t, H, c⟩ → outK s' tn tx outs tks.length ⟨t, H, c⟩ → Q (.exit 1) ⟨t, H, c⟩) : AW Try.prog X (.loop c49_16) Q ⟨t, H, c⟩ := by
  refine AW.upto tks.length (fun i σ => inv49 ss ns ks s' ns' ks' ts tn tx tns tks σ ∧ outK s' tn tx outs i σ ∧ σ.t 8 = .i i) h fun i t H c hi h => ?_
  have hKI := h
  obtain ⟨⟨⟨u3, e3, eH3⟩, ⟨u4, e4, eH4⟩, ⟨u5, e5, eH5⟩, ⟨u6, e6, eH6⟩⟩, ⟨u7, b7, e7, eH7, eHb⟩, e8⟩ := h
  simp only [T.c, T.i, zT] at e3 eH3 e4 eH4 e5 eH5 e6 eH6 e7 eH7 eHb e8
  by_cases hlt : i < tks.length
  · have g1 : (i : Int) < tks.length := by omega
    have gz : (0 : Int) ≤ i := by omega
    have gw : IntKind.i64.wrap ((i : Int) + 1) = ((i + 1 : Nat) : Int) := wrap64 (x := (i : Int) + 1) ⟨by omega, by omega⟩
    have q3 : (i + 1) * 80 ≤ 140737488355328 := by omega
    have q4 : i ≤ 9223372036854775806 := by omega
    have hlr : (encTs (outs.take i)).length = i := by rw [encTs_len, List.length_take]; omega
    have htk : List.take i (encTs (outs.take i)) = encTs (outs.take i) := List.take_of_length_le (by omega)
    obtain ⟨o, ho, hBo, k, k', u, hk, hk', hu, hWd, hC⟩ := hW i hlt
    have ek := encKs_at hk
    have ek' := encKs_at hk'
    have eu := encTs_at hu
    have hnew : encTs (outs.take (i + 1)) = encTs (outs.take i) ++ [encT o] := by rw [List.take_add_one, ho]; exact encTs_snoc _ _
    simp only [RUN, core, T.c, T.s, T.b, T.i, sBin, sInt, sUn, isShift, asInt, P1.cells, loadT, ptrC, storeT, putC, fillP, Nat.reduceAdd, reduceIte, Nat.reduceEqDiff, Nat.reduceLT, Nat.reduceLeDiff, reduceCtorEq, eq_self, FIT, lendCs_map, verC_map, FinC, resPs, resP, lendPl, lendCs, lendC, sealC, partsT, finHs, tupT, verT, verP, verC, verB, verAt, Blk.ver, handsAre, forall_const, CHT, disj, Nat.reduceBEq, beq_self_eq_true, APT, srcOf, sealPs, sealCs, sealC, List.mem_singleton, forall_eq, ALT, UMd_1, e3, eH3, e4, eH4, e5, eH5, e7, eH7, e8, encTs_len, g1, gz, ek, ek', eu, Int.toNat_natCast, Int.toNat_zero, Int.le_refl, List.length_map, encK_len, takeK, encT_len, takeT, Nat.le_refl]
    refine callC hC rfl rfl (by simp [closedA, closedP, closedC]) (closed_map _) ?_
    simp only [RUN, core, T.c, T.s, T.b, T.i, sBin, sInt, sUn, isShift, asInt, P1.cells, loadT, ptrC, storeT, putC, fillP, Nat.reduceAdd, reduceIte, Nat.reduceEqDiff, Nat.reduceLT, Nat.reduceLeDiff, reduceCtorEq, eq_self, FIT, lendCs_map, verC_map, FinC, resPs, resP, lendPl, lendCs, lendC, sealC, partsT, finHs, tupT, verT, verP, verC, verB, verAt, Blk.ver, handsAre, forall_const, CHT, disj, Nat.reduceBEq, beq_self_eq_true, APT, srcOf, sealPs, sealCs, sealC, List.mem_singleton, forall_eq, ALT, UMd_1, e7, eH7, eHb, e8, gw, hlr, htk, q3, q4, List.length_map, encT_len, takeT, Nat.le_refl]
    refine ⟨hlt, ⟨⟨u3, e3, eH3⟩, ⟨u4, e4, eH4⟩, ⟨u5, e5, eH5⟩, ⟨u6, e6, eH6⟩⟩, ?_⟩
    unfold outK
    rw [hnew]
    exact ⟨u7, _, e7, rfl, rfl⟩
  · have hin : i = tks.length := by omega
    subst hin
    have g1 : ¬ ((tks.length : Nat) : Int) < tks.length := by omega
    simp only [RUN, core, T.c, T.s, T.b, T.i, sBin, sInt, sUn, isShift, asInt, P1.cells, loadT, ptrC, storeT, putC, fillP, Nat.reduceAdd, reduceIte, Nat.reduceEqDiff, Nat.reduceLT, Nat.reduceLeDiff, reduceCtorEq, eq_self, FIT, lendCs_map, verC_map, FinC, resPs, resP, lendPl, lendCs, lendC, sealC, partsT, finHs, tupT, verT, verP, verC, verB, verAt, Blk.ver, handsAre, forall_const, CHT, disj, Nat.reduceBEq, beq_self_eq_true, APT, srcOf, sealPs, sealCs, sealC, List.mem_singleton, forall_eq, ALT, UMd_1, e5, eH5, e8, encTs_len, g1]
    exact hQ _ _ _ hKI.1 hKI.2.1
theorem widenS_loop1 (hl : outs.length = tks.length) (hn : tks.length ≤ 2000) (hW : ∀ i, i < tks.length → ∃ o, outs[i]? = some o ∧ WSC ks ks' tks i o) {X : Ctx} {Q : Exit → St → Prop} {t : Nat → T} {H : HMap} {c : Nat}
    (h : inv49 ss ns ks s' ns' ks' ts tn tx tns tks ⟨t, H, c⟩ ∧ outK s' tn tx outs 0 ⟨t, H, c⟩ ∧ t 9 = .i (0 : Nat)) (hQ : ∀ t H c, inv49 ss ns ks s' ns' ks' ts tn tx tns tks ⟨t, H, c⟩ → outK s' tn tx outs tks.length ⟨t, H, c⟩ → Q (.exit 3) ⟨t, H, c⟩) : AW Try.prog X (.loop c49_28) Q ⟨t, H, c⟩ := by
  refine AW.upto tks.length (fun i σ => inv49 ss ns ks s' ns' ks' ts tn tx tns tks σ ∧ outK s' tn tx outs i σ ∧ σ.t 9 = .i i) h fun i t H c hi h => ?_
  have hKI := h
  obtain ⟨⟨⟨u3, e3, eH3⟩, ⟨u4, e4, eH4⟩, ⟨u5, e5, eH5⟩, ⟨u6, e6, eH6⟩⟩, ⟨u7, b7, e7, eH7, eHb⟩, e9⟩ := h
  simp only [T.c, T.i, zT] at e3 eH3 e4 eH4 e5 eH5 e6 eH6 e7 eH7 eHb e9
  by_cases hlt : i < tks.length
  · have g1 : (i : Int) < tks.length := by omega
    have gz : (0 : Int) ≤ i := by omega
    have gw : IntKind.i64.wrap ((i : Int) + 1) = ((i + 1 : Nat) : Int) := wrap64 (x := (i : Int) + 1) ⟨by omega, by omega⟩
    have q3 : (i + 1) * 80 ≤ 140737488355328 := by omega
    have q4 : i ≤ 9223372036854775806 := by omega
    have hlr : (encTs (outs.take i)).length = i := by rw [encTs_len, List.length_take]; omega
    have htk : List.take i (encTs (outs.take i)) = encTs (outs.take i) := List.take_of_length_le (by omega)
    obtain ⟨o, ho, hBo, k, k', u, hk, hk', hu, hWd, hC⟩ := hW i hlt
    have ek := encKs_at hk
    have ek' := encKs_at hk'
    have eu := encTs_at hu
    have hnew : encTs (outs.take (i + 1)) = encTs (outs.take i) ++ [encT o] := by rw [List.take_add_one, ho]; exact encTs_snoc _ _
    simp only [RUN, core, T.c, T.s, T.b, T.i, sBin, sInt, sUn, isShift, asInt, P1.cells, loadT, ptrC, storeT, putC, fillP, Nat.reduceAdd, reduceIte, Nat.reduceEqDiff, Nat.reduceLT, Nat.reduceLeDiff, reduceCtorEq, eq_self, FIT, lendCs_map, verC_map, FinC, resPs, resP, lendPl, lendCs, lendC, sealC, partsT, finHs, tupT, verT, verP, verC, verB, verAt, Blk.ver, handsAre, forall_const, CHT, disj, Nat.reduceBEq, beq_self_eq_true, APT, srcOf, sealPs, sealCs, sealC, List.mem_singleton, forall_eq, ALT, UMd_2, e3, eH3, e4, eH4, e5, eH5, e7, eH7, e9, encTs_len, g1, gz, ek, ek', eu, Int.toNat_natCast, Int.toNat_zero, Int.le_refl, List.length_map, encK_len, takeK, encT_len, takeT, Nat.le_refl]
    refine callC hC rfl rfl (by simp [closedA, closedP, closedC]) (closed_map _) ?_
    simp only [RUN, core, T.c, T.s, T.b, T.i, sBin, sInt, sUn, isShift, asInt, P1.cells, loadT, ptrC, storeT, putC, fillP, Nat.reduceAdd, reduceIte, Nat.reduceEqDiff, Nat.reduceLT, Nat.reduceLeDiff, reduceCtorEq, eq_self, FIT, lendCs_map, verC_map, FinC, resPs, resP, lendPl, lendCs, lendC, sealC, partsT, finHs, tupT, verT, verP, verC, verB, verAt, Blk.ver, handsAre, forall_const, CHT, disj, Nat.reduceBEq, beq_self_eq_true, APT, srcOf, sealPs, sealCs, sealC, List.mem_singleton, forall_eq, ALT, UMd_2, e7, eH7, eHb, e9, gw, hlr, htk, q3, q4, List.length_map, encT_len, takeT, Nat.le_refl]
    refine ⟨hlt, ⟨⟨u3, e3, eH3⟩, ⟨u4, e4, eH4⟩, ⟨u5, e5, eH5⟩, ⟨u6, e6, eH6⟩⟩, ?_⟩
    unfold outK
    rw [hnew]
    exact ⟨u7, _, e7, rfl, rfl⟩
  · have hin : i = tks.length := by omega
    subst hin
    have g1 : ¬ ((tks.length : Nat) : Int) < tks.length := by omega
    simp only [RUN, core, T.c, T.s, T.b, T.i, sBin, sInt, sUn, isShift, asInt, P1.cells, loadT, ptrC, storeT, putC, fillP, Nat.reduceAdd, reduceIte, Nat.reduceEqDiff, Nat.reduceLT, Nat.reduceLeDiff, reduceCtorEq, eq_self, FIT, lendCs_map, verC_map, FinC, resPs, resP, lendPl, lendCs, lendC, sealC, partsT, finHs, tupT, verT, verP, verC, verB, verAt, Blk.ver, handsAre, forall_const, CHT, disj, Nat.reduceBEq, beq_self_eq_true, APT, srcOf, sealPs, sealCs, sealC, List.mem_singleton, forall_eq, ALT, UMd_2, e5, eH5, e9, encTs_len, g1]
    exact hQ _ _ _ hKI.1 hKI.2.1
def outF (ns' : List ByteArray) (outs : List Tr) (i : Nat) (σ : St) : Prop :=
  (∃ u a b, σ.t 7 = .c (.ptr 7 u 0) ∧ σ.H 7 = some (.var u 29 [.v (.s (.int .i64 5)), .v (.s (.int .i64 0)), .v (.s (.string ⟨#[]⟩)), .own 2003 a i, .own 2004 b i]) ∧ σ.H 2003 = some (.arr a true 1 9 (encS (ns'.take i))) ∧ σ.H 2004 = some (.arr b true 5 29 (encTs (outs.take i)))) ∧ σ.t 10 = .i i
def kidV (ns : List ByteArray) (x : ByteArray) (o : Tr) (j : Nat) (σ : St) : Prop :=
  (∃ u, σ.t 11 = .c (.ptr 11 u 0) ∧ (((∀ l, l < j → ns[l]? ≠ some x) ∧ σ.H 11 = some (.var u 29 [.v (.s (.int .i64 6)), .v (.s (.int .i64 0)), .v (.s (.string ⟨#[]⟩)), .nil0, .nil0])) ∨
    ((∃ l, l < j ∧ ns[l]? = some x) ∧ σ.H 11 = some (.var u 29 ((encT o).map .v))))) ∧ σ.t 12 = .i j
theorem widenS_inner (hr : RiseP ns) (hn : ns.length ≤ 2000) (i : Nat) (o : Tr) (x : ByteArray) (hx : ns'[i]? = some x) (hW : WS ns ks ns' ks' tks i o) {X : Ctx} {Q : Exit → St → Prop} {t : Nat → T} {H : HMap} {c : Nat}
    (h : inv49 ss ns ks s' ns' ks' ts tn tx tns tks ⟨t, H, c⟩ ∧ outF ns' outs i ⟨t, H, c⟩ ∧ kidV ns x o 0 ⟨t, H, c⟩)
    (hQ : ∀ t H c, inv49 ss ns ks s' ns' ks' ts tn tx tns tks ⟨t, H, c⟩ → outF ns' outs i ⟨t, H, c⟩ → kidV ns x o ns.length ⟨t, H, c⟩ → Q (.exit 7) ⟨t, H, c⟩) : AW Try.prog X (.loop c49_48) Q ⟨t, H, c⟩ := by
  obtain ⟨hBo, x2, k', hx2, hk', hcase⟩ := hW
  rw [hx] at hx2; cases hx2
  refine AW.upto ns.length (fun j σ => inv49 ss ns ks s' ns' ks' ts tn tx tns tks σ ∧ outF ns' outs i σ ∧ kidV ns x o j σ) h fun j t H c hi h => ?_
  have hKI := h
  obtain ⟨⟨⟨u3, e3, eH3⟩, ⟨u4, e4, eH4⟩, ⟨u5, e5, eH5⟩, ⟨u6, e6, eH6⟩⟩, ⟨⟨u7, a7, b7, e7, eH7, eHa, eHb⟩, e10⟩, ⟨⟨u11, e11, h11⟩, e12⟩⟩ := h
  simp only [T.c, T.i, zT] at e3 eH3 e4 eH4 e5 eH5 e6 eH6 e7 eH7 eHa eHb e10 e11 h11 e12
  by_cases hlt : j < ns.length
  · have g1 : (j : Int) < ns.length := by omega
    have gz : (0 : Int) ≤ j := by omega
    have gzi : (0 : Int) ≤ i := by omega
    have gw : IntKind.i64.wrap ((j : Int) + 1) = ((j + 1 : Nat) : Int) := wrap64 (x := (j : Int) + 1) ⟨by omega, by omega⟩
    obtain ⟨y, hy⟩ : ∃ y, ns[j]? = some y := ⟨_, List.getElem?_eq_getElem hlt⟩
    have es := encS_at hy
    have es' := encS_at hx
    have ek' := encKs_at hk'
    by_cases hyx : y = x
    · subst hyx
      rcases hcase with ⟨J, k, u, hJ, hk, hu, hWd, hC⟩ | ⟨hno, _⟩
      case inr => exact absurd hy (hno j)
      have hJj := rise_inj hr hJ hy
      subst hJj
      have ek := encKs_at hk
      have eu := encTs_at hu
      have hfresh : H 11 = some (.var u11 29 [.v (.s (.int .i64 6)), .v (.s (.int .i64 0)), .v (.s (.string ⟨#[]⟩)), .nil0, .nil0]) := by
        rcases h11 with ⟨_, h⟩ | ⟨⟨l, hl, h⟩, _⟩
        · exact h
        · have := rise_inj hr h hy; omega
      simp only [RUN, core, T.c, T.s, T.b, T.i, sBin, sInt, sUn, isShift, asInt, P1.cells, loadT, ptrC, storeT, putC, fillP, Nat.reduceAdd, reduceIte, Nat.reduceEqDiff, Nat.reduceLT, Nat.reduceLeDiff, reduceCtorEq, eq_self, FIT, lendCs_map, verC_map, FinC, resPs, resP, lendPl, lendCs, lendC, sealC, partsT, finHs, tupT, verT, verP, verC, verB, verAt, Blk.ver, handsAre, forall_const, CHT, disj, Nat.reduceBEq, beq_self_eq_true, APT, srcOf, sealPs, sealCs, sealC, List.mem_singleton, forall_eq, ALT, UMd_3, e3, eH3, e4, eH4, e5, eH5, e10, e12, encS_len, g1, gz, gzi, es, es', ek, ek', eu, sStr, str_beq, Int.toNat_natCast, List.length_map, encK_len, takeK, encT_len, takeT, Nat.le_refl]
      refine callC hC rfl rfl (by simp [closedA, closedP, closedC]) (closed_map _) ?_
      simp only [RUN, core, T.c, T.s, T.b, T.i, sBin, sInt, sUn, isShift, asInt, P1.cells, loadT, ptrC, storeT, putC, fillP, Nat.reduceAdd, reduceIte, Nat.reduceEqDiff, Nat.reduceLT, Nat.reduceLeDiff, reduceCtorEq, eq_self, FIT, lendCs_map, verC_map, FinC, resPs, resP, lendPl, lendCs, lendC, sealC, partsT, finHs, tupT, verT, verP, verC, verB, verAt, Blk.ver, handsAre, forall_const, CHT, disj, Nat.reduceBEq, beq_self_eq_true, APT, srcOf, sealPs, sealCs, sealC, List.mem_singleton, forall_eq, ALT, UMd_3, e11, hfresh, e12, gw, List.length_map, encT_len, takeT, Nat.le_refl]
      exact ⟨hlt, ⟨⟨u3, e3, eH3⟩, ⟨u4, e4, eH4⟩, ⟨u5, e5, eH5⟩, ⟨u6, e6, eH6⟩⟩, ⟨⟨u7, a7, b7, e7, eH7, eHa, eHb⟩, e10⟩, ⟨⟨u11, e11, .inr ⟨⟨J, by omega, hy⟩, rfl⟩⟩, rfl⟩⟩
    · simp only [RUN, core, T.c, T.s, T.b, T.i, sBin, sInt, sUn, isShift, asInt, P1.cells, loadT, ptrC, storeT, putC, fillP, Nat.reduceAdd, reduceIte, Nat.reduceEqDiff, Nat.reduceLT, Nat.reduceLeDiff, reduceCtorEq, eq_self, FIT, lendCs_map, verC_map, FinC, resPs, resP, lendPl, lendCs, lendC, sealC, partsT, finHs, tupT, verT, verP, verC, verB, verAt, Blk.ver, handsAre, forall_const, CHT, disj, Nat.reduceBEq, beq_self_eq_true, APT, srcOf, sealPs, sealCs, sealC, List.mem_singleton, forall_eq, ALT, UMd_3, e3, eH3, e4, eH4, e10, e12, encS_len, g1, gz, gzi, es, es', sStr, str_beq, hyx, gw, Int.toNat_natCast]
      refine ⟨hlt, ⟨⟨u3, e3, eH3⟩, ⟨u4, e4, eH4⟩, ⟨u5, e5, eH5⟩, ⟨u6, e6, eH6⟩⟩, ⟨⟨u7, a7, b7, e7, eH7, eHa, eHb⟩, e10⟩, ⟨⟨u11, e11, ?_⟩, rfl⟩⟩
      rcases h11 with ⟨hno, h⟩ | ⟨⟨l, hl, h1⟩, h⟩
      · refine .inl ⟨fun l hl => ?_, h⟩
        rcases Nat.lt_succ_iff_lt_or_eq.1 hl with hl | rfl
        · exact hno l hl
        · rw [hy]; intro e; cases e; exact hyx rfl
      · exact .inr ⟨⟨l, by omega, h1⟩, h⟩
  · have hin : j = ns.length := by omega
    subst hin
    have g1 : ¬ ((ns.length : Nat) : Int) < ns.length := by omega
    simp only [RUN, core, T.c, T.s, T.b, T.i, sBin, sInt, sUn, isShift, asInt, P1.cells, loadT, ptrC, storeT, putC, fillP, Nat.reduceAdd, reduceIte, Nat.reduceEqDiff, Nat.reduceLT, Nat.reduceLeDiff, reduceCtorEq, eq_self, FIT, lendCs_map, verC_map, FinC, resPs, resP, lendPl, lendCs, lendC, sealC, partsT, finHs, tupT, verT, verP, verC, verB, verAt, Blk.ver, handsAre, forall_const, CHT, disj, Nat.reduceBEq, beq_self_eq_true, APT, srcOf, sealPs, sealCs, sealC, List.mem_singleton, forall_eq, ALT, UMd_3, e3, eH3, e12, encS_len, g1]
    exact hQ _ _ _ hKI.1 hKI.2.1 hKI.2.2
end
end Go.V
set_option linter.unusedSimpArgs false
namespace Go.V
open Go.Proofs
theorem encS_take1 {ns : List ByteArray} {i : Nat} {x : ByteArray} (h : ns[i]? = some x) : encS (ns.take (i + 1)) = encS (ns.take i) ++ [[.s (.string x)]] := by rw [List.take_add_one, h]; exact encS_snoc _ _
theorem encTs_take1 {ks : List Tr} {i : Nat} {k : Tr} (h : ks[i]? = some k) : encTs (ks.take (i + 1)) = encTs (ks.take i) ++ [encT k] := by rw [List.take_add_one, h]; exact encTs_snoc _ _
def invO (ss : Int) (ns : List ByteArray) (ks : List Kd) (s' : Int) (ns' : List ByteArray) (ks' : List Kd) (ts tn : Int) (tx : ByteArray) (tns : List ByteArray) (tks outs : List Tr) (i : Nat) (σ : St) : Prop :=
  inv49 ss ns ks s' ns' ks' ts tn tx tns tks σ ∧ outF ns' outs i σ
theorem UMe_1 : (type_of% (uA c49_57.eq_1)) ∧ (type_of% (uA c49_36.eq_1)) ∧ (type_of% (uR r49_34.eq_1)) ∧ (type_of% (uA c49_35.eq_1)) ∧ (type_of% (uA c49_55.eq_1)) ∧ (type_of% (uA c49_54.eq_1)) ∧ (type_of% (uR r49_37.eq_1)) ∧ (type_of% (uA c49_51.eq_1)) ∧ (type_of% (uR r49_38.eq_1)) ∧ (type_of% (uA c49_50.eq_1)) ∧ (type_of% (uA c49_49.eq_1)) ∧ (type_of% (uR r49_52.eq_1)) ∧ (type_of% (uR r49_53.eq_1)) ∧ (type_of% (uR r49_56.eq_1)) ∧ (type_of% (uA c49.eq_1)) ∧ (type_of% (uR r49_0.eq_1)) ∧ (type_of% (uR r49_1.eq_1)) ∧ (type_of% (uA c49_68.eq_1)) ∧ (type_of% (uR r49_2.eq_1)) ∧ (type_of% (uA c49_67.eq_1)) ∧ (type_of% (uA c49_66.eq_1)) ∧ (type_of% (uR r49_3.eq_1)) ∧ (type_of% (uA c49_65.eq_1)) ∧ (type_of% (uA c49_19.eq_1)) ∧ (type_of% (uA c49_8.eq_1)) ∧ (type_of% (uR r49_4.eq_1)) ∧ (type_of% (uA c49_7.eq_1)) ∧ (type_of% (uA c49_6.eq_1)) ∧ (type_of% (uR r49_5.eq_1)) ∧ (type_of% (uR r49_9.eq_1)) ∧ (type_of% (uA c49_18.eq_1)) ∧ (type_of% (uA c49_17.eq_1)) ∧ (type_of% (uA c49_64.eq_1)) ∧ (type_of% (uR r49_20.eq_1)) ∧ (type_of% (uA c49_63.eq_1)) ∧ (type_of% (uA c49_31.eq_1)) ∧ (type_of% (uR r49_21.eq_1)) ∧ (type_of% (uA c49_30.eq_1)) ∧ (type_of% (uA c49_29.eq_1)) ∧ (type_of% (uA c49_62.eq_1)) ∧ (type_of% (uR r49_32.eq_1)) ∧ (type_of% (uA c49_61.eq_1)) ∧ (type_of% (uA c49_60.eq_1)) ∧ (type_of% (uR r49_33.eq_1)) ∧ (type_of% (uA c49_59.eq_1)) ∧ (type_of% (uA c49_58.eq_1)) ∧ (type_of% (uR r49_69.eq_1)) ∧ (type_of% s49.eq_1) :=
  ⟨uA c49_57.eq_1, uA c49_36.eq_1, uR r49_34.eq_1, uA c49_35.eq_1, uA c49_55.eq_1, uA c49_54.eq_1, uR r49_37.eq_1, uA c49_51.eq_1, uR r49_38.eq_1, uA c49_50.eq_1, uA c49_49.eq_1, uR r49_52.eq_1, uR r49_53.eq_1, uR r49_56.eq_1, uA c49.eq_1, uR r49_0.eq_1, uR r49_1.eq_1, uA c49_68.eq_1, uR r49_2.eq_1, uA c49_67.eq_1, uA c49_66.eq_1, uR r49_3.eq_1, uA c49_65.eq_1, uA c49_19.eq_1, uA c49_8.eq_1, uR r49_4.eq_1, uA c49_7.eq_1, uA c49_6.eq_1, uR r49_5.eq_1, uR r49_9.eq_1, uA c49_18.eq_1, uA c49_17.eq_1, uA c49_64.eq_1, uR r49_20.eq_1, uA c49_63.eq_1, uA c49_31.eq_1, uR r49_21.eq_1, uA c49_30.eq_1, uA c49_29.eq_1, uA c49_62.eq_1, uR r49_32.eq_1, uA c49_61.eq_1, uA c49_60.eq_1, uR r49_33.eq_1, uA c49_59.eq_1, uA c49_58.eq_1, uR r49_69.eq_1, s49.eq_1⟩
set_option maxHeartbeats 1000000 in
theorem widenS_outer (ss : Int) (ns : List ByteArray) (ks : List Kd) (s' : Int) (ns' : List ByteArray) (ks' : List Kd) (ts tn : Int) (tx : ByteArray) (tns : List ByteArray) (tks outs : List Tr) (hr : RiseP ns) (hn : ns.length ≤ 2000) (hl : outs.length = ns'.length) (hn' : ns'.length ≤ 2000) (hW : ∀ i, i < ns'.length → ∃ o, outs[i]? = some o ∧ WS ns ks ns' ks' tks i o) {X : Ctx} {Q : Exit → St → Prop} {t : Nat → T} {H : HMap} {c : Nat}
    (h : invO ss ns ks s' ns' ks' ts tn tx tns tks outs 0 ⟨t, H, c⟩) (hQ : ∀ t H c, invO ss ns ks s' ns' ks' ts tn tx tns tks outs ns'.length ⟨t, H, c⟩ → Q (.exit 5) ⟨t, H, c⟩) : AW Try.prog X (.loop c49_57) Q ⟨t, H, c⟩ := by
  refine AW.upto ns'.length (invO ss ns ks s' ns' ks' ts tn tx tns tks outs) h fun i t H c hi h => ?_
  have hKI := h
  obtain ⟨⟨⟨u3, e3, eH3⟩, ⟨u4, e4, eH4⟩, ⟨u5, e5, eH5⟩, ⟨u6, e6, eH6⟩⟩, ⟨⟨u7, a7, b7, e7, eH7, eHa, eHb⟩, e10⟩⟩ := h
  simp only [T.c, T.i, zT] at e3 eH3 e4 eH4 e5 eH5 e6 eH6 e7 eH7 eHa eHb e10
  by_cases hlt : i < ns'.length
  · have g1 : (i : Int) < ns'.length := by omega
    obtain ⟨o, ho, hWo⟩ := hW i hlt
    obtain ⟨hBo, x, k', hx, hk', hcase⟩ := hWo
    simp only [RUN, core, T.c, T.s, T.b, T.i, sBin, sInt, sUn, isShift, asInt, P1.cells, loadT, ptrC, storeT, putC, fillP, Nat.reduceAdd, reduceIte, Nat.reduceEqDiff, Nat.reduceLT, Nat.reduceLeDiff, reduceCtorEq, eq_self, FIT, lendCs_map, verC_map, FinC, resPs, resP, lendPl, lendCs, lendC, sealC, partsT, finHs, tupT, verT, verP, verC, verB, verAt, Blk.ver, handsAre, forall_const, CHT, disj, Nat.reduceBEq, beq_self_eq_true, APT, srcOf, sealPs, sealCs, sealC, List.mem_singleton, forall_eq, ALT, UMe_1, e4, eH4, e10, encS_len, g1]
    refine widenS_inner ss ns ks s' ns' ks' ts tn tx tns tks outs hr hn i o x hx ⟨hBo, x, k', hx, hk', hcase⟩ ?_ fun t H c h1 h2 h3 => ?_
    · unfold inv49 outF kidV
      exact ⟨⟨⟨u3, e3, eH3⟩, ⟨u4, e4, eH4⟩, ⟨u5, e5, eH5⟩, ⟨u6, e6, eH6⟩⟩, ⟨⟨u7, a7, b7, e7, eH7, eHa, eHb⟩, e10⟩, ⟨⟨_, rfl, .inl ⟨fun l hl => absurd hl (Nat.not_lt_zero l), rfl⟩⟩, rfl⟩⟩
    clear e3 eH3 e4 eH4 e5 eH5 e6 eH6 e7 eH7 eHa eHb e10
    obtain ⟨⟨u3, e3, eH3⟩, ⟨u4, e4, eH4⟩, ⟨u5, e5, eH5⟩, ⟨u6, e6, eH6⟩⟩ := h1
    obtain ⟨⟨u7, a7, b7, e7, eH7, eHa, eHb⟩, e10⟩ := h2
    obtain ⟨⟨u11, e11, h11⟩, e12⟩ := h3
    simp only [T.c, T.i, zT] at e3 eH3 e4 eH4 e5 eH5 e6 eH6 e7 eH7 eHa eHb e10 e11 h11 e12
    have gz : (0 : Int) ≤ i := by omega
    have gw : IntKind.i64.wrap ((i : Int) + 1) = ((i + 1 : Nat) : Int) := wrap64 (x := (i : Int) + 1) ⟨by omega, by omega⟩
    have es := encS_at hx
    have q1 : (i + 1) * 16 ≤ 140737488355328 := by omega
    have q3 : (i + 1) * 80 ≤ 140737488355328 := by omega
    have q4 : i ≤ 9223372036854775806 := by omega
    have hlr : (encTs (outs.take i)).length = i := by rw [encTs_len, List.length_take]; omega
    have htk : List.take i (encTs (outs.take i)) = encTs (outs.take i) := List.take_of_length_le (by omega)
    have hls : (encS (ns'.take i)).length = i := by rw [encS_len, List.length_take]; omega
    have hts : List.take i (encS (ns'.take i)) = encS (ns'.take i) := List.take_of_length_le (by omega)
    have k5 := encS_take1 hx
    have k6 := encTs_take1 ho
    rcases h11 with ⟨hno, eH11⟩ | ⟨⟨l, hl2, hlx⟩, eH11⟩
    · have hoT : o = noT := by
        rcases hcase with ⟨J, _, _, hJ, _⟩ | ⟨_, h⟩
        · exact absurd hJ (hno J (List.getElem?_eq_some_iff.1 hJ).1)
        · exact h
      subst hoT
      rw [enc_noT] at k6
      simp only [RUN, core, T.c, T.s, T.b, T.i, sBin, sInt, sUn, isShift, asInt, P1.cells, loadT, ptrC, storeT, putC, fillP, Nat.reduceAdd, reduceIte, Nat.reduceEqDiff, Nat.reduceLT, Nat.reduceLeDiff, reduceCtorEq, eq_self, FIT, lendCs_map, verC_map, FinC, resPs, resP, lendPl, lendCs, lendC, sealC, partsT, finHs, tupT, verT, verP, verC, verB, verAt, Blk.ver, handsAre, forall_const, CHT, disj, Nat.reduceBEq, beq_self_eq_true, APT, srcOf, sealPs, sealCs, sealC, List.mem_singleton, forall_eq, ALT, UMe_1, e4, eH4, e7, eH7, eHa, eHb, e10, e11, eH11, gz, es, Int.toNat_natCast, q1, q3, q4, gw, hlr, htk, hls, hts]
      unfold invO inv49 outF
      rw [k5, k6]
      exact ⟨hlt, ⟨⟨u3, e3, eH3⟩, ⟨u4, e4, eH4⟩, ⟨u5, e5, eH5⟩, ⟨u6, e6, eH6⟩⟩, ⟨⟨u7, _, _, e7, rfl, rfl, rfl⟩, rfl⟩⟩
    · simp only [RUN, core, T.c, T.s, T.b, T.i, sBin, sInt, sUn, isShift, asInt, P1.cells, loadT, ptrC, storeT, putC, fillP, Nat.reduceAdd, reduceIte, Nat.reduceEqDiff, Nat.reduceLT, Nat.reduceLeDiff, reduceCtorEq, eq_self, FIT, lendCs_map, verC_map, FinC, resPs, resP, lendPl, lendCs, lendC, sealC, partsT, finHs, tupT, verT, verP, verC, verB, verAt, Blk.ver, handsAre, forall_const, CHT, disj, Nat.reduceBEq, beq_self_eq_true, APT, srcOf, sealPs, sealCs, sealC, List.mem_singleton, forall_eq, ALT, UMe_1, e4, eH4, e7, eH7, eHa, eHb, e10, e11, eH11, gz, es, Int.toNat_natCast, q1, q3, q4, gw, hlr, htk, hls, hts, List.length_map, encT_len, takeT, Nat.le_refl]
      unfold invO inv49 outF
      rw [k5, k6]
      exact ⟨hlt, ⟨⟨u3, e3, eH3⟩, ⟨u4, e4, eH4⟩, ⟨u5, e5, eH5⟩, ⟨u6, e6, eH6⟩⟩, ⟨⟨u7, _, _, e7, rfl, rfl, rfl⟩, rfl⟩⟩
  · have hin : i = ns'.length := by omega
    subst hin
    have g1 : ¬ ((ns'.length : Nat) : Int) < ns'.length := by omega
    simp only [RUN, core, T.c, T.s, T.b, T.i, sBin, sInt, sUn, isShift, asInt, P1.cells, loadT, ptrC, storeT, putC, fillP, Nat.reduceAdd, reduceIte, Nat.reduceEqDiff, Nat.reduceLT, Nat.reduceLeDiff, reduceCtorEq, eq_self, FIT, lendCs_map, verC_map, FinC, resPs, resP, lendPl, lendCs, lendC, sealC, partsT, finHs, tupT, verT, verP, verC, verB, verAt, Blk.ver, handsAre, forall_const, CHT, disj, Nat.reduceBEq, beq_self_eq_true, APT, srcOf, sealPs, sealCs, sealC, List.mem_singleton, forall_eq, ALT, UMe_1, e4, eH4, e10, encS_len, g1]
    exact hQ _ _ _ hKI
end Go.V
set_option linter.unusedSimpArgs false
namespace Go.V
open Go.Proofs
theorem UMf_1 : (type_of% (uA c49.eq_1)) ∧ (type_of% (uR r49_0.eq_1)) ∧ (type_of% (uR r49_1.eq_1)) ∧ (type_of% (uA c49_68.eq_1)) ∧ (type_of% (uR r49_2.eq_1)) ∧ (type_of% (uA c49_67.eq_1)) ∧ (type_of% (uA c49_66.eq_1)) ∧ (type_of% (uR r49_3.eq_1)) ∧ (type_of% (uA c49_65.eq_1)) ∧ (type_of% (uA c49_19.eq_1)) ∧ (type_of% (uA c49_8.eq_1)) ∧ (type_of% (uR r49_4.eq_1)) ∧ (type_of% (uA c49_7.eq_1)) ∧ (type_of% (uA c49_6.eq_1)) ∧ (type_of% (uR r49_5.eq_1)) ∧ (type_of% (uR r49_9.eq_1)) ∧ (type_of% (uA c49_18.eq_1)) ∧ (type_of% (uA c49_17.eq_1)) ∧ (type_of% (uA c49_64.eq_1)) ∧ (type_of% (uR r49_20.eq_1)) ∧ (type_of% (uA c49_63.eq_1)) ∧ (type_of% (uA c49_31.eq_1)) ∧ (type_of% (uR r49_21.eq_1)) ∧ (type_of% (uA c49_30.eq_1)) ∧ (type_of% (uA c49_29.eq_1)) ∧ (type_of% (uA c49_62.eq_1)) ∧ (type_of% (uR r49_32.eq_1)) ∧ (type_of% (uA c49_61.eq_1)) ∧ (type_of% (uA c49_60.eq_1)) ∧ (type_of% (uR r49_33.eq_1)) ∧ (type_of% (uA c49_59.eq_1)) ∧ (type_of% (uA c49_58.eq_1)) ∧ (type_of% (uR r49_69.eq_1)) ∧ (type_of% s49.eq_1) :=
  ⟨uA c49.eq_1, uR r49_0.eq_1, uR r49_1.eq_1, uA c49_68.eq_1, uR r49_2.eq_1, uA c49_67.eq_1, uA c49_66.eq_1, uR r49_3.eq_1, uA c49_65.eq_1, uA c49_19.eq_1, uA c49_8.eq_1, uR r49_4.eq_1, uA c49_7.eq_1, uA c49_6.eq_1, uR r49_5.eq_1, uR r49_9.eq_1, uA c49_18.eq_1, uA c49_17.eq_1, uA c49_64.eq_1, uR r49_20.eq_1, uA c49_63.eq_1, uA c49_31.eq_1, uR r49_21.eq_1, uA c49_30.eq_1, uA c49_29.eq_1, uA c49_62.eq_1, uR r49_32.eq_1, uA c49_61.eq_1, uA c49_60.eq_1, uR r49_33.eq_1, uA c49_59.eq_1, uA c49_58.eq_1, uR r49_69.eq_1, s49.eq_1⟩
set_option maxHeartbeats 2000000 in
theorem widenS_ok : ∀ (b a : Kd) (t : Tr) (d d' e : Nat), KOk d a → KOk d' b → TOk e t → Fits a b → Has a t → KB 2000 a → KB 2000 b → TB 2000 t → ∃ t', Wd a b t t' ∧ TB 2000 t' ∧ ACallsF Try.prog 49 [tK a, tK b, tT t] [] (tT t') := by
  intro b
  induction b using Kd.ind with
  | _ s' ns' ks' ih =>
    intro a t d d' e hOa hOb hOt hF hH hBa hBb hBt
    obtain ⟨s, ns, ks⟩ := a
    obtain ⟨ts, tn, tx, tns, tks⟩ := t
    obtain ⟨_, hSa, hKa⟩ := hOa.inv
    obtain ⟨_, hSb, hKb⟩ := hOb.inv
    obtain ⟨_, hSt, hKt⟩ := hOt.inv
    have hSt := tshape_sh hSt
    obtain ⟨hss, hnames, hkids⟩ := hH.inv
    subst hss
    obtain ⟨a1, a2, a3, a4⟩ := hBa.inv
    obtain ⟨b1, b2, b3, b4⟩ := hBb.inv
    obtain ⟨t0, t1, t2, t3, t4⟩ := hBt.inv
    have hz0 : (⟨#[]⟩ : ByteArray).size ≤ 2000 := by decide
    have noTB : TB 2000 noT := .mk _ _ _ _ _ hz0 (by simp) (by simp) (by simp) (by simp)
    by_cases hm : s' = 6 ∧ s ≠ 6
    · obtain ⟨rfl, h6⟩ := hm
      have hl' := hSb.one (.inr rfl)
      obtain ⟨kb, hkb⟩ : ∃ k, ks'[0]? = some k := ⟨_, List.getElem?_eq_getElem (by omega)⟩
      have hmb := List.mem_of_getElem? hkb
      have ekb := encKs_at hkb
      obtain ⟨t', hW, hB', hC⟩ := ih kb hmb (.mk s ns ks) (.mk s tn tx tns tks) _ _ _ hOa (hKb kb hmb) hOt ((Fits.m_iff h6 hkb).1 hF) hH hBa (b4 kb hmb) hBt
      refine ⟨.mk 6 0 ⟨#[]⟩ [] [t'], .m _ _ _ _ _ _ _ _ h6 hkb hW, .mk _ _ _ _ _ hz0 (by simp) (by simp) (by simp) (by simpa using hB'), ACallsF.intro ok49 follows fun X c0 => ?_⟩
      have h6b : (s != 6) = true := by simp [h6]
      simp only [tK, tT, encK_mk, encT_mk, List.map_cons, List.map_nil] at hC
      simp only [RUN, core, T.c, T.s, T.b, T.i, sBin, sInt, sUn, isShift, asInt, P1.cells, loadT, ptrC, storeT, putC, fillP, Nat.reduceAdd, reduceIte, Nat.reduceEqDiff, Nat.reduceLT, Nat.reduceLeDiff, reduceCtorEq, eq_self, FIT, lendCs_map, verC_map, FinC, resPs, resP, lendPl, lendCs, lendC, sealC, partsT, finHs, tupT, verT, verP, verC, verB, verAt, Blk.ver, handsAre, forall_const, CHT, disj, Nat.reduceBEq, beq_self_eq_true, APT, srcOf, sealPs, sealCs, sealC, List.mem_singleton, forall_eq, ALT, UMf_1, encK_mk, encT_mk, Int.reduceBEq, h6b, ekb, Int.le_refl, Int.toNat_zero, List.length_map, encK_len, takeK]
      refine callC hC rfl rfl (by simp [closedA, closedP, closedC]) (closed_map _) ?_
      simp only [RUN, core, T.c, T.s, T.b, T.i, sBin, sInt, sUn, isShift, asInt, P1.cells, loadT, ptrC, storeT, putC, fillP, Nat.reduceAdd, reduceIte, Nat.reduceEqDiff, Nat.reduceLT, Nat.reduceLeDiff, reduceCtorEq, eq_self, FIT, lendCs_map, verC_map, FinC, resPs, resP, lendPl, lendCs, lendC, sealC, partsT, finHs, tupT, verT, verP, verC, verB, verAt, Blk.ver, handsAre, forall_const, CHT, disj, Nat.reduceBEq, beq_self_eq_true, APT, srcOf, sealPs, sealCs, sealC, List.mem_singleton, forall_eq, ALT, UMf_1, encT_mk, encTs_one, List.length_map, encT_len, takeT, Nat.le_refl]
    have hc : s' = 6 → s = 6 := fun h => by
      by_cases h6 : s = 6
      · exact h6
      · exact absurd ⟨h, h6⟩ hm
    have hse : s = s' := by
      by_cases h6 : s' = 6
      · rw [hc h6, h6]
      · exact hF.sort_eq h6
    subst hse
    clear hc hm
    by_cases h5 : s = 5
    · subst h5
      obtain ⟨f1, f2, f3⟩ := hF.f_inv
      have hn := hnames rfl
      subst hn
      have la := hSa.form rfl
      have lb := hSb.form rfl
      have lt := hSt.form rfl
      obtain ⟨rfl, rfl⟩ := hSt.inner (by omega)
      obtain ⟨outs, hlo, houts⟩ := choose_list (WS ns ks ns' ks' tks) ns'.length fun i hi => by
        obtain ⟨x, hx⟩ : ∃ x, ns'[i]? = some x := ⟨_, List.getElem?_eq_getElem hi⟩
        obtain ⟨k', hk'⟩ : ∃ k, ks'[i]? = some k := ⟨_, List.getElem?_eq_getElem (by omega)⟩
        have hmk' := List.mem_of_getElem? hk'
        rcases name_in ns x with ⟨J, hJ⟩ | hno
        · have hJl := (List.getElem?_eq_some_iff.1 hJ).1
          obtain ⟨k, hk⟩ : ∃ k, ks[J]? = some k := ⟨_, List.getElem?_eq_getElem (by omega)⟩
          obtain ⟨u, hu⟩ : ∃ u, tks[J]? = some u := ⟨_, List.getElem?_eq_getElem (by omega)⟩
          have hmk := List.mem_of_getElem? hk
          have hmu := List.mem_of_getElem? hu
          have hkid : kid ns' ks' x = some k' := kid_at (fun j hj e => by have := rise_inj (rise_true.1 lb.2) e hx; omega) hx hk'
          obtain ⟨o, hW, hB', hC⟩ := ih k' hmk' k u _ _ _ (hKa k hmk) (hKb k' hmk') (hKt u hmu) (f2 J x k k' hJ hk hkid) (hkids J u k hu (by rw [sel, if_pos rfl]; exact hk)) (a4 k hmk) (b4 k' hmk') (t4 u hmu)
          exact ⟨o, hB', x, k', hx, hk', .inl ⟨J, k, u, hJ, hk, hu, hW, hC⟩⟩
        · exact ⟨noT, noTB, x, k', hx, hk', .inr ⟨hno, rfl⟩⟩
      refine ⟨.mk 5 0 ⟨#[]⟩ ns' outs, .f _ _ _ _ _ _ _ _ _ _ _ hlo (fun i j x o k k' u hx ho hj hk hk' hu => ?_) (fun i x o hx ho hno => ?_), .mk _ _ _ _ _ hz0 b1 (by omega) b3 (all_of hlo fun i hi => by obtain ⟨o, h1, h2⟩ := houts i hi; exact ⟨o, h1, h2.1⟩), ACallsF.intro ok49 follows fun X c0 => ?_⟩
      · obtain ⟨o', ho', _, x2, k2, hx2, hk2, hcase⟩ := houts i (List.getElem?_eq_some_iff.1 hx).1
        rw [ho] at ho'; rw [hx] at hx2; rw [hk'] at hk2
        cases ho'; cases hx2; cases hk2
        rcases hcase with ⟨J, k3, u3, hJ, hk3, hu3, hW, _⟩ | ⟨hno, _⟩
        · have := rise_inj (rise_true.1 la.2) hj hJ
          subst this
          rw [hk] at hk3; rw [hu] at hu3; cases hk3; cases hu3
          exact hW
        · exact absurd hj (hno j)
      · obtain ⟨o', ho', _, x2, k2, hx2, hk2, hcase⟩ := houts i (List.getElem?_eq_some_iff.1 hx).1
        rw [ho] at ho'; rw [hx] at hx2
        cases ho'; cases hx2
        rcases hcase with ⟨J, k3, u3, hJ, _⟩ | ⟨_, h⟩
        · exact absurd hJ (hno J)
        · exact h
      simp only [RUN, core, T.c, T.s, T.b, T.i, sBin, sInt, sUn, isShift, asInt, P1.cells, loadT, ptrC, storeT, putC, fillP, Nat.reduceAdd, reduceIte, Nat.reduceEqDiff, Nat.reduceLT, Nat.reduceLeDiff, reduceCtorEq, eq_self, FIT, lendCs_map, verC_map, FinC, resPs, resP, lendPl, lendCs, lendC, sealC, partsT, finHs, tupT, verT, verP, verC, verB, verAt, Blk.ver, handsAre, forall_const, CHT, disj, Nat.reduceBEq, beq_self_eq_true, APT, srcOf, sealPs, sealCs, sealC, List.mem_singleton, forall_eq, ALT, UMf_1, encK_mk, encT_mk, Int.reduceBEq]
      refine AW.reify 7 3 2003 1 9 rfl rfl rfl (by decide) ?_
      refine AW.reify 7 4 2004 5 29 rfl rfl rfl (by decide) ?_
      refine widenS_outer 5 ns ks 5 ns' ks' 5 0 ⟨#[]⟩ ns tks outs (rise_true.1 la.2) (by omega) hlo (by omega) houts ?_ fun t H c h => ?_
      · unfold invO inv49 outF
        exact ⟨⟨⟨_, rfl, rfl⟩, ⟨_, rfl, rfl⟩, ⟨_, rfl, rfl⟩, ⟨_, rfl, rfl⟩⟩, ⟨⟨_, _, _, rfl, rfl, rfl, rfl⟩, rfl⟩⟩
      obtain ⟨⟨⟨u3, e3, eH3⟩, ⟨u4, e4, eH4⟩, ⟨u5, e5, eH5⟩, ⟨u6, e6, eH6⟩⟩, ⟨⟨u7, a7, b7, e7, eH7, eHa, eHb⟩, e10⟩⟩ := h
      rw [show outs.take ns'.length = outs from by rw [← hlo, List.take_length]] at eHb
      rw [List.take_length] at eHa
      simp only [T.c, T.i, zT] at e6 eH6 e7 eH7 eHa eHb
      have htk : List.take ns'.length (encTs outs) = encTs outs := by rw [← hlo]; exact take_encTs outs
      have hle : ns'.length ≤ (encTs outs).length := by rw [encTs_len]; omega
      have hle2 : ns'.length ≤ (encS ns').length := by rw [encS_len]; omega
      simp only [RUN, core, T.c, T.s, T.b, T.i, sBin, sInt, sUn, isShift, asInt, P1.cells, loadT, ptrC, storeT, putC, fillP, Nat.reduceAdd, reduceIte, Nat.reduceEqDiff, Nat.reduceLT, Nat.reduceLeDiff, reduceCtorEq, eq_self, FIT, lendCs_map, verC_map, FinC, resPs, resP, lendPl, lendCs, lendC, sealC, partsT, finHs, tupT, verT, verP, verC, verB, verAt, Blk.ver, handsAre, forall_const, CHT, disj, Nat.reduceBEq, beq_self_eq_true, APT, srcOf, sealPs, sealCs, sealC, List.mem_singleton, forall_eq, ALT, UMf_1, e6, eH6, e7, eH7, eHa, eHb, encT_mk, encS_len, htk, hle, hle2]
    · have hkid0 : ∀ i, i < tks.length → ∃ k k' u, ks[0]? = some k ∧ ks'[0]? = some k' ∧ tks[i]? = some u ∧ Fits k k' ∧ Has k u := by
        intro i hi
        obtain ⟨u, hu⟩ : ∃ u, tks[i]? = some u := ⟨_, List.getElem?_eq_getElem hi⟩
        have hs4 : ¬ s < 4 := fun h => by have := hSt.leaf h; omega
        have h46 : s = 4 ∨ s = 6 := by have := hSa.hi; omega
        obtain ⟨k, hk⟩ := one_at hSa h46
        obtain ⟨k', hk'⟩ := one_at hSb h46
        have hHk := hkids i u k hu (by rw [sel, if_neg h5]; exact hk)
        rcases h46 with rfl | rfl
        · exact ⟨k, k', u, hk, hk', hu, (Fits.l_iff hk hk').1 hF, hHk⟩
        · exact ⟨k, k', u, hk, hk', hu, (Fits.mm_iff hk hk').1 hF, hHk⟩
      obtain ⟨outs, hlo, houts⟩ := choose_list (WSC ks ks' tks) tks.length fun i hi => by
        obtain ⟨k, k', u, hk, hk', hu, hFk, hHk⟩ := hkid0 i hi
        have hmk := List.mem_of_getElem? hk
        have hmk' := List.mem_of_getElem? hk'
        have hmu := List.mem_of_getElem? hu
        obtain ⟨o, hW, hB', hC⟩ := ih k' hmk' k u _ _ _ (hKa k hmk) (hKb k' hmk') (hKt u hmu) hFk hHk (a4 k hmk) (b4 k' hmk') (t4 u hmu)
        exact ⟨o, hB', k, k', u, hk, hk', hu, hW, hC⟩
      have hn0 : tns = [] := List.length_eq_zero_iff.1 (hSt.other h5)
      subst hn0
      have hres : Wd (.mk s ns ks) (.mk s ns' ks') (.mk s tn tx [] tks) (.mk s tn tx [] outs) := .c _ _ _ _ _ _ _ _ _ _ _ _ h5 (fun h => h) hlo (fun i u o k k' hu ho hk hk' => by
        obtain ⟨o', ho', _, k2, k2', u2, hk2, hk2', hu2, hW, _⟩ := houts i (List.getElem?_eq_some_iff.1 hu).1
        rw [ho] at ho'; rw [hk] at hk2; rw [hk'] at hk2'; rw [hu] at hu2
        cases ho'; cases hk2; cases hk2'; cases hu2
        exact hW)
      refine ⟨.mk s tn tx [] outs, hres, .mk _ _ _ _ _ t0 (by simp) (by omega) (by simp) (all_of hlo fun i hi => by obtain ⟨o, h1, h2⟩ := houts i hi; exact ⟨o, h1, h2.1⟩), ACallsF.intro ok49 follows fun X c0 => ?_⟩
      have h5b : (s == 5) = false := beq_eq_false_iff_ne.2 h5
      have htk : List.take tks.length (encTs outs) = encTs outs := by rw [← hlo]; exact take_encTs outs
      have hle : tks.length ≤ (encTs outs).length := by rw [encTs_len]; omega
      have hto : outs.take tks.length = outs := by rw [← hlo, List.take_length]
      by_cases h6 : s = 6
      · subst h6
        simp only [RUN, core, T.c, T.s, T.b, T.i, sBin, sInt, sUn, isShift, asInt, P1.cells, loadT, ptrC, storeT, putC, fillP, Nat.reduceAdd, reduceIte, Nat.reduceEqDiff, Nat.reduceLT, Nat.reduceLeDiff, reduceCtorEq, eq_self, FIT, lendCs_map, verC_map, FinC, resPs, resP, lendPl, lendCs, lendC, sealC, partsT, finHs, tupT, verT, verP, verC, verB, verAt, Blk.ver, handsAre, forall_const, CHT, disj, Nat.reduceBEq, beq_self_eq_true, APT, srcOf, sealPs, sealCs, sealC, List.mem_singleton, forall_eq, ALT, UMf_1, encK_mk, encT_mk, Int.reduceBEq, Int.reduceBNe]
        refine AW.reify 7 4 2004 5 29 rfl rfl rfl (by decide) ?_
        refine widenS_loop0 6 ns ks 6 ns' ks' 6 tn tx [] tks outs hlo t2 houts ?_ fun t H c h1 h2 => ?_
        · unfold inv49 outK
          exact ⟨⟨⟨_, rfl, rfl⟩, ⟨_, rfl, rfl⟩, ⟨_, rfl, rfl⟩, ⟨_, rfl, rfl⟩⟩, ⟨_, _, rfl, rfl, rfl⟩, rfl⟩
        obtain ⟨⟨u3, e3, eH3⟩, ⟨u4, e4, eH4⟩, ⟨u5, e5, eH5⟩, ⟨u6, e6, eH6⟩⟩ := h1
        obtain ⟨u7, b7, e7, eH7, eHb⟩ := h2
        rw [hto] at eHb
        simp only [T.c, T.i, zT] at e6 eH6 e7 eH7 eHb
        simp only [RUN, core, T.c, T.s, T.b, T.i, sBin, sInt, sUn, isShift, asInt, P1.cells, loadT, ptrC, storeT, putC, fillP, Nat.reduceAdd, reduceIte, Nat.reduceEqDiff, Nat.reduceLT, Nat.reduceLeDiff, reduceCtorEq, eq_self, FIT, lendCs_map, verC_map, FinC, resPs, resP, lendPl, lendCs, lendC, sealC, partsT, finHs, tupT, verT, verP, verC, verB, verAt, Blk.ver, handsAre, forall_const, CHT, disj, Nat.reduceBEq, beq_self_eq_true, APT, srcOf, sealPs, sealCs, sealC, List.mem_singleton, forall_eq, ALT, UMf_1, e6, eH6, e7, eH7, eHb, encT_mk, htk, hle]
      have h6b : (s == 6) = false := beq_eq_false_iff_ne.2 h6
      by_cases h4 : s = 4
      · subst h4
        simp only [RUN, core, T.c, T.s, T.b, T.i, sBin, sInt, sUn, isShift, asInt, P1.cells, loadT, ptrC, storeT, putC, fillP, Nat.reduceAdd, reduceIte, Nat.reduceEqDiff, Nat.reduceLT, Nat.reduceLeDiff, reduceCtorEq, eq_self, FIT, lendCs_map, verC_map, FinC, resPs, resP, lendPl, lendCs, lendC, sealC, partsT, finHs, tupT, verT, verP, verC, verB, verAt, Blk.ver, handsAre, forall_const, CHT, disj, Nat.reduceBEq, beq_self_eq_true, APT, srcOf, sealPs, sealCs, sealC, List.mem_singleton, forall_eq, ALT, UMf_1, encK_mk, encT_mk, Int.reduceBEq, Int.reduceBNe]
        refine AW.reify 7 4 2004 5 29 rfl rfl rfl (by decide) ?_
        refine widenS_loop1 4 ns ks 4 ns' ks' 4 tn tx [] tks outs hlo t2 houts ?_ fun t H c h1 h2 => ?_
        · unfold inv49 outK
          exact ⟨⟨⟨_, rfl, rfl⟩, ⟨_, rfl, rfl⟩, ⟨_, rfl, rfl⟩, ⟨_, rfl, rfl⟩⟩, ⟨_, _, rfl, rfl, rfl⟩, rfl⟩
        obtain ⟨⟨u3, e3, eH3⟩, ⟨u4, e4, eH4⟩, ⟨u5, e5, eH5⟩, ⟨u6, e6, eH6⟩⟩ := h1
        obtain ⟨u7, b7, e7, eH7, eHb⟩ := h2
        rw [hto] at eHb
        simp only [T.c, T.i, zT] at e6 eH6 e7 eH7 eHb
        simp only [RUN, core, T.c, T.s, T.b, T.i, sBin, sInt, sUn, isShift, asInt, P1.cells, loadT, ptrC, storeT, putC, fillP, Nat.reduceAdd, reduceIte, Nat.reduceEqDiff, Nat.reduceLT, Nat.reduceLeDiff, reduceCtorEq, eq_self, FIT, lendCs_map, verC_map, FinC, resPs, resP, lendPl, lendCs, lendC, sealC, partsT, finHs, tupT, verT, verP, verC, verB, verAt, Blk.ver, handsAre, forall_const, CHT, disj, Nat.reduceBEq, beq_self_eq_true, APT, srcOf, sealPs, sealCs, sealC, List.mem_singleton, forall_eq, ALT, UMf_1, e6, eH6, e7, eH7, eHb, encT_mk, htk, hle]
      have h4b : (s == 4) = false := beq_eq_false_iff_ne.2 h4
      have h0 := hSt.leaf (by have := hSa.hi; omega)
      have ho0 : outs = [] := List.length_eq_zero_iff.1 (by omega)
      subst ho0
      simp only [RUN, core, T.c, T.s, T.b, T.i, sBin, sInt, sUn, isShift, asInt, P1.cells, loadT, ptrC, storeT, putC, fillP, Nat.reduceAdd, reduceIte, Nat.reduceEqDiff, Nat.reduceLT, Nat.reduceLeDiff, reduceCtorEq, eq_self, FIT, lendCs_map, verC_map, FinC, resPs, resP, lendPl, lendCs, lendC, sealC, partsT, finHs, tupT, verT, verP, verC, verB, verAt, Blk.ver, handsAre, forall_const, CHT, disj, Nat.reduceBEq, beq_self_eq_true, APT, srcOf, sealPs, sealCs, sealC, List.mem_singleton, forall_eq, ALT, UMf_1, encK_mk, encT_mk, h6b, h4b, h5b]
end Go.V
set_option linter.unusedSimpArgs false
namespace Go.V
open Go.Proofs
/- loop.example/teagle/spec.KindWiden -/
def r16_0 : List AOper := [ao 0 3 (.box 26 (.t 0)),
  ao 1 4 (.box 26 (.t 1)),
  ao 2 5 (.box 29 (.t 2)),
  ao 3 6 (.alloc 29 [(.v (.s (.int .i64 0))), (.v (.s (.int .i64 0))), (.v (.s (.string ⟨#[]⟩))), .nil0, .nil0]),
  ao 4 7 (.mv (.k (.b false)))]
def r16_1 : List AOper := [ao 0 9 (.ld 3 true (.t 3)),
  ao 1 10 (.ld 3 true (.t 4)),
  ao 2 11 (.call (.k (.c (.fn 10 []))) [(.t 9), (.t 10)]),
  ao 3 12 (.un .not (.t 11)),
  ao 4 13 (.mv (.t 12)),
  ag 5 14 13 false [] (.ld 3 true (.t 3)),
  ag 6 15 13 false [] (.ld 5 true (.t 5)),
  ag 7 16 13 false [] (.call (.k (.c (.fn 24 []))) [(.t 14), (.t 15)]),
  ag 8 17 13 false [] (.un .not (.t 16)),
  ao 9 18 (.pick (.t 13) (.k (.b true)) (.t 17))]
def r16_2 : List AOper := [ao 0 19 (.build [(.v (.s (.int .i64 0))), (.v (.s (.int .i64 0))), (.v (.s (.string ⟨#[]⟩))), .nil0, .nil0] []),
  an 1 (.st 5 (.t 6) (.t 19)),
  ao 2 7 (.mv (.k (.b false)))]
def c16_3 : ACode := .seq (.reg r16_2) .ret
def c16_4 : ACode := .cond (.t 18) c16_3 .skip
def c16_5 : ACode := .seq (.reg r16_1) c16_4
def r16_6 : List AOper := [ao 0 20 (.ld 3 true (.t 3)),
  ao 1 21 (.ld 3 true (.t 4)),
  ao 2 22 (.ld 5 true (.t 5)),
  ao 3 23 (.call (.k (.c (.fn 49 []))) [(.t 20), (.t 21), (.t 22)]),
  ao 4 8 (.alloc 29 [(.v (.s (.int .i64 0))), (.v (.s (.int .i64 0))), (.v (.s (.string ⟨#[]⟩))), .nil0, .nil0]),
  an 5 (.st 5 (.t 8) (.t 23))]
def r16_7 : List AOper := [ao 0 24 (.ld 5 true (.t 8)),
  ao 1 25 (.call (.k (.c (.fn 50 []))) [(.t 24)]),
  ao 2 26 (.un .not (.t 25))]
def r16_8 : List AOper := [ao 0 27 (.build [(.v (.s (.int .i64 0))), (.v (.s (.int .i64 0))), (.v (.s (.string ⟨#[]⟩))), .nil0, .nil0] []),
  an 1 (.st 5 (.t 6) (.t 27)),
  ao 2 7 (.mv (.k (.b false)))]
def c16_9 : ACode := .seq (.reg r16_8) .ret
def c16_10 : ACode := .cond (.t 26) c16_9 .skip
def c16_11 : ACode := .seq (.reg r16_7) c16_10
def r16_12 : List AOper := [ao 0 28 (.ld 5 true (.t 8)),
  an 1 (.st 5 (.t 6) (.t 28)),
  ao 2 7 (.mv (.k (.b true)))]
def c16 : ACode := .seq (.reg r16_0) (.seq c16_5 (.seq (.reg r16_6) (.seq c16_11 (.seq (.reg r16_12) .ret))))
def s16 : List ARes := [.cell 6 5 true, .tmp 7]
theorem ok16 : okF Try.prog 16 29 c16 s16 := ⟨Try.f16, Try.func16, Try.ntmps16, by kernel_rfl, by kernel_rfl, by kernel_rfl⟩
theorem UMg_1 : (type_of% (uA c16.eq_1)) ∧ (type_of% (uR r16_0.eq_1)) ∧ (type_of% (uA c16_5.eq_1)) ∧ (type_of% (uR r16_1.eq_1)) ∧ (type_of% (uA c16_4.eq_1)) ∧ (type_of% (uA c16_3.eq_1)) ∧ (type_of% (uR r16_2.eq_1)) ∧ (type_of% (uR r16_6.eq_1)) ∧ (type_of% (uA c16_11.eq_1)) ∧ (type_of% (uR r16_7.eq_1)) ∧ (type_of% (uA c16_10.eq_1)) ∧ (type_of% (uA c16_9.eq_1)) ∧ (type_of% (uR r16_8.eq_1)) ∧ (type_of% (uR r16_12.eq_1)) ∧ (type_of% s16.eq_1) :=
  ⟨uA c16.eq_1, uR r16_0.eq_1, uA c16_5.eq_1, uR r16_1.eq_1, uA c16_4.eq_1, uA c16_3.eq_1, uR r16_2.eq_1, uR r16_6.eq_1, uA c16_11.eq_1, uR r16_7.eq_1, uA c16_10.eq_1, uA c16_9.eq_1, uR r16_8.eq_1, uR r16_12.eq_1, s16.eq_1⟩
theorem kindWidenS_ok (a b : Kd) (t : Tr) (ha : KB 2000 a) (hb : KB 2000 b) (ht : TB 2000 t) : ∃ t' ok, KW a b t t' ok ∧ TB 2000 t' ∧ ACallsF Try.prog 16 [tK a, tK b, tT t] [] (tTB t' ok) := by
  have hCf := kindFitsS_ok a b ha hb
  by_cases h1 : (okK a && (okK b && fits a b)) = true
  · have hCh := kindHasS_ok a t ha (ht.le (by omega))
    by_cases h2 : (okK a && (okT t && has a t)) = true
    · have h1' := h1
      have h2' := h2
      simp only [Bool.and_eq_true] at h1' h2'
      have hF := fits_true.1 h1'.2.2
      have hH := has_true.1 h2'.2.2
      obtain ⟨w, hW, hBw, hC⟩ := widenS_ok b a t 1 1 1 (okK_true.1 h1'.1).1 (okK_true.1 h1'.2.1).1 (okT_true.1 h2'.2.1).1 hF hH ha hb ht
      have hCo := treeOkS_ok w (hBw.le (by omega))
      cases hok : okT w with
      | true =>
        refine ⟨w, true, .inl ⟨w, h1'.1, h1'.2.1, hF, h2'.2.1, hH, hW, .inl ⟨hok, rfl, rfl⟩⟩, hBw, ACallsF.intro ok16 follows fun X c0 => ?_⟩
        simp only [RUN, core, T.c, T.s, T.b, T.i, sBin, sInt, sUn, isShift, asInt, P1.cells, loadT, ptrC, storeT, putC, fillP, Nat.reduceAdd, reduceIte, Nat.reduceEqDiff, Nat.reduceLT, Nat.reduceLeDiff, reduceCtorEq, eq_self, FIT, lendCs_map, verC_map, FinC, resPs, resP, lendPl, lendCs, lendC, sealC, partsT, finHs, tupT, verT, verP, verC, verB, verAt, Blk.ver, handsAre, forall_const, CHT, disj, Nat.reduceBEq, beq_self_eq_true, APT, srcOf, sealPs, sealCs, sealC, List.mem_singleton, forall_eq, ALT, UMg_1, List.length_map, encK_len, takeK, encT_len, takeT, Nat.le_refl]
        refine callC hCf rfl rfl (by simp [closedA, closedP, closedC]) rfl ?_
        simp only [RUN, core, T.c, T.s, T.b, T.i, sBin, sInt, sUn, isShift, asInt, P1.cells, loadT, ptrC, storeT, putC, fillP, Nat.reduceAdd, reduceIte, Nat.reduceEqDiff, Nat.reduceLT, Nat.reduceLeDiff, reduceCtorEq, eq_self, FIT, lendCs_map, verC_map, FinC, resPs, resP, lendPl, lendCs, lendC, sealC, partsT, finHs, tupT, verT, verP, verC, verB, verAt, Blk.ver, handsAre, forall_const, CHT, disj, Nat.reduceBEq, beq_self_eq_true, APT, srcOf, sealPs, sealCs, sealC, List.mem_singleton, forall_eq, ALT, UMg_1, h1, List.length_map, encK_len, takeK, encT_len, takeT, Nat.le_refl]
        refine callC hCh rfl rfl (by simp [closedA, closedP, closedC]) rfl ?_
        simp only [RUN, core, T.c, T.s, T.b, T.i, sBin, sInt, sUn, isShift, asInt, P1.cells, loadT, ptrC, storeT, putC, fillP, Nat.reduceAdd, reduceIte, Nat.reduceEqDiff, Nat.reduceLT, Nat.reduceLeDiff, reduceCtorEq, eq_self, FIT, lendCs_map, verC_map, FinC, resPs, resP, lendPl, lendCs, lendC, sealC, partsT, finHs, tupT, verT, verP, verC, verB, verAt, Blk.ver, handsAre, forall_const, CHT, disj, Nat.reduceBEq, beq_self_eq_true, APT, srcOf, sealPs, sealCs, sealC, List.mem_singleton, forall_eq, ALT, UMg_1, h2, List.length_map, encK_len, takeK, encT_len, takeT, Nat.le_refl]
        refine callC hC rfl rfl (by simp [closedA, closedP, closedC]) (closed_map _) ?_
        simp only [RUN, core, T.c, T.s, T.b, T.i, sBin, sInt, sUn, isShift, asInt, P1.cells, loadT, ptrC, storeT, putC, fillP, Nat.reduceAdd, reduceIte, Nat.reduceEqDiff, Nat.reduceLT, Nat.reduceLeDiff, reduceCtorEq, eq_self, FIT, lendCs_map, verC_map, FinC, resPs, resP, lendPl, lendCs, lendC, sealC, partsT, finHs, tupT, verT, verP, verC, verB, verAt, Blk.ver, handsAre, forall_const, CHT, disj, Nat.reduceBEq, beq_self_eq_true, APT, srcOf, sealPs, sealCs, sealC, List.mem_singleton, forall_eq, ALT, UMg_1, List.length_map, encT_len, takeT, Nat.le_refl]
        refine callC hCo rfl rfl (by simp [closedA, closedP, closedC]) rfl ?_
        simp only [RUN, core, T.c, T.s, T.b, T.i, sBin, sInt, sUn, isShift, asInt, P1.cells, loadT, ptrC, storeT, putC, fillP, Nat.reduceAdd, reduceIte, Nat.reduceEqDiff, Nat.reduceLT, Nat.reduceLeDiff, reduceCtorEq, eq_self, FIT, lendCs_map, verC_map, FinC, resPs, resP, lendPl, lendCs, lendC, sealC, partsT, finHs, tupT, verT, verP, verC, verB, verAt, Blk.ver, handsAre, forall_const, CHT, disj, Nat.reduceBEq, beq_self_eq_true, APT, srcOf, sealPs, sealCs, sealC, List.mem_singleton, forall_eq, ALT, UMg_1, hok, List.length_map, encT_len, takeT, Nat.le_refl]
      | false =>
        refine ⟨z0T, false, .inl ⟨w, h1'.1, h1'.2.1, hF, h2'.2.1, hH, hW, .inr ⟨hok, rfl, rfl⟩⟩, z0T_TB, ACallsF.intro ok16 follows fun X c0 => ?_⟩
        simp only [RUN, core, T.c, T.s, T.b, T.i, sBin, sInt, sUn, isShift, asInt, P1.cells, loadT, ptrC, storeT, putC, fillP, Nat.reduceAdd, reduceIte, Nat.reduceEqDiff, Nat.reduceLT, Nat.reduceLeDiff, reduceCtorEq, eq_self, FIT, lendCs_map, verC_map, FinC, resPs, resP, lendPl, lendCs, lendC, sealC, partsT, finHs, tupT, verT, verP, verC, verB, verAt, Blk.ver, handsAre, forall_const, CHT, disj, Nat.reduceBEq, beq_self_eq_true, APT, srcOf, sealPs, sealCs, sealC, List.mem_singleton, forall_eq, ALT, UMg_1, List.length_map, encK_len, takeK, encT_len, takeT, Nat.le_refl]
        refine callC hCf rfl rfl (by simp [closedA, closedP, closedC]) rfl ?_
        simp only [RUN, core, T.c, T.s, T.b, T.i, sBin, sInt, sUn, isShift, asInt, P1.cells, loadT, ptrC, storeT, putC, fillP, Nat.reduceAdd, reduceIte, Nat.reduceEqDiff, Nat.reduceLT, Nat.reduceLeDiff, reduceCtorEq, eq_self, FIT, lendCs_map, verC_map, FinC, resPs, resP, lendPl, lendCs, lendC, sealC, partsT, finHs, tupT, verT, verP, verC, verB, verAt, Blk.ver, handsAre, forall_const, CHT, disj, Nat.reduceBEq, beq_self_eq_true, APT, srcOf, sealPs, sealCs, sealC, List.mem_singleton, forall_eq, ALT, UMg_1, h1, List.length_map, encK_len, takeK, encT_len, takeT, Nat.le_refl]
        refine callC hCh rfl rfl (by simp [closedA, closedP, closedC]) rfl ?_
        simp only [RUN, core, T.c, T.s, T.b, T.i, sBin, sInt, sUn, isShift, asInt, P1.cells, loadT, ptrC, storeT, putC, fillP, Nat.reduceAdd, reduceIte, Nat.reduceEqDiff, Nat.reduceLT, Nat.reduceLeDiff, reduceCtorEq, eq_self, FIT, lendCs_map, verC_map, FinC, resPs, resP, lendPl, lendCs, lendC, sealC, partsT, finHs, tupT, verT, verP, verC, verB, verAt, Blk.ver, handsAre, forall_const, CHT, disj, Nat.reduceBEq, beq_self_eq_true, APT, srcOf, sealPs, sealCs, sealC, List.mem_singleton, forall_eq, ALT, UMg_1, h2, List.length_map, encK_len, takeK, encT_len, takeT, Nat.le_refl]
        refine callC hC rfl rfl (by simp [closedA, closedP, closedC]) (closed_map _) ?_
        simp only [RUN, core, T.c, T.s, T.b, T.i, sBin, sInt, sUn, isShift, asInt, P1.cells, loadT, ptrC, storeT, putC, fillP, Nat.reduceAdd, reduceIte, Nat.reduceEqDiff, Nat.reduceLT, Nat.reduceLeDiff, reduceCtorEq, eq_self, FIT, lendCs_map, verC_map, FinC, resPs, resP, lendPl, lendCs, lendC, sealC, partsT, finHs, tupT, verT, verP, verC, verB, verAt, Blk.ver, handsAre, forall_const, CHT, disj, Nat.reduceBEq, beq_self_eq_true, APT, srcOf, sealPs, sealCs, sealC, List.mem_singleton, forall_eq, ALT, UMg_1, List.length_map, encT_len, takeT, Nat.le_refl]
        refine callC hCo rfl rfl (by simp [closedA, closedP, closedC]) rfl ?_
        simp only [RUN, core, T.c, T.s, T.b, T.i, sBin, sInt, sUn, isShift, asInt, P1.cells, loadT, ptrC, storeT, putC, fillP, Nat.reduceAdd, reduceIte, Nat.reduceEqDiff, Nat.reduceLT, Nat.reduceLeDiff, reduceCtorEq, eq_self, FIT, lendCs_map, verC_map, FinC, resPs, resP, lendPl, lendCs, lendC, sealC, partsT, finHs, tupT, verT, verP, verC, verB, verAt, Blk.ver, handsAre, forall_const, CHT, disj, Nat.reduceBEq, beq_self_eq_true, APT, srcOf, sealPs, sealCs, sealC, List.mem_singleton, forall_eq, ALT, UMg_1, hok, encT_mk]
    · refine ⟨z0T, false, .inr ⟨fun h => h2 ?_, rfl, rfl⟩, z0T_TB, ACallsF.intro ok16 follows fun X c0 => ?_⟩
      · simp only [h.1, h.2.2.2.1, has_true.2 h.2.2.2.2, Bool.and_self]
      have h2 : (okK a && (okT t && has a t)) = false := by simpa using h2
      simp only [RUN, core, T.c, T.s, T.b, T.i, sBin, sInt, sUn, isShift, asInt, P1.cells, loadT, ptrC, storeT, putC, fillP, Nat.reduceAdd, reduceIte, Nat.reduceEqDiff, Nat.reduceLT, Nat.reduceLeDiff, reduceCtorEq, eq_self, FIT, lendCs_map, verC_map, FinC, resPs, resP, lendPl, lendCs, lendC, sealC, partsT, finHs, tupT, verT, verP, verC, verB, verAt, Blk.ver, handsAre, forall_const, CHT, disj, Nat.reduceBEq, beq_self_eq_true, APT, srcOf, sealPs, sealCs, sealC, List.mem_singleton, forall_eq, ALT, UMg_1, List.length_map, encK_len, takeK, encT_len, takeT, Nat.le_refl]
      refine callC hCf rfl rfl (by simp [closedA, closedP, closedC]) rfl ?_
      simp only [RUN, core, T.c, T.s, T.b, T.i, sBin, sInt, sUn, isShift, asInt, P1.cells, loadT, ptrC, storeT, putC, fillP, Nat.reduceAdd, reduceIte, Nat.reduceEqDiff, Nat.reduceLT, Nat.reduceLeDiff, reduceCtorEq, eq_self, FIT, lendCs_map, verC_map, FinC, resPs, resP, lendPl, lendCs, lendC, sealC, partsT, finHs, tupT, verT, verP, verC, verB, verAt, Blk.ver, handsAre, forall_const, CHT, disj, Nat.reduceBEq, beq_self_eq_true, APT, srcOf, sealPs, sealCs, sealC, List.mem_singleton, forall_eq, ALT, UMg_1, h1, List.length_map, encK_len, takeK, encT_len, takeT, Nat.le_refl]
      refine callC hCh rfl rfl (by simp [closedA, closedP, closedC]) rfl ?_
      simp only [RUN, core, T.c, T.s, T.b, T.i, sBin, sInt, sUn, isShift, asInt, P1.cells, loadT, ptrC, storeT, putC, fillP, Nat.reduceAdd, reduceIte, Nat.reduceEqDiff, Nat.reduceLT, Nat.reduceLeDiff, reduceCtorEq, eq_self, FIT, lendCs_map, verC_map, FinC, resPs, resP, lendPl, lendCs, lendC, sealC, partsT, finHs, tupT, verT, verP, verC, verB, verAt, Blk.ver, handsAre, forall_const, CHT, disj, Nat.reduceBEq, beq_self_eq_true, APT, srcOf, sealPs, sealCs, sealC, List.mem_singleton, forall_eq, ALT, UMg_1, h2, encT_mk]
  · refine ⟨z0T, false, .inr ⟨fun h => h1 ?_, rfl, rfl⟩, z0T_TB, ACallsF.intro ok16 follows fun X c0 => ?_⟩
    · simp only [h.1, h.2.1, fits_true.2 h.2.2.1, Bool.and_self]
    have h1 : (okK a && (okK b && fits a b)) = false := by simpa using h1
    simp only [RUN, core, T.c, T.s, T.b, T.i, sBin, sInt, sUn, isShift, asInt, P1.cells, loadT, ptrC, storeT, putC, fillP, Nat.reduceAdd, reduceIte, Nat.reduceEqDiff, Nat.reduceLT, Nat.reduceLeDiff, reduceCtorEq, eq_self, FIT, lendCs_map, verC_map, FinC, resPs, resP, lendPl, lendCs, lendC, sealC, partsT, finHs, tupT, verT, verP, verC, verB, verAt, Blk.ver, handsAre, forall_const, CHT, disj, Nat.reduceBEq, beq_self_eq_true, APT, srcOf, sealPs, sealCs, sealC, List.mem_singleton, forall_eq, ALT, UMg_1, List.length_map, encK_len, takeK, encT_len, takeT, Nat.le_refl]
    refine callC hCf rfl rfl (by simp [closedA, closedP, closedC]) rfl ?_
    simp only [RUN, core, T.c, T.s, T.b, T.i, sBin, sInt, sUn, isShift, asInt, P1.cells, loadT, ptrC, storeT, putC, fillP, Nat.reduceAdd, reduceIte, Nat.reduceEqDiff, Nat.reduceLT, Nat.reduceLeDiff, reduceCtorEq, eq_self, FIT, lendCs_map, verC_map, FinC, resPs, resP, lendPl, lendCs, lendC, sealC, partsT, finHs, tupT, verT, verP, verC, verB, verAt, Blk.ver, handsAre, forall_const, CHT, disj, Nat.reduceBEq, beq_self_eq_true, APT, srcOf, sealPs, sealCs, sealC, List.mem_singleton, forall_eq, ALT, UMg_1, h1, encT_mk]

theorem fits_refl : ∀ (a : Kd) (d : Nat), KOk d a → Fits a a := by
  intro a
  induction a using Kd.ind with
  | _ s ns ks ih =>
    intro d hO
    obtain ⟨_, hS, hK⟩ := hO.inv
    by_cases h46 : s = 4 ∨ s = 6
    · obtain ⟨k, hk⟩ := one_at hS h46
      have hmk := List.mem_of_getElem? hk
      have := ih k hmk _ (hK k hmk)
      rcases h46 with rfl | rfl
      · exact (Fits.l_iff hk hk).2 this
      · exact (Fits.mm_iff hk hk).2 this
    · by_cases h5 : s = 5
      · subst h5
        have l := hS.form rfl
        have hkid : ∀ (i : Nat) x k, ns[i]? = some x → ks[i]? = some k → kid ns ks x = some k := fun i x k hx hk => kid_at (fun j hj e => by have := rise_inj (rise_true.1 l.2) e hx; omega) hx hk
        refine .f _ _ _ _ (fun i x hx => kid_len (by omega) hx) (fun i x k k' hx hk hk' => ?_) fun i x k' hx hk hno => ?_
        · rw [hkid i x k hx hk] at hk'; cases hk'
          exact ih k (List.mem_of_getElem? hk) _ (hK k (List.mem_of_getElem? hk))
        · rw [hkid i x k' hx hk] at hno; cases hno
      · have := hS.lo
        have := hS.hi
        exact .leaf _ _ _ _ _ (by omega)
theorem wd_refl : ∀ (a : Kd) (t : Tr) (d : Nat), KOk d a → TW t → Has a t → Wd a a t t := by
  intro a
  induction a using Kd.ind with
  | _ s ns ks ih =>
    intro t d hO hT hH
    obtain ⟨ts, tn, tx, tns, tks⟩ := t
    obtain ⟨_, hS, hK⟩ := hO.inv
    obtain ⟨htsh, htk⟩ := hT.inv
    have hTs := tshape_sh htsh
    obtain ⟨hss, hnames, hkids⟩ := hH.inv
    subst hss
    by_cases h5 : s = 5
    · subst h5
      have hn := hnames rfl
      subst hn
      obtain ⟨rfl, rfl⟩ := hTs.inner (by omega)
      have l := hS.form rfl
      have lt := hTs.form rfl
      refine .f _ _ _ _ _ _ _ _ _ _ _ (by omega) (fun i j x o k k' u hx ho hj hk hk' hu => ?_) fun i x o hx ho hno => absurd hx (hno i)
      have := rise_inj (rise_true.1 l.2) hx hj
      subst this
      rw [hk] at hk'; rw [ho] at hu; cases hk'; cases hu
      exact ih k (List.mem_of_getElem? hk) o _ (hK k (List.mem_of_getElem? hk)) (htk o (List.mem_of_getElem? ho)) (hkids i o k ho (by rw [sel, if_pos rfl]; exact hk))
    · refine .c _ _ _ _ _ _ _ _ _ _ _ _ h5 (fun h => h) rfl fun i u o k k' hu ho hk hk' => ?_
      rw [hu] at ho; rw [hk] at hk'; cases ho; cases hk'
      exact ih k (List.mem_of_getElem? hk) u _ (hK k (List.mem_of_getElem? hk)) (htk u (List.mem_of_getElem? hu)) (hkids i u k hu (by rw [sel, if_neg h5]; exact hk))
theorem kw_one {a b : Kd} {t x y : Tr} {p q : Bool} (h1 : KW a b t x p) (h2 : KW a b t y q) : x = y ∧ p = q := by
  rcases h1 with ⟨w1, ha, hb, hF, hT, hH, hW1, r1⟩ | ⟨hn, rfl, rfl⟩
  · rcases h2 with ⟨w2, _, _, _, _, _, hW2, r2⟩ | ⟨hn, _⟩
    · have e := wd_one b a t w1 w2 _ _ (okK_true.1 ha).1 (okK_true.1 hb).1 (TOk.ts (okT_true.1 hT).1).1 hF hH hW1 hW2
      subst e
      rcases r1 with ⟨k1, rfl, rfl⟩ | ⟨k1, rfl, rfl⟩ <;> rcases r2 with ⟨k2, rfl, rfl⟩ | ⟨k2, rfl, rfl⟩
      · exact ⟨rfl, rfl⟩
      · rw [k1] at k2; cases k2
      · rw [k1] at k2; cases k2
      · exact ⟨rfl, rfl⟩
    · exact absurd ⟨ha, hb, hF, hT, hH⟩ hn
  · rcases h2 with ⟨w2, ha, hb, hF, hT, hH, _⟩ | ⟨_, rfl, rfl⟩
    · exact absurd ⟨ha, hb, hF, hT, hH⟩ hn
    · exact ⟨rfl, rfl⟩
/- loop.example/teagle/laws.FnKindWiden -/
def r5_0 : List AOper := [ao 0 2 (.mv (.k (.b false)))]
def r5_1 : List AOper := [ao 0 14 (.mv (.t 0)),
  ao 1 15 (.len (.t 14)),
  ao 2 16 (.bin .gtr (.t 15) (.k (.i 1048576)))]
def r5_2 : List AOper := [ao 0 2 (.mv (.k (.b true)))]
def c5_3 : ACode := .seq (.reg r5_2) .ret
def c5_4 : ACode := .cond (.t 16) c5_3 .skip
def c5_5 : ACode := .seq (.reg r5_1) c5_4
def r5_6 : List AOper := [ao 0 18 (.mv (.t 0)),
  ao 1 19 (.call (.k (.c (.fn 8 []))) [(.t 18)]),
  ao 2 17 (.mv (.t 19)),
  ao 3 20 (.ext 0 (.t 17)),
  ao 4 21 (.ext 1 (.t 17)),
  ao 5 22 (.ext 2 (.t 17)),
  ao 6 3 (.alloc 26 [(.v (.s (.int .i64 0))), .nil0, .nil0]),
  ao 7 4 (.alloc 26 [(.v (.s (.int .i64 0))), .nil0, .nil0]),
  ao 8 5 (.alloc 29 [(.v (.s (.int .i64 0))), (.v (.s (.int .i64 0))), (.v (.s (.string ⟨#[]⟩))), .nil0, .nil0]),
  an 9 (.st 3 (.t 3) (.t 20)),
  an 10 (.st 3 (.t 4) (.t 21)),
  an 11 (.st 5 (.t 5) (.t 22))]
def r5_7 : List AOper := [ao 0 24 (.ld 3 true (.t 3)),
  ao 1 25 (.ld 3 true (.t 4)),
  ao 2 26 (.ld 5 true (.t 5)),
  ao 3 27 (.call (.k (.c (.fn 16 []))) [(.t 24), (.t 25), (.t 26)]),
  ao 4 23 (.mv (.t 27)),
  ao 5 28 (.ext 0 (.t 23)),
  ao 6 29 (.ext 1 (.t 23)),
  ao 7 6 (.alloc 29 [(.v (.s (.int .i64 0))), (.v (.s (.int .i64 0))), (.v (.s (.string ⟨#[]⟩))), .nil0, .nil0]),
  an 8 (.st 5 (.t 6) (.t 28)),
  ao 9 7 (.mv (.t 29))]
def r5_8 : List AOper := [ao 0 30 (.ld 3 true (.t 3)),
  ao 1 31 (.ld 5 true (.t 5)),
  ao 2 32 (.call (.k (.c (.fn 24 []))) [(.t 30), (.t 31)]),
  ao 3 8 (.mv (.t 32))]
def r5_9 : List AOper := [ao 0 33 (.ld 3 true (.t 3)),
  ao 1 34 (.call (.k (.c (.fn 25 []))) [(.t 33)]),
  ao 2 9 (.mv (.t 34))]
def r5_10 : List AOper := [ao 0 36 (.ld 3 true (.t 3)),
  ao 1 37 (.ld 3 true (.t 4)),
  ao 2 38 (.ld 5 true (.t 5)),
  ao 3 39 (.call (.k (.c (.fn 12 []))) [(.t 36), (.t 37), (.t 38)]),
  ao 4 35 (.mv (.t 39)),
  ao 5 40 (.ext 0 (.t 35)),
  ao 6 41 (.ext 1 (.t 35)),
  ao 7 10 (.alloc 29 [(.v (.s (.int .i64 0))), (.v (.s (.int .i64 0))), (.v (.s (.string ⟨#[]⟩))), .nil0, .nil0]),
  an 8 (.st 5 (.t 10) (.t 40)),
  ao 9 11 (.mv (.t 41))]
def r5_11 : List AOper := [ao 0 42 (.ld 3 true (.t 3)),
  ao 1 43 (.ld 3 true (.t 3)),
  ao 2 44 (.call (.k (.c (.fn 11 []))) [(.t 42), (.t 43)]),
  ao 3 45 (.mv (.t 9)),
  ao 4 46 (.binB .neq (.t 44) (.t 45))]
def r5_12 : List AOper := [ao 0 2 (.mv (.k (.b false)))]
def c5_13 : ACode := .seq (.reg r5_12) .ret
def c5_14 : ACode := .cond (.t 46) c5_13 .skip
def c5_15 : ACode := .seq (.reg r5_11) c5_14
def r5_16 : List AOper := [ao 0 47 (.mv (.t 11)),
  ao 1 48 (.mv (.t 7)),
  ao 2 49 (.binB .neq (.t 47) (.t 48)),
  ao 3 50 (.mv (.t 49)),
  ag 4 51 50 false [] (.ld 5 true (.t 10)),
  ag 5 52 50 false [] (.ld 5 true (.t 6)),
  ag 6 53 50 false [] (.call (.k (.c (.fn 13 []))) [(.t 51), (.t 52)]),
  ag 7 54 50 false [] (.un .not (.t 53)),
  ao 8 55 (.pick (.t 50) (.k (.b true)) (.t 54))]
def r5_17 : List AOper := [ao 0 2 (.mv (.k (.b false)))]
def c5_18 : ACode := .seq (.reg r5_17) .ret
def c5_19 : ACode := .cond (.t 55) c5_18 .skip
def c5_20 : ACode := .seq (.reg r5_16) c5_19
def r5_21 : List AOper := [ao 0 56 (.mv (.t 8))]
def r5_22 : List AOper := [ao 0 58 (.ld 3 true (.t 3)),
  ao 1 59 (.ld 3 true (.t 3)),
  ao 2 60 (.ld 5 true (.t 5)),
  ao 3 61 (.call (.k (.c (.fn 12 []))) [(.t 58), (.t 59), (.t 60)]),
  ao 4 57 (.mv (.t 61)),
  ao 5 62 (.ext 0 (.t 57)),
  ao 6 63 (.ext 1 (.t 57)),
  ao 7 12 (.alloc 29 [(.v (.s (.int .i64 0))), (.v (.s (.int .i64 0))), (.v (.s (.string ⟨#[]⟩))), .nil0, .nil0]),
  an 8 (.st 5 (.t 12) (.t 62)),
  ao 9 13 (.mv (.t 63))]
def r5_23 : List AOper := [ao 0 64 (.mv (.t 13)),
  ao 1 65 (.un .not (.t 64)),
  ao 2 66 (.mv (.t 65)),
  ag 3 67 66 false [] (.ld 5 true (.t 12)),
  ag 4 68 66 false [] (.ld 5 true (.t 5)),
  ag 5 69 66 false [] (.call (.k (.c (.fn 13 []))) [(.t 67), (.t 68)]),
  ag 6 70 66 false [] (.un .not (.t 69)),
  ao 7 71 (.pick (.t 66) (.k (.b true)) (.t 70))]
def r5_24 : List AOper := [ao 0 2 (.mv (.k (.b false)))]
def c5_25 : ACode := .seq (.reg r5_24) .ret
def c5_26 : ACode := .cond (.t 71) c5_25 .skip
def c5_27 : ACode := .seq (.reg r5_22) (.seq (.reg r5_23) c5_26)
def c5_28 : ACode := .cond (.t 56) c5_27 .skip
def c5_29 : ACode := .seq (.reg r5_21) c5_28
def r5_30 : List AOper := [ao 0 72 (.mv (.t 11)),
  ao 1 73 (.un .not (.t 72))]
def r5_31 : List AOper := [ao 0 74 (.fa 0 (.t 10)),
  ao 1 75 (.ld 1 false (.t 74)),
  ao 2 76 (.bin .eql (.t 75) (.k (.i 0))),
  ao 3 2 (.mv (.t 76))]
def c5_32 : ACode := .seq (.reg r5_31) .ret
def c5_33 : ACode := .cond (.t 73) c5_32 .skip
def c5_34 : ACode := .seq (.reg r5_30) c5_33
def r5_35 : List AOper := [ao 0 77 (.ld 3 true (.t 3)),
  au 1 78 [0] (.ld 3 true (.t 4)),
  ao 2 79 (.call (.k (.c (.fn 11 []))) [(.t 77), (.t 78)]),
  ao 3 80 (.mv (.t 79)),
  ag 4 81 80 true [] (.ld 3 true (.t 4)),
  ag 5 82 80 true [4] (.ld 5 true (.t 10)),
  ag 6 83 80 true [] (.call (.k (.c (.fn 26 []))) [(.t 81), (.t 82)]),
  ao 7 84 (.pick (.t 80) (.t 83) (.k (.b false))),
  ao 8 85 (.mv (.t 84)),
  ag 9 86 85 true [] (.ld 5 true (.t 10)),
  ag 10 87 85 true [] (.call (.k (.c (.fn 27 []))) [(.t 86)]),
  ag 11 88 85 true [9, 10] (.ld 5 true (.t 5)),
  ag 12 89 85 true [] (.call (.k (.c (.fn 27 []))) [(.t 88)]),
  ag 13 90 85 true [] (.bin .geq (.t 87) (.t 89)),
  ao 14 91 (.pick (.t 85) (.t 90) (.k (.b false))),
  ao 15 2 (.mv (.t 91))]
def c5 : ACode := .seq (.reg r5_0) (.seq c5_5 (.seq (.reg r5_6) (.seq (.reg r5_7) (.seq (.reg r5_8) (.seq (.reg r5_9) (.seq (.reg r5_10) (.seq c5_15 (.seq c5_20 (.seq c5_29 (.seq c5_34 (.seq (.reg r5_35) .ret)))))))))))
def s5 : List ARes := [.tmp 2]
theorem ok5 : okF Try.prog 5 92 c5 s5 := ⟨Try.f5, Try.func5, Try.ntmps5, by kernel_rfl, by kernel_rfl, by kernel_rfl⟩
theorem UMg_2 : (type_of% (uA c5.eq_1)) ∧ (type_of% (uR r5_0.eq_1)) ∧ (type_of% (uA c5_5.eq_1)) ∧ (type_of% (uR r5_1.eq_1)) ∧ (type_of% (uA c5_4.eq_1)) ∧ (type_of% (uA c5_3.eq_1)) ∧ (type_of% (uR r5_2.eq_1)) ∧ (type_of% (uR r5_6.eq_1)) ∧ (type_of% (uR r5_7.eq_1)) ∧ (type_of% (uR r5_8.eq_1)) ∧ (type_of% (uR r5_9.eq_1)) ∧ (type_of% (uR r5_10.eq_1)) ∧ (type_of% (uA c5_15.eq_1)) ∧ (type_of% (uR r5_11.eq_1)) ∧ (type_of% (uA c5_14.eq_1)) ∧ (type_of% (uA c5_13.eq_1)) ∧ (type_of% (uR r5_12.eq_1)) ∧ (type_of% (uA c5_20.eq_1)) ∧ (type_of% (uR r5_16.eq_1)) ∧ (type_of% (uA c5_19.eq_1)) ∧ (type_of% (uA c5_18.eq_1)) ∧ (type_of% (uR r5_17.eq_1)) ∧ (type_of% (uA c5_29.eq_1)) ∧ (type_of% (uR r5_21.eq_1)) ∧ (type_of% (uA c5_28.eq_1)) ∧ (type_of% (uA c5_27.eq_1)) ∧ (type_of% (uR r5_22.eq_1)) ∧ (type_of% (uR r5_23.eq_1)) ∧ (type_of% (uA c5_26.eq_1)) ∧ (type_of% (uA c5_25.eq_1)) ∧ (type_of% (uR r5_24.eq_1)) ∧ (type_of% (uA c5_34.eq_1)) ∧ (type_of% (uR r5_30.eq_1)) ∧ (type_of% (uA c5_33.eq_1)) ∧ (type_of% (uA c5_32.eq_1)) ∧ (type_of% (uR r5_31.eq_1)) ∧ (type_of% (uR r5_35.eq_1)) ∧ (type_of% s5.eq_1) :=
  ⟨uA c5.eq_1, uR r5_0.eq_1, uA c5_5.eq_1, uR r5_1.eq_1, uA c5_4.eq_1, uA c5_3.eq_1, uR r5_2.eq_1, uR r5_6.eq_1, uR r5_7.eq_1, uR r5_8.eq_1, uR r5_9.eq_1, uR r5_10.eq_1, uA c5_15.eq_1, uR r5_11.eq_1, uA c5_14.eq_1, uA c5_13.eq_1, uR r5_12.eq_1, uA c5_20.eq_1, uR r5_16.eq_1, uA c5_19.eq_1, uA c5_18.eq_1, uR r5_17.eq_1, uA c5_29.eq_1, uR r5_21.eq_1, uA c5_28.eq_1, uA c5_27.eq_1, uR r5_22.eq_1, uR r5_23.eq_1, uA c5_26.eq_1, uA c5_25.eq_1, uR r5_24.eq_1, uA c5_34.eq_1, uR r5_30.eq_1, uA c5_33.eq_1, uA c5_32.eq_1, uR r5_31.eq_1, uR r5_35.eq_1, s5.eq_1⟩
theorem UMg_3 : (type_of% (uA c5.eq_1)) ∧ (type_of% (uR r5_0.eq_1)) ∧ (type_of% (uA c5_5.eq_1)) ∧ (type_of% (uR r5_1.eq_1)) ∧ (type_of% (uA c5_4.eq_1)) ∧ (type_of% (uA c5_3.eq_1)) ∧ (type_of% (uR r5_2.eq_1)) ∧ (type_of% (uR r5_6.eq_1)) ∧ (type_of% (uR r5_7.eq_1)) ∧ (type_of% (uR r5_8.eq_1)) ∧ (type_of% (uR r5_9.eq_1)) ∧ (type_of% (uR r5_10.eq_1)) ∧ (type_of% s5.eq_1) :=
  ⟨uA c5.eq_1, uR r5_0.eq_1, uA c5_5.eq_1, uR r5_1.eq_1, uA c5_4.eq_1, uA c5_3.eq_1, uR r5_2.eq_1, uR r5_6.eq_1, uR r5_7.eq_1, uR r5_8.eq_1, uR r5_9.eq_1, uR r5_10.eq_1, s5.eq_1⟩
theorem UMg_4 : (type_of% (uA c5.eq_1)) ∧ (type_of% (uR r5_0.eq_1)) ∧ (type_of% (uA c5_5.eq_1)) ∧ (type_of% (uR r5_1.eq_1)) ∧ (type_of% (uA c5_4.eq_1)) ∧ (type_of% (uA c5_3.eq_1)) ∧ (type_of% (uR r5_2.eq_1)) ∧ (type_of% (uR r5_6.eq_1)) ∧ (type_of% (uR r5_7.eq_1)) ∧ (type_of% (uR r5_8.eq_1)) ∧ (type_of% (uR r5_9.eq_1)) ∧ (type_of% (uR r5_10.eq_1)) ∧ (type_of% (uA c5_15.eq_1)) ∧ (type_of% (uR r5_11.eq_1)) ∧ (type_of% (uA c5_14.eq_1)) ∧ (type_of% (uA c5_13.eq_1)) ∧ (type_of% (uR r5_12.eq_1)) ∧ (type_of% s5.eq_1) :=
  ⟨uA c5.eq_1, uR r5_0.eq_1, uA c5_5.eq_1, uR r5_1.eq_1, uA c5_4.eq_1, uA c5_3.eq_1, uR r5_2.eq_1, uR r5_6.eq_1, uR r5_7.eq_1, uR r5_8.eq_1, uR r5_9.eq_1, uR r5_10.eq_1, uA c5_15.eq_1, uR r5_11.eq_1, uA c5_14.eq_1, uA c5_13.eq_1, uR r5_12.eq_1, s5.eq_1⟩
theorem UMg_5 : (type_of% (uA c5.eq_1)) ∧ (type_of% (uR r5_0.eq_1)) ∧ (type_of% (uA c5_5.eq_1)) ∧ (type_of% (uR r5_1.eq_1)) ∧ (type_of% (uA c5_4.eq_1)) ∧ (type_of% (uA c5_3.eq_1)) ∧ (type_of% (uR r5_2.eq_1)) ∧ (type_of% (uR r5_6.eq_1)) ∧ (type_of% (uR r5_7.eq_1)) ∧ (type_of% (uR r5_8.eq_1)) ∧ (type_of% (uR r5_9.eq_1)) ∧ (type_of% (uR r5_10.eq_1)) ∧ (type_of% (uA c5_15.eq_1)) ∧ (type_of% (uR r5_11.eq_1)) ∧ (type_of% (uA c5_14.eq_1)) ∧ (type_of% (uA c5_13.eq_1)) ∧ (type_of% (uR r5_12.eq_1)) ∧ (type_of% (uA c5_20.eq_1)) ∧ (type_of% (uR r5_16.eq_1)) ∧ (type_of% (uA c5_19.eq_1)) ∧ (type_of% (uA c5_18.eq_1)) ∧ (type_of% (uR r5_17.eq_1)) ∧ (type_of% s5.eq_1) :=
  ⟨uA c5.eq_1, uR r5_0.eq_1, uA c5_5.eq_1, uR r5_1.eq_1, uA c5_4.eq_1, uA c5_3.eq_1, uR r5_2.eq_1, uR r5_6.eq_1, uR r5_7.eq_1, uR r5_8.eq_1, uR r5_9.eq_1, uR r5_10.eq_1, uA c5_15.eq_1, uR r5_11.eq_1, uA c5_14.eq_1, uA c5_13.eq_1, uR r5_12.eq_1, uA c5_20.eq_1, uR r5_16.eq_1, uA c5_19.eq_1, uA c5_18.eq_1, uR r5_17.eq_1, s5.eq_1⟩
theorem UMg_6 : (type_of% (uA c5.eq_1)) ∧ (type_of% (uR r5_0.eq_1)) ∧ (type_of% (uA c5_5.eq_1)) ∧ (type_of% (uR r5_1.eq_1)) ∧ (type_of% (uA c5_4.eq_1)) ∧ (type_of% (uA c5_3.eq_1)) ∧ (type_of% (uR r5_2.eq_1)) ∧ (type_of% (uR r5_6.eq_1)) ∧ (type_of% (uR r5_7.eq_1)) ∧ (type_of% (uR r5_8.eq_1)) ∧ (type_of% (uR r5_9.eq_1)) ∧ (type_of% (uR r5_10.eq_1)) ∧ (type_of% (uA c5_15.eq_1)) ∧ (type_of% (uR r5_11.eq_1)) ∧ (type_of% (uA c5_14.eq_1)) ∧ (type_of% (uA c5_13.eq_1)) ∧ (type_of% (uR r5_12.eq_1)) ∧ (type_of% (uA c5_20.eq_1)) ∧ (type_of% (uR r5_16.eq_1)) ∧ (type_of% (uA c5_19.eq_1)) ∧ (type_of% (uA c5_18.eq_1)) ∧ (type_of% (uR r5_17.eq_1)) ∧ (type_of% (uA c5_29.eq_1)) ∧ (type_of% (uR r5_21.eq_1)) ∧ (type_of% (uA c5_28.eq_1)) ∧ (type_of% (uA c5_27.eq_1)) ∧ (type_of% (uR r5_22.eq_1)) ∧ (type_of% (uR r5_23.eq_1)) ∧ (type_of% (uA c5_26.eq_1)) ∧ (type_of% (uA c5_25.eq_1)) ∧ (type_of% (uR r5_24.eq_1)) ∧ (type_of% s5.eq_1) :=
  ⟨uA c5.eq_1, uR r5_0.eq_1, uA c5_5.eq_1, uR r5_1.eq_1, uA c5_4.eq_1, uA c5_3.eq_1, uR r5_2.eq_1, uR r5_6.eq_1, uR r5_7.eq_1, uR r5_8.eq_1, uR r5_9.eq_1, uR r5_10.eq_1, uA c5_15.eq_1, uR r5_11.eq_1, uA c5_14.eq_1, uA c5_13.eq_1, uR r5_12.eq_1, uA c5_20.eq_1, uR r5_16.eq_1, uA c5_19.eq_1, uA c5_18.eq_1, uR r5_17.eq_1, uA c5_29.eq_1, uR r5_21.eq_1, uA c5_28.eq_1, uA c5_27.eq_1, uR r5_22.eq_1, uR r5_23.eq_1, uA c5_26.eq_1, uA c5_25.eq_1, uR r5_24.eq_1, s5.eq_1⟩
set_option maxHeartbeats 1000000 in
theorem lawW_ok (code : List UInt8) : ACallsF Try.prog 5 [.c (.v (.sl (encB code)))] [] (.b true) := by
  obtain ⟨a, b, t, hBa, hBb, hBt, hC8⟩ := drawWiden_ok code
  obtain ⟨w, told, hKS, hBw, W0⟩ := kindWidenS_ok a b t hBa hBb hBt
  obtain ⟨u, ok, hKI, hBu, W1⟩ := kindWiden_ok a b t hBa hBb hBt
  obtain ⟨same, fine, hKa, hBs, W2⟩ := kindWiden_ok a a t hBa hBa hBt
  have hCh := kindHasS_ok a t hBa (hBt.le (by omega))
  have hCo := kindOkS_ok a (hBa.le (by omega))
  have hCf := kindFitsI_ok a a hBa hBa
  have hself : (okK a && (okK a && fits a a)) = okK a := by
    cases h : okK a with
    | false => rfl
    | true => rw [fits_true.2 (fits_refl a _ (okK_true.1 h).1)]; rfl
  rw [hself] at hCf
  obtain ⟨rfl, rfl⟩ := kw_one hKI hKS
  have hT1 := ttTree_ok u u (hBu.le (by omega)) (hBu.le (by omega))
  rw [eqT_true.2 rfl] at hT1
  have tail : ∀ (X : Ctx) (t1 : Nat → T) (H : HMap) (c : Nat), (∃ v, t1 3 = .c (.ptr 3 v 0) ∧ H 3 = some (.var v 26 ((encK a).map .v))) → (∃ v, t1 4 = .c (.ptr 4 v 0) ∧ H 4 = some (.var v 26 ((encK b).map .v))) → (∃ v, t1 5 = .c (.ptr 5 v 0) ∧ H 5 = some (.var v 29 ((encT t).map .v))) →
      (∃ v, t1 10 = .c (.ptr 10 v 0) ∧ H 10 = some (.var v 29 ((encT u).map .v))) → t1 11 = .b ok → wpa Try.prog X c5_34 (thenW Try.prog X (.seq (.reg r5_35) .ret) (endA (FinC s5 (.b true) []))) ⟨t1, H, c⟩ := by
    rintro X t1 H c ⟨v3, e3, eH3⟩ ⟨v4, e4, eH4⟩ ⟨v5, e5, eH5⟩ ⟨v10, e10, eH10⟩ e11
    simp only [T.c, T.b] at e3 eH3 e4 eH4 e5 eH5 e10 eH10 e11
    cases ok with
    | false =>
      have hu : u = z0T := by
        rcases hKI with ⟨w, _, _, _, _, _, _, ⟨_, h, _⟩ | ⟨_, _, h⟩⟩ | ⟨_, _, h⟩
        · cases h
        · exact h
        · exact h
      subst hu
      rw [enc_z0T] at eH10
      simp only [List.map_cons, List.map_nil] at eH10
      simp only [RUN, core, T.c, T.s, T.b, T.i, sBin, sInt, sUn, isShift, asInt, P1.cells, loadT, ptrC, storeT, putC, fillP, Nat.reduceAdd, reduceIte, Nat.reduceEqDiff, Nat.reduceLT, Nat.reduceLeDiff, reduceCtorEq, eq_self, FIT, lendCs_map, verC_map, FinC, resPs, resP, lendPl, lendCs, lendC, sealC, partsT, finHs, tupT, verT, verP, verC, verB, verAt, Blk.ver, handsAre, forall_const, CHT, disj, Nat.reduceBEq, beq_self_eq_true, APT, srcOf, sealPs, sealCs, sealC, List.mem_singleton, forall_eq, ALT, UMg_2, e10, eH10, e11, Int.reduceBEq]
    | true =>
      obtain ⟨w, ha, hb, hF, hT, hH, hW, hok⟩ : ∃ w, okK a = true ∧ okK b = true ∧ Fits a b ∧ okT t = true ∧ Has a t ∧ Wd a b t w ∧ okT w = true ∧ u = w := by
        rcases hKI with ⟨w, h1, h2, h3, h4, h5, h6, ⟨k1, _, k2⟩ | ⟨_, h, _⟩⟩ | ⟨_, h, _⟩
        · exact ⟨w, h1, h2, h3, h4, h5, h6, k1, k2⟩
        · cases h
        · cases h
      obtain ⟨hokw, rfl⟩ := hok
      have hTW := (TOk.ts (okT_true.1 hT).1).1
      obtain ⟨hHu, hTu⟩ := wd_has b a t u _ _ (okK_true.1 ha).1 (okK_true.1 hb).1 hTW hF hH hW
      obtain ⟨hle, _⟩ := wd_le b a t u _ _ (okK_true.1 ha).1 (okK_true.1 hb).1 hTW hF hH hW
      have C1 := kindFitsI_ok a b hBa hBb
      have C2 := kindHas_ok b u hBb (hBu.le (by omega))
      rw [ha, hb, fits_true.2 hF] at C1
      rw [hb, hokw, has_true.2 hHu] at C2
      obtain ⟨q1, p1, C3⟩ := treeParts_ok u (hBu.le (by omega))
      obtain ⟨q2, p2, C4⟩ := treeParts_ok t (hBt.le (by omega))
      have hq1 : q1 = tparts u := by
        rcases p1 with ⟨_, _, h⟩ | ⟨h, _⟩
        · exact h
        · exact absurd (okT_true.1 hokw) h
      have hq2 : q2 = tparts t := by
        rcases p2 with ⟨_, _, h⟩ | ⟨h, _⟩
        · exact h
        · exact absurd (okT_true.1 hT) h
      have hge : q1 ≥ q2 := by omega
      simp only [RUN, core, T.c, T.s, T.b, T.i, sBin, sInt, sUn, isShift, asInt, P1.cells, loadT, ptrC, storeT, putC, fillP, Nat.reduceAdd, reduceIte, Nat.reduceEqDiff, Nat.reduceLT, Nat.reduceLeDiff, reduceCtorEq, eq_self, FIT, lendCs_map, verC_map, FinC, resPs, resP, lendPl, lendCs, lendC, sealC, partsT, finHs, tupT, verT, verP, verC, verB, verAt, Blk.ver, handsAre, forall_const, CHT, disj, Nat.reduceBEq, beq_self_eq_true, APT, srcOf, sealPs, sealCs, sealC, List.mem_singleton, forall_eq, ALT, UMg_2, e3, eH3, e4, eH4, e5, eH5, e10, eH10, e11, List.length_map, encK_len, takeK, encT_len, takeT, Nat.le_refl]
      refine callC C1 rfl rfl (by simp [closedA, closedP, closedC]) rfl ?_
      simp only [RUN, core, T.c, T.s, T.b, T.i, sBin, sInt, sUn, isShift, asInt, P1.cells, loadT, ptrC, storeT, putC, fillP, Nat.reduceAdd, reduceIte, Nat.reduceEqDiff, Nat.reduceLT, Nat.reduceLeDiff, reduceCtorEq, eq_self, FIT, lendCs_map, verC_map, FinC, resPs, resP, lendPl, lendCs, lendC, sealC, partsT, finHs, tupT, verT, verP, verC, verB, verAt, Blk.ver, handsAre, forall_const, CHT, disj, Nat.reduceBEq, beq_self_eq_true, APT, srcOf, sealPs, sealCs, sealC, List.mem_singleton, forall_eq, ALT, UMg_2, e3, eH3, e4, eH4, e5, eH5, e10, eH10, e11, List.length_map, encK_len, takeK, encT_len, takeT, Nat.le_refl]
      refine callC C2 rfl rfl (by simp [closedA, closedP, closedC]) rfl ?_
      simp only [RUN, core, T.c, T.s, T.b, T.i, sBin, sInt, sUn, isShift, asInt, P1.cells, loadT, ptrC, storeT, putC, fillP, Nat.reduceAdd, reduceIte, Nat.reduceEqDiff, Nat.reduceLT, Nat.reduceLeDiff, reduceCtorEq, eq_self, FIT, lendCs_map, verC_map, FinC, resPs, resP, lendPl, lendCs, lendC, sealC, partsT, finHs, tupT, verT, verP, verC, verB, verAt, Blk.ver, handsAre, forall_const, CHT, disj, Nat.reduceBEq, beq_self_eq_true, APT, srcOf, sealPs, sealCs, sealC, List.mem_singleton, forall_eq, ALT, UMg_2, e3, eH3, e4, eH4, e5, eH5, e10, eH10, e11, List.length_map, encK_len, takeK, encT_len, takeT, Nat.le_refl]
      refine callC C3 rfl rfl (by simp [closedA, closedP, closedC]) rfl ?_
      simp only [RUN, core, T.c, T.s, T.b, T.i, sBin, sInt, sUn, isShift, asInt, P1.cells, loadT, ptrC, storeT, putC, fillP, Nat.reduceAdd, reduceIte, Nat.reduceEqDiff, Nat.reduceLT, Nat.reduceLeDiff, reduceCtorEq, eq_self, FIT, lendCs_map, verC_map, FinC, resPs, resP, lendPl, lendCs, lendC, sealC, partsT, finHs, tupT, verT, verP, verC, verB, verAt, Blk.ver, handsAre, forall_const, CHT, disj, Nat.reduceBEq, beq_self_eq_true, APT, srcOf, sealPs, sealCs, sealC, List.mem_singleton, forall_eq, ALT, UMg_2, e3, eH3, e4, eH4, e5, eH5, e10, eH10, e11, List.length_map, encK_len, takeK, encT_len, takeT, Nat.le_refl]
      refine callC C4 rfl rfl (by simp [closedA, closedP, closedC]) rfl ?_
      simp only [RUN, core, T.c, T.s, T.b, T.i, sBin, sInt, sUn, isShift, asInt, P1.cells, loadT, ptrC, storeT, putC, fillP, Nat.reduceAdd, reduceIte, Nat.reduceEqDiff, Nat.reduceLT, Nat.reduceLeDiff, reduceCtorEq, eq_self, FIT, lendCs_map, verC_map, FinC, resPs, resP, lendPl, lendCs, lendC, sealC, partsT, finHs, tupT, verT, verP, verC, verB, verAt, Blk.ver, handsAre, forall_const, CHT, disj, Nat.reduceBEq, beq_self_eq_true, APT, srcOf, sealPs, sealCs, sealC, List.mem_singleton, forall_eq, ALT, UMg_2, hge]
  refine ACallsF.intro ok5 follows fun X c0 => ?_
  by_cases hl1 : (code.length : Int) > 1048576
  · simp only [RUN, core, T.c, T.s, T.b, T.i, sBin, sInt, sUn, isShift, asInt, P1.cells, loadT, ptrC, storeT, putC, fillP, Nat.reduceAdd, reduceIte, Nat.reduceEqDiff, Nat.reduceLT, Nat.reduceLeDiff, reduceCtorEq, eq_self, FIT, lendCs_map, verC_map, FinC, resPs, resP, lendPl, lendCs, lendC, sealC, partsT, finHs, tupT, verT, verP, verC, verB, verAt, Blk.ver, handsAre, forall_const, CHT, disj, Nat.reduceBEq, beq_self_eq_true, APT, srcOf, sealPs, sealCs, sealC, List.mem_singleton, forall_eq, ALT, UMg_2, encB_len, hl1]
  simp only [RUN, core, T.c, T.s, T.b, T.i, sBin, sInt, sUn, isShift, asInt, P1.cells, loadT, ptrC, storeT, putC, fillP, Nat.reduceAdd, reduceIte, Nat.reduceEqDiff, Nat.reduceLT, Nat.reduceLeDiff, reduceCtorEq, eq_self, FIT, lendCs_map, verC_map, FinC, resPs, resP, lendPl, lendCs, lendC, sealC, partsT, finHs, tupT, verT, verP, verC, verB, verAt, Blk.ver, handsAre, forall_const, CHT, disj, Nat.reduceBEq, beq_self_eq_true, APT, srcOf, sealPs, sealCs, sealC, List.mem_singleton, forall_eq, ALT, UMg_3, encB_len, hl1]
  refine callC hC8 rfl rfl (by simp [closedA, closedP, closedC]) (by simp [closedT, closedP, closedC]) ?_
  simp only [RUN, core, T.c, T.s, T.b, T.i, sBin, sInt, sUn, isShift, asInt, P1.cells, loadT, ptrC, storeT, putC, fillP, Nat.reduceAdd, reduceIte, Nat.reduceEqDiff, Nat.reduceLT, Nat.reduceLeDiff, reduceCtorEq, eq_self, FIT, lendCs_map, verC_map, FinC, resPs, resP, lendPl, lendCs, lendC, sealC, partsT, finHs, tupT, verT, verP, verC, verB, verAt, Blk.ver, handsAre, forall_const, CHT, disj, Nat.reduceBEq, beq_self_eq_true, APT, srcOf, sealPs, sealCs, sealC, List.mem_singleton, forall_eq, ALT, UMg_3, List.length_map, encK_len, takeK, encT_len, takeT, Nat.le_refl]
  refine callC W0 rfl rfl (by simp [closedA, closedP, closedC]) (by simp [closedT, closedP, closedC]) ?_
  simp only [RUN, core, T.c, T.s, T.b, T.i, sBin, sInt, sUn, isShift, asInt, P1.cells, loadT, ptrC, storeT, putC, fillP, Nat.reduceAdd, reduceIte, Nat.reduceEqDiff, Nat.reduceLT, Nat.reduceLeDiff, reduceCtorEq, eq_self, FIT, lendCs_map, verC_map, FinC, resPs, resP, lendPl, lendCs, lendC, sealC, partsT, finHs, tupT, verT, verP, verC, verB, verAt, Blk.ver, handsAre, forall_const, CHT, disj, Nat.reduceBEq, beq_self_eq_true, APT, srcOf, sealPs, sealCs, sealC, List.mem_singleton, forall_eq, ALT, UMg_3, List.length_map, encK_len, takeK, encT_len, takeT, Nat.le_refl]
  refine callC hCh rfl rfl (by simp [closedA, closedP, closedC]) rfl ?_
  simp only [RUN, core, T.c, T.s, T.b, T.i, sBin, sInt, sUn, isShift, asInt, P1.cells, loadT, ptrC, storeT, putC, fillP, Nat.reduceAdd, reduceIte, Nat.reduceEqDiff, Nat.reduceLT, Nat.reduceLeDiff, reduceCtorEq, eq_self, FIT, lendCs_map, verC_map, FinC, resPs, resP, lendPl, lendCs, lendC, sealC, partsT, finHs, tupT, verT, verP, verC, verB, verAt, Blk.ver, handsAre, forall_const, CHT, disj, Nat.reduceBEq, beq_self_eq_true, APT, srcOf, sealPs, sealCs, sealC, List.mem_singleton, forall_eq, ALT, UMg_3, List.length_map, encK_len, takeK, encT_len, takeT, Nat.le_refl]
  refine callC hCo rfl rfl (by simp [closedA, closedP, closedC]) rfl ?_
  simp only [RUN, core, T.c, T.s, T.b, T.i, sBin, sInt, sUn, isShift, asInt, P1.cells, loadT, ptrC, storeT, putC, fillP, Nat.reduceAdd, reduceIte, Nat.reduceEqDiff, Nat.reduceLT, Nat.reduceLeDiff, reduceCtorEq, eq_self, FIT, lendCs_map, verC_map, FinC, resPs, resP, lendPl, lendCs, lendC, sealC, partsT, finHs, tupT, verT, verP, verC, verB, verAt, Blk.ver, handsAre, forall_const, CHT, disj, Nat.reduceBEq, beq_self_eq_true, APT, srcOf, sealPs, sealCs, sealC, List.mem_singleton, forall_eq, ALT, UMg_3, List.length_map, encK_len, takeK, encT_len, takeT, Nat.le_refl]
  refine callC W1 rfl rfl (by simp [closedA, closedP, closedC]) (by simp [closedT, closedP, closedC]) ?_
  simp only [RUN, core, T.c, T.s, T.b, T.i, sBin, sInt, sUn, isShift, asInt, P1.cells, loadT, ptrC, storeT, putC, fillP, Nat.reduceAdd, reduceIte, Nat.reduceEqDiff, Nat.reduceLT, Nat.reduceLeDiff, reduceCtorEq, eq_self, FIT, lendCs_map, verC_map, FinC, resPs, resP, lendPl, lendCs, lendC, sealC, partsT, finHs, tupT, verT, verP, verC, verB, verAt, Blk.ver, handsAre, forall_const, CHT, disj, Nat.reduceBEq, beq_self_eq_true, APT, srcOf, sealPs, sealCs, sealC, List.mem_singleton, forall_eq, ALT, UMg_4, List.length_map, encK_len, takeK, encT_len, takeT, Nat.le_refl]
  refine callC hCf rfl rfl (by simp [closedA, closedP, closedC]) rfl ?_
  have e1 : (!(okK a == okK a)) = false := by simp
  have e2 : (!(ok == ok)) = false := by simp
  simp only [RUN, core, T.c, T.s, T.b, T.i, sBin, sInt, sUn, isShift, asInt, P1.cells, loadT, ptrC, storeT, putC, fillP, Nat.reduceAdd, reduceIte, Nat.reduceEqDiff, Nat.reduceLT, Nat.reduceLeDiff, reduceCtorEq, eq_self, FIT, lendCs_map, verC_map, FinC, resPs, resP, lendPl, lendCs, lendC, sealC, partsT, finHs, tupT, verT, verP, verC, verB, verAt, Blk.ver, handsAre, forall_const, CHT, disj, Nat.reduceBEq, beq_self_eq_true, APT, srcOf, sealPs, sealCs, sealC, List.mem_singleton, forall_eq, ALT, UMg_5, e1, e2, List.length_map, encK_len, takeK, encT_len, takeT, Nat.le_refl]
  refine callC hT1 rfl rfl (by simp [closedA, closedP, closedC]) rfl ?_
  cases hhas : (okK a && (okT t && has a t)) with
  | false =>
    simp only [RUN, core, T.c, T.s, T.b, T.i, sBin, sInt, sUn, isShift, asInt, P1.cells, loadT, ptrC, storeT, putC, fillP, Nat.reduceAdd, reduceIte, Nat.reduceEqDiff, Nat.reduceLT, Nat.reduceLeDiff, reduceCtorEq, eq_self, FIT, lendCs_map, verC_map, FinC, resPs, resP, lendPl, lendCs, lendC, sealC, partsT, finHs, tupT, verT, verP, verC, verB, verAt, Blk.ver, handsAre, forall_const, CHT, disj, Nat.reduceBEq, beq_self_eq_true, APT, srcOf, sealPs, sealCs, sealC, List.mem_singleton, forall_eq, ALT, UMg_6, hhas]
    exact tail X _ _ _ ⟨_, rfl, rfl⟩ ⟨_, rfl, rfl⟩ ⟨_, rfl, rfl⟩ ⟨_, rfl, rfl⟩ rfl
  | true =>
    have hh := hhas
    simp only [Bool.and_eq_true] at hh
    obtain ⟨ha, hT, hH⟩ := hh
    have hH := has_true.1 hH
    have hTW := (TOk.ts (okT_true.1 hT).1).1
    have hOa := (okK_true.1 ha).1
    have hrefl := fits_refl a _ hOa
    have hst : fine = true ∧ same = t := by
      rcases hKa with ⟨w, _, _, _, _, _, hW, r⟩ | ⟨hn, _⟩
      · have e := wd_one a a t w t _ _ hOa hOa hTW hrefl hH hW (wd_refl a t _ hOa hTW hH)
        subst e
        rcases r with ⟨_, r1, r2⟩ | ⟨r0, _⟩
        · exact ⟨r1, r2⟩
        · rw [hT] at r0; cases r0
      · exact absurd ⟨ha, ha, hrefl, hT, hH⟩ hn
    obtain ⟨rfl, rfl⟩ := hst
    have hT2 := ttTree_ok same same (hBs.le (by omega)) (hBs.le (by omega))
    rw [eqT_true.2 rfl] at hT2
    simp only [RUN, core, T.c, T.s, T.b, T.i, sBin, sInt, sUn, isShift, asInt, P1.cells, loadT, ptrC, storeT, putC, fillP, Nat.reduceAdd, reduceIte, Nat.reduceEqDiff, Nat.reduceLT, Nat.reduceLeDiff, reduceCtorEq, eq_self, FIT, lendCs_map, verC_map, FinC, resPs, resP, lendPl, lendCs, lendC, sealC, partsT, finHs, tupT, verT, verP, verC, verB, verAt, Blk.ver, handsAre, forall_const, CHT, disj, Nat.reduceBEq, beq_self_eq_true, APT, srcOf, sealPs, sealCs, sealC, List.mem_singleton, forall_eq, ALT, UMg_6, hhas, List.length_map, encK_len, takeK, encT_len, takeT, Nat.le_refl]
    refine callC W2 rfl rfl (by simp [closedA, closedP, closedC]) (by simp [closedT, closedP, closedC]) ?_
    simp only [RUN, core, T.c, T.s, T.b, T.i, sBin, sInt, sUn, isShift, asInt, P1.cells, loadT, ptrC, storeT, putC, fillP, Nat.reduceAdd, reduceIte, Nat.reduceEqDiff, Nat.reduceLT, Nat.reduceLeDiff, reduceCtorEq, eq_self, FIT, lendCs_map, verC_map, FinC, resPs, resP, lendPl, lendCs, lendC, sealC, partsT, finHs, tupT, verT, verP, verC, verB, verAt, Blk.ver, handsAre, forall_const, CHT, disj, Nat.reduceBEq, beq_self_eq_true, APT, srcOf, sealPs, sealCs, sealC, List.mem_singleton, forall_eq, ALT, UMg_6, List.length_map, encK_len, takeK, encT_len, takeT, Nat.le_refl]
    refine callC hT2 rfl rfl (by simp [closedA, closedP, closedC]) rfl ?_
    simp only [RUN, core, T.c, T.s, T.b, T.i, sBin, sInt, sUn, isShift, asInt, P1.cells, loadT, ptrC, storeT, putC, fillP, Nat.reduceAdd, reduceIte, Nat.reduceEqDiff, Nat.reduceLT, Nat.reduceLeDiff, reduceCtorEq, eq_self, FIT, lendCs_map, verC_map, FinC, resPs, resP, lendPl, lendCs, lendC, sealC, partsT, finHs, tupT, verT, verP, verC, verB, verAt, Blk.ver, handsAre, forall_const, CHT, disj, Nat.reduceBEq, beq_self_eq_true, APT, srcOf, sealPs, sealCs, sealC, List.mem_singleton, forall_eq, ALT, UMg_6]
    exact tail X _ _ _ ⟨_, rfl, rfl⟩ ⟨_, rfl, rfl⟩ ⟨_, rfl, rfl⟩ ⟨_, rfl, rfl⟩ rfl
end Go.V

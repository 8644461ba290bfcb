/- It is proved that the law FnExactStoreDo returns true for every input and leaves its input as it was; no condition. -/
import Derived.Test.YtlknplfahfjoiaaSV2
import Derived.Test.YtlknplfahfjoiaaProg
set_option linter.unusedSimpArgs false
namespace Go.V
open Go.Proofs
theorem follows : Try.prog.follows .mixedOrders = true := by kernel_rfl
def encS (ss : List ByteArray) : List (List V) := ss.map fun s => [.s (.string s)]
theorem encS_at {ss : List ByteArray} {i : Nat} {s : ByteArray} (h : ss[i]? = some s) : (encS ss)[i]? = some [.s (.string s)] := by simp [encS, h]
theorem encS_len (ss : List ByteArray) : (encS ss).length = ss.length := by simp [encS]
theorem str_beq (a b : ByteArray) : (a.toList == b.toList) = decide (a = b) := by
  rw [ByteArray.toList_eq, ByteArray.toList_eq]
  by_cases h : a = b
  · subst h; simp
  · have : a.data.toList ≠ b.data.toList := fun e => h (by
      cases a; cases b; simp only [ByteArray.mk.injEq]; exact Array.ext' e)
    rw [decide_eq_false h]; exact beq_eq_false_iff_ne.2 this
/- loop.example/teagle/spec.l6In -/
def r47_0 : List AOper := [ao 0 6 (.mv (.k (.b false)))]
def r47_1 : List AOper := [ao 0 7 (.mv (.t 0)),
  ao 1 8 (.mv (.t 1)),
  ao 2 9 (.bin .geq (.t 7) (.t 8)),
  ao 3 10 (.mv (.t 9)),
  ag 4 11 10 true [] (.mv (.t 0)),
  ag 5 12 10 true [] (.mv (.t 2)),
  ag 6 13 10 true [] (.bin .leq (.t 11) (.t 12)),
  ao 7 14 (.pick (.t 10) (.t 13) (.k (.b false))),
  ao 8 6 (.mv (.t 14))]
def c47 : ACode := .seq (.reg r47_0) (.seq (.reg r47_1) .ret)
def s47 : List ARes := [.tmp 6]
theorem ok47 : okF Try.prog 47 15 c47 s47 := ⟨Try.f47, Try.func47, Try.ntmps47, by kernel_rfl, by kernel_rfl, by kernel_rfl⟩
theorem UFa_6 : (type_of% (uR r47_0.eq_1)) ∧ (type_of% (uR r47_1.eq_1)) ∧ (type_of% (uA c47.eq_1)) ∧ (type_of% s47.eq_1) :=
  ⟨uR r47_0.eq_1, uR r47_1.eq_1, uA c47.eq_1, s47.eq_1⟩
theorem l6In_ok (n lo hi : Int) : ACallsF Try.prog 47 [.i n, .i lo, .i hi] [] (.b (decide (lo ≤ n) && decide (n ≤ hi))) := by
  refine ACallsF.intro ok47 follows fun X c0 => ?_
  by_cases h1 : lo ≤ n <;> by_cases h2 : n ≤ hi <;> simp only [RUN, core, T.c, T.s, T.b, T.i, sBin, sInt, sUn, isShift, asInt, P1.cells, loadT, ptrC, storeT, putC, fillP, Nat.reduceAdd, reduceIte, Nat.reduceEqDiff, Nat.reduceLT, Nat.reduceLeDiff, reduceCtorEq, eq_self, FIT, lendCs_map, verC_map, FinC, resPs, resP, lendPl, lendCs, lendC, sealC, partsT, finHs, tupT, verT, verP, verC, verB, verAt, Blk.ver, handsAre, forall_const, UFa_6, h1, h2, ge_iff_le]
def lower (b : UInt8) : Bool := decide (97 ≤ b.toNat) && decide (b.toNat ≤ 122)
def digit (b : UInt8) : Bool := decide (48 ≤ b.toNat) && decide (b.toNat ≤ 57)
def nameOk (s : ByteArray) : Bool := decide (1 ≤ s.size) && decide (s.size ≤ 8) && (s.data.toList.head?.any lower) && s.data.toList.all fun b => lower b || digit b
/- loop.example/teagle/spec.l6NameOk -/
def r43_0 : List AOper := [ao 0 2 (.mv (.k (.b false)))]
def r43_1 : List AOper := [ao 0 4 (.mv (.t 0)),
  ao 1 5 (.lenS (.t 4)),
  ao 2 6 (.call (.k (.c (.fn 47 []))) [(.t 5), (.k (.i 1)), (.k (.i 8))]),
  ao 3 7 (.un .not (.t 6)),
  ao 4 8 (.mv (.t 7)),
  ag 5 9 8 false [] (.mv (.t 0)),
  ag 6 10 8 false [] (.ix (.t 9) (.k (.i 0))),
  ag 7 11 8 false [] (.bin .lss (.t 10) (.k (.s (.int .u8 97)))),
  ao 8 12 (.pick (.t 8) (.k (.b true)) (.t 11)),
  ao 9 13 (.mv (.t 12)),
  ag 10 14 13 false [] (.mv (.t 0)),
  ag 11 15 13 false [] (.ix (.t 14) (.k (.i 0))),
  ag 12 16 13 false [] (.bin .gtr (.t 15) (.k (.s (.int .u8 122)))),
  ao 13 17 (.pick (.t 13) (.k (.b true)) (.t 16))]
def r43_2 : List AOper := [ao 0 2 (.mv (.k (.b false)))]
def c43_3 : ACode := .seq (.reg r43_2) .ret
def c43_4 : ACode := .cond (.t 17) c43_3 .skip
def c43_5 : ACode := .seq (.reg r43_1) c43_4
def r43_6 : List AOper := [ao 0 3 (.mv (.k (.i 0)))]
def r43_7 : List AOper := [ao 0 18 (.mv (.t 3)),
  ao 1 19 (.mv (.t 0)),
  ao 2 20 (.lenS (.t 19)),
  ao 3 21 (.bin .lss (.t 18) (.t 20))]
def c43_8 : ACode := .cond (.t 21) .skip (.exit 0)
def c43_9 : ACode := .seq (.reg r43_7) c43_8
def r43_10 : List AOper := [ao 0 24 (.mv (.t 0)),
  ao 1 25 (.mv (.t 3)),
  ao 2 26 (.ix (.t 24) (.t 25)),
  ao 3 27 (.bin .geq (.t 26) (.k (.s (.int .u8 97)))),
  ao 4 28 (.mv (.t 27)),
  ag 5 29 28 true [] (.mv (.t 0)),
  ag 6 30 28 true [] (.mv (.t 3)),
  ag 7 31 28 true [] (.ix (.t 29) (.t 30)),
  ag 8 32 28 true [] (.bin .leq (.t 31) (.k (.s (.int .u8 122)))),
  ao 9 33 (.pick (.t 28) (.t 32) (.k (.b false))),
  ao 10 34 (.mv (.t 33)),
  ag 11 35 34 false [] (.mv (.t 0)),
  ag 12 36 34 false [] (.mv (.t 3)),
  ag 13 37 34 false [] (.ix (.t 35) (.t 36)),
  ag 14 38 34 false [] (.bin .geq (.t 37) (.k (.s (.int .u8 48)))),
  ag 15 39 34 false [] (.mv (.t 38)),
  ag 16 40 39 true [] (.mv (.t 0)),
  ag 17 41 39 true [] (.mv (.t 3)),
  ag 18 42 39 true [] (.ix (.t 40) (.t 41)),
  ag 19 43 39 true [] (.bin .leq (.t 42) (.k (.s (.int .u8 57)))),
  ag 20 44 34 false [] (.pick (.t 39) (.t 43) (.k (.b false))),
  ao 21 45 (.pick (.t 34) (.k (.b true)) (.t 44)),
  ao 22 46 (.un .not (.t 45))]
def r43_11 : List AOper := [ao 0 2 (.mv (.k (.b false)))]
def c43_12 : ACode := .seq (.reg r43_11) .ret
def c43_13 : ACode := .cond (.t 46) c43_12 .skip
def c43_14 : ACode := .seq (.reg r43_10) c43_13
def c43_15 : ACode := .block 1 c43_14
def r43_16 : List AOper := [ao 0 22 (.mv (.t 3)),
  ao 1 23 (.bin .add (.t 22) (.k (.i 1))),
  ao 2 3 (.mv (.t 23))]
def c43_17 : ACode := .seq c43_9 (.seq c43_15 (.reg r43_16))
def c43_18 : ACode := .loop c43_17
def c43_19 : ACode := .block 0 c43_18
def c43_20 : ACode := .seq (.reg r43_6) c43_19
def r43_21 : List AOper := [ao 0 2 (.mv (.k (.b true)))]
def c43 : ACode := .seq (.reg r43_0) (.seq c43_5 (.seq c43_20 (.seq (.reg r43_21) .ret)))
def s43 : List ARes := [.tmp 2]
theorem ok43 : okF Try.prog 43 47 c43 s43 := ⟨Try.f43, Try.func43, Try.ntmps43, by kernel_rfl, by kernel_rfl, by kernel_rfl⟩
def inv43 (s : ByteArray) (i : Nat) (σ : St) : Prop := (∀ j b, j < i → s.data[j]? = some b → (lower b || digit b) = true) ∧ σ.t 0 = .s (.string s) ∧ σ.t 3 = .i i
theorem size_data (s : ByteArray) : s.size = s.data.size := rfl
theorem UFa_1 : (type_of% (uA c43.eq_1)) ∧ (type_of% (uR r43_0.eq_1)) ∧ (type_of% (uA c43_5.eq_1)) ∧ (type_of% (uR r43_1.eq_1)) ∧ (type_of% (uA c43_4.eq_1)) ∧ (type_of% (uA c43_3.eq_1)) ∧ (type_of% (uR r43_2.eq_1)) ∧ (type_of% (uA c43_20.eq_1)) ∧ (type_of% (uR r43_6.eq_1)) ∧ (type_of% (uA c43_19.eq_1)) ∧ (type_of% (uA c43_18.eq_1)) ∧ (type_of% (uR r43_21.eq_1)) ∧ (type_of% s43.eq_1) :=
  ⟨uA c43.eq_1, uR r43_0.eq_1, uA c43_5.eq_1, uR r43_1.eq_1, uA c43_4.eq_1, uA c43_3.eq_1, uR r43_2.eq_1, uA c43_20.eq_1, uR r43_6.eq_1, uA c43_19.eq_1, uA c43_18.eq_1, uR r43_21.eq_1, s43.eq_1⟩
theorem UFa_4 : (type_of% (uA c43_17.eq_1)) ∧ (type_of% (uA c43_9.eq_1)) ∧ (type_of% (uR r43_7.eq_1)) ∧ (type_of% (uA c43_8.eq_1)) ∧ (type_of% (uA c43_15.eq_1)) ∧ (type_of% (uA c43_14.eq_1)) ∧ (type_of% (uR r43_10.eq_1)) ∧ (type_of% (uA c43_13.eq_1)) ∧ (type_of% (uA c43_12.eq_1)) ∧ (type_of% (uR r43_11.eq_1)) ∧ (type_of% (uR r43_16.eq_1)) ∧ (type_of% (uA c43.eq_1)) ∧ (type_of% (uR r43_0.eq_1)) ∧ (type_of% (uA c43_5.eq_1)) ∧ (type_of% (uR r43_1.eq_1)) ∧ (type_of% (uA c43_4.eq_1)) ∧ (type_of% (uA c43_3.eq_1)) ∧ (type_of% (uR r43_2.eq_1)) ∧ (type_of% (uA c43_20.eq_1)) ∧ (type_of% (uR r43_6.eq_1)) ∧ (type_of% (uA c43_19.eq_1)) ∧ (type_of% (uA c43_18.eq_1)) ∧ (type_of% (uR r43_21.eq_1)) ∧ (type_of% s43.eq_1) :=
  ⟨uA c43_17.eq_1, uA c43_9.eq_1, uR r43_7.eq_1, uA c43_8.eq_1, uA c43_15.eq_1, uA c43_14.eq_1, uR r43_10.eq_1, uA c43_13.eq_1, uA c43_12.eq_1, uR r43_11.eq_1, uR r43_16.eq_1, uA c43.eq_1, uR r43_0.eq_1, uA c43_5.eq_1, uR r43_1.eq_1, uA c43_4.eq_1, uA c43_3.eq_1, uR r43_2.eq_1, uA c43_20.eq_1, uR r43_6.eq_1, uA c43_19.eq_1, uA c43_18.eq_1, uR r43_21.eq_1, s43.eq_1⟩
theorem nameOk_ok (s : ByteArray) (hs : s.size ≤ 4611686018427387904) : ACallsF Try.prog 43 [.s (.string s)] [] (.b (nameOk s)) := by
  refine ACallsF.intro ok43 follows fun X c0 => ?_
  simp only [RUN, core, T.c, T.s, T.b, T.i, sBin, sInt, sUn, isShift, asInt, P1.cells, loadT, ptrC, storeT, putC, fillP, Nat.reduceAdd, reduceIte, Nat.reduceEqDiff, Nat.reduceLT, Nat.reduceLeDiff, reduceCtorEq, eq_self, FIT, lendCs_map, verC_map, FinC, resPs, resP, lendPl, lendCs, lendC, sealC, partsT, finHs, tupT, verT, verP, verC, verB, verAt, Blk.ver, handsAre, forall_const, UFa_1]
  refine callC (l6In_ok _ _ _) rfl rfl rfl rfl ?_
  by_cases h1 : (1 : Int) ≤ s.size
  · by_cases h2 : (s.size : Int) ≤ 8
    · obtain ⟨b0, hb0⟩ : ∃ b, s.data[0]? = some b := ⟨_, Array.getElem?_eq_getElem (by rw [← size_data]; omega)⟩
      have hhead : s.data.toList.head? = some b0 := by rw [List.head?_eq_getElem?, Array.getElem?_toList]; exact hb0
      by_cases h3 : (b0.toNat : Int) < 97
      · have hm : nameOk s = false := by
          have : lower b0 = false := by simp only [lower, Bool.and_eq_false_imp, decide_eq_true_eq, decide_eq_false_iff_not]; omega
          simp [nameOk, hhead, this]
        simp only [RUN, core, T.c, T.s, T.b, T.i, sBin, sInt, sUn, isShift, asInt, P1.cells, loadT, ptrC, storeT, putC, fillP, Nat.reduceAdd, reduceIte, Nat.reduceEqDiff, Nat.reduceLT, Nat.reduceLeDiff, reduceCtorEq, eq_self, FIT, lendCs_map, verC_map, FinC, resPs, resP, lendPl, lendCs, lendC, sealC, partsT, finHs, tupT, verT, verP, verC, verB, verAt, Blk.ver, handsAre, forall_const, UFa_1, h1, h2, hb0, h3, hm, Int.toNat_zero, Int.le_refl]
      · by_cases h4 : (b0.toNat : Int) > 122
        · have hm : nameOk s = false := by
            have : lower b0 = false := by simp only [lower, Bool.and_eq_false_imp, decide_eq_true_eq, decide_eq_false_iff_not]; omega
            simp [nameOk, hhead, this]
          simp only [RUN, core, T.c, T.s, T.b, T.i, sBin, sInt, sUn, isShift, asInt, P1.cells, loadT, ptrC, storeT, putC, fillP, Nat.reduceAdd, reduceIte, Nat.reduceEqDiff, Nat.reduceLT, Nat.reduceLeDiff, reduceCtorEq, eq_self, FIT, lendCs_map, verC_map, FinC, resPs, resP, lendPl, lendCs, lendC, sealC, partsT, finHs, tupT, verT, verP, verC, verB, verAt, Blk.ver, handsAre, forall_const, UFa_1, h1, h2, hb0, h3, h4, hm, Int.toNat_zero, Int.le_refl]
        · simp only [RUN, core, T.c, T.s, T.b, T.i, sBin, sInt, sUn, isShift, asInt, P1.cells, loadT, ptrC, storeT, putC, fillP, Nat.reduceAdd, reduceIte, Nat.reduceEqDiff, Nat.reduceLT, Nat.reduceLeDiff, reduceCtorEq, eq_self, FIT, lendCs_map, verC_map, FinC, resPs, resP, lendPl, lendCs, lendC, sealC, partsT, finHs, tupT, verT, verP, verC, verB, verAt, Blk.ver, handsAre, forall_const, UFa_1, h1, h2, hb0, h3, h4, Int.toNat_zero, Int.le_refl]
          have hlow : lower b0 = true := by simp only [lower, Bool.and_eq_true, decide_eq_true_eq]; omega
          refine AW.upto s.size (inv43 s) ⟨fun j _ hj => absurd hj (Nat.not_lt_zero j), rfl, rfl⟩ fun i t H c hi h => ?_
          obtain ⟨g0, e0, e3⟩ := h
          simp only [T.c, T.i, T.s] at e0 e3
          by_cases hlt : i < s.size
          · have g1 : (i : Int) < s.size := by omega
            have gz : (0 : Int) ≤ i := by omega
            have gw : IntKind.i64.wrap ((i : Int) + 1) = ((i + 1 : Nat) : Int) := wrap64 (x := (i : Int) + 1) ⟨by omega, by omega⟩
            obtain ⟨b, hb⟩ : ∃ b, s.data[i]? = some b := ⟨_, Array.getElem?_eq_getElem (by rw [← size_data]; omega)⟩
            have key : ∀ j b', j < i + 1 → (lower b || digit b) = true → s.data[j]? = some b' → (lower b' || digit b') = true := by
              intro j b' hj hl hj2
              rcases Nat.lt_succ_iff_lt_or_eq.1 hj with hj | rfl
              · exact g0 j b' hj hj2
              · rw [hb] at hj2; cases hj2; exact hl
            by_cases hl : (lower b || digit b) = true
            · have hl2 : (97 ≤ (b.toNat : Int) ∧ (b.toNat : Int) ≤ 122) ∨ (48 ≤ (b.toNat : Int) ∧ (b.toNat : Int) ≤ 57) := by
                simp only [lower, digit, Bool.or_eq_true, Bool.and_eq_true, decide_eq_true_eq] at hl; omega
              rcases hl2 with ⟨q1, q2⟩ | ⟨q3, q4⟩
              · simp only [RUN, core, T.c, T.s, T.b, T.i, sBin, sInt, sUn, isShift, asInt, P1.cells, loadT, ptrC, storeT, putC, fillP, Nat.reduceAdd, reduceIte, Nat.reduceEqDiff, Nat.reduceLT, Nat.reduceLeDiff, reduceCtorEq, eq_self, FIT, lendCs_map, verC_map, FinC, resPs, resP, lendPl, lendCs, lendC, sealC, partsT, finHs, tupT, verT, verP, verC, verB, verAt, Blk.ver, handsAre, forall_const, UFa_4, e0, e3, g1, gz, hb, Int.toNat_natCast, q1, q2, gw, ge_iff_le]
                exact ⟨hlt, fun j b' hj hj2 => key j b' hj hl hj2, e0, rfl⟩
              · have q1 : ¬ 97 ≤ (b.toNat : Int) := by omega
                simp only [RUN, core, T.c, T.s, T.b, T.i, sBin, sInt, sUn, isShift, asInt, P1.cells, loadT, ptrC, storeT, putC, fillP, Nat.reduceAdd, reduceIte, Nat.reduceEqDiff, Nat.reduceLT, Nat.reduceLeDiff, reduceCtorEq, eq_self, FIT, lendCs_map, verC_map, FinC, resPs, resP, lendPl, lendCs, lendC, sealC, partsT, finHs, tupT, verT, verP, verC, verB, verAt, Blk.ver, handsAre, forall_const, UFa_4, e0, e3, g1, gz, hb, Int.toNat_natCast, q1, q3, q4, gw, ge_iff_le]
                exact ⟨hlt, fun j b' hj hj2 => key j b' hj hl hj2, e0, rfl⟩
            · have hm : nameOk s = false := by
                have : (s.data.toList.all fun b => lower b || digit b) = false := by
                  rw [List.all_eq_false]
                  exact ⟨b, by rw [Array.mem_toList_iff]; exact Array.mem_of_getElem? hb, hl⟩
                simp [nameOk, this]
              have hl2 : (¬ 97 ≤ (b.toNat : Int) ∧ ¬ 48 ≤ (b.toNat : Int)) ∨ (¬ 97 ≤ (b.toNat : Int) ∧ 48 ≤ (b.toNat : Int) ∧ ¬ (b.toNat : Int) ≤ 57) ∨ (97 ≤ (b.toNat : Int) ∧ ¬ (b.toNat : Int) ≤ 122 ∧ 48 ≤ (b.toNat : Int) ∧ ¬ (b.toNat : Int) ≤ 57) := by
                simp only [lower, digit, Bool.or_eq_true, Bool.and_eq_true, decide_eq_true_eq] at hl; omega
              rcases hl2 with ⟨q1, q3⟩ | ⟨q1, q3, q4⟩ | ⟨q1, q2, q3, q4⟩
              · simp only [RUN, core, T.c, T.s, T.b, T.i, sBin, sInt, sUn, isShift, asInt, P1.cells, loadT, ptrC, storeT, putC, fillP, Nat.reduceAdd, reduceIte, Nat.reduceEqDiff, Nat.reduceLT, Nat.reduceLeDiff, reduceCtorEq, eq_self, FIT, lendCs_map, verC_map, FinC, resPs, resP, lendPl, lendCs, lendC, sealC, partsT, finHs, tupT, verT, verP, verC, verB, verAt, Blk.ver, handsAre, forall_const, UFa_4, e0, e3, g1, gz, hb, Int.toNat_natCast, q1, q3, hm, ge_iff_le]
              · simp only [RUN, core, T.c, T.s, T.b, T.i, sBin, sInt, sUn, isShift, asInt, P1.cells, loadT, ptrC, storeT, putC, fillP, Nat.reduceAdd, reduceIte, Nat.reduceEqDiff, Nat.reduceLT, Nat.reduceLeDiff, reduceCtorEq, eq_self, FIT, lendCs_map, verC_map, FinC, resPs, resP, lendPl, lendCs, lendC, sealC, partsT, finHs, tupT, verT, verP, verC, verB, verAt, Blk.ver, handsAre, forall_const, UFa_4, e0, e3, g1, gz, hb, Int.toNat_natCast, q1, q3, q4, hm, ge_iff_le]
              · simp only [RUN, core, T.c, T.s, T.b, T.i, sBin, sInt, sUn, isShift, asInt, P1.cells, loadT, ptrC, storeT, putC, fillP, Nat.reduceAdd, reduceIte, Nat.reduceEqDiff, Nat.reduceLT, Nat.reduceLeDiff, reduceCtorEq, eq_self, FIT, lendCs_map, verC_map, FinC, resPs, resP, lendPl, lendCs, lendC, sealC, partsT, finHs, tupT, verT, verP, verC, verB, verAt, Blk.ver, handsAre, forall_const, UFa_4, e0, e3, g1, gz, hb, Int.toNat_natCast, q1, q2, q3, q4, hm, ge_iff_le]
          · have g1 : ¬ (i : Int) < s.size := by omega
            have hm : nameOk s = true := by
              have : (s.data.toList.all fun b => lower b || digit b) = true := by
                rw [List.all_eq_true]
                intro b hb
                rw [Array.mem_toList_iff, Array.mem_iff_getElem?] at hb
                obtain ⟨j, hj⟩ := hb
                exact g0 j b (by have := (Array.getElem?_eq_some_iff.1 hj).1; rw [size_data] at hlt; omega) hj
              simp [nameOk, this, hhead, hlow]; omega
            simp only [RUN, core, T.c, T.s, T.b, T.i, sBin, sInt, sUn, isShift, asInt, P1.cells, loadT, ptrC, storeT, putC, fillP, Nat.reduceAdd, reduceIte, Nat.reduceEqDiff, Nat.reduceLT, Nat.reduceLeDiff, reduceCtorEq, eq_self, FIT, lendCs_map, verC_map, FinC, resPs, resP, lendPl, lendCs, lendC, sealC, partsT, finHs, tupT, verT, verP, verC, verB, verAt, Blk.ver, handsAre, forall_const, UFa_4, e0, e3, g1, hm]
    · have hm : nameOk s = false := by simp [nameOk]; omega
      simp only [RUN, core, T.c, T.s, T.b, T.i, sBin, sInt, sUn, isShift, asInt, P1.cells, loadT, ptrC, storeT, putC, fillP, Nat.reduceAdd, reduceIte, Nat.reduceEqDiff, Nat.reduceLT, Nat.reduceLeDiff, reduceCtorEq, eq_self, FIT, lendCs_map, verC_map, FinC, resPs, resP, lendPl, lendCs, lendC, sealC, partsT, finHs, tupT, verT, verP, verC, verB, verAt, Blk.ver, handsAre, forall_const, UFa_1, h1, h2, hm]
  · have hm : nameOk s = false := by simp [nameOk]; omega
    simp only [RUN, core, T.c, T.s, T.b, T.i, sBin, sInt, sUn, isShift, asInt, P1.cells, loadT, ptrC, storeT, putC, fillP, Nat.reduceAdd, reduceIte, Nat.reduceEqDiff, Nat.reduceLT, Nat.reduceLeDiff, reduceCtorEq, eq_self, FIT, lendCs_map, verC_map, FinC, resPs, resP, lendPl, lendCs, lendC, sealC, partsT, finHs, tupT, verT, verP, verC, verB, verAt, Blk.ver, handsAre, forall_const, UFa_1, h1, hm]
/- loop.example/teagle/impl.inRange -/
def r106_0 : List AOper := [ao 0 6 (.mv (.k (.b false)))]
def r106_1 : List AOper := [ao 0 7 (.mv (.t 1)),
  ao 1 8 (.mv (.t 0)),
  ao 2 9 (.bin .leq (.t 7) (.t 8)),
  ao 3 10 (.mv (.t 9)),
  ag 4 11 10 true [] (.mv (.t 0)),
  ag 5 12 10 true [] (.mv (.t 2)),
  ag 6 13 10 true [] (.bin .leq (.t 11) (.t 12)),
  ao 7 14 (.pick (.t 10) (.t 13) (.k (.b false))),
  ao 8 6 (.mv (.t 14))]
def c106 : ACode := .seq (.reg r106_0) (.seq (.reg r106_1) .ret)
def s106 : List ARes := [.tmp 6]
theorem ok106 : okF Try.prog 106 15 c106 s106 := ⟨Try.f106, Try.func106, Try.ntmps106, by kernel_rfl, by kernel_rfl, by kernel_rfl⟩
theorem UFa_2 : (type_of% (uA c106.eq_1)) ∧ (type_of% (uR r106_0.eq_1)) ∧ (type_of% (uR r106_1.eq_1)) ∧ (type_of% s106.eq_1) :=
  ⟨uA c106.eq_1, uR r106_0.eq_1, uR r106_1.eq_1, s106.eq_1⟩
theorem inRange_ok (n lo hi : Int) : ACallsF Try.prog 106 [.i n, .i lo, .i hi] [] (.b (decide (lo ≤ n) && decide (n ≤ hi))) := by
  refine ACallsF.intro ok106 follows fun X c0 => ?_
  by_cases h1 : lo ≤ n <;> by_cases h2 : n ≤ hi <;> simp only [RUN, core, T.c, T.s, T.b, T.i, sBin, sInt, sUn, isShift, asInt, P1.cells, loadT, ptrC, storeT, putC, fillP, Nat.reduceAdd, reduceIte, Nat.reduceEqDiff, Nat.reduceLT, Nat.reduceLeDiff, reduceCtorEq, eq_self, FIT, lendCs_map, verC_map, FinC, resPs, resP, lendPl, lendCs, lendC, sealC, partsT, finHs, tupT, verT, verP, verC, verB, verAt, Blk.ver, handsAre, forall_const, UFa_2, h1, h2]
/- loop.example/teagle/impl.isName -/
def r104_0 : List AOper := [ao 0 2 (.mv (.k (.b false)))]
def r104_1 : List AOper := [ao 0 5 (.mv (.t 0)),
  ao 1 6 (.lenS (.t 5)),
  ao 2 7 (.mv (.k (.i 0)))]
def r104_2 : List AOper := [ao 0 8 (.bin .lss (.t 7) (.t 6))]
def c104_3 : ACode := .cond (.t 8) .skip (.exit 0)
def r104_4 : List AOper := [ao 0 9 (.mv (.t 7)),
  ao 1 3 (.mv (.t 9))]
def r104_5 : List AOper := [ao 0 10 (.mv (.t 0)),
  ao 1 11 (.mv (.t 3)),
  ao 2 12 (.ix (.t 10) (.t 11)),
  ao 3 13 (.bin .geq (.t 12) (.k (.s (.int .u8 48)))),
  ao 4 14 (.mv (.t 13)),
  ag 5 15 14 true [] (.mv (.t 0)),
  ag 6 16 14 true [] (.mv (.t 3)),
  ag 7 17 14 true [] (.ix (.t 15) (.t 16)),
  ag 8 18 14 true [] (.bin .leq (.t 17) (.k (.s (.int .u8 57)))),
  ao 9 19 (.pick (.t 14) (.t 18) (.k (.b false))),
  ao 10 4 (.mv (.t 19))]
def r104_6 : List AOper := [ao 0 20 (.mv (.t 0)),
  ao 1 21 (.mv (.t 3)),
  ao 2 22 (.ix (.t 20) (.t 21)),
  ao 3 23 (.bin .lss (.t 22) (.k (.s (.int .u8 97)))),
  ao 4 24 (.mv (.t 23)),
  ag 5 25 24 false [] (.mv (.t 0)),
  ag 6 26 24 false [] (.mv (.t 3)),
  ag 7 27 24 false [] (.ix (.t 25) (.t 26)),
  ag 8 28 24 false [] (.bin .gtr (.t 27) (.k (.s (.int .u8 122)))),
  ao 9 29 (.pick (.t 24) (.k (.b true)) (.t 28)),
  ao 10 30 (.mv (.t 29)),
  ag 11 31 30 true [] (.mv (.t 4)),
  ag 12 32 30 true [] (.un .not (.t 31)),
  ag 13 33 30 true [] (.mv (.t 32)),
  ag 14 34 33 false [] (.mv (.t 3)),
  ag 15 35 33 false [] (.bin .eql (.t 34) (.k (.i 0))),
  ag 16 36 30 true [] (.pick (.t 33) (.k (.b true)) (.t 35)),
  ao 17 37 (.pick (.t 30) (.t 36) (.k (.b false)))]
def r104_7 : List AOper := [ao 0 2 (.mv (.k (.b false)))]
def c104_8 : ACode := .seq (.reg r104_7) .ret
def c104_9 : ACode := .cond (.t 37) c104_8 .skip
def c104_10 : ACode := .seq (.reg r104_4) (.seq (.reg r104_5) (.seq (.reg r104_6) c104_9))
def c104_11 : ACode := .block 1 c104_10
def r104_12 : List AOper := [ao 0 38 (.bin .add (.t 7) (.k (.i 1))),
  ao 1 7 (.mv (.t 38))]
def c104_13 : ACode := .seq (.reg r104_2) (.seq c104_3 (.seq c104_11 (.reg r104_12)))
def c104_14 : ACode := .loop c104_13
def c104_15 : ACode := .block 0 c104_14
def c104_16 : ACode := .seq (.reg r104_1) c104_15
def r104_17 : List AOper := [ao 0 39 (.mv (.t 0)),
  ao 1 40 (.lenS (.t 39)),
  ao 2 41 (.call (.k (.c (.fn 106 []))) [(.t 40), (.k (.i 1)), (.k (.i 8))]),
  ao 3 2 (.mv (.t 41))]
def c104 : ACode := .seq (.reg r104_0) (.seq c104_16 (.seq (.reg r104_17) .ret))
def s104 : List ARes := [.tmp 2]
theorem ok104 : okF Try.prog 104 42 c104 s104 := ⟨Try.f104, Try.func104, Try.ntmps104, by kernel_rfl, by kernel_rfl, by kernel_rfl⟩
def inv104 (s : ByteArray) (i : Nat) (σ : St) : Prop := (∀ j b, j < i → s.data[j]? = some b → (lower b || digit b) = true ∧ (j = 0 → lower b = true)) ∧ σ.t 0 = .s (.string s) ∧ σ.t 6 = .i s.size ∧ σ.t 7 = .i i
theorem UFa_3 : (type_of% (uA c104.eq_1)) ∧ (type_of% (uR r104_0.eq_1)) ∧ (type_of% (uA c104_16.eq_1)) ∧ (type_of% (uR r104_1.eq_1)) ∧ (type_of% (uA c104_15.eq_1)) ∧ (type_of% (uA c104_14.eq_1)) ∧ (type_of% (uR r104_17.eq_1)) ∧ (type_of% s104.eq_1) :=
  ⟨uA c104.eq_1, uR r104_0.eq_1, uA c104_16.eq_1, uR r104_1.eq_1, uA c104_15.eq_1, uA c104_14.eq_1, uR r104_17.eq_1, s104.eq_1⟩
theorem UFa_5 : (type_of% (uA c104_13.eq_1)) ∧ (type_of% (uR r104_2.eq_1)) ∧ (type_of% (uA c104_3.eq_1)) ∧ (type_of% (uA c104_11.eq_1)) ∧ (type_of% (uA c104_10.eq_1)) ∧ (type_of% (uR r104_4.eq_1)) ∧ (type_of% (uR r104_5.eq_1)) ∧ (type_of% (uR r104_6.eq_1)) ∧ (type_of% (uA c104_9.eq_1)) ∧ (type_of% (uA c104_8.eq_1)) ∧ (type_of% (uR r104_7.eq_1)) ∧ (type_of% (uR r104_12.eq_1)) ∧ (type_of% (uA c104.eq_1)) ∧ (type_of% (uR r104_0.eq_1)) ∧ (type_of% (uA c104_16.eq_1)) ∧ (type_of% (uR r104_1.eq_1)) ∧ (type_of% (uA c104_15.eq_1)) ∧ (type_of% (uA c104_14.eq_1)) ∧ (type_of% (uR r104_17.eq_1)) ∧ (type_of% s104.eq_1) :=
  ⟨uA c104_13.eq_1, uR r104_2.eq_1, uA c104_3.eq_1, uA c104_11.eq_1, uA c104_10.eq_1, uR r104_4.eq_1, uR r104_5.eq_1, uR r104_6.eq_1, uA c104_9.eq_1, uA c104_8.eq_1, uR r104_7.eq_1, uR r104_12.eq_1, uA c104.eq_1, uR r104_0.eq_1, uA c104_16.eq_1, uR r104_1.eq_1, uA c104_15.eq_1, uA c104_14.eq_1, uR r104_17.eq_1, s104.eq_1⟩
theorem isName_ok (s : ByteArray) (hs : s.size ≤ 4611686018427387904) : ACallsF Try.prog 104 [.s (.string s)] [] (.b (nameOk s)) := by
  refine ACallsF.intro ok104 follows fun X c0 => ?_
  simp only [RUN, core, T.c, T.s, T.b, T.i, sBin, sInt, sUn, isShift, asInt, P1.cells, loadT, ptrC, storeT, putC, fillP, Nat.reduceAdd, reduceIte, Nat.reduceEqDiff, Nat.reduceLT, Nat.reduceLeDiff, reduceCtorEq, eq_self, FIT, lendCs_map, verC_map, FinC, resPs, resP, lendPl, lendCs, lendC, sealC, partsT, finHs, tupT, verT, verP, verC, verB, verAt, Blk.ver, handsAre, forall_const, UFa_3]
  refine AW.upto s.size (inv104 s) ⟨fun j _ hj => absurd hj (Nat.not_lt_zero j), rfl, rfl, rfl⟩ fun i t H c hi h => ?_
  obtain ⟨g0, e0, e6, e7⟩ := h
  simp only [T.c, T.i, T.s] at e0 e6 e7
  by_cases hlt : i < s.size
  · have g1 : (i : Int) < s.size := by omega
    have gz : (0 : Int) ≤ i := by omega
    have gw : IntKind.i64.wrap ((i : Int) + 1) = ((i + 1 : Nat) : Int) := wrap64 (x := (i : Int) + 1) ⟨by omega, by omega⟩
    obtain ⟨b, hb⟩ : ∃ b, s.data[i]? = some b := ⟨_, Array.getElem?_eq_getElem (by rw [← size_data]; omega)⟩
    have hbad : ¬ ((lower b || digit b) = true ∧ (i = 0 → lower b = true)) → nameOk s = false := by
      intro h
      by_cases hl : (lower b || digit b) = true
      · have hi0 : i = 0 := by
          by_cases h0 : i = 0
          · exact h0
          · exact absurd ⟨hl, fun e => absurd e h0⟩ h
        have hlow : lower b = false := by
          cases hlb : lower b with
          | false => rfl
          | true => exact absurd ⟨hl, fun _ => hlb⟩ h
        subst hi0
        have hhead : s.data.toList.head? = some b := by rw [List.head?_eq_getElem?, Array.getElem?_toList]; exact hb
        simp [nameOk, hhead, hlow]
      · have : (s.data.toList.all fun b => lower b || digit b) = false := by
          rw [List.all_eq_false]
          exact ⟨b, by rw [Array.mem_toList_iff]; exact Array.mem_of_getElem? hb, hl⟩
        simp [nameOk, this]
    have hgood : ((lower b || digit b) = true ∧ (i = 0 → lower b = true)) → ∀ j b', j < i + 1 → s.data[j]? = some b' → (lower b' || digit b') = true ∧ (j = 0 → lower b' = true) := by
      intro hl j b' hj hj2
      rcases Nat.lt_succ_iff_lt_or_eq.1 hj with hj | rfl
      · exact g0 j b' hj hj2
      · rw [hb] at hj2; cases hj2; exact hl
    have hlo : lower b = true ↔ (97 ≤ (b.toNat : Int) ∧ (b.toNat : Int) ≤ 122) := by simp only [lower, Bool.and_eq_true, decide_eq_true_eq]; omega
    have hdi : digit b = true ↔ (48 ≤ (b.toNat : Int) ∧ (b.toNat : Int) ≤ 57) := by simp only [digit, Bool.and_eq_true, decide_eq_true_eq]; omega
    rw [Bool.or_eq_true, hlo, hdi] at hgood hbad
    have hfin : (97 ≤ (b.toNat : Int) ∧ (b.toNat : Int) ≤ 122 ∨ 48 ≤ (b.toNat : Int) ∧ (b.toNat : Int) ≤ 57) ∧ (i = 0 → 97 ≤ (b.toNat : Int) ∧ (b.toNat : Int) ≤ 122) → ∀ t' H' c', t' 0 = t 0 → t' 6 = t 6 → t' 7 = .i (i + 1 : Nat) → i < s.size ∧ inv104 s (i + 1) ⟨t', H', c'⟩ := by
      intro hl t' H' c' r1 r2 r3
      exact ⟨hlt, hgood hl, r1.trans e0, r2.trans e6, r3⟩
    have hbad' : ¬ ((97 ≤ (b.toNat : Int) ∧ (b.toNat : Int) ≤ 122 ∨ 48 ≤ (b.toNat : Int) ∧ (b.toNat : Int) ≤ 57) ∧ (i = 0 → 97 ≤ (b.toNat : Int) ∧ (b.toNat : Int) ≤ 122)) → nameOk s = false := hbad
    clear hbad hgood hlo hdi
    rcases (by omega : (97 ≤ (b.toNat : Int) ∧ (b.toNat : Int) ≤ 122) ∨ (48 ≤ (b.toNat : Int) ∧ (b.toNat : Int) ≤ 57) ∨ (b.toNat : Int) < 48 ∨ (57 < (b.toNat : Int) ∧ (b.toNat : Int) < 97) ∨ 122 < (b.toNat : Int)) with ⟨c1, c2⟩ | ⟨c1, c2⟩ | c1 | ⟨c1, c2⟩ | c1
    · have k1 : (b.toNat : Int) ≥ 48 := by omega
      have k2 : ¬ (b.toNat : Int) ≤ 57 := by omega
      have k3 : ¬ (b.toNat : Int) < 97 := by omega
      have k4 : ¬ (b.toNat : Int) > 122 := by omega
      have hf := hfin ⟨.inl ⟨c1, c2⟩, fun _ => ⟨c1, c2⟩⟩
      clear hfin hbad'
      simp only [RUN, core, T.c, T.s, T.b, T.i, sBin, sInt, sUn, isShift, asInt, P1.cells, loadT, ptrC, storeT, putC, fillP, Nat.reduceAdd, reduceIte, Nat.reduceEqDiff, Nat.reduceLT, Nat.reduceLeDiff, reduceCtorEq, eq_self, FIT, lendCs_map, verC_map, FinC, resPs, resP, lendPl, lendCs, lendC, sealC, partsT, finHs, tupT, verT, verP, verC, verB, verAt, Blk.ver, handsAre, forall_const, UFa_5, e0, e6, e7, g1, gz, hb, Int.toNat_natCast, k1, k2, k3, k4, gw]
      exact hf _ _ _ rfl rfl rfl
    · have k1 : (b.toNat : Int) ≥ 48 := by omega
      have k3 : (b.toNat : Int) < 97 := by omega
      by_cases hi0 : i = 0
      · have k5 : ((i : Int) == 0) = true := beq_iff_eq.2 (by omega)
        have hm := hbad' fun h => by have := h.2 hi0; omega
        clear hfin hbad'
        simp only [RUN, core, T.c, T.s, T.b, T.i, sBin, sInt, sUn, isShift, asInt, P1.cells, loadT, ptrC, storeT, putC, fillP, Nat.reduceAdd, reduceIte, Nat.reduceEqDiff, Nat.reduceLT, Nat.reduceLeDiff, reduceCtorEq, eq_self, FIT, lendCs_map, verC_map, FinC, resPs, resP, lendPl, lendCs, lendC, sealC, partsT, finHs, tupT, verT, verP, verC, verB, verAt, Blk.ver, handsAre, forall_const, UFa_5, e0, e6, e7, g1, gz, hb, Int.toNat_natCast, k1, c2, k3, k5, hm]
      · have k5 : ((i : Int) == 0) = false := beq_eq_false_iff_ne.2 (by omega)
        have hf := hfin ⟨.inr ⟨c1, c2⟩, fun h => absurd h hi0⟩
        clear hfin hbad'
        simp only [RUN, core, T.c, T.s, T.b, T.i, sBin, sInt, sUn, isShift, asInt, P1.cells, loadT, ptrC, storeT, putC, fillP, Nat.reduceAdd, reduceIte, Nat.reduceEqDiff, Nat.reduceLT, Nat.reduceLeDiff, reduceCtorEq, eq_self, FIT, lendCs_map, verC_map, FinC, resPs, resP, lendPl, lendCs, lendC, sealC, partsT, finHs, tupT, verT, verP, verC, verB, verAt, Blk.ver, handsAre, forall_const, UFa_5, e0, e6, e7, g1, gz, hb, Int.toNat_natCast, k1, c2, k3, k5, gw]
        exact hf _ _ _ rfl rfl rfl
    · have k1 : ¬ (b.toNat : Int) ≥ 48 := by omega
      have k3 : (b.toNat : Int) < 97 := by omega
      have hm := hbad' fun h => by have := h.1; omega
      clear hfin hbad'
      simp only [RUN, core, T.c, T.s, T.b, T.i, sBin, sInt, sUn, isShift, asInt, P1.cells, loadT, ptrC, storeT, putC, fillP, Nat.reduceAdd, reduceIte, Nat.reduceEqDiff, Nat.reduceLT, Nat.reduceLeDiff, reduceCtorEq, eq_self, FIT, lendCs_map, verC_map, FinC, resPs, resP, lendPl, lendCs, lendC, sealC, partsT, finHs, tupT, verT, verP, verC, verB, verAt, Blk.ver, handsAre, forall_const, UFa_5, e0, e6, e7, g1, gz, hb, Int.toNat_natCast, k1, k3, hm]
    · have k1 : (b.toNat : Int) ≥ 48 := by omega
      have k2 : ¬ (b.toNat : Int) ≤ 57 := by omega
      have hm := hbad' fun h => by have := h.1; omega
      clear hfin hbad'
      simp only [RUN, core, T.c, T.s, T.b, T.i, sBin, sInt, sUn, isShift, asInt, P1.cells, loadT, ptrC, storeT, putC, fillP, Nat.reduceAdd, reduceIte, Nat.reduceEqDiff, Nat.reduceLT, Nat.reduceLeDiff, reduceCtorEq, eq_self, FIT, lendCs_map, verC_map, FinC, resPs, resP, lendPl, lendCs, lendC, sealC, partsT, finHs, tupT, verT, verP, verC, verB, verAt, Blk.ver, handsAre, forall_const, UFa_5, e0, e6, e7, g1, gz, hb, Int.toNat_natCast, k1, k2, c2, hm]
    · have k1 : (b.toNat : Int) ≥ 48 := by omega
      have k2 : ¬ (b.toNat : Int) ≤ 57 := by omega
      have k3 : ¬ (b.toNat : Int) < 97 := by omega
      have k4 : (b.toNat : Int) > 122 := by omega
      have hm := hbad' fun h => by have := h.1; omega
      clear hfin hbad'
      simp only [RUN, core, T.c, T.s, T.b, T.i, sBin, sInt, sUn, isShift, asInt, P1.cells, loadT, ptrC, storeT, putC, fillP, Nat.reduceAdd, reduceIte, Nat.reduceEqDiff, Nat.reduceLT, Nat.reduceLeDiff, reduceCtorEq, eq_self, FIT, lendCs_map, verC_map, FinC, resPs, resP, lendPl, lendCs, lendC, sealC, partsT, finHs, tupT, verT, verP, verC, verB, verAt, Blk.ver, handsAre, forall_const, UFa_5, e0, e6, e7, g1, gz, hb, Int.toNat_natCast, k1, k2, k3, k4, hm]
  · have g1 : ¬ (i : Int) < s.size := by omega
    have hall : (s.data.toList.all fun b => lower b || digit b) = true := by
      rw [List.all_eq_true]
      intro b hb
      rw [Array.mem_toList_iff, Array.mem_iff_getElem?] at hb
      obtain ⟨j, hj⟩ := hb
      exact (g0 j b (by have := (Array.getElem?_eq_some_iff.1 hj).1; rw [size_data] at hlt; omega) hj).1
    have hm : (decide ((1 : Int) ≤ s.size) && decide ((s.size : Int) ≤ 8)) = nameOk s := by
      by_cases h0 : s.size = 0
      · have h1 : ¬ (1 : Int) ≤ s.size := by omega
        have h2 : ¬ 1 ≤ s.size := by omega
        simp [nameOk, h0]
      · obtain ⟨b0, hb0⟩ : ∃ b, s.data[0]? = some b := ⟨_, Array.getElem?_eq_getElem (by rw [← size_data]; omega)⟩
        have hhead : s.data.toList.head? = some b0 := by rw [List.head?_eq_getElem?, Array.getElem?_toList]; exact hb0
        have hlow := (g0 0 b0 (by omega) hb0).2 rfl
        have e1 : decide ((1 : Int) ≤ s.size) = decide (1 ≤ s.size) := decide_eq_decide.2 (by omega)
        have e2 : decide ((s.size : Int) ≤ 8) = decide (s.size ≤ 8) := decide_eq_decide.2 (by omega)
        simp only [nameOk, hall, hhead, Option.any_some, hlow, e1, e2, Bool.and_true]
    simp only [RUN, core, T.c, T.s, T.b, T.i, sBin, sInt, sUn, isShift, asInt, P1.cells, loadT, ptrC, storeT, putC, fillP, Nat.reduceAdd, reduceIte, Nat.reduceEqDiff, Nat.reduceLT, Nat.reduceLeDiff, reduceCtorEq, eq_self, FIT, lendCs_map, verC_map, FinC, resPs, resP, lendPl, lendCs, lendC, sealC, partsT, finHs, tupT, verT, verP, verC, verB, verAt, Blk.ver, handsAre, forall_const, UFa_5, UFa_3, e0, e6, e7, g1]
    refine callC (inRange_ok _ _ _) rfl rfl rfl rfl ?_
    simp only [RUN, core, T.c, T.s, T.b, T.i, sBin, sInt, sUn, isShift, asInt, P1.cells, loadT, ptrC, storeT, putC, fillP, Nat.reduceAdd, reduceIte, Nat.reduceEqDiff, Nat.reduceLT, Nat.reduceLeDiff, reduceCtorEq, eq_self, FIT, lendCs_map, verC_map, FinC, resPs, resP, lendPl, lendCs, lendC, sealC, partsT, finHs, tupT, verT, verP, verC, verB, verAt, Blk.ver, handsAre, forall_const, UFa_3, hm]
end Go.V
set_option linter.unusedSimpArgs false
namespace Go.V
open Go.Proofs
def en {α : Type} (f : α → List V) (xs : List α) : List (List V) := xs.map f
section
variable {α : Type} (f : α → List V)
theorem en_len (xs : List α) : (en f xs).length = xs.length := by simp [en]
theorem en_at {xs : List α} {i : Nat} {x : α} (h : xs[i]? = some x) : (en f xs)[i]? = some (f x) := by simp [en, h]
theorem en_snoc (xs : List α) (x : α) : en f (xs ++ [x]) = en f xs ++ [f x] := by simp [en]
theorem en_app (xs ys : List α) : en f (xs ++ ys) = en f xs ++ en f ys := by simp [en]
theorem en_nil : en f [] = [] := rfl
theorem en_take (xs : List α) : (en f xs).take xs.length = en f xs := by rw [← en_len f xs, List.take_length]
theorem en_cut (xs : List α) (n : Nat) : (en f xs).take n = en f (xs.take n) := by simp [en, List.map_take]
theorem en_drop (xs : List α) (n : Nat) : (en f xs).drop n = en f (xs.drop n) := by simp [en, List.map_drop]
theorem en_set (xs : List α) (i : Nat) (x : α) : (en f xs).set i (f x) = en f (xs.set i x) := by simp [en, List.map_set]
theorem en_rep (n : Nat) (x : α) : List.replicate n (f x) = en f (List.replicate n x) := by simp [en]
theorem en_one {st : Nat} (h : ∀ x, (f x).length = st) (xs : List α) : ∀ e ∈ en f xs, e.length = st := by
  intro e he
  obtain ⟨x, _, rfl⟩ := List.mem_map.1 he
  exact h x
theorem en_all {st : Nat} (h : ∀ x, (f x).length = st) (xs : List α) : (∀ e ∈ en f xs, e.length = st) = True := eq_true (en_one f h xs)
theorem en_flat (h : ∀ x, (f x).all flatV = true) (xs : List α) : ((en f xs).all fun e => e.all flatV) = true := by
  rw [List.all_eq_true]
  intro e he
  obtain ⟨x, _, rfl⟩ := List.mem_map.1 he
  exact h x
def wsum (w : α → Nat) (xs : List α) : Nat := (xs.map w).sum
theorem wsum_take (w : α → Nat) {xs : List α} {i : Nat} {x : α} (h : xs[i]? = some x) : wsum w (xs.take (i + 1)) = wsum w (xs.take i) + w x := by
  rw [List.take_add_one, h]; simp [wsum]
theorem wsum_le (w : α → Nat) : ∀ (xs : List α) (n : Nat), wsum w (xs.take n) ≤ wsum w xs
  | [], n => by simp [wsum]
  | x :: xs, 0 => by simp [wsum]
  | x :: xs, n + 1 => by have := wsum_le w xs n; simp only [wsum, List.take_succ_cons, List.map_cons, List.sum_cons] at this ⊢; omega
theorem wsum_mem (w : α → Nat) {xs : List α} {x : α} (h : x ∈ xs) : w x ≤ wsum w xs := by
  induction xs with
  | nil => cases h
  | cons y ys ih =>
    simp only [wsum, List.map_cons, List.sum_cons]
    rcases List.mem_cons.1 h with rfl | h
    · omega
    · have := ih h; simp only [wsum] at this; omega
end
def sub1 (left : Int) (w : Nat) : Int := if (w : Int) ≤ left then left - w else -1
/-! what is stored -/
structure DF where
  name : ByteArray
  data : ByteArray
  kept : Int
structure DM where
  gone : Bool
  name : ByteArray
structure Dk where
  files : List DF
  names : List ByteArray
  moves : List DM
structure DW where
  kind : Int
  name : ByteArray
  data : ByteArray
def eS (s : ByteArray) : List V := [.s (.string s)]
def eI (n : Int) : List V := [.s (.int .i64 n)]
def eF (f : DF) : List V := [.s (.string f.name), .s (.string f.data), .s (.int .i64 f.kept)]
def eM (m : DM) : List V := [.s (.bool m.gone), .s (.string m.name)]
def eW (w : DW) : List V := [.s (.int .i64 w.kind), .s (.string w.name), .s (.string w.data)]
theorem eS_len (s : ByteArray) : (eS s).length = 1 := rfl
theorem eI_len (s : Int) : (eI s).length = 1 := rfl
theorem eF_len (f : DF) : (eF f).length = 3 := rfl
theorem eM_len (f : DM) : (eM f).length = 2 := rfl
theorem eW_len (f : DW) : (eW f).length = 3 := rfl
theorem eS_flat (s : ByteArray) : (eS s).all flatV = true := rfl
theorem eI_flat (s : Int) : (eI s).all flatV = true := rfl
theorem eF_flat (s : DF) : (eF s).all flatV = true := rfl
theorem eM_flat (s : DM) : (eM s).all flatV = true := rfl
theorem eW_flat (s : DW) : (eW s).all flatV = true := rfl
abbrev tL (es : List (List V)) : T := .c (.v (.sl es))
abbrev tS (s : ByteArray) : T := .s (.string s)
abbrev tDk (d : Dk) : T := .pt (.agg [.v (.sl (en eF d.files)), .v (.sl (en eS d.names)), .v (.sl (en eM d.moves))])
abbrev tDW (w : DW) : T := .pt (.agg [.v (.s (.int .i64 w.kind)), .v (.s (.string w.name)), .v (.s (.string w.data))])
abbrev tDF (f : DF) : T := .pt (.agg [.v (.s (.string f.name)), .v (.s (.string f.data)), .v (.s (.int .i64 f.kept))])
abbrev tDM (m : DM) : T := .pt (.agg [.v (.s (.bool m.gone)), .v (.s (.string m.name))])
theorem APT : (type_of% @sealCs_map) ∧ (type_of% @Nat.le_refl) ∧ (type_of% @List.take_length.{0}) ∧ (type_of% @List.length_append.{0}) ∧ (type_of% @List.length_singleton.{0}) ∧ (type_of% @List.cons_append.{0}) ∧ (type_of% @List.nil_append.{0}) ∧ (type_of% @List.map_cons.{0,0}) ∧ (type_of% @List.map_nil.{0,0}) ∧ (type_of% @List.length_cons.{0}) ∧ (type_of% @List.length_nil.{0}) ∧ (type_of% @List.take_succ_cons.{0}) ∧ (type_of% @List.take_zero.{0}) ∧ (type_of% @List.drop_succ_cons.{0}) ∧ (type_of% @List.drop_zero.{0}) :=
  ⟨@sealCs_map, @Nat.le_refl, @List.take_length.{0}, @List.length_append.{0}, @List.length_singleton.{0}, @List.cons_append.{0}, @List.nil_append.{0}, @List.map_cons.{0,0}, @List.map_nil.{0,0}, @List.length_cons.{0}, @List.length_nil.{0}, @List.take_succ_cons.{0}, @List.take_zero.{0}, @List.drop_succ_cons.{0}, @List.drop_zero.{0}⟩
theorem ALT : (type_of% @en_len) ∧ (type_of% @en_take) ∧ (type_of% @en_nil) ∧ (type_of% (@en_all DF eF 3 eF_len)) ∧ (type_of% (@en_all DM eM 2 eM_len)) ∧ (type_of% (@en_all DW eW 3 eW_len)) ∧ (type_of% (@en_all ByteArray eS 1 eS_len)) ∧ (type_of% (@en_all Int eI 1 eI_len)) ∧ (type_of% @Int.toNat_natCast) :=
  ⟨@en_len, @en_take, @en_nil, @en_all DF eF 3 eF_len, @en_all DM eM 2 eM_len, @en_all DW eW 3 eW_len, @en_all ByteArray eS 1 eS_len, @en_all Int eI 1 eI_len, @Int.toNat_natCast⟩
/-! what an argument of the given type may be -/
def okS (s : ByteArray) : Prop := s.size ≤ 9223372036854775807
def okDF (f : DF) : Prop := okS f.name ∧ okS f.data
def okDM (m : DM) : Prop := okS m.name
def okDW (w : DW) : Prop := okS w.name ∧ okS w.data
def wF (f : DF) : Nat := f.name.size + f.data.size
def wM (m : DM) : Nat := m.name.size
def wW (w : DW) : Nat := w.name.size + w.data.size
def wS (s : ByteArray) : Nat := s.size
/- loop.example/teagle/laws.szDiskFile -/
def r95_0 : List AOper := [ao 0 2 (.box 135 (.t 0)),
  ao 1 4 (.mv (.k (.i 0)))]
def r95_1 : List AOper := [ao 0 5 (.mv (.t 1)),
  ao 1 6 (.fa 0 (.t 2)),
  ao 2 7 (.ld 1 false (.t 6)),
  ao 3 8 (.lenS (.t 7)),
  ao 4 9 (.bin .sub (.t 5) (.t 8)),
  ao 5 1 (.mv (.t 9))]
def r95_2 : List AOper := [ao 0 10 (.mv (.t 1)),
  ao 1 11 (.bin .lss (.t 10) (.k (.i 0)))]
def r95_3 : List AOper := [ao 0 4 (.mv (.k (.i (-1))))]
def c95_4 : ACode := .seq (.reg r95_3) .ret
def c95_5 : ACode := .cond (.t 11) c95_4 .skip
def c95_6 : ACode := .seq (.reg r95_2) c95_5
def r95_7 : List AOper := [ao 0 12 (.mv (.t 1)),
  ao 1 13 (.fa 1 (.t 2)),
  ao 2 14 (.ld 1 false (.t 13)),
  ao 3 15 (.lenS (.t 14)),
  ao 4 16 (.bin .sub (.t 12) (.t 15)),
  ao 5 1 (.mv (.t 16))]
def r95_8 : List AOper := [ao 0 17 (.mv (.t 1)),
  ao 1 18 (.bin .lss (.t 17) (.k (.i 0)))]
def r95_9 : List AOper := [ao 0 4 (.mv (.k (.i (-1))))]
def c95_10 : ACode := .seq (.reg r95_9) .ret
def c95_11 : ACode := .cond (.t 18) c95_10 .skip
def c95_12 : ACode := .seq (.reg r95_8) c95_11
def r95_13 : List AOper := [ao 0 19 (.mv (.t 1)),
  ao 1 4 (.mv (.t 19))]
def c95 : ACode := .seq (.reg r95_0) (.seq (.reg r95_1) (.seq c95_6 (.seq (.reg r95_7) (.seq c95_12 (.seq (.reg r95_13) .ret)))))
def s95 : List ARes := [.tmp 4]
theorem ok95 : okF Try.prog 95 20 c95 s95 := ⟨Try.f95, Try.func95, Try.ntmps95, by kernel_rfl, by kernel_rfl, by kernel_rfl⟩
theorem UFb_1 : (type_of% (uA c95.eq_1)) ∧ (type_of% (uR r95_0.eq_1)) ∧ (type_of% (uR r95_1.eq_1)) ∧ (type_of% (uA c95_6.eq_1)) ∧ (type_of% (uR r95_2.eq_1)) ∧ (type_of% (uA c95_5.eq_1)) ∧ (type_of% (uA c95_4.eq_1)) ∧ (type_of% (uR r95_3.eq_1)) ∧ (type_of% (uR r95_7.eq_1)) ∧ (type_of% (uA c95_12.eq_1)) ∧ (type_of% (uR r95_8.eq_1)) ∧ (type_of% (uA c95_11.eq_1)) ∧ (type_of% (uA c95_10.eq_1)) ∧ (type_of% (uR r95_9.eq_1)) ∧ (type_of% (uR r95_13.eq_1)) ∧ (type_of% s95.eq_1) :=
  ⟨uA c95.eq_1, uR r95_0.eq_1, uR r95_1.eq_1, uA c95_6.eq_1, uR r95_2.eq_1, uA c95_5.eq_1, uA c95_4.eq_1, uR r95_3.eq_1, uR r95_7.eq_1, uA c95_12.eq_1, uR r95_8.eq_1, uA c95_11.eq_1, uA c95_10.eq_1, uR r95_9.eq_1, uR r95_13.eq_1, s95.eq_1⟩
theorem szDF_ok (x : DF) (left : Int) (h0 : 0 ≤ left ∧ left ≤ 1048576) (hx : okDF x) : ACallsF Try.prog 95 [tDF x, .i left] [] (.i (sub1 left (wF x))) := by
  obtain ⟨h1, h2⟩ := hx
  unfold okS at h1 h2
  have gw1 : IntKind.i64.wrap (left - x.name.size) = left - x.name.size := wrap64 ⟨by omega, by omega⟩
  have gw2 : IntKind.i64.wrap (left - x.name.size - x.data.size) = if (x.name.size : Int) ≤ left then left - x.name.size - x.data.size else IntKind.i64.wrap (left - x.name.size - x.data.size) := by
    split
    · exact wrap64 ⟨by omega, by omega⟩
    · rfl
  refine ACallsF.intro ok95 follows fun X c0 => ?_
  by_cases hA : (x.name.size : Int) ≤ left
  · have k0 : ¬ left - (x.name.size : Int) < 0 := by omega
    rw [if_pos hA] at gw2
    by_cases hB : ((wF x : Nat) : Int) ≤ left
    · have hB' := hB
      unfold wF at hB
      have k1 : ¬ left - (x.name.size : Int) - (x.data.size : Int) < 0 := by omega
      have k2 : sub1 left (wF x) = left - (x.name.size : Int) - (x.data.size : Int) := by rw [sub1, if_pos hB', wF]; omega
      simp only [RUN, core, T.c, T.s, T.b, T.i, sBin, sInt, sUn, isShift, asInt, P1.cells, loadT, ptrC, storeT, putC, fillP, Nat.reduceAdd, reduceIte, Nat.reduceEqDiff, Nat.reduceLT, Nat.reduceLeDiff, reduceCtorEq, eq_self, FIT, lendCs_map, verC_map, FinC, resPs, resP, lendPl, lendCs, lendC, sealC, partsT, finHs, tupT, verT, verP, verC, verB, verAt, Blk.ver, handsAre, forall_const, CHT, disj, Nat.reduceBEq, beq_self_eq_true, APT, srcOf, sealPs, sealCs, sealC, toVs, Option.map_some, List.mem_singleton, forall_eq, ALT, UFb_1, gw1, gw2, k0, k1, k2]
    · have hB' := hB
      unfold wF at hB
      have k1 : left - (x.name.size : Int) - (x.data.size : Int) < 0 := by omega
      have k2 : sub1 left (wF x) = -1 := by rw [sub1, if_neg hB']
      simp only [RUN, core, T.c, T.s, T.b, T.i, sBin, sInt, sUn, isShift, asInt, P1.cells, loadT, ptrC, storeT, putC, fillP, Nat.reduceAdd, reduceIte, Nat.reduceEqDiff, Nat.reduceLT, Nat.reduceLeDiff, reduceCtorEq, eq_self, FIT, lendCs_map, verC_map, FinC, resPs, resP, lendPl, lendCs, lendC, sealC, partsT, finHs, tupT, verT, verP, verC, verB, verAt, Blk.ver, handsAre, forall_const, CHT, disj, Nat.reduceBEq, beq_self_eq_true, APT, srcOf, sealPs, sealCs, sealC, toVs, Option.map_some, List.mem_singleton, forall_eq, ALT, UFb_1, gw1, gw2, k0, k1, k2]
  · have k0 : left - (x.name.size : Int) < 0 := by omega
    have k2 : sub1 left (wF x) = -1 := by rw [sub1, if_neg (by unfold wF; omega)]
    simp only [RUN, core, T.c, T.s, T.b, T.i, sBin, sInt, sUn, isShift, asInt, P1.cells, loadT, ptrC, storeT, putC, fillP, Nat.reduceAdd, reduceIte, Nat.reduceEqDiff, Nat.reduceLT, Nat.reduceLeDiff, reduceCtorEq, eq_self, FIT, lendCs_map, verC_map, FinC, resPs, resP, lendPl, lendCs, lendC, sealC, partsT, finHs, tupT, verT, verP, verC, verB, verAt, Blk.ver, handsAre, forall_const, CHT, disj, Nat.reduceBEq, beq_self_eq_true, APT, srcOf, sealPs, sealCs, sealC, toVs, Option.map_some, List.mem_singleton, forall_eq, ALT, UFb_1, gw1, k0, k2]
/- loop.example/teagle/laws.szDiskWrite -/
def r8_0 : List AOper := [ao 0 2 (.box 28 (.t 0)),
  ao 1 4 (.mv (.k (.i 0)))]
def r8_1 : List AOper := [ao 0 5 (.mv (.t 1)),
  ao 1 6 (.fa 1 (.t 2)),
  ao 2 7 (.ld 1 false (.t 6)),
  ao 3 8 (.lenS (.t 7)),
  ao 4 9 (.bin .sub (.t 5) (.t 8)),
  ao 5 1 (.mv (.t 9))]
def r8_2 : List AOper := [ao 0 10 (.mv (.t 1)),
  ao 1 11 (.bin .lss (.t 10) (.k (.i 0)))]
def r8_3 : List AOper := [ao 0 4 (.mv (.k (.i (-1))))]
def c8_4 : ACode := .seq (.reg r8_3) .ret
def c8_5 : ACode := .cond (.t 11) c8_4 .skip
def c8_6 : ACode := .seq (.reg r8_2) c8_5
def r8_7 : List AOper := [ao 0 12 (.mv (.t 1)),
  ao 1 13 (.fa 2 (.t 2)),
  ao 2 14 (.ld 1 false (.t 13)),
  ao 3 15 (.lenS (.t 14)),
  ao 4 16 (.bin .sub (.t 12) (.t 15)),
  ao 5 1 (.mv (.t 16))]
def r8_8 : List AOper := [ao 0 17 (.mv (.t 1)),
  ao 1 18 (.bin .lss (.t 17) (.k (.i 0)))]
def r8_9 : List AOper := [ao 0 4 (.mv (.k (.i (-1))))]
def c8_10 : ACode := .seq (.reg r8_9) .ret
def c8_11 : ACode := .cond (.t 18) c8_10 .skip
def c8_12 : ACode := .seq (.reg r8_8) c8_11
def r8_13 : List AOper := [ao 0 19 (.mv (.t 1)),
  ao 1 4 (.mv (.t 19))]
def c8 : ACode := .seq (.reg r8_0) (.seq (.reg r8_1) (.seq c8_6 (.seq (.reg r8_7) (.seq c8_12 (.seq (.reg r8_13) .ret)))))
def s8 : List ARes := [.tmp 4]
theorem ok8 : okF Try.prog 8 20 c8 s8 := ⟨Try.f8, Try.func8, Try.ntmps8, by kernel_rfl, by kernel_rfl, by kernel_rfl⟩
theorem UFb_2 : (type_of% (uA c8.eq_1)) ∧ (type_of% (uR r8_0.eq_1)) ∧ (type_of% (uR r8_1.eq_1)) ∧ (type_of% (uA c8_6.eq_1)) ∧ (type_of% (uR r8_2.eq_1)) ∧ (type_of% (uA c8_5.eq_1)) ∧ (type_of% (uA c8_4.eq_1)) ∧ (type_of% (uR r8_3.eq_1)) ∧ (type_of% (uR r8_7.eq_1)) ∧ (type_of% (uA c8_12.eq_1)) ∧ (type_of% (uR r8_8.eq_1)) ∧ (type_of% (uA c8_11.eq_1)) ∧ (type_of% (uA c8_10.eq_1)) ∧ (type_of% (uR r8_9.eq_1)) ∧ (type_of% (uR r8_13.eq_1)) ∧ (type_of% s8.eq_1) :=
  ⟨uA c8.eq_1, uR r8_0.eq_1, uR r8_1.eq_1, uA c8_6.eq_1, uR r8_2.eq_1, uA c8_5.eq_1, uA c8_4.eq_1, uR r8_3.eq_1, uR r8_7.eq_1, uA c8_12.eq_1, uR r8_8.eq_1, uA c8_11.eq_1, uA c8_10.eq_1, uR r8_9.eq_1, uR r8_13.eq_1, s8.eq_1⟩
theorem szDW_ok (x : DW) (left : Int) (h0 : 0 ≤ left ∧ left ≤ 1048576) (hx : okDW x) : ACallsF Try.prog 8 [tDW x, .i left] [] (.i (sub1 left (wW x))) := by
  obtain ⟨h1, h2⟩ := hx
  unfold okS at h1 h2
  have gw1 : IntKind.i64.wrap (left - x.name.size) = left - x.name.size := wrap64 ⟨by omega, by omega⟩
  have gw2 : IntKind.i64.wrap (left - x.name.size - x.data.size) = if (x.name.size : Int) ≤ left then left - x.name.size - x.data.size else IntKind.i64.wrap (left - x.name.size - x.data.size) := by
    split
    · exact wrap64 ⟨by omega, by omega⟩
    · rfl
  refine ACallsF.intro ok8 follows fun X c0 => ?_
  by_cases hA : (x.name.size : Int) ≤ left
  · have k0 : ¬ left - (x.name.size : Int) < 0 := by omega
    rw [if_pos hA] at gw2
    by_cases hB : ((wW x : Nat) : Int) ≤ left
    · have hB' := hB
      unfold wW at hB
      have k1 : ¬ left - (x.name.size : Int) - (x.data.size : Int) < 0 := by omega
      have k2 : sub1 left (wW x) = left - (x.name.size : Int) - (x.data.size : Int) := by rw [sub1, if_pos hB', wW]; omega
      simp only [RUN, core, T.c, T.s, T.b, T.i, sBin, sInt, sUn, isShift, asInt, P1.cells, loadT, ptrC, storeT, putC, fillP, Nat.reduceAdd, reduceIte, Nat.reduceEqDiff, Nat.reduceLT, Nat.reduceLeDiff, reduceCtorEq, eq_self, FIT, lendCs_map, verC_map, FinC, resPs, resP, lendPl, lendCs, lendC, sealC, partsT, finHs, tupT, verT, verP, verC, verB, verAt, Blk.ver, handsAre, forall_const, CHT, disj, Nat.reduceBEq, beq_self_eq_true, APT, srcOf, sealPs, sealCs, sealC, toVs, Option.map_some, List.mem_singleton, forall_eq, ALT, UFb_2, gw1, gw2, k0, k1, k2]
    · have hB' := hB
      unfold wW at hB
      have k1 : left - (x.name.size : Int) - (x.data.size : Int) < 0 := by omega
      have k2 : sub1 left (wW x) = -1 := by rw [sub1, if_neg hB']
      simp only [RUN, core, T.c, T.s, T.b, T.i, sBin, sInt, sUn, isShift, asInt, P1.cells, loadT, ptrC, storeT, putC, fillP, Nat.reduceAdd, reduceIte, Nat.reduceEqDiff, Nat.reduceLT, Nat.reduceLeDiff, reduceCtorEq, eq_self, FIT, lendCs_map, verC_map, FinC, resPs, resP, lendPl, lendCs, lendC, sealC, partsT, finHs, tupT, verT, verP, verC, verB, verAt, Blk.ver, handsAre, forall_const, CHT, disj, Nat.reduceBEq, beq_self_eq_true, APT, srcOf, sealPs, sealCs, sealC, toVs, Option.map_some, List.mem_singleton, forall_eq, ALT, UFb_2, gw1, gw2, k0, k1, k2]
  · have k0 : left - (x.name.size : Int) < 0 := by omega
    have k2 : sub1 left (wW x) = -1 := by rw [sub1, if_neg (by unfold wW; omega)]
    simp only [RUN, core, T.c, T.s, T.b, T.i, sBin, sInt, sUn, isShift, asInt, P1.cells, loadT, ptrC, storeT, putC, fillP, Nat.reduceAdd, reduceIte, Nat.reduceEqDiff, Nat.reduceLT, Nat.reduceLeDiff, reduceCtorEq, eq_self, FIT, lendCs_map, verC_map, FinC, resPs, resP, lendPl, lendCs, lendC, sealC, partsT, finHs, tupT, verT, verP, verC, verB, verAt, Blk.ver, handsAre, forall_const, CHT, disj, Nat.reduceBEq, beq_self_eq_true, APT, srcOf, sealPs, sealCs, sealC, toVs, Option.map_some, List.mem_singleton, forall_eq, ALT, UFb_2, gw1, k0, k2]
/- loop.example/teagle/laws.szDiskMove -/
def r96_0 : List AOper := [ao 0 2 (.box 137 (.t 0)),
  ao 1 4 (.mv (.k (.i 0)))]
def r96_1 : List AOper := [ao 0 5 (.mv (.t 1)),
  ao 1 6 (.fa 1 (.t 2)),
  ao 2 7 (.ld 1 false (.t 6)),
  ao 3 8 (.lenS (.t 7)),
  ao 4 9 (.bin .sub (.t 5) (.t 8)),
  ao 5 1 (.mv (.t 9))]
def r96_2 : List AOper := [ao 0 10 (.mv (.t 1)),
  ao 1 11 (.bin .lss (.t 10) (.k (.i 0)))]
def r96_3 : List AOper := [ao 0 4 (.mv (.k (.i (-1))))]
def c96_4 : ACode := .seq (.reg r96_3) .ret
def c96_5 : ACode := .cond (.t 11) c96_4 .skip
def c96_6 : ACode := .seq (.reg r96_2) c96_5
def r96_7 : List AOper := [ao 0 12 (.mv (.t 1)),
  ao 1 4 (.mv (.t 12))]
def c96 : ACode := .seq (.reg r96_0) (.seq (.reg r96_1) (.seq c96_6 (.seq (.reg r96_7) .ret)))
def s96 : List ARes := [.tmp 4]
theorem ok96 : okF Try.prog 96 13 c96 s96 := ⟨Try.f96, Try.func96, Try.ntmps96, by kernel_rfl, by kernel_rfl, by kernel_rfl⟩
theorem UFb_3 : (type_of% (uA c96.eq_1)) ∧ (type_of% (uR r96_0.eq_1)) ∧ (type_of% (uR r96_1.eq_1)) ∧ (type_of% (uA c96_6.eq_1)) ∧ (type_of% (uR r96_2.eq_1)) ∧ (type_of% (uA c96_5.eq_1)) ∧ (type_of% (uA c96_4.eq_1)) ∧ (type_of% (uR r96_3.eq_1)) ∧ (type_of% (uR r96_7.eq_1)) ∧ (type_of% s96.eq_1) :=
  ⟨uA c96.eq_1, uR r96_0.eq_1, uR r96_1.eq_1, uA c96_6.eq_1, uR r96_2.eq_1, uA c96_5.eq_1, uA c96_4.eq_1, uR r96_3.eq_1, uR r96_7.eq_1, s96.eq_1⟩
theorem szDM_ok (x : DM) (left : Int) (h0 : 0 ≤ left ∧ left ≤ 1048576) (hx : okDM x) : ACallsF Try.prog 96 [tDM x, .i left] [] (.i (sub1 left (wM x))) := by
  unfold okDM okS at hx
  have gw1 : IntKind.i64.wrap (left - x.name.size) = left - x.name.size := wrap64 ⟨by omega, by omega⟩
  refine ACallsF.intro ok96 follows fun X c0 => ?_
  by_cases hA : (x.name.size : Int) ≤ left
  · have k0 : ¬ left - (x.name.size : Int) < 0 := by omega
    have k2 : sub1 left (wM x) = left - (x.name.size : Int) := by rw [sub1, if_pos (by unfold wM; omega), wM]
    simp only [RUN, core, T.c, T.s, T.b, T.i, sBin, sInt, sUn, isShift, asInt, P1.cells, loadT, ptrC, storeT, putC, fillP, Nat.reduceAdd, reduceIte, Nat.reduceEqDiff, Nat.reduceLT, Nat.reduceLeDiff, reduceCtorEq, eq_self, FIT, lendCs_map, verC_map, FinC, resPs, resP, lendPl, lendCs, lendC, sealC, partsT, finHs, tupT, verT, verP, verC, verB, verAt, Blk.ver, handsAre, forall_const, CHT, disj, Nat.reduceBEq, beq_self_eq_true, APT, srcOf, sealPs, sealCs, sealC, toVs, Option.map_some, List.mem_singleton, forall_eq, ALT, UFb_3, gw1, k0, k2]
  · have k0 : left - (x.name.size : Int) < 0 := by omega
    have k2 : sub1 left (wM x) = -1 := by rw [sub1, if_neg (by unfold wM; omega)]
    simp only [RUN, core, T.c, T.s, T.b, T.i, sBin, sInt, sUn, isShift, asInt, P1.cells, loadT, ptrC, storeT, putC, fillP, Nat.reduceAdd, reduceIte, Nat.reduceEqDiff, Nat.reduceLT, Nat.reduceLeDiff, reduceCtorEq, eq_self, FIT, lendCs_map, verC_map, FinC, resPs, resP, lendPl, lendCs, lendC, sealC, partsT, finHs, tupT, verT, verP, verC, verB, verAt, Blk.ver, handsAre, forall_const, CHT, disj, Nat.reduceBEq, beq_self_eq_true, APT, srcOf, sealPs, sealCs, sealC, toVs, Option.map_some, List.mem_singleton, forall_eq, ALT, UFb_3, gw1, k0, k2]
/- loop.example/teagle/laws.szDiskFileS -/
def r38_0 : List AOper := [ao 0 4 (.mv (.k (.i 0)))]
def r38_1 : List AOper := [ao 0 6 (.mv (.t 1)),
  ao 1 7 (.mv (.t 0)),
  ao 2 8 (.len (.t 7)),
  ao 3 9 (.bin .sub (.t 6) (.t 8)),
  ao 4 1 (.mv (.t 9))]
def r38_2 : List AOper := [ao 0 10 (.mv (.t 1)),
  ao 1 11 (.bin .lss (.t 10) (.k (.i 0)))]
def r38_3 : List AOper := [ao 0 4 (.mv (.k (.i (-1))))]
def c38_4 : ACode := .seq (.reg r38_3) .ret
def c38_5 : ACode := .cond (.t 11) c38_4 .skip
def c38_6 : ACode := .seq (.reg r38_2) c38_5
def r38_7 : List AOper := [ao 0 5 (.mv (.k (.i 0)))]
def r38_8 : List AOper := [ao 0 12 (.mv (.t 5)),
  ao 1 13 (.mv (.t 0)),
  ao 2 14 (.len (.t 13)),
  ao 3 15 (.bin .lss (.t 12) (.t 14))]
def c38_9 : ACode := .cond (.t 15) .skip (.exit 0)
def c38_10 : ACode := .seq (.reg r38_8) c38_9
def r38_11 : List AOper := [ao 0 18 (.mv (.t 0)),
  ao 1 19 (.mv (.t 5)),
  ao 2 20 (.ia 3 (.t 18) (.t 19)),
  ao 3 21 (.ld 3 true (.t 20)),
  ao 4 22 (.mv (.t 1)),
  ao 5 23 (.call (.k (.c (.fn 95 []))) [(.t 21), (.t 22)]),
  ao 6 1 (.mv (.t 23))]
def r38_12 : List AOper := [ao 0 24 (.mv (.t 1)),
  ao 1 25 (.bin .lss (.t 24) (.k (.i 0)))]
def r38_13 : List AOper := [ao 0 4 (.mv (.k (.i (-1))))]
def c38_14 : ACode := .seq (.reg r38_13) .ret
def c38_15 : ACode := .cond (.t 25) c38_14 .skip
def c38_16 : ACode := .seq (.reg r38_11) (.seq (.reg r38_12) c38_15)
def c38_17 : ACode := .block 1 c38_16
def r38_18 : List AOper := [ao 0 16 (.mv (.t 5)),
  ao 1 17 (.bin .add (.t 16) (.k (.i 1))),
  ao 2 5 (.mv (.t 17))]
def c38_19 : ACode := .seq c38_10 (.seq c38_17 (.reg r38_18))
def c38_20 : ACode := .loop c38_19
def c38_21 : ACode := .block 0 c38_20
def c38_22 : ACode := .seq (.reg r38_7) c38_21
def r38_23 : List AOper := [ao 0 26 (.mv (.t 1)),
  ao 1 4 (.mv (.t 26))]
def c38 : ACode := .seq (.reg r38_0) (.seq (.reg r38_1) (.seq c38_6 (.seq c38_22 (.seq (.reg r38_23) .ret))))
def s38 : List ARes := [.tmp 4]
theorem ok38 : okF Try.prog 38 27 c38 s38 := ⟨Try.f38, Try.func38, Try.ntmps38, by kernel_rfl, by kernel_rfl, by kernel_rfl⟩
def inv38 (xs : List DF) (left : Int) (i : Nat) (σ : St) : Prop := ((xs.length + wsum wF (xs.take i) : Nat) : Int) ≤ left ∧ σ.t 0 = .c (.v (.sl (en eF xs))) ∧ σ.t 1 = .i (left - ((xs.length + wsum wF (xs.take i) : Nat) : Int)) ∧ σ.t 5 = .i i
theorem UFb_4 : (type_of% (uA c38.eq_1)) ∧ (type_of% (uR r38_0.eq_1)) ∧ (type_of% (uR r38_1.eq_1)) ∧ (type_of% (uA c38_6.eq_1)) ∧ (type_of% (uR r38_2.eq_1)) ∧ (type_of% (uA c38_5.eq_1)) ∧ (type_of% (uA c38_4.eq_1)) ∧ (type_of% (uR r38_3.eq_1)) ∧ (type_of% (uA c38_22.eq_1)) ∧ (type_of% (uR r38_7.eq_1)) ∧ (type_of% (uA c38_21.eq_1)) ∧ (type_of% (uA c38_20.eq_1)) ∧ (type_of% (uR r38_23.eq_1)) ∧ (type_of% s38.eq_1) :=
  ⟨uA c38.eq_1, uR r38_0.eq_1, uR r38_1.eq_1, uA c38_6.eq_1, uR r38_2.eq_1, uA c38_5.eq_1, uA c38_4.eq_1, uR r38_3.eq_1, uA c38_22.eq_1, uR r38_7.eq_1, uA c38_21.eq_1, uA c38_20.eq_1, uR r38_23.eq_1, s38.eq_1⟩
theorem UFb_7 : (type_of% (uA c38_19.eq_1)) ∧ (type_of% (uA c38_10.eq_1)) ∧ (type_of% (uR r38_8.eq_1)) ∧ (type_of% (uA c38_9.eq_1)) ∧ (type_of% (uA c38_17.eq_1)) ∧ (type_of% (uA c38_16.eq_1)) ∧ (type_of% (uR r38_11.eq_1)) ∧ (type_of% (uR r38_12.eq_1)) ∧ (type_of% (uA c38_15.eq_1)) ∧ (type_of% (uA c38_14.eq_1)) ∧ (type_of% (uR r38_13.eq_1)) ∧ (type_of% (uR r38_18.eq_1)) ∧ (type_of% (uA c38.eq_1)) ∧ (type_of% (uR r38_0.eq_1)) ∧ (type_of% (uR r38_1.eq_1)) ∧ (type_of% (uA c38_6.eq_1)) ∧ (type_of% (uR r38_2.eq_1)) ∧ (type_of% (uA c38_5.eq_1)) ∧ (type_of% (uA c38_4.eq_1)) ∧ (type_of% (uR r38_3.eq_1)) ∧ (type_of% (uA c38_22.eq_1)) ∧ (type_of% (uR r38_7.eq_1)) ∧ (type_of% (uA c38_21.eq_1)) ∧ (type_of% (uA c38_20.eq_1)) ∧ (type_of% (uR r38_23.eq_1)) ∧ (type_of% s38.eq_1) :=
  ⟨uA c38_19.eq_1, uA c38_10.eq_1, uR r38_8.eq_1, uA c38_9.eq_1, uA c38_17.eq_1, uA c38_16.eq_1, uR r38_11.eq_1, uR r38_12.eq_1, uA c38_15.eq_1, uA c38_14.eq_1, uR r38_13.eq_1, uR r38_18.eq_1, uA c38.eq_1, uR r38_0.eq_1, uR r38_1.eq_1, uA c38_6.eq_1, uR r38_2.eq_1, uA c38_5.eq_1, uA c38_4.eq_1, uR r38_3.eq_1, uA c38_22.eq_1, uR r38_7.eq_1, uA c38_21.eq_1, uA c38_20.eq_1, uR r38_23.eq_1, s38.eq_1⟩
theorem szDFs_ok (xs : List DF) (left : Int) (h0 : 0 ≤ left ∧ left ≤ 1048576) (hl : xs.length ≤ 9223372036854775807) (hw : ∀ x ∈ xs, okDF x) : ACallsF Try.prog 38 [.c (.v (.sl (en eF xs))), .i left] [] (.i (sub1 left (xs.length + wsum wF xs))) := by
  refine ACallsF.intro ok38 follows fun X c0 => ?_
  have gw0 : IntKind.i64.wrap (left - xs.length) = left - xs.length := wrap64 ⟨by omega, by omega⟩
  by_cases hA : (xs.length : Int) ≤ left
  · have k0 : ¬ left - (xs.length : Int) < 0 := by omega
    simp only [RUN, core, T.c, T.s, T.b, T.i, sBin, sInt, sUn, isShift, asInt, P1.cells, loadT, ptrC, storeT, putC, fillP, Nat.reduceAdd, reduceIte, Nat.reduceEqDiff, Nat.reduceLT, Nat.reduceLeDiff, reduceCtorEq, eq_self, FIT, lendCs_map, verC_map, FinC, resPs, resP, lendPl, lendCs, lendC, sealC, partsT, finHs, tupT, verT, verP, verC, verB, verAt, Blk.ver, handsAre, forall_const, CHT, disj, Nat.reduceBEq, beq_self_eq_true, APT, srcOf, sealPs, sealCs, sealC, toVs, Option.map_some, List.mem_singleton, forall_eq, ALT, UFb_4, gw0, k0]
    refine AW.upto xs.length (inv38 xs left) ⟨by simpa [wsum] using hA, rfl, by show T.i (left - (xs.length : Int)) = _; simp [wsum], rfl⟩ fun i t H c hi h => ?_
    obtain ⟨g, e0, e1, e5⟩ := h
    simp only [T.c, T.i] at e0 e1 e5
    by_cases hlt : i < xs.length
    · obtain ⟨x, hx⟩ : ∃ x, xs[i]? = some x := ⟨_, List.getElem?_eq_getElem hlt⟩
      have ex := en_at eF hx
      have k1 : (i : Int) < xs.length := by omega
      have gz : (0 : Int) ≤ i := by omega
      have gw : IntKind.i64.wrap ((i : Int) + 1) = ((i + 1 : Nat) : Int) := wrap64 (x := (i : Int) + 1) ⟨by omega, by omega⟩
      have hs : wsum wF (xs.take (i + 1)) = wsum wF (xs.take i) + wF x := wsum_take wF hx
      have hle : wsum wF (xs.take (i + 1)) ≤ wsum wF xs := wsum_le wF xs _
      have hwx := hw x (List.mem_of_getElem? hx)
      simp only [RUN, core, T.c, T.s, T.b, T.i, sBin, sInt, sUn, isShift, asInt, P1.cells, loadT, ptrC, storeT, putC, fillP, Nat.reduceAdd, reduceIte, Nat.reduceEqDiff, Nat.reduceLT, Nat.reduceLeDiff, reduceCtorEq, eq_self, FIT, lendCs_map, verC_map, FinC, resPs, resP, lendPl, lendCs, lendC, sealC, partsT, finHs, tupT, verT, verP, verC, verB, verAt, Blk.ver, handsAre, forall_const, CHT, disj, Nat.reduceBEq, beq_self_eq_true, APT, srcOf, sealPs, sealCs, sealC, toVs, Option.map_some, List.mem_singleton, forall_eq, ALT, UFb_7, e0, e1, e5, en_len, k1, gz, ex, Int.toNat_natCast, eF]
      refine callC (szDF_ok x _ ⟨by omega, by omega⟩ hwx) rfl rfl (by simp [closedA, closedP, closedC]) rfl ?_
      by_cases hB : ((wF x : Nat) : Int) ≤ left - ((xs.length + wsum wF (xs.take i) : Nat) : Int)
      · have k2 : sub1 (left - ((xs.length + wsum wF (xs.take i) : Nat) : Int)) (wF x) = left - ((xs.length + wsum wF (xs.take (i + 1)) : Nat) : Int) := by rw [sub1, if_pos hB]; omega
        have k3 : ¬ left - ((xs.length + wsum wF (xs.take (i + 1)) : Nat) : Int) < 0 := by omega
        simp only [RUN, core, T.c, T.s, T.b, T.i, sBin, sInt, sUn, isShift, asInt, P1.cells, loadT, ptrC, storeT, putC, fillP, Nat.reduceAdd, reduceIte, Nat.reduceEqDiff, Nat.reduceLT, Nat.reduceLeDiff, reduceCtorEq, eq_self, FIT, lendCs_map, verC_map, FinC, resPs, resP, lendPl, lendCs, lendC, sealC, partsT, finHs, tupT, verT, verP, verC, verB, verAt, Blk.ver, handsAre, forall_const, CHT, disj, Nat.reduceBEq, beq_self_eq_true, APT, srcOf, sealPs, sealCs, sealC, toVs, Option.map_some, List.mem_singleton, forall_eq, ALT, UFb_7, e5, k2, k3, gw]
        exact ⟨hlt, by omega, e0, rfl, rfl⟩
      · have k2 : sub1 (left - ((xs.length + wsum wF (xs.take i) : Nat) : Int)) (wF x) = -1 := by rw [sub1, if_neg hB]
        have k3 : sub1 left (xs.length + wsum wF xs) = -1 := by rw [sub1, if_neg (by omega)]
        simp only [RUN, core, T.c, T.s, T.b, T.i, sBin, sInt, sUn, isShift, asInt, P1.cells, loadT, ptrC, storeT, putC, fillP, Nat.reduceAdd, reduceIte, Nat.reduceEqDiff, Nat.reduceLT, Nat.reduceLeDiff, reduceCtorEq, eq_self, FIT, lendCs_map, verC_map, FinC, resPs, resP, lendPl, lendCs, lendC, sealC, partsT, finHs, tupT, verT, verP, verC, verB, verAt, Blk.ver, handsAre, forall_const, CHT, disj, Nat.reduceBEq, beq_self_eq_true, APT, srcOf, sealPs, sealCs, sealC, toVs, Option.map_some, List.mem_singleton, forall_eq, ALT, UFb_7, UFb_4, k2, k3, Int.reduceLT]
    · have k1 : ¬ (i : Int) < xs.length := by omega
      have hi2 : i = xs.length := by omega
      subst hi2
      rw [List.take_length] at g
      rw [List.take_length] at e1
      have k3 : sub1 left (xs.length + wsum wF xs) = left - ((xs.length + wsum wF xs : Nat) : Int) := by rw [sub1, if_pos g]
      simp only [RUN, core, T.c, T.s, T.b, T.i, sBin, sInt, sUn, isShift, asInt, P1.cells, loadT, ptrC, storeT, putC, fillP, Nat.reduceAdd, reduceIte, Nat.reduceEqDiff, Nat.reduceLT, Nat.reduceLeDiff, reduceCtorEq, eq_self, FIT, lendCs_map, verC_map, FinC, resPs, resP, lendPl, lendCs, lendC, sealC, partsT, finHs, tupT, verT, verP, verC, verB, verAt, Blk.ver, handsAre, forall_const, CHT, disj, Nat.reduceBEq, beq_self_eq_true, APT, srcOf, sealPs, sealCs, sealC, toVs, Option.map_some, List.mem_singleton, forall_eq, ALT, UFb_7, UFb_4, e0, e1, e5, en_len, k1, k3]
  · have k0 : left - (xs.length : Int) < 0 := by omega
    have k3 : sub1 left (xs.length + wsum wF xs) = -1 := by rw [sub1, if_neg (by omega)]
    simp only [RUN, core, T.c, T.s, T.b, T.i, sBin, sInt, sUn, isShift, asInt, P1.cells, loadT, ptrC, storeT, putC, fillP, Nat.reduceAdd, reduceIte, Nat.reduceEqDiff, Nat.reduceLT, Nat.reduceLeDiff, reduceCtorEq, eq_self, FIT, lendCs_map, verC_map, FinC, resPs, resP, lendPl, lendCs, lendC, sealC, partsT, finHs, tupT, verT, verP, verC, verB, verAt, Blk.ver, handsAre, forall_const, CHT, disj, Nat.reduceBEq, beq_self_eq_true, APT, srcOf, sealPs, sealCs, sealC, toVs, Option.map_some, List.mem_singleton, forall_eq, ALT, UFb_4, gw0, k0, k3]
/- loop.example/teagle/laws.szDiskMoveS -/
def r40_0 : List AOper := [ao 0 4 (.mv (.k (.i 0)))]
def r40_1 : List AOper := [ao 0 6 (.mv (.t 1)),
  ao 1 7 (.mv (.t 0)),
  ao 2 8 (.len (.t 7)),
  ao 3 9 (.bin .sub (.t 6) (.t 8)),
  ao 4 1 (.mv (.t 9))]
def r40_2 : List AOper := [ao 0 10 (.mv (.t 1)),
  ao 1 11 (.bin .lss (.t 10) (.k (.i 0)))]
def r40_3 : List AOper := [ao 0 4 (.mv (.k (.i (-1))))]
def c40_4 : ACode := .seq (.reg r40_3) .ret
def c40_5 : ACode := .cond (.t 11) c40_4 .skip
def c40_6 : ACode := .seq (.reg r40_2) c40_5
def r40_7 : List AOper := [ao 0 5 (.mv (.k (.i 0)))]
def r40_8 : List AOper := [ao 0 12 (.mv (.t 5)),
  ao 1 13 (.mv (.t 0)),
  ao 2 14 (.len (.t 13)),
  ao 3 15 (.bin .lss (.t 12) (.t 14))]
def c40_9 : ACode := .cond (.t 15) .skip (.exit 0)
def c40_10 : ACode := .seq (.reg r40_8) c40_9
def r40_11 : List AOper := [ao 0 18 (.mv (.t 0)),
  ao 1 19 (.mv (.t 5)),
  ao 2 20 (.ia 2 (.t 18) (.t 19)),
  ao 3 21 (.ld 2 true (.t 20)),
  ao 4 22 (.mv (.t 1)),
  ao 5 23 (.call (.k (.c (.fn 96 []))) [(.t 21), (.t 22)]),
  ao 6 1 (.mv (.t 23))]
def r40_12 : List AOper := [ao 0 24 (.mv (.t 1)),
  ao 1 25 (.bin .lss (.t 24) (.k (.i 0)))]
def r40_13 : List AOper := [ao 0 4 (.mv (.k (.i (-1))))]
def c40_14 : ACode := .seq (.reg r40_13) .ret
def c40_15 : ACode := .cond (.t 25) c40_14 .skip
def c40_16 : ACode := .seq (.reg r40_11) (.seq (.reg r40_12) c40_15)
def c40_17 : ACode := .block 1 c40_16
def r40_18 : List AOper := [ao 0 16 (.mv (.t 5)),
  ao 1 17 (.bin .add (.t 16) (.k (.i 1))),
  ao 2 5 (.mv (.t 17))]
def c40_19 : ACode := .seq c40_10 (.seq c40_17 (.reg r40_18))
def c40_20 : ACode := .loop c40_19
def c40_21 : ACode := .block 0 c40_20
def c40_22 : ACode := .seq (.reg r40_7) c40_21
def r40_23 : List AOper := [ao 0 26 (.mv (.t 1)),
  ao 1 4 (.mv (.t 26))]
def c40 : ACode := .seq (.reg r40_0) (.seq (.reg r40_1) (.seq c40_6 (.seq c40_22 (.seq (.reg r40_23) .ret))))
def s40 : List ARes := [.tmp 4]
theorem ok40 : okF Try.prog 40 27 c40 s40 := ⟨Try.f40, Try.func40, Try.ntmps40, by kernel_rfl, by kernel_rfl, by kernel_rfl⟩
def inv40 (xs : List DM) (left : Int) (i : Nat) (σ : St) : Prop := ((xs.length + wsum wM (xs.take i) : Nat) : Int) ≤ left ∧ σ.t 0 = .c (.v (.sl (en eM xs))) ∧ σ.t 1 = .i (left - ((xs.length + wsum wM (xs.take i) : Nat) : Int)) ∧ σ.t 5 = .i i
theorem UFb_5 : (type_of% (uA c40.eq_1)) ∧ (type_of% (uR r40_0.eq_1)) ∧ (type_of% (uR r40_1.eq_1)) ∧ (type_of% (uA c40_6.eq_1)) ∧ (type_of% (uR r40_2.eq_1)) ∧ (type_of% (uA c40_5.eq_1)) ∧ (type_of% (uA c40_4.eq_1)) ∧ (type_of% (uR r40_3.eq_1)) ∧ (type_of% (uA c40_22.eq_1)) ∧ (type_of% (uR r40_7.eq_1)) ∧ (type_of% (uA c40_21.eq_1)) ∧ (type_of% (uA c40_20.eq_1)) ∧ (type_of% (uR r40_23.eq_1)) ∧ (type_of% s40.eq_1) :=
  ⟨uA c40.eq_1, uR r40_0.eq_1, uR r40_1.eq_1, uA c40_6.eq_1, uR r40_2.eq_1, uA c40_5.eq_1, uA c40_4.eq_1, uR r40_3.eq_1, uA c40_22.eq_1, uR r40_7.eq_1, uA c40_21.eq_1, uA c40_20.eq_1, uR r40_23.eq_1, s40.eq_1⟩
theorem UFb_8 : (type_of% (uA c40_19.eq_1)) ∧ (type_of% (uA c40_10.eq_1)) ∧ (type_of% (uR r40_8.eq_1)) ∧ (type_of% (uA c40_9.eq_1)) ∧ (type_of% (uA c40_17.eq_1)) ∧ (type_of% (uA c40_16.eq_1)) ∧ (type_of% (uR r40_11.eq_1)) ∧ (type_of% (uR r40_12.eq_1)) ∧ (type_of% (uA c40_15.eq_1)) ∧ (type_of% (uA c40_14.eq_1)) ∧ (type_of% (uR r40_13.eq_1)) ∧ (type_of% (uR r40_18.eq_1)) ∧ (type_of% (uA c40.eq_1)) ∧ (type_of% (uR r40_0.eq_1)) ∧ (type_of% (uR r40_1.eq_1)) ∧ (type_of% (uA c40_6.eq_1)) ∧ (type_of% (uR r40_2.eq_1)) ∧ (type_of% (uA c40_5.eq_1)) ∧ (type_of% (uA c40_4.eq_1)) ∧ (type_of% (uR r40_3.eq_1)) ∧ (type_of% (uA c40_22.eq_1)) ∧ (type_of% (uR r40_7.eq_1)) ∧ (type_of% (uA c40_21.eq_1)) ∧ (type_of% (uA c40_20.eq_1)) ∧ (type_of% (uR r40_23.eq_1)) ∧ (type_of% s40.eq_1) :=
  ⟨uA c40_19.eq_1, uA c40_10.eq_1, uR r40_8.eq_1, uA c40_9.eq_1, uA c40_17.eq_1, uA c40_16.eq_1, uR r40_11.eq_1, uR r40_12.eq_1, uA c40_15.eq_1, uA c40_14.eq_1, uR r40_13.eq_1, uR r40_18.eq_1, uA c40.eq_1, uR r40_0.eq_1, uR r40_1.eq_1, uA c40_6.eq_1, uR r40_2.eq_1, uA c40_5.eq_1, uA c40_4.eq_1, uR r40_3.eq_1, uA c40_22.eq_1, uR r40_7.eq_1, uA c40_21.eq_1, uA c40_20.eq_1, uR r40_23.eq_1, s40.eq_1⟩
theorem szDMs_ok (xs : List DM) (left : Int) (h0 : 0 ≤ left ∧ left ≤ 1048576) (hl : xs.length ≤ 9223372036854775807) (hw : ∀ x ∈ xs, okDM x) : ACallsF Try.prog 40 [.c (.v (.sl (en eM xs))), .i left] [] (.i (sub1 left (xs.length + wsum wM xs))) := by
  refine ACallsF.intro ok40 follows fun X c0 => ?_
  have gw0 : IntKind.i64.wrap (left - xs.length) = left - xs.length := wrap64 ⟨by omega, by omega⟩
  by_cases hA : (xs.length : Int) ≤ left
  · have k0 : ¬ left - (xs.length : Int) < 0 := by omega
    simp only [RUN, core, T.c, T.s, T.b, T.i, sBin, sInt, sUn, isShift, asInt, P1.cells, loadT, ptrC, storeT, putC, fillP, Nat.reduceAdd, reduceIte, Nat.reduceEqDiff, Nat.reduceLT, Nat.reduceLeDiff, reduceCtorEq, eq_self, FIT, lendCs_map, verC_map, FinC, resPs, resP, lendPl, lendCs, lendC, sealC, partsT, finHs, tupT, verT, verP, verC, verB, verAt, Blk.ver, handsAre, forall_const, CHT, disj, Nat.reduceBEq, beq_self_eq_true, APT, srcOf, sealPs, sealCs, sealC, toVs, Option.map_some, List.mem_singleton, forall_eq, ALT, UFb_5, gw0, k0]
    refine AW.upto xs.length (inv40 xs left) ⟨by simpa [wsum] using hA, rfl, by show T.i (left - (xs.length : Int)) = _; simp [wsum], rfl⟩ fun i t H c hi h => ?_
    obtain ⟨g, e0, e1, e5⟩ := h
    simp only [T.c, T.i] at e0 e1 e5
    by_cases hlt : i < xs.length
    · obtain ⟨x, hx⟩ : ∃ x, xs[i]? = some x := ⟨_, List.getElem?_eq_getElem hlt⟩
      have ex := en_at eM hx
      have k1 : (i : Int) < xs.length := by omega
      have gz : (0 : Int) ≤ i := by omega
      have gw : IntKind.i64.wrap ((i : Int) + 1) = ((i + 1 : Nat) : Int) := wrap64 (x := (i : Int) + 1) ⟨by omega, by omega⟩
      have hs : wsum wM (xs.take (i + 1)) = wsum wM (xs.take i) + wM x := wsum_take wM hx
      have hle : wsum wM (xs.take (i + 1)) ≤ wsum wM xs := wsum_le wM xs _
      have hwx := hw x (List.mem_of_getElem? hx)
      simp only [RUN, core, T.c, T.s, T.b, T.i, sBin, sInt, sUn, isShift, asInt, P1.cells, loadT, ptrC, storeT, putC, fillP, Nat.reduceAdd, reduceIte, Nat.reduceEqDiff, Nat.reduceLT, Nat.reduceLeDiff, reduceCtorEq, eq_self, FIT, lendCs_map, verC_map, FinC, resPs, resP, lendPl, lendCs, lendC, sealC, partsT, finHs, tupT, verT, verP, verC, verB, verAt, Blk.ver, handsAre, forall_const, CHT, disj, Nat.reduceBEq, beq_self_eq_true, APT, srcOf, sealPs, sealCs, sealC, toVs, Option.map_some, List.mem_singleton, forall_eq, ALT, UFb_8, e0, e1, e5, en_len, k1, gz, ex, Int.toNat_natCast, eM]
      refine callC (szDM_ok x _ ⟨by omega, by omega⟩ hwx) rfl rfl (by simp [closedA, closedP, closedC]) rfl ?_
      by_cases hB : ((wM x : Nat) : Int) ≤ left - ((xs.length + wsum wM (xs.take i) : Nat) : Int)
      · have k2 : sub1 (left - ((xs.length + wsum wM (xs.take i) : Nat) : Int)) (wM x) = left - ((xs.length + wsum wM (xs.take (i + 1)) : Nat) : Int) := by rw [sub1, if_pos hB]; omega
        have k3 : ¬ left - ((xs.length + wsum wM (xs.take (i + 1)) : Nat) : Int) < 0 := by omega
        simp only [RUN, core, T.c, T.s, T.b, T.i, sBin, sInt, sUn, isShift, asInt, P1.cells, loadT, ptrC, storeT, putC, fillP, Nat.reduceAdd, reduceIte, Nat.reduceEqDiff, Nat.reduceLT, Nat.reduceLeDiff, reduceCtorEq, eq_self, FIT, lendCs_map, verC_map, FinC, resPs, resP, lendPl, lendCs, lendC, sealC, partsT, finHs, tupT, verT, verP, verC, verB, verAt, Blk.ver, handsAre, forall_const, CHT, disj, Nat.reduceBEq, beq_self_eq_true, APT, srcOf, sealPs, sealCs, sealC, toVs, Option.map_some, List.mem_singleton, forall_eq, ALT, UFb_8, e5, k2, k3, gw]
        exact ⟨hlt, by omega, e0, rfl, rfl⟩
      · have k2 : sub1 (left - ((xs.length + wsum wM (xs.take i) : Nat) : Int)) (wM x) = -1 := by rw [sub1, if_neg hB]
        have k3 : sub1 left (xs.length + wsum wM xs) = -1 := by rw [sub1, if_neg (by omega)]
        simp only [RUN, core, T.c, T.s, T.b, T.i, sBin, sInt, sUn, isShift, asInt, P1.cells, loadT, ptrC, storeT, putC, fillP, Nat.reduceAdd, reduceIte, Nat.reduceEqDiff, Nat.reduceLT, Nat.reduceLeDiff, reduceCtorEq, eq_self, FIT, lendCs_map, verC_map, FinC, resPs, resP, lendPl, lendCs, lendC, sealC, partsT, finHs, tupT, verT, verP, verC, verB, verAt, Blk.ver, handsAre, forall_const, CHT, disj, Nat.reduceBEq, beq_self_eq_true, APT, srcOf, sealPs, sealCs, sealC, toVs, Option.map_some, List.mem_singleton, forall_eq, ALT, UFb_8, UFb_5, k2, k3, Int.reduceLT]
    · have k1 : ¬ (i : Int) < xs.length := by omega
      have hi2 : i = xs.length := by omega
      subst hi2
      rw [List.take_length] at g
      rw [List.take_length] at e1
      have k3 : sub1 left (xs.length + wsum wM xs) = left - ((xs.length + wsum wM xs : Nat) : Int) := by rw [sub1, if_pos g]
      simp only [RUN, core, T.c, T.s, T.b, T.i, sBin, sInt, sUn, isShift, asInt, P1.cells, loadT, ptrC, storeT, putC, fillP, Nat.reduceAdd, reduceIte, Nat.reduceEqDiff, Nat.reduceLT, Nat.reduceLeDiff, reduceCtorEq, eq_self, FIT, lendCs_map, verC_map, FinC, resPs, resP, lendPl, lendCs, lendC, sealC, partsT, finHs, tupT, verT, verP, verC, verB, verAt, Blk.ver, handsAre, forall_const, CHT, disj, Nat.reduceBEq, beq_self_eq_true, APT, srcOf, sealPs, sealCs, sealC, toVs, Option.map_some, List.mem_singleton, forall_eq, ALT, UFb_8, UFb_5, e0, e1, e5, en_len, k1, k3]
  · have k0 : left - (xs.length : Int) < 0 := by omega
    have k3 : sub1 left (xs.length + wsum wM xs) = -1 := by rw [sub1, if_neg (by omega)]
    simp only [RUN, core, T.c, T.s, T.b, T.i, sBin, sInt, sUn, isShift, asInt, P1.cells, loadT, ptrC, storeT, putC, fillP, Nat.reduceAdd, reduceIte, Nat.reduceEqDiff, Nat.reduceLT, Nat.reduceLeDiff, reduceCtorEq, eq_self, FIT, lendCs_map, verC_map, FinC, resPs, resP, lendPl, lendCs, lendC, sealC, partsT, finHs, tupT, verT, verP, verC, verB, verAt, Blk.ver, handsAre, forall_const, CHT, disj, Nat.reduceBEq, beq_self_eq_true, APT, srcOf, sealPs, sealCs, sealC, toVs, Option.map_some, List.mem_singleton, forall_eq, ALT, UFb_5, gw0, k0, k3]
/- loop.example/teagle/laws.szStringS -/
def r39_0 : List AOper := [ao 0 4 (.mv (.k (.i 0)))]
def r39_1 : List AOper := [ao 0 6 (.mv (.t 1)),
  ao 1 7 (.mv (.t 0)),
  ao 2 8 (.len (.t 7)),
  ao 3 9 (.bin .sub (.t 6) (.t 8)),
  ao 4 1 (.mv (.t 9))]
def r39_2 : List AOper := [ao 0 10 (.mv (.t 1)),
  ao 1 11 (.bin .lss (.t 10) (.k (.i 0)))]
def r39_3 : List AOper := [ao 0 4 (.mv (.k (.i (-1))))]
def c39_4 : ACode := .seq (.reg r39_3) .ret
def c39_5 : ACode := .cond (.t 11) c39_4 .skip
def c39_6 : ACode := .seq (.reg r39_2) c39_5
def r39_7 : List AOper := [ao 0 5 (.mv (.k (.i 0)))]
def r39_8 : List AOper := [ao 0 12 (.mv (.t 5)),
  ao 1 13 (.mv (.t 0)),
  ao 2 14 (.len (.t 13)),
  ao 3 15 (.bin .lss (.t 12) (.t 14))]
def c39_9 : ACode := .cond (.t 15) .skip (.exit 0)
def c39_10 : ACode := .seq (.reg r39_8) c39_9
def r39_11 : List AOper := [ao 0 18 (.mv (.t 1)),
  ao 1 19 (.mv (.t 0)),
  ao 2 20 (.mv (.t 5)),
  ao 3 21 (.ia 1 (.t 19) (.t 20)),
  ao 4 22 (.ld 1 false (.t 21)),
  ao 5 23 (.lenS (.t 22)),
  ao 6 24 (.bin .sub (.t 18) (.t 23)),
  ao 7 1 (.mv (.t 24))]
def r39_12 : List AOper := [ao 0 25 (.mv (.t 1)),
  ao 1 26 (.bin .lss (.t 25) (.k (.i 0)))]
def r39_13 : List AOper := [ao 0 4 (.mv (.k (.i (-1))))]
def c39_14 : ACode := .seq (.reg r39_13) .ret
def c39_15 : ACode := .cond (.t 26) c39_14 .skip
def c39_16 : ACode := .seq (.reg r39_11) (.seq (.reg r39_12) c39_15)
def c39_17 : ACode := .block 1 c39_16
def r39_18 : List AOper := [ao 0 16 (.mv (.t 5)),
  ao 1 17 (.bin .add (.t 16) (.k (.i 1))),
  ao 2 5 (.mv (.t 17))]
def c39_19 : ACode := .seq c39_10 (.seq c39_17 (.reg r39_18))
def c39_20 : ACode := .loop c39_19
def c39_21 : ACode := .block 0 c39_20
def c39_22 : ACode := .seq (.reg r39_7) c39_21
def r39_23 : List AOper := [ao 0 27 (.mv (.t 1)),
  ao 1 4 (.mv (.t 27))]
def c39 : ACode := .seq (.reg r39_0) (.seq (.reg r39_1) (.seq c39_6 (.seq c39_22 (.seq (.reg r39_23) .ret))))
def s39 : List ARes := [.tmp 4]
theorem ok39 : okF Try.prog 39 28 c39 s39 := ⟨Try.f39, Try.func39, Try.ntmps39, by kernel_rfl, by kernel_rfl, by kernel_rfl⟩
def inv39 (xs : List ByteArray) (left : Int) (i : Nat) (σ : St) : Prop := ((xs.length + wsum wS (xs.take i) : Nat) : Int) ≤ left ∧ σ.t 0 = .c (.v (.sl (en eS xs))) ∧ σ.t 1 = .i (left - ((xs.length + wsum wS (xs.take i) : Nat) : Int)) ∧ σ.t 5 = .i i
theorem UFb_6 : (type_of% (uA c39.eq_1)) ∧ (type_of% (uR r39_0.eq_1)) ∧ (type_of% (uR r39_1.eq_1)) ∧ (type_of% (uA c39_6.eq_1)) ∧ (type_of% (uR r39_2.eq_1)) ∧ (type_of% (uA c39_5.eq_1)) ∧ (type_of% (uA c39_4.eq_1)) ∧ (type_of% (uR r39_3.eq_1)) ∧ (type_of% (uA c39_22.eq_1)) ∧ (type_of% (uR r39_7.eq_1)) ∧ (type_of% (uA c39_21.eq_1)) ∧ (type_of% (uA c39_20.eq_1)) ∧ (type_of% (uR r39_23.eq_1)) ∧ (type_of% s39.eq_1) :=
  ⟨uA c39.eq_1, uR r39_0.eq_1, uR r39_1.eq_1, uA c39_6.eq_1, uR r39_2.eq_1, uA c39_5.eq_1, uA c39_4.eq_1, uR r39_3.eq_1, uA c39_22.eq_1, uR r39_7.eq_1, uA c39_21.eq_1, uA c39_20.eq_1, uR r39_23.eq_1, s39.eq_1⟩
theorem UFb_9 : (type_of% (uA c39_19.eq_1)) ∧ (type_of% (uA c39_10.eq_1)) ∧ (type_of% (uR r39_8.eq_1)) ∧ (type_of% (uA c39_9.eq_1)) ∧ (type_of% (uA c39_17.eq_1)) ∧ (type_of% (uA c39_16.eq_1)) ∧ (type_of% (uR r39_11.eq_1)) ∧ (type_of% (uR r39_12.eq_1)) ∧ (type_of% (uA c39_15.eq_1)) ∧ (type_of% (uA c39_14.eq_1)) ∧ (type_of% (uR r39_13.eq_1)) ∧ (type_of% (uR r39_18.eq_1)) ∧ (type_of% (uA c39.eq_1)) ∧ (type_of% (uR r39_0.eq_1)) ∧ (type_of% (uR r39_1.eq_1)) ∧ (type_of% (uA c39_6.eq_1)) ∧ (type_of% (uR r39_2.eq_1)) ∧ (type_of% (uA c39_5.eq_1)) ∧ (type_of% (uA c39_4.eq_1)) ∧ (type_of% (uR r39_3.eq_1)) ∧ (type_of% (uA c39_22.eq_1)) ∧ (type_of% (uR r39_7.eq_1)) ∧ (type_of% (uA c39_21.eq_1)) ∧ (type_of% (uA c39_20.eq_1)) ∧ (type_of% (uR r39_23.eq_1)) ∧ (type_of% s39.eq_1) :=
  ⟨uA c39_19.eq_1, uA c39_10.eq_1, uR r39_8.eq_1, uA c39_9.eq_1, uA c39_17.eq_1, uA c39_16.eq_1, uR r39_11.eq_1, uR r39_12.eq_1, uA c39_15.eq_1, uA c39_14.eq_1, uR r39_13.eq_1, uR r39_18.eq_1, uA c39.eq_1, uR r39_0.eq_1, uR r39_1.eq_1, uA c39_6.eq_1, uR r39_2.eq_1, uA c39_5.eq_1, uA c39_4.eq_1, uR r39_3.eq_1, uA c39_22.eq_1, uR r39_7.eq_1, uA c39_21.eq_1, uA c39_20.eq_1, uR r39_23.eq_1, s39.eq_1⟩
theorem szSs_ok (xs : List ByteArray) (left : Int) (h0 : 0 ≤ left ∧ left ≤ 1048576) (hl : xs.length ≤ 9223372036854775807) (hw : ∀ x ∈ xs, okS x) : ACallsF Try.prog 39 [.c (.v (.sl (en eS xs))), .i left] [] (.i (sub1 left (xs.length + wsum wS xs))) := by
  refine ACallsF.intro ok39 follows fun X c0 => ?_
  have gw0 : IntKind.i64.wrap (left - xs.length) = left - xs.length := wrap64 ⟨by omega, by omega⟩
  by_cases hA : (xs.length : Int) ≤ left
  · have k0 : ¬ left - (xs.length : Int) < 0 := by omega
    simp only [RUN, core, T.c, T.s, T.b, T.i, sBin, sInt, sUn, isShift, asInt, P1.cells, loadT, ptrC, storeT, putC, fillP, Nat.reduceAdd, reduceIte, Nat.reduceEqDiff, Nat.reduceLT, Nat.reduceLeDiff, reduceCtorEq, eq_self, FIT, lendCs_map, verC_map, FinC, resPs, resP, lendPl, lendCs, lendC, sealC, partsT, finHs, tupT, verT, verP, verC, verB, verAt, Blk.ver, handsAre, forall_const, CHT, disj, Nat.reduceBEq, beq_self_eq_true, APT, srcOf, sealPs, sealCs, sealC, toVs, Option.map_some, List.mem_singleton, forall_eq, ALT, UFb_6, gw0, k0]
    refine AW.upto xs.length (inv39 xs left) ⟨by simpa [wsum] using hA, rfl, by show T.i (left - (xs.length : Int)) = _; simp [wsum], rfl⟩ fun i t H c hi h => ?_
    obtain ⟨g, e0, e1, e5⟩ := h
    simp only [T.c, T.i] at e0 e1 e5
    by_cases hlt : i < xs.length
    · obtain ⟨x, hx⟩ : ∃ x, xs[i]? = some x := ⟨_, List.getElem?_eq_getElem hlt⟩
      have ex := en_at eS hx
      have k1 : (i : Int) < xs.length := by omega
      have gz : (0 : Int) ≤ i := by omega
      have gw : IntKind.i64.wrap ((i : Int) + 1) = ((i + 1 : Nat) : Int) := wrap64 (x := (i : Int) + 1) ⟨by omega, by omega⟩
      have hs : wsum wS (xs.take (i + 1)) = wsum wS (xs.take i) + wS x := wsum_take wS hx
      have hle : wsum wS (xs.take (i + 1)) ≤ wsum wS xs := wsum_le wS xs _
      have hwx := hw x (List.mem_of_getElem? hx)
      unfold okS at hwx
      have gw1 : IntKind.i64.wrap (left - ((xs.length + wsum wS (xs.take i) : Nat) : Int) - (x.size : Int)) = left - ((xs.length + wsum wS (xs.take i) : Nat) : Int) - (x.size : Int) := wrap64 ⟨by omega, by omega⟩
      by_cases hB : ((wS x : Nat) : Int) ≤ left - ((xs.length + wsum wS (xs.take i) : Nat) : Int)
      · rw [show wS x = x.size from rfl] at hB
        have hs' : wsum wS (xs.take (i + 1)) = wsum wS (xs.take i) + x.size := hs
        have k2 : left - ((xs.length + wsum wS (xs.take i) : Nat) : Int) - (x.size : Int) = left - ((xs.length + wsum wS (xs.take (i + 1)) : Nat) : Int) := by omega
        have k3 : ¬ left - ((xs.length + wsum wS (xs.take (i + 1)) : Nat) : Int) < 0 := by omega
        simp only [RUN, core, T.c, T.s, T.b, T.i, sBin, sInt, sUn, isShift, asInt, P1.cells, loadT, ptrC, storeT, putC, fillP, Nat.reduceAdd, reduceIte, Nat.reduceEqDiff, Nat.reduceLT, Nat.reduceLeDiff, reduceCtorEq, eq_self, FIT, lendCs_map, verC_map, FinC, resPs, resP, lendPl, lendCs, lendC, sealC, partsT, finHs, tupT, verT, verP, verC, verB, verAt, Blk.ver, handsAre, forall_const, CHT, disj, Nat.reduceBEq, beq_self_eq_true, APT, srcOf, sealPs, sealCs, sealC, toVs, Option.map_some, List.mem_singleton, forall_eq, ALT, UFb_9, e0, e1, e5, en_len, k1, gz, ex, Int.toNat_natCast, eS, gw1.trans k2, k3, gw]
        exact ⟨hlt, by omega, e0, rfl, rfl⟩
      · rw [show wS x = x.size from rfl] at hB
        have hs' : wsum wS (xs.take (i + 1)) = wsum wS (xs.take i) + x.size := hs
        have k2 : left - ((xs.length + wsum wS (xs.take i) : Nat) : Int) - (x.size : Int) < 0 := by omega
        have k3 : sub1 left (xs.length + wsum wS xs) = -1 := by rw [sub1, if_neg (by omega)]
        simp only [RUN, core, T.c, T.s, T.b, T.i, sBin, sInt, sUn, isShift, asInt, P1.cells, loadT, ptrC, storeT, putC, fillP, Nat.reduceAdd, reduceIte, Nat.reduceEqDiff, Nat.reduceLT, Nat.reduceLeDiff, reduceCtorEq, eq_self, FIT, lendCs_map, verC_map, FinC, resPs, resP, lendPl, lendCs, lendC, sealC, partsT, finHs, tupT, verT, verP, verC, verB, verAt, Blk.ver, handsAre, forall_const, CHT, disj, Nat.reduceBEq, beq_self_eq_true, APT, srcOf, sealPs, sealCs, sealC, toVs, Option.map_some, List.mem_singleton, forall_eq, ALT, UFb_9, UFb_6, e0, e1, e5, en_len, k1, gz, ex, Int.toNat_natCast, eS, gw1, k2, k3]
    · have k1 : ¬ (i : Int) < xs.length := by omega
      have hi2 : i = xs.length := by omega
      subst hi2
      rw [List.take_length] at g
      rw [List.take_length] at e1
      have k3 : sub1 left (xs.length + wsum wS xs) = left - ((xs.length + wsum wS xs : Nat) : Int) := by rw [sub1, if_pos g]
      simp only [RUN, core, T.c, T.s, T.b, T.i, sBin, sInt, sUn, isShift, asInt, P1.cells, loadT, ptrC, storeT, putC, fillP, Nat.reduceAdd, reduceIte, Nat.reduceEqDiff, Nat.reduceLT, Nat.reduceLeDiff, reduceCtorEq, eq_self, FIT, lendCs_map, verC_map, FinC, resPs, resP, lendPl, lendCs, lendC, sealC, partsT, finHs, tupT, verT, verP, verC, verB, verAt, Blk.ver, handsAre, forall_const, CHT, disj, Nat.reduceBEq, beq_self_eq_true, APT, srcOf, sealPs, sealCs, sealC, toVs, Option.map_some, List.mem_singleton, forall_eq, ALT, UFb_9, UFb_6, e0, e1, e5, en_len, k1, k3]
  · have k0 : left - (xs.length : Int) < 0 := by omega
    have k3 : sub1 left (xs.length + wsum wS xs) = -1 := by rw [sub1, if_neg (by omega)]
    simp only [RUN, core, T.c, T.s, T.b, T.i, sBin, sInt, sUn, isShift, asInt, P1.cells, loadT, ptrC, storeT, putC, fillP, Nat.reduceAdd, reduceIte, Nat.reduceEqDiff, Nat.reduceLT, Nat.reduceLeDiff, reduceCtorEq, eq_self, FIT, lendCs_map, verC_map, FinC, resPs, resP, lendPl, lendCs, lendC, sealC, partsT, finHs, tupT, verT, verP, verC, verB, verAt, Blk.ver, handsAre, forall_const, CHT, disj, Nat.reduceBEq, beq_self_eq_true, APT, srcOf, sealPs, sealCs, sealC, toVs, Option.map_some, List.mem_singleton, forall_eq, ALT, UFb_6, gw0, k0, k3]
end Go.V
set_option linter.unusedSimpArgs false
namespace Go.V
open Go.Proofs
/-- An array that a call makes. -/
abbrev newH (c m st : Nat) (ty : TypeId) (es : List (List V)) : Hand := ⟨c, m, none, .arr 0 true st ty es, false⟩
/-- What a call does for every empty slice it does for the empty list. -/
theorem nilArgH {P : Program} {f : FuncId} {hs : List Hand} {r : T} (h : ∀ ad c, ACallsF P f [.s (.slice ad 0 c)] hs r) : ACallsF P f [.c (.v (.sl []))] hs r := by
  refine ⟨(h none 0).1, fun w imm L c vs hH hT => ?_⟩
  obtain ⟨x, rfl⟩ : ∃ x, vs = [x] := by
    have := hT.1
    cases vs with
    | nil => simp at this
    | cons x l => cases l with
      | nil => exact ⟨x, rfl⟩
      | cons _ _ => simp at this
  have hx : VRep w imm x (.sl []) := hT.2 0 x _ rfl rfl
  cases hx with
  | nil a cap => exact (h a cap).2 w imm L c _ hH ⟨rfl, fun k x y hx hy => by
      cases k with
      | zero => simp at hx hy; subst hx hy; exact .s _ rfl
      | succ k => simp at hx⟩
  | sl _ _ _ _ _ _ _ hne => exact absurd rfl hne
/-- A nil slice that is returned is an array of the call's own, too. -/
theorem ownNil {P : Program} {f : FuncId} {args : List T} {n m st : Nat} {ty : TypeId} (hst : 0 < st) (h : ACallsF P f args [] (.c .nil0)) : ACallsF P f args [newH n m st ty []] (.c (.own n 0 0)) := by
  refine ⟨h.1, fun w imm L c vs hH hT => ?_⟩
  have e0 : hinOf [newH n m st ty []] = hinOf [] := by
    funext k; rw [hinOf_cons]; split <;> rfl
  rw [e0] at hH hT ⊢
  refine (h.2 w imm L c vs hH hT).mono ?_
  rintro e w' ⟨x, r, h', imm', L', c', he, ⟨ν, hr, _⟩, hx, hHo, hS, hN, hE⟩
  subst hr
  obtain ⟨a, hxa⟩ : ∃ a, x = .slice a 0 0 := hx
  subst hxa
  have hcc : c ≤ c' := by
    rcases Nat.eq_zero_or_pos c with h0 | h0
    · omega
    · have := hE.use (c - 1) (by omega); omega
  refine ⟨.slice a 0 0, .c (.own n c' 0), fun k => if k = n then some (.arr c' true st ty []) else none, imm', fun _ => none, c' + 1, he, ⟨fun _ => c', rfl, fun k hd hh => ?_⟩, ?_, ⟨fun k B hB => ?_, fun _ _ g _ _ hg => (by cases hg), hHo.imm⟩, hS, fun _ g _ hg => (by cases hg), ⟨fun v hv => ?_, fun k ver ty' cs hu hk => ?_, fun k ver wr st' ty' es hu hk => ?_, fun k ver wr st' ty' es g cur hu hk hg => (by cases hg)⟩⟩
  · obtain ⟨h1, h2⟩ := renN_mem hh
    rw [List.mem_singleton] at h1
    subst h1
    have h2' : n = k := h2
    subst h2'
    simp [newH, verB]
  · refine ⟨Nat.lt_succ_self _, ⟨a, 0, rfl, Nat.le_refl _⟩, fun wr st' ty' es hes => ⟨Nat.zero_le _, .inl ⟨a, rfl, rfl⟩⟩⟩
  · have hB' : (if k = n then some (Blk.arr c' true st ty []) else none) = some B := hB
    split at hB'
    · cases hB'
      exact ⟨Nat.lt_succ_self _, hst, fun e he => (by cases he), .inl ⟨rfl, rfl⟩⟩
    · cases hB'
  · have := hE.use v hv; omega
  · have hk' : (if k = n then some (Blk.arr c' true st ty []) else none) = some (Blk.var ver ty' cs) := hk
    split at hk' <;> cases hk'
  · have hk' : (if k = n then some (Blk.arr c' true st ty []) else none) = some (Blk.arr ver wr st' ty' es) := hk
    split at hk'
    · cases hk'; omega
    · cases hk'
section
variable {P : Program} {t : Nat → T} {H : HMap} {c : Nat} {f : Opd} {args : List Opd} {fid : FuncId} {argsC : List T} {ws : List (Nat × Blk)} {ns : List Nat} {k : Nat} {d : Option Nat} {un : List Nat} {l : List AOper} {prev : List (Nat × List Nat × List Nat)} {K : St → Prop}
/-- A call that makes arrays, and is lent slices. -/
theorem callF (hs : List Hand) {r r' : T} {ob : List (Nat × Blk)} (hC : ACallsF P fid argsC hs r) (hf : ev t f = .pt (.one (.fn fid []))) (hl : lendTs H argsC (args.map (ev t)) = some (argsC, ws, ns)) (ha : argsC.all closedA = true) (hb : ∀ h ∈ hs, h.b = none) (hm : (hs.map (·.m)).Nodup) (hc : (hs.map (·.c)).Nodup)
    (hq : quiet r hs = true) (hr : renOT hs (c + k) r = some r') (ho : renOBs hs (c + k) hs = some ob)
    (hk : chk prev un ⟨r', ob, ns ++ hs.map (·.m), hs.map (·.m)⟩ = true ∧ DRun P l ((k, ns ++ hs.map (·.m), hs.map (·.m)) :: prev) K ⟨updD t d r', updH H ob, c⟩) :
    step P k d un (.call f args) l prev K t H c := by
  refine callW (caps := []) («as» := argsC) (ws := ws) (ns := ns) (r' := r') (ob := ob) hs hC hf (by simpa using hl) (closed_As hs H argsC ha).2 ?_ hm hc hr ho (by simpa [hq] using hk)
  have : ∀ l : List Hand, (∀ h ∈ l, h.b = none) → handsIn (updH H ws) hs l := by
    intro l
    induction l with
    | nil => intro _; trivial
    | cons h l ih => intro hl; exact ⟨by rw [hl h (by simp)]; trivial, ih fun x hx => hl x (by simp [hx])⟩
  exact this hs hb
/-- A call that makes one array. -/
theorem callA1 {n m N st : Nat} {ty : TypeId} {es : List (List V)} (hC : ACallsF P fid argsC [newH n m st ty es] (.c (.own n 0 N))) (hf : ev t f = .pt (.one (.fn fid []))) (hl : lendTs H argsC (args.map (ev t)) = some (argsC, ws, ns)) (ha : argsC.all closedA = true) (he : (es.all fun e => e.all flatV) = true)
    (hk : chk prev un ⟨.c (.own m (c + k) N), [(m, .arr (c + k) true st ty es)], ns ++ [m], [m]⟩ = true ∧ DRun P l ((k, ns ++ [m], [m]) :: prev) K ⟨updD t d (.c (.own m (c + k) N)), upd H m (some (.arr (c + k) true st ty es)), c⟩) :
    step P k d un (.call f args) l prev K t H c := by
  have hN : renN [newH n m st ty es] n = some (newH n m st ty es) := by simp [renN]
  refine callF (r' := .c (.own m (c + k) N)) (ob := [(m, .arr (c + k) true st ty es)]) [newH n m st ty es] hC hf hl ha (by simp) (by simp) (by simp) ?_ ?_ ?_ ?_
  · simp only [quiet, List.all_cons, List.all_nil, flatB, he]; rfl
  · simp only [T.c, renOT, renOP, renO, hN, Option.map_some, verOf]; rfl
  · simp only [renOBs, renOB, verOf]; rfl
  · simpa [updH] using hk
end
def part {α : Type} (xs : List α) (z : α) (i : Nat) : List α := xs.take i ++ List.replicate (xs.length - i) z
theorem part_len {α : Type} (xs : List α) (z : α) {i : Nat} (h : i ≤ xs.length) : (part xs z i).length = xs.length := by simp [part]; omega
theorem part_zero {α : Type} (xs : List α) (z : α) : part xs z 0 = List.replicate xs.length z := by simp [part]
theorem part_end {α : Type} (xs : List α) (z : α) : part xs z xs.length = xs := by simp [part]
theorem part_set {α : Type} (xs : List α) (z : α) {i : Nat} {x : α} (h : xs[i]? = some x) : (part xs z i).set i x = part xs z (i + 1) := by
  have hi := (List.getElem?_eq_some_iff.1 h).1
  have e : xs.length - i = (xs.length - (i + 1)) + 1 := by omega
  have hl : (xs.take i).length = i := by simp; omega
  rw [part, e, List.replicate_succ, List.set_append, if_neg (by omega), hl, Nat.sub_self, List.set_cons_zero, part, List.take_add_one, h]
  simp
theorem part_at {α : Type} (xs : List α) (z : α) {i : Nat} (h : i < xs.length) : (part xs z i)[i]? = some z := by
  have hl : (xs.take i).length = i := by simp; omega
  rw [part, List.getElem?_append_right (by omega), hl, Nat.sub_self, List.getElem?_replicate, if_pos (by omega)]
def zF : DF := ⟨⟨#[]⟩, ⟨#[]⟩, 0⟩
def zM : DM := ⟨false, ⟨#[]⟩⟩
def zW : DW := ⟨0, ⟨#[]⟩, ⟨#[]⟩⟩
def zS : ByteArray := ⟨#[]⟩
/- loop.example/teagle/laws.toDiskFile -/
def r99_0 : List AOper := [ao 0 1 (.box 135 (.t 0)),
  ao 1 2 (.alloc 88 [(.v (.s (.string ⟨#[]⟩))), (.v (.s (.string ⟨#[]⟩))), (.v (.s (.int .i64 0)))])]
def r99_1 : List AOper := [ao 0 3 (.alloc 88 [(.v (.s (.string ⟨#[]⟩))), (.v (.s (.string ⟨#[]⟩))), (.v (.s (.int .i64 0)))])]
def r99_2 : List AOper := [ao 0 4 (.fa 0 (.t 1)),
  ao 1 5 (.ld 1 false (.t 4)),
  ao 2 6 (.fa 0 (.t 3)),
  an 3 (.st 1 (.t 6) (.t 5))]
def r99_3 : List AOper := [ao 0 7 (.fa 1 (.t 1)),
  ao 1 8 (.ld 1 false (.t 7)),
  ao 2 9 (.fa 1 (.t 3)),
  an 3 (.st 1 (.t 9) (.t 8))]
def r99_4 : List AOper := [ao 0 10 (.fa 2 (.t 1)),
  ao 1 11 (.ld 1 false (.t 10)),
  ao 2 12 (.fa 2 (.t 3)),
  an 3 (.st 1 (.t 12) (.t 11))]
def r99_5 : List AOper := [ao 0 13 (.ld 3 true (.t 3)),
  an 1 (.st 3 (.t 2) (.t 13))]
def c99 : ACode := .seq (.reg r99_0) (.seq (.reg r99_1) (.seq (.reg r99_2) (.seq (.reg r99_3) (.seq (.reg r99_4) (.seq (.reg r99_5) .ret)))))
def s99 : List ARes := [.cell 2 3 true]
theorem ok99 : okF Try.prog 99 14 c99 s99 := ⟨Try.f99, Try.func99, Try.ntmps99, by kernel_rfl, by kernel_rfl, by kernel_rfl⟩
theorem UFc_1 : (type_of% (uA c99.eq_1)) ∧ (type_of% (uR r99_0.eq_1)) ∧ (type_of% (uR r99_1.eq_1)) ∧ (type_of% (uR r99_2.eq_1)) ∧ (type_of% (uR r99_3.eq_1)) ∧ (type_of% (uR r99_4.eq_1)) ∧ (type_of% (uR r99_5.eq_1)) ∧ (type_of% s99.eq_1) :=
  ⟨uA c99.eq_1, uR r99_0.eq_1, uR r99_1.eq_1, uR r99_2.eq_1, uR r99_3.eq_1, uR r99_4.eq_1, uR r99_5.eq_1, s99.eq_1⟩
theorem toDF_ok (x : DF) : ACallsF Try.prog 99 [tDF x] [] (tDF x) := by
  refine ACallsF.intro ok99 follows fun X c0 => ?_
  simp only [RUN, core, T.c, T.s, T.b, T.i, sBin, sInt, sUn, isShift, asInt, P1.cells, loadT, ptrC, storeT, putC, fillP, Nat.reduceAdd, reduceIte, Nat.reduceEqDiff, Nat.reduceLT, Nat.reduceLeDiff, reduceCtorEq, eq_self, FIT, lendCs_map, verC_map, FinC, resPs, resP, lendPl, lendCs, lendC, sealC, partsT, finHs, tupT, verT, verP, verC, verB, verAt, Blk.ver, handsAre, forall_const, CHT, disj, Nat.reduceBEq, beq_self_eq_true, APT, srcOf, sealPs, sealCs, sealC, toVs, Option.map_some, List.mem_singleton, forall_eq, ALT, UFc_1]
/- loop.example/teagle/laws.toDiskMove -/
def r100_0 : List AOper := [ao 0 1 (.box 137 (.t 0)),
  ao 1 2 (.alloc 90 [(.v (.s (.bool false))), (.v (.s (.string ⟨#[]⟩)))])]
def r100_1 : List AOper := [ao 0 3 (.alloc 90 [(.v (.s (.bool false))), (.v (.s (.string ⟨#[]⟩)))])]
def r100_2 : List AOper := [ao 0 4 (.fa 0 (.t 1)),
  ao 1 5 (.ld 1 false (.t 4)),
  ao 2 6 (.fa 0 (.t 3)),
  an 3 (.st 1 (.t 6) (.t 5))]
def r100_3 : List AOper := [ao 0 7 (.fa 1 (.t 1)),
  ao 1 8 (.ld 1 false (.t 7)),
  ao 2 9 (.fa 1 (.t 3)),
  an 3 (.st 1 (.t 9) (.t 8))]
def r100_4 : List AOper := [ao 0 10 (.ld 2 true (.t 3)),
  an 1 (.st 2 (.t 2) (.t 10))]
def c100 : ACode := .seq (.reg r100_0) (.seq (.reg r100_1) (.seq (.reg r100_2) (.seq (.reg r100_3) (.seq (.reg r100_4) .ret))))
def s100 : List ARes := [.cell 2 2 true]
theorem ok100 : okF Try.prog 100 11 c100 s100 := ⟨Try.f100, Try.func100, Try.ntmps100, by kernel_rfl, by kernel_rfl, by kernel_rfl⟩
theorem UFc_2 : (type_of% (uA c100.eq_1)) ∧ (type_of% (uR r100_0.eq_1)) ∧ (type_of% (uR r100_1.eq_1)) ∧ (type_of% (uR r100_2.eq_1)) ∧ (type_of% (uR r100_3.eq_1)) ∧ (type_of% (uR r100_4.eq_1)) ∧ (type_of% s100.eq_1) :=
  ⟨uA c100.eq_1, uR r100_0.eq_1, uR r100_1.eq_1, uR r100_2.eq_1, uR r100_3.eq_1, uR r100_4.eq_1, s100.eq_1⟩
theorem toDM_ok (x : DM) : ACallsF Try.prog 100 [tDM x] [] (tDM x) := by
  refine ACallsF.intro ok100 follows fun X c0 => ?_
  simp only [RUN, core, T.c, T.s, T.b, T.i, sBin, sInt, sUn, isShift, asInt, P1.cells, loadT, ptrC, storeT, putC, fillP, Nat.reduceAdd, reduceIte, Nat.reduceEqDiff, Nat.reduceLT, Nat.reduceLeDiff, reduceCtorEq, eq_self, FIT, lendCs_map, verC_map, FinC, resPs, resP, lendPl, lendCs, lendC, sealC, partsT, finHs, tupT, verT, verP, verC, verB, verAt, Blk.ver, handsAre, forall_const, CHT, disj, Nat.reduceBEq, beq_self_eq_true, APT, srcOf, sealPs, sealCs, sealC, toVs, Option.map_some, List.mem_singleton, forall_eq, ALT, UFc_2]
/- loop.example/teagle/laws.toDiskWrite -/
def r11_0 : List AOper := [ao 0 1 (.box 28 (.t 0)),
  ao 1 2 (.alloc 38 [(.v (.s (.int .i64 0))), (.v (.s (.string ⟨#[]⟩))), (.v (.s (.string ⟨#[]⟩)))])]
def r11_1 : List AOper := [ao 0 3 (.alloc 38 [(.v (.s (.int .i64 0))), (.v (.s (.string ⟨#[]⟩))), (.v (.s (.string ⟨#[]⟩)))])]
def r11_2 : List AOper := [ao 0 4 (.fa 0 (.t 1)),
  ao 1 5 (.ld 1 false (.t 4)),
  ao 2 6 (.fa 0 (.t 3)),
  an 3 (.st 1 (.t 6) (.t 5))]
def r11_3 : List AOper := [ao 0 7 (.fa 1 (.t 1)),
  ao 1 8 (.ld 1 false (.t 7)),
  ao 2 9 (.fa 1 (.t 3)),
  an 3 (.st 1 (.t 9) (.t 8))]
def r11_4 : List AOper := [ao 0 10 (.fa 2 (.t 1)),
  ao 1 11 (.ld 1 false (.t 10)),
  ao 2 12 (.fa 2 (.t 3)),
  an 3 (.st 1 (.t 12) (.t 11))]
def r11_5 : List AOper := [ao 0 13 (.ld 3 true (.t 3)),
  an 1 (.st 3 (.t 2) (.t 13))]
def c11 : ACode := .seq (.reg r11_0) (.seq (.reg r11_1) (.seq (.reg r11_2) (.seq (.reg r11_3) (.seq (.reg r11_4) (.seq (.reg r11_5) .ret)))))
def s11 : List ARes := [.cell 2 3 true]
theorem ok11 : okF Try.prog 11 14 c11 s11 := ⟨Try.f11, Try.func11, Try.ntmps11, by kernel_rfl, by kernel_rfl, by kernel_rfl⟩
theorem UFc_3 : (type_of% (uA c11.eq_1)) ∧ (type_of% (uR r11_0.eq_1)) ∧ (type_of% (uR r11_1.eq_1)) ∧ (type_of% (uR r11_2.eq_1)) ∧ (type_of% (uR r11_3.eq_1)) ∧ (type_of% (uR r11_4.eq_1)) ∧ (type_of% (uR r11_5.eq_1)) ∧ (type_of% s11.eq_1) :=
  ⟨uA c11.eq_1, uR r11_0.eq_1, uR r11_1.eq_1, uR r11_2.eq_1, uR r11_3.eq_1, uR r11_4.eq_1, uR r11_5.eq_1, s11.eq_1⟩
theorem toDW_ok (x : DW) : ACallsF Try.prog 11 [tDW x] [] (tDW x) := by
  refine ACallsF.intro ok11 follows fun X c0 => ?_
  simp only [RUN, core, T.c, T.s, T.b, T.i, sBin, sInt, sUn, isShift, asInt, P1.cells, loadT, ptrC, storeT, putC, fillP, Nat.reduceAdd, reduceIte, Nat.reduceEqDiff, Nat.reduceLT, Nat.reduceLeDiff, reduceCtorEq, eq_self, FIT, lendCs_map, verC_map, FinC, resPs, resP, lendPl, lendCs, lendC, sealC, partsT, finHs, tupT, verT, verP, verC, verB, verAt, Blk.ver, handsAre, forall_const, CHT, disj, Nat.reduceBEq, beq_self_eq_true, APT, srcOf, sealPs, sealCs, sealC, toVs, Option.map_some, List.mem_singleton, forall_eq, ALT, UFc_3]
/- loop.example/teagle/laws.toDiskFileS -/
def r49_0 : List AOper := [ao 0 2 (.mv (.k (.c .nil0)))]
def r49_1 : List AOper := [ao 0 5 (.mv (.t 0)),
  ao 1 6 (.len (.t 5)),
  ao 2 7 (.mks 3 88 40 [(.s (.string ⟨#[]⟩)), (.s (.string ⟨#[]⟩)), (.s (.int .i64 0))] (.t 6) (.t 6)),
  ao 3 3 (.mv (.t 7))]
def r49_2 : List AOper := [ao 0 4 (.mv (.k (.i 0)))]
def r49_3 : List AOper := [ao 0 8 (.mv (.t 4)),
  ao 1 9 (.mv (.t 0)),
  ao 2 10 (.len (.t 9)),
  ao 3 11 (.bin .lss (.t 8) (.t 10))]
def c49_4 : ACode := .cond (.t 11) .skip (.exit 0)
def c49_5 : ACode := .seq (.reg r49_3) c49_4
def r49_6 : List AOper := [ao 0 14 (.mv (.t 3)),
  ao 1 15 (.mv (.t 4)),
  ao 2 16 (.mv (.t 0)),
  ao 3 17 (.mv (.t 4)),
  ao 4 18 (.ia 3 (.t 16) (.t 17)),
  ao 5 19 (.ld 3 true (.t 18)),
  ao 6 20 (.call (.k (.c (.fn 99 []))) [(.t 19)]),
  ao 7 21 (.ia 3 (.t 14) (.t 15)),
  an 8 (.st 3 (.t 21) (.t 20))]
def c49_7 : ACode := .block 1 (.reg r49_6)
def r49_8 : List AOper := [ao 0 12 (.mv (.t 4)),
  ao 1 13 (.bin .add (.t 12) (.k (.i 1))),
  ao 2 4 (.mv (.t 13))]
def c49_9 : ACode := .seq c49_5 (.seq c49_7 (.reg r49_8))
def c49_10 : ACode := .loop c49_9
def c49_11 : ACode := .block 0 c49_10
def c49_12 : ACode := .seq (.reg r49_2) c49_11
def r49_13 : List AOper := [ao 0 22 (.mv (.t 3)),
  ao 1 2 (.mv (.t 22))]
def c49 : ACode := .seq (.reg r49_0) (.seq (.reg r49_1) (.seq c49_12 (.seq (.reg r49_13) .ret)))
def s49 : List ARes := [.tmp 2]
theorem ok49 : okF Try.prog 49 23 c49 s49 := ⟨Try.f49, Try.func49, Try.ntmps49, by kernel_rfl, by kernel_rfl, by kernel_rfl⟩
def inv49 (xs : List DF) (i : Nat) (σ : St) : Prop := σ.t 0 = tL (en eF xs) ∧ (∃ v, σ.t 3 = .c (.own 7 v xs.length) ∧ σ.H 7 = some (.arr v true 3 88 (en eF (part xs zF i)))) ∧ σ.t 4 = .i i
theorem UFc_4 : (type_of% (uA c49.eq_1)) ∧ (type_of% (uR r49_0.eq_1)) ∧ (type_of% (uR r49_1.eq_1)) ∧ (type_of% (uA c49_12.eq_1)) ∧ (type_of% (uR r49_2.eq_1)) ∧ (type_of% (uA c49_11.eq_1)) ∧ (type_of% (uA c49_10.eq_1)) ∧ (type_of% (uR r49_13.eq_1)) ∧ (type_of% s49.eq_1) :=
  ⟨uA c49.eq_1, uR r49_0.eq_1, uR r49_1.eq_1, uA c49_12.eq_1, uR r49_2.eq_1, uA c49_11.eq_1, uA c49_10.eq_1, uR r49_13.eq_1, s49.eq_1⟩
theorem UFc_7 : (type_of% (uA c49_9.eq_1)) ∧ (type_of% (uA c49_5.eq_1)) ∧ (type_of% (uR r49_3.eq_1)) ∧ (type_of% (uA c49_4.eq_1)) ∧ (type_of% (uA c49_7.eq_1)) ∧ (type_of% (uR r49_6.eq_1)) ∧ (type_of% (uR r49_8.eq_1)) ∧ (type_of% (uA c49.eq_1)) ∧ (type_of% (uR r49_0.eq_1)) ∧ (type_of% (uR r49_1.eq_1)) ∧ (type_of% (uA c49_12.eq_1)) ∧ (type_of% (uR r49_2.eq_1)) ∧ (type_of% (uA c49_11.eq_1)) ∧ (type_of% (uA c49_10.eq_1)) ∧ (type_of% (uR r49_13.eq_1)) ∧ (type_of% s49.eq_1) :=
  ⟨uA c49_9.eq_1, uA c49_5.eq_1, uR r49_3.eq_1, uA c49_4.eq_1, uA c49_7.eq_1, uR r49_6.eq_1, uR r49_8.eq_1, uA c49.eq_1, uR r49_0.eq_1, uR r49_1.eq_1, uA c49_12.eq_1, uR r49_2.eq_1, uA c49_11.eq_1, uA c49_10.eq_1, uR r49_13.eq_1, s49.eq_1⟩
theorem toDFs_ok (xs : List DF) (hl : xs.length ≤ 1048576) (m : Nat) : ACallsF Try.prog 49 [tL (en eF xs)] [newH 7 m 3 88 (en eF xs)] (.c (.own 7 0 xs.length)) := by
  refine ACallsF.intro ok49 follows fun X c0 => ?_
  have q0 : (0 : Int) ≤ xs.length := by omega
  have q1 : ((40 : Nat) : Int) * (xs.length : Int) ≤ 281474976710656 := by omega
  have q2 : (xs.length : Int) ≤ 9223372036854775807 := by omega
  simp only [RUN, core, T.c, T.s, T.b, T.i, sBin, sInt, sUn, isShift, asInt, P1.cells, loadT, ptrC, storeT, putC, fillP, Nat.reduceAdd, reduceIte, Nat.reduceEqDiff, Nat.reduceLT, Nat.reduceLeDiff, reduceCtorEq, eq_self, FIT, lendCs_map, verC_map, FinC, resPs, resP, lendPl, lendCs, lendC, sealC, partsT, finHs, tupT, verT, verP, verC, verB, verAt, Blk.ver, handsAre, forall_const, CHT, disj, Nat.reduceBEq, beq_self_eq_true, APT, srcOf, sealPs, sealCs, sealC, toVs, Option.map_some, List.mem_singleton, forall_eq, ALT, UFc_4, q0, q1, q2, Int.le_refl]
  refine AW.upto xs.length (inv49 xs) ?_ fun i t H c hi h => ?_
  · unfold inv49
    rw [part_zero, ← en_rep]
    exact ⟨rfl, ⟨_, rfl, rfl⟩, rfl⟩
  obtain ⟨e0, ⟨v, e3, eH⟩, e4⟩ := h
  simp only [T.c, T.i, tL] at e0 e3 eH e4
  have hpl : (part xs zF i).length = xs.length := part_len xs zF hi
  by_cases hlt : i < xs.length
  · obtain ⟨x, hx⟩ : ∃ x, xs[i]? = some x := ⟨_, List.getElem?_eq_getElem hlt⟩
    have ex := en_at eF hx
    have ez := en_at eF (part_at xs zF hlt)
    have k1 : (i : Int) < xs.length := by omega
    have gz : (0 : Int) ≤ i := by omega
    have gm : i < xs.length := hlt
    have gw : IntKind.i64.wrap ((i : Int) + 1) = ((i + 1 : Nat) : Int) := wrap64 (x := (i : Int) + 1) ⟨by omega, by omega⟩
    have hn : (en eF (part xs zF i)).set i (eF x) = en eF (part xs zF (i + 1)) := by rw [en_set, part_set xs zF hx]
    simp only [RUN, core, T.c, T.s, T.b, T.i, sBin, sInt, sUn, isShift, asInt, P1.cells, loadT, ptrC, storeT, putC, fillP, Nat.reduceAdd, reduceIte, Nat.reduceEqDiff, Nat.reduceLT, Nat.reduceLeDiff, reduceCtorEq, eq_self, FIT, lendCs_map, verC_map, FinC, resPs, resP, lendPl, lendCs, lendC, sealC, partsT, finHs, tupT, verT, verP, verC, verB, verAt, Blk.ver, handsAre, forall_const, CHT, disj, Nat.reduceBEq, beq_self_eq_true, APT, srcOf, sealPs, sealCs, sealC, toVs, Option.map_some, List.mem_singleton, forall_eq, ALT, UFc_7, e0, e3, eH, e4, en_len, k1, gz, gm, ex, ez, eF, Int.toNat_natCast, hpl, gw]
    refine callC (toDF_ok x) rfl rfl (by simp [closedA, closedP, closedC]) (by simp [closedT, closedP, closedC]) ?_
    simp only [RUN, core, T.c, T.s, T.b, T.i, sBin, sInt, sUn, isShift, asInt, P1.cells, loadT, ptrC, storeT, putC, fillP, Nat.reduceAdd, reduceIte, Nat.reduceEqDiff, Nat.reduceLT, Nat.reduceLeDiff, reduceCtorEq, eq_self, FIT, lendCs_map, verC_map, FinC, resPs, resP, lendPl, lendCs, lendC, sealC, partsT, finHs, tupT, verT, verP, verC, verB, verAt, Blk.ver, handsAre, forall_const, CHT, disj, Nat.reduceBEq, beq_self_eq_true, APT, srcOf, sealPs, sealCs, sealC, toVs, Option.map_some, List.mem_singleton, forall_eq, ALT, UFc_7, e0, e3, eH, e4, en_len, k1, gz, gm, ex, ez, eF, Int.toNat_natCast, hpl, gw]
    exact ⟨e0, ⟨v, e3, congrArg (fun q => some (Blk.arr v true 3 88 q)) hn⟩, rfl⟩
  · have k1 : ¬ (i : Int) < xs.length := by omega
    have hi2 : i = xs.length := by omega
    subst hi2
    rw [part_end] at eH
    simp only [RUN, core, T.c, T.s, T.b, T.i, sBin, sInt, sUn, isShift, asInt, P1.cells, loadT, ptrC, storeT, putC, fillP, Nat.reduceAdd, reduceIte, Nat.reduceEqDiff, Nat.reduceLT, Nat.reduceLeDiff, reduceCtorEq, eq_self, FIT, lendCs_map, verC_map, FinC, resPs, resP, lendPl, lendCs, lendC, sealC, partsT, finHs, tupT, verT, verP, verC, verB, verAt, Blk.ver, handsAre, forall_const, CHT, disj, Nat.reduceBEq, beq_self_eq_true, APT, srcOf, sealPs, sealCs, sealC, toVs, Option.map_some, List.mem_singleton, forall_eq, ALT, UFc_7, UFc_4, e0, e3, eH, e4, en_len, k1, imp_self]
/- loop.example/teagle/laws.toDiskMoveS -/
def r51_0 : List AOper := [ao 0 2 (.mv (.k (.c .nil0)))]
def r51_1 : List AOper := [ao 0 5 (.mv (.t 0)),
  ao 1 6 (.len (.t 5)),
  ao 2 7 (.mks 2 90 24 [(.s (.bool false)), (.s (.string ⟨#[]⟩))] (.t 6) (.t 6)),
  ao 3 3 (.mv (.t 7))]
def r51_2 : List AOper := [ao 0 4 (.mv (.k (.i 0)))]
def r51_3 : List AOper := [ao 0 8 (.mv (.t 4)),
  ao 1 9 (.mv (.t 0)),
  ao 2 10 (.len (.t 9)),
  ao 3 11 (.bin .lss (.t 8) (.t 10))]
def c51_4 : ACode := .cond (.t 11) .skip (.exit 0)
def c51_5 : ACode := .seq (.reg r51_3) c51_4
def r51_6 : List AOper := [ao 0 14 (.mv (.t 3)),
  ao 1 15 (.mv (.t 4)),
  ao 2 16 (.mv (.t 0)),
  ao 3 17 (.mv (.t 4)),
  ao 4 18 (.ia 2 (.t 16) (.t 17)),
  ao 5 19 (.ld 2 true (.t 18)),
  ao 6 20 (.call (.k (.c (.fn 100 []))) [(.t 19)]),
  ao 7 21 (.ia 2 (.t 14) (.t 15)),
  an 8 (.st 2 (.t 21) (.t 20))]
def c51_7 : ACode := .block 1 (.reg r51_6)
def r51_8 : List AOper := [ao 0 12 (.mv (.t 4)),
  ao 1 13 (.bin .add (.t 12) (.k (.i 1))),
  ao 2 4 (.mv (.t 13))]
def c51_9 : ACode := .seq c51_5 (.seq c51_7 (.reg r51_8))
def c51_10 : ACode := .loop c51_9
def c51_11 : ACode := .block 0 c51_10
def c51_12 : ACode := .seq (.reg r51_2) c51_11
def r51_13 : List AOper := [ao 0 22 (.mv (.t 3)),
  ao 1 2 (.mv (.t 22))]
def c51 : ACode := .seq (.reg r51_0) (.seq (.reg r51_1) (.seq c51_12 (.seq (.reg r51_13) .ret)))
def s51 : List ARes := [.tmp 2]
theorem ok51 : okF Try.prog 51 23 c51 s51 := ⟨Try.f51, Try.func51, Try.ntmps51, by kernel_rfl, by kernel_rfl, by kernel_rfl⟩
def inv51 (xs : List DM) (i : Nat) (σ : St) : Prop := σ.t 0 = tL (en eM xs) ∧ (∃ v, σ.t 3 = .c (.own 7 v xs.length) ∧ σ.H 7 = some (.arr v true 2 90 (en eM (part xs zM i)))) ∧ σ.t 4 = .i i
theorem UFc_5 : (type_of% (uA c51.eq_1)) ∧ (type_of% (uR r51_0.eq_1)) ∧ (type_of% (uR r51_1.eq_1)) ∧ (type_of% (uA c51_12.eq_1)) ∧ (type_of% (uR r51_2.eq_1)) ∧ (type_of% (uA c51_11.eq_1)) ∧ (type_of% (uA c51_10.eq_1)) ∧ (type_of% (uR r51_13.eq_1)) ∧ (type_of% s51.eq_1) :=
  ⟨uA c51.eq_1, uR r51_0.eq_1, uR r51_1.eq_1, uA c51_12.eq_1, uR r51_2.eq_1, uA c51_11.eq_1, uA c51_10.eq_1, uR r51_13.eq_1, s51.eq_1⟩
theorem UFc_8 : (type_of% (uA c51_9.eq_1)) ∧ (type_of% (uA c51_5.eq_1)) ∧ (type_of% (uR r51_3.eq_1)) ∧ (type_of% (uA c51_4.eq_1)) ∧ (type_of% (uA c51_7.eq_1)) ∧ (type_of% (uR r51_6.eq_1)) ∧ (type_of% (uR r51_8.eq_1)) ∧ (type_of% (uA c51.eq_1)) ∧ (type_of% (uR r51_0.eq_1)) ∧ (type_of% (uR r51_1.eq_1)) ∧ (type_of% (uA c51_12.eq_1)) ∧ (type_of% (uR r51_2.eq_1)) ∧ (type_of% (uA c51_11.eq_1)) ∧ (type_of% (uA c51_10.eq_1)) ∧ (type_of% (uR r51_13.eq_1)) ∧ (type_of% s51.eq_1) :=
  ⟨uA c51_9.eq_1, uA c51_5.eq_1, uR r51_3.eq_1, uA c51_4.eq_1, uA c51_7.eq_1, uR r51_6.eq_1, uR r51_8.eq_1, uA c51.eq_1, uR r51_0.eq_1, uR r51_1.eq_1, uA c51_12.eq_1, uR r51_2.eq_1, uA c51_11.eq_1, uA c51_10.eq_1, uR r51_13.eq_1, s51.eq_1⟩
theorem toDMs_ok (xs : List DM) (hl : xs.length ≤ 1048576) (m : Nat) : ACallsF Try.prog 51 [tL (en eM xs)] [newH 7 m 2 90 (en eM xs)] (.c (.own 7 0 xs.length)) := by
  refine ACallsF.intro ok51 follows fun X c0 => ?_
  have q0 : (0 : Int) ≤ xs.length := by omega
  have q1 : ((24 : Nat) : Int) * (xs.length : Int) ≤ 281474976710656 := by omega
  have q2 : (xs.length : Int) ≤ 9223372036854775807 := by omega
  simp only [RUN, core, T.c, T.s, T.b, T.i, sBin, sInt, sUn, isShift, asInt, P1.cells, loadT, ptrC, storeT, putC, fillP, Nat.reduceAdd, reduceIte, Nat.reduceEqDiff, Nat.reduceLT, Nat.reduceLeDiff, reduceCtorEq, eq_self, FIT, lendCs_map, verC_map, FinC, resPs, resP, lendPl, lendCs, lendC, sealC, partsT, finHs, tupT, verT, verP, verC, verB, verAt, Blk.ver, handsAre, forall_const, CHT, disj, Nat.reduceBEq, beq_self_eq_true, APT, srcOf, sealPs, sealCs, sealC, toVs, Option.map_some, List.mem_singleton, forall_eq, ALT, UFc_5, q0, q1, q2, Int.le_refl]
  refine AW.upto xs.length (inv51 xs) ?_ fun i t H c hi h => ?_
  · unfold inv51
    rw [part_zero, ← en_rep]
    exact ⟨rfl, ⟨_, rfl, rfl⟩, rfl⟩
  obtain ⟨e0, ⟨v, e3, eH⟩, e4⟩ := h
  simp only [T.c, T.i, tL] at e0 e3 eH e4
  have hpl : (part xs zM i).length = xs.length := part_len xs zM hi
  by_cases hlt : i < xs.length
  · obtain ⟨x, hx⟩ : ∃ x, xs[i]? = some x := ⟨_, List.getElem?_eq_getElem hlt⟩
    have ex := en_at eM hx
    have ez := en_at eM (part_at xs zM hlt)
    have k1 : (i : Int) < xs.length := by omega
    have gz : (0 : Int) ≤ i := by omega
    have gm : i < xs.length := hlt
    have gw : IntKind.i64.wrap ((i : Int) + 1) = ((i + 1 : Nat) : Int) := wrap64 (x := (i : Int) + 1) ⟨by omega, by omega⟩
    have hn : (en eM (part xs zM i)).set i (eM x) = en eM (part xs zM (i + 1)) := by rw [en_set, part_set xs zM hx]
    simp only [RUN, core, T.c, T.s, T.b, T.i, sBin, sInt, sUn, isShift, asInt, P1.cells, loadT, ptrC, storeT, putC, fillP, Nat.reduceAdd, reduceIte, Nat.reduceEqDiff, Nat.reduceLT, Nat.reduceLeDiff, reduceCtorEq, eq_self, FIT, lendCs_map, verC_map, FinC, resPs, resP, lendPl, lendCs, lendC, sealC, partsT, finHs, tupT, verT, verP, verC, verB, verAt, Blk.ver, handsAre, forall_const, CHT, disj, Nat.reduceBEq, beq_self_eq_true, APT, srcOf, sealPs, sealCs, sealC, toVs, Option.map_some, List.mem_singleton, forall_eq, ALT, UFc_8, e0, e3, eH, e4, en_len, k1, gz, gm, ex, ez, eM, Int.toNat_natCast, hpl, gw]
    refine callC (toDM_ok x) rfl rfl (by simp [closedA, closedP, closedC]) (by simp [closedT, closedP, closedC]) ?_
    simp only [RUN, core, T.c, T.s, T.b, T.i, sBin, sInt, sUn, isShift, asInt, P1.cells, loadT, ptrC, storeT, putC, fillP, Nat.reduceAdd, reduceIte, Nat.reduceEqDiff, Nat.reduceLT, Nat.reduceLeDiff, reduceCtorEq, eq_self, FIT, lendCs_map, verC_map, FinC, resPs, resP, lendPl, lendCs, lendC, sealC, partsT, finHs, tupT, verT, verP, verC, verB, verAt, Blk.ver, handsAre, forall_const, CHT, disj, Nat.reduceBEq, beq_self_eq_true, APT, srcOf, sealPs, sealCs, sealC, toVs, Option.map_some, List.mem_singleton, forall_eq, ALT, UFc_8, e0, e3, eH, e4, en_len, k1, gz, gm, ex, ez, eM, Int.toNat_natCast, hpl, gw]
    exact ⟨e0, ⟨v, e3, congrArg (fun q => some (Blk.arr v true 2 90 q)) hn⟩, rfl⟩
  · have k1 : ¬ (i : Int) < xs.length := by omega
    have hi2 : i = xs.length := by omega
    subst hi2
    rw [part_end] at eH
    simp only [RUN, core, T.c, T.s, T.b, T.i, sBin, sInt, sUn, isShift, asInt, P1.cells, loadT, ptrC, storeT, putC, fillP, Nat.reduceAdd, reduceIte, Nat.reduceEqDiff, Nat.reduceLT, Nat.reduceLeDiff, reduceCtorEq, eq_self, FIT, lendCs_map, verC_map, FinC, resPs, resP, lendPl, lendCs, lendC, sealC, partsT, finHs, tupT, verT, verP, verC, verB, verAt, Blk.ver, handsAre, forall_const, CHT, disj, Nat.reduceBEq, beq_self_eq_true, APT, srcOf, sealPs, sealCs, sealC, toVs, Option.map_some, List.mem_singleton, forall_eq, ALT, UFc_8, UFc_5, e0, e3, eH, e4, en_len, k1, imp_self]
/- loop.example/teagle/laws.toStringS -/
def r50_0 : List AOper := [ao 0 2 (.mv (.k (.c .nil0)))]
def r50_1 : List AOper := [ao 0 5 (.mv (.t 0)),
  ao 1 6 (.len (.t 5)),
  ao 2 7 (.mks 1 9 16 [(.s (.string ⟨#[]⟩))] (.t 6) (.t 6)),
  ao 3 3 (.mv (.t 7))]
def r50_2 : List AOper := [ao 0 4 (.mv (.k (.i 0)))]
def r50_3 : List AOper := [ao 0 8 (.mv (.t 4)),
  ao 1 9 (.mv (.t 0)),
  ao 2 10 (.len (.t 9)),
  ao 3 11 (.bin .lss (.t 8) (.t 10))]
def c50_4 : ACode := .cond (.t 11) .skip (.exit 0)
def c50_5 : ACode := .seq (.reg r50_3) c50_4
def r50_6 : List AOper := [ao 0 14 (.mv (.t 3)),
  ao 1 15 (.mv (.t 4)),
  ao 2 16 (.mv (.t 0)),
  ao 3 17 (.mv (.t 4)),
  ao 4 18 (.ia 1 (.t 16) (.t 17)),
  ao 5 19 (.ld 1 false (.t 18)),
  ao 6 20 (.ia 1 (.t 14) (.t 15)),
  an 7 (.st 1 (.t 20) (.t 19))]
def c50_7 : ACode := .block 1 (.reg r50_6)
def r50_8 : List AOper := [ao 0 12 (.mv (.t 4)),
  ao 1 13 (.bin .add (.t 12) (.k (.i 1))),
  ao 2 4 (.mv (.t 13))]
def c50_9 : ACode := .seq c50_5 (.seq c50_7 (.reg r50_8))
def c50_10 : ACode := .loop c50_9
def c50_11 : ACode := .block 0 c50_10
def c50_12 : ACode := .seq (.reg r50_2) c50_11
def r50_13 : List AOper := [ao 0 21 (.mv (.t 3)),
  ao 1 2 (.mv (.t 21))]
def c50 : ACode := .seq (.reg r50_0) (.seq (.reg r50_1) (.seq c50_12 (.seq (.reg r50_13) .ret)))
def s50 : List ARes := [.tmp 2]
theorem ok50 : okF Try.prog 50 22 c50 s50 := ⟨Try.f50, Try.func50, Try.ntmps50, by kernel_rfl, by kernel_rfl, by kernel_rfl⟩
def inv50 (xs : List ByteArray) (i : Nat) (σ : St) : Prop := σ.t 0 = tL (en eS xs) ∧ (∃ v, σ.t 3 = .c (.own 7 v xs.length) ∧ σ.H 7 = some (.arr v true 1 9 (en eS (part xs zS i)))) ∧ σ.t 4 = .i i
theorem UFc_6 : (type_of% (uA c50.eq_1)) ∧ (type_of% (uR r50_0.eq_1)) ∧ (type_of% (uR r50_1.eq_1)) ∧ (type_of% (uA c50_12.eq_1)) ∧ (type_of% (uR r50_2.eq_1)) ∧ (type_of% (uA c50_11.eq_1)) ∧ (type_of% (uA c50_10.eq_1)) ∧ (type_of% (uR r50_13.eq_1)) ∧ (type_of% s50.eq_1) :=
  ⟨uA c50.eq_1, uR r50_0.eq_1, uR r50_1.eq_1, uA c50_12.eq_1, uR r50_2.eq_1, uA c50_11.eq_1, uA c50_10.eq_1, uR r50_13.eq_1, s50.eq_1⟩
theorem UFc_9 : (type_of% (uA c50_9.eq_1)) ∧ (type_of% (uA c50_5.eq_1)) ∧ (type_of% (uR r50_3.eq_1)) ∧ (type_of% (uA c50_4.eq_1)) ∧ (type_of% (uA c50_7.eq_1)) ∧ (type_of% (uR r50_6.eq_1)) ∧ (type_of% (uR r50_8.eq_1)) ∧ (type_of% (uA c50.eq_1)) ∧ (type_of% (uR r50_0.eq_1)) ∧ (type_of% (uR r50_1.eq_1)) ∧ (type_of% (uA c50_12.eq_1)) ∧ (type_of% (uR r50_2.eq_1)) ∧ (type_of% (uA c50_11.eq_1)) ∧ (type_of% (uA c50_10.eq_1)) ∧ (type_of% (uR r50_13.eq_1)) ∧ (type_of% s50.eq_1) :=
  ⟨uA c50_9.eq_1, uA c50_5.eq_1, uR r50_3.eq_1, uA c50_4.eq_1, uA c50_7.eq_1, uR r50_6.eq_1, uR r50_8.eq_1, uA c50.eq_1, uR r50_0.eq_1, uR r50_1.eq_1, uA c50_12.eq_1, uR r50_2.eq_1, uA c50_11.eq_1, uA c50_10.eq_1, uR r50_13.eq_1, s50.eq_1⟩
theorem toSs_ok (xs : List ByteArray) (hl : xs.length ≤ 1048576) (m : Nat) : ACallsF Try.prog 50 [tL (en eS xs)] [newH 7 m 1 9 (en eS xs)] (.c (.own 7 0 xs.length)) := by
  refine ACallsF.intro ok50 follows fun X c0 => ?_
  have q0 : (0 : Int) ≤ xs.length := by omega
  have q1 : ((16 : Nat) : Int) * (xs.length : Int) ≤ 281474976710656 := by omega
  have q2 : (xs.length : Int) ≤ 9223372036854775807 := by omega
  simp only [RUN, core, T.c, T.s, T.b, T.i, sBin, sInt, sUn, isShift, asInt, P1.cells, loadT, ptrC, storeT, putC, fillP, Nat.reduceAdd, reduceIte, Nat.reduceEqDiff, Nat.reduceLT, Nat.reduceLeDiff, reduceCtorEq, eq_self, FIT, lendCs_map, verC_map, FinC, resPs, resP, lendPl, lendCs, lendC, sealC, partsT, finHs, tupT, verT, verP, verC, verB, verAt, Blk.ver, handsAre, forall_const, CHT, disj, Nat.reduceBEq, beq_self_eq_true, APT, srcOf, sealPs, sealCs, sealC, toVs, Option.map_some, List.mem_singleton, forall_eq, ALT, UFc_6, q0, q1, q2, Int.le_refl]
  refine AW.upto xs.length (inv50 xs) ?_ fun i t H c hi h => ?_
  · unfold inv50
    rw [part_zero, ← en_rep]
    exact ⟨rfl, ⟨_, rfl, rfl⟩, rfl⟩
  obtain ⟨e0, ⟨v, e3, eH⟩, e4⟩ := h
  simp only [T.c, T.i, tL] at e0 e3 eH e4
  have hpl : (part xs zS i).length = xs.length := part_len xs zS hi
  by_cases hlt : i < xs.length
  · obtain ⟨x, hx⟩ : ∃ x, xs[i]? = some x := ⟨_, List.getElem?_eq_getElem hlt⟩
    have ex := en_at eS hx
    have ez := en_at eS (part_at xs zS hlt)
    have k1 : (i : Int) < xs.length := by omega
    have gz : (0 : Int) ≤ i := by omega
    have gm : i < xs.length := hlt
    have gw : IntKind.i64.wrap ((i : Int) + 1) = ((i + 1 : Nat) : Int) := wrap64 (x := (i : Int) + 1) ⟨by omega, by omega⟩
    have hn : (en eS (part xs zS i)).set i (eS x) = en eS (part xs zS (i + 1)) := by rw [en_set, part_set xs zS hx]
    simp only [RUN, core, T.c, T.s, T.b, T.i, sBin, sInt, sUn, isShift, asInt, P1.cells, loadT, ptrC, storeT, putC, fillP, Nat.reduceAdd, reduceIte, Nat.reduceEqDiff, Nat.reduceLT, Nat.reduceLeDiff, reduceCtorEq, eq_self, FIT, lendCs_map, verC_map, FinC, resPs, resP, lendPl, lendCs, lendC, sealC, partsT, finHs, tupT, verT, verP, verC, verB, verAt, Blk.ver, handsAre, forall_const, CHT, disj, Nat.reduceBEq, beq_self_eq_true, APT, srcOf, sealPs, sealCs, sealC, toVs, Option.map_some, List.mem_singleton, forall_eq, ALT, UFc_9, e0, e3, eH, e4, en_len, k1, gz, gm, ex, ez, eS, Int.toNat_natCast, hpl, gw]
    exact ⟨e0, ⟨v, e3, congrArg (fun q => some (Blk.arr v true 1 9 q)) hn⟩, rfl⟩
  · have k1 : ¬ (i : Int) < xs.length := by omega
    have hi2 : i = xs.length := by omega
    subst hi2
    rw [part_end] at eH
    simp only [RUN, core, T.c, T.s, T.b, T.i, sBin, sInt, sUn, isShift, asInt, P1.cells, loadT, ptrC, storeT, putC, fillP, Nat.reduceAdd, reduceIte, Nat.reduceEqDiff, Nat.reduceLT, Nat.reduceLeDiff, reduceCtorEq, eq_self, FIT, lendCs_map, verC_map, FinC, resPs, resP, lendPl, lendCs, lendC, sealC, partsT, finHs, tupT, verT, verP, verC, verB, verAt, Blk.ver, handsAre, forall_const, CHT, disj, Nat.reduceBEq, beq_self_eq_true, APT, srcOf, sealPs, sealCs, sealC, toVs, Option.map_some, List.mem_singleton, forall_eq, ALT, UFc_9, UFc_6, e0, e3, eH, e4, en_len, k1, imp_self]
end Go.V
set_option linter.unusedSimpArgs false
namespace Go.V
open Go.Proofs
/-- A disk's three arrays, new. -/
abbrev dkH (c1 c2 c3 m1 m2 m3 : Nat) (d : Dk) : List Hand := [newH c1 m1 3 88 (en eF d.files), newH c2 m2 1 9 (en eS d.names), newH c3 m3 2 90 (en eM d.moves)]
abbrev oDk (c1 v1 c2 v2 c3 v3 : Nat) (d : Dk) : P1 := .agg [.own c1 v1 d.files.length, .own c2 v2 d.names.length, .own c3 v3 d.moves.length]
structure smallDk (d : Dk) : Prop where
  f : d.files.length ≤ 1048576
  n : d.names.length ≤ 1048576
  m : d.moves.length ≤ 1048576
/- loop.example/teagle/laws.toDisk -/
def r10_0 : List AOper := [ao 0 1 (.box 26 (.t 0)),
  ao 1 2 (.alloc 34 [.nil0, .nil0, .nil0])]
def r10_1 : List AOper := [ao 0 3 (.alloc 34 [.nil0, .nil0, .nil0])]
def r10_2 : List AOper := [ao 0 4 (.fa 0 (.t 1)),
  ao 1 5 (.ld 1 false (.t 4)),
  ao 2 6 (.call (.k (.c (.fn 49 []))) [(.t 5)]),
  ao 3 7 (.fa 0 (.t 3)),
  an 4 (.st 1 (.t 7) (.t 6))]
def r10_3 : List AOper := [ao 0 8 (.fa 1 (.t 1)),
  ao 1 9 (.ld 1 false (.t 8)),
  ao 2 10 (.call (.k (.c (.fn 50 []))) [(.t 9)]),
  ao 3 11 (.fa 1 (.t 3)),
  an 4 (.st 1 (.t 11) (.t 10))]
def r10_4 : List AOper := [ao 0 12 (.fa 2 (.t 1)),
  ao 1 13 (.ld 1 false (.t 12)),
  ao 2 14 (.call (.k (.c (.fn 51 []))) [(.t 13)]),
  ao 3 15 (.fa 2 (.t 3)),
  an 4 (.st 1 (.t 15) (.t 14))]
def r10_5 : List AOper := [ao 0 16 (.ld 3 true (.t 3)),
  an 1 (.st 3 (.t 2) (.t 16))]
def c10 : ACode := .seq (.reg r10_0) (.seq (.reg r10_1) (.seq (.reg r10_2) (.seq (.reg r10_3) (.seq (.reg r10_4) (.seq (.reg r10_5) .ret)))))
def s10 : List ARes := [.cell 2 3 true]
theorem ok10 : okF Try.prog 10 17 c10 s10 := ⟨Try.f10, Try.func10, Try.ntmps10, by kernel_rfl, by kernel_rfl, by kernel_rfl⟩
theorem UFd_1 : (type_of% (uA c10.eq_1)) ∧ (type_of% (uR r10_0.eq_1)) ∧ (type_of% (uR r10_1.eq_1)) ∧ (type_of% (uR r10_2.eq_1)) ∧ (type_of% (uR r10_3.eq_1)) ∧ (type_of% (uR r10_4.eq_1)) ∧ (type_of% (uR r10_5.eq_1)) ∧ (type_of% s10.eq_1) :=
  ⟨uA c10.eq_1, uR r10_0.eq_1, uR r10_1.eq_1, uR r10_2.eq_1, uR r10_3.eq_1, uR r10_4.eq_1, uR r10_5.eq_1, s10.eq_1⟩
theorem toDk_ok (d : Dk) (hd : smallDk d) (m1 m2 m3 : Nat) : ACallsF Try.prog 10 [tDk d] (dkH 1001 1002 1003 m1 m2 m3 d) (.pt (oDk 1001 0 1002 0 1003 0 d)) := by
  refine ACallsF.intro ok10 follows fun X c0 => ?_
  simp only [RUN, core, T.c, T.s, T.b, T.i, sBin, sInt, sUn, isShift, asInt, P1.cells, loadT, ptrC, storeT, putC, fillP, Nat.reduceAdd, reduceIte, Nat.reduceEqDiff, Nat.reduceLT, Nat.reduceLeDiff, reduceCtorEq, eq_self, FIT, lendCs_map, verC_map, FinC, resPs, resP, lendPl, lendCs, lendC, sealC, partsT, finHs, tupT, verT, verP, verC, verB, verAt, Blk.ver, handsAre, forall_const, CHT, disj, Nat.reduceBEq, beq_self_eq_true, APT, srcOf, sealPs, sealCs, sealC, toVs, Option.map_some, List.mem_singleton, forall_eq, ALT, UFd_1]
  refine callA1 (m := 1001) (ws := []) (ns := []) (toDFs_ok d.files hd.f 1001) rfl rfl rfl (en_flat eF eF_flat _) ⟨rfl, ?_⟩
  simp only [RUN, core, T.c, T.s, T.b, T.i, sBin, sInt, sUn, isShift, asInt, P1.cells, loadT, ptrC, storeT, putC, fillP, Nat.reduceAdd, reduceIte, Nat.reduceEqDiff, Nat.reduceLT, Nat.reduceLeDiff, reduceCtorEq, eq_self, FIT, lendCs_map, verC_map, FinC, resPs, resP, lendPl, lendCs, lendC, sealC, partsT, finHs, tupT, verT, verP, verC, verB, verAt, Blk.ver, handsAre, forall_const, CHT, disj, Nat.reduceBEq, beq_self_eq_true, APT, srcOf, sealPs, sealCs, sealC, toVs, Option.map_some, List.mem_singleton, forall_eq, ALT, UFd_1]
  refine callA1 (m := 1002) (ws := []) (ns := []) (toSs_ok d.names hd.n 1002) rfl rfl rfl (en_flat eS eS_flat _) ⟨rfl, ?_⟩
  simp only [RUN, core, T.c, T.s, T.b, T.i, sBin, sInt, sUn, isShift, asInt, P1.cells, loadT, ptrC, storeT, putC, fillP, Nat.reduceAdd, reduceIte, Nat.reduceEqDiff, Nat.reduceLT, Nat.reduceLeDiff, reduceCtorEq, eq_self, FIT, lendCs_map, verC_map, FinC, resPs, resP, lendPl, lendCs, lendC, sealC, partsT, finHs, tupT, verT, verP, verC, verB, verAt, Blk.ver, handsAre, forall_const, CHT, disj, Nat.reduceBEq, beq_self_eq_true, APT, srcOf, sealPs, sealCs, sealC, toVs, Option.map_some, List.mem_singleton, forall_eq, ALT, UFd_1]
  refine callA1 (m := 1003) (ws := []) (ns := []) (toDMs_ok d.moves hd.m 1003) rfl rfl rfl (en_flat eM eM_flat _) ⟨rfl, ?_⟩
  simp only [RUN, core, T.c, T.s, T.b, T.i, sBin, sInt, sUn, isShift, asInt, P1.cells, loadT, ptrC, storeT, putC, fillP, Nat.reduceAdd, reduceIte, Nat.reduceEqDiff, Nat.reduceLT, Nat.reduceLeDiff, reduceCtorEq, eq_self, FIT, lendCs_map, verC_map, FinC, resPs, resP, lendPl, lendCs, lendC, sealC, partsT, finHs, tupT, verT, verP, verC, verB, verAt, Blk.ver, handsAre, forall_const, CHT, disj, Nat.reduceBEq, beq_self_eq_true, APT, srcOf, sealPs, sealCs, sealC, toVs, Option.map_some, List.mem_singleton, forall_eq, ALT, UFd_1, imp_self]
/- slices.Clone[[]loop.example/teagle/impl.DiskFile,loop.example/teagle/impl.DiskFile] -/
def r109_0 : List AOper := [ao 0 2 (.mv (.k (.c .nil0)))]
def r109_1 : List AOper := [ao 0 3 (.mv (.t 0)),
  ao 1 4 (.isnil false (.t 3))]
def r109_2 : List AOper := [ao 0 2 (.mv (.k (.c .nil0)))]
def c109_3 : ACode := .seq (.reg r109_2) .ret
def c109_4 : ACode := .cond (.t 4) c109_3 .skip
def c109_5 : ACode := .seq (.reg r109_1) c109_4
def r109_6 : List AOper := [ao 0 5 (.bsl 3 88 []),
  ao 1 6 (.mv (.t 0)),
  ao 2 7 (.app 3 88 40 (.t 5) (.t 6)),
  ao 3 2 (.mv (.t 7))]
def c109 : ACode := .seq (.reg r109_0) (.seq c109_5 (.seq (.reg r109_6) .ret))
def s109 : List ARes := [.tmp 2]
theorem ok109 : okF Try.prog 109 8 c109 s109 := ⟨Try.f109, Try.func109, Try.ntmps109, by kernel_rfl, by kernel_rfl, by kernel_rfl⟩
theorem UFd_2 : (type_of% (uA c109.eq_1)) ∧ (type_of% (uR r109_0.eq_1)) ∧ (type_of% (uA c109_5.eq_1)) ∧ (type_of% (uR r109_1.eq_1)) ∧ (type_of% (uA c109_4.eq_1)) ∧ (type_of% (uA c109_3.eq_1)) ∧ (type_of% (uR r109_2.eq_1)) ∧ (type_of% (uR r109_6.eq_1)) ∧ (type_of% s109.eq_1) :=
  ⟨uA c109.eq_1, uR r109_0.eq_1, uA c109_5.eq_1, uR r109_1.eq_1, uA c109_4.eq_1, uA c109_3.eq_1, uR r109_2.eq_1, uR r109_6.eq_1, s109.eq_1⟩
theorem cloneDF_ok (xs : List DF) (hl : xs.length ≤ 2000000) (m : Nat) : ACallsF Try.prog 109 [tL (en eF xs)] [newH 5 m 3 88 (en eF xs)] (.c (.own 5 0 xs.length)) := by
  have q1 : xs.length * 40 ≤ 140737488355328 := by omega
  have q2 : xs.length ≤ 9223372036854775807 := by omega
  have hb1 : (true != false) = true := rfl
  have hb2 : (false != false) = false := rfl
  cases xs with
  | nil =>
    refine nilArgH fun ad c => ?_
    cases ad with
    | none =>
      refine ownNil (by decide) (ACallsF.intro ok109 follows fun X c0 => ?_)
      simp only [RUN, core, T.c, T.s, T.b, T.i, sBin, sInt, sUn, isShift, asInt, P1.cells, loadT, ptrC, storeT, putC, fillP, Nat.reduceAdd, reduceIte, Nat.reduceEqDiff, Nat.reduceLT, Nat.reduceLeDiff, reduceCtorEq, eq_self, FIT, lendCs_map, verC_map, FinC, resPs, resP, lendPl, lendCs, lendC, sealC, partsT, finHs, tupT, verT, verP, verC, verB, verAt, Blk.ver, handsAre, forall_const, CHT, disj, Nat.reduceBEq, beq_self_eq_true, APT, srcOf, sealPs, sealCs, sealC, toVs, Option.map_some, List.mem_singleton, forall_eq, ALT, UFd_2, Option.isNone_none, hb1]
    | some a =>
      refine ACallsF.intro ok109 follows fun X c0 => ?_
      simp only [RUN, core, T.c, T.s, T.b, T.i, sBin, sInt, sUn, isShift, asInt, P1.cells, loadT, ptrC, storeT, putC, fillP, Nat.reduceAdd, reduceIte, Nat.reduceEqDiff, Nat.reduceLT, Nat.reduceLeDiff, reduceCtorEq, eq_self, FIT, lendCs_map, verC_map, FinC, resPs, resP, lendPl, lendCs, lendC, sealC, partsT, finHs, tupT, verT, verP, verC, verB, verAt, Blk.ver, handsAre, forall_const, CHT, disj, Nat.reduceBEq, beq_self_eq_true, APT, srcOf, sealPs, sealCs, sealC, toVs, Option.map_some, List.mem_singleton, forall_eq, ALT, UFd_2, Option.isNone_some, hb2, Nat.zero_mul, Nat.zero_le, List.not_mem_nil, false_implies, implies_true, imp_self]
  | cons y ys =>
    refine ACallsF.intro ok109 follows fun X c0 => ?_
    obtain ⟨x, es, he⟩ : ∃ x es, en eF (y :: ys) = x :: es := ⟨_, _, rfl⟩
    have hall := en_all eF eF_len (y :: ys)
    have hlen := en_len eF (y :: ys)
    rw [he] at hall hlen ⊢
    simp only [List.length_cons] at hlen q1 q2
    have hlen' : es.length = ys.length := by omega
    simp only [RUN, core, T.c, T.s, T.b, T.i, sBin, sInt, sUn, isShift, asInt, P1.cells, loadT, ptrC, storeT, putC, fillP, Nat.reduceAdd, reduceIte, Nat.reduceEqDiff, Nat.reduceLT, Nat.reduceLeDiff, reduceCtorEq, eq_self, FIT, lendCs_map, verC_map, FinC, resPs, resP, lendPl, lendCs, lendC, sealC, partsT, finHs, tupT, verT, verP, verC, verB, verAt, Blk.ver, handsAre, forall_const, CHT, disj, Nat.reduceBEq, beq_self_eq_true, APT, srcOf, sealPs, sealCs, sealC, UFd_2, hall, hlen', q1, q2, Nat.zero_add, imp_self]
/- slices.Clone[[]string,string] -/
def r101_0 : List AOper := [ao 0 2 (.mv (.k (.c .nil0)))]
def r101_1 : List AOper := [ao 0 3 (.mv (.t 0)),
  ao 1 4 (.isnil false (.t 3))]
def r101_2 : List AOper := [ao 0 2 (.mv (.k (.c .nil0)))]
def c101_3 : ACode := .seq (.reg r101_2) .ret
def c101_4 : ACode := .cond (.t 4) c101_3 .skip
def c101_5 : ACode := .seq (.reg r101_1) c101_4
def r101_6 : List AOper := [ao 0 5 (.bsl 1 9 []),
  ao 1 6 (.mv (.t 0)),
  ao 2 7 (.app 1 9 16 (.t 5) (.t 6)),
  ao 3 2 (.mv (.t 7))]
def c101 : ACode := .seq (.reg r101_0) (.seq c101_5 (.seq (.reg r101_6) .ret))
def s101 : List ARes := [.tmp 2]
theorem ok101 : okF Try.prog 101 8 c101 s101 := ⟨Try.f101, Try.func101, Try.ntmps101, by kernel_rfl, by kernel_rfl, by kernel_rfl⟩
theorem UFd_3 : (type_of% (uA c101.eq_1)) ∧ (type_of% (uR r101_0.eq_1)) ∧ (type_of% (uA c101_5.eq_1)) ∧ (type_of% (uR r101_1.eq_1)) ∧ (type_of% (uA c101_4.eq_1)) ∧ (type_of% (uA c101_3.eq_1)) ∧ (type_of% (uR r101_2.eq_1)) ∧ (type_of% (uR r101_6.eq_1)) ∧ (type_of% s101.eq_1) :=
  ⟨uA c101.eq_1, uR r101_0.eq_1, uA c101_5.eq_1, uR r101_1.eq_1, uA c101_4.eq_1, uA c101_3.eq_1, uR r101_2.eq_1, uR r101_6.eq_1, s101.eq_1⟩
theorem cloneS_ok (xs : List ByteArray) (hl : xs.length ≤ 2000000) (m : Nat) : ACallsF Try.prog 101 [tL (en eS xs)] [newH 5 m 1 9 (en eS xs)] (.c (.own 5 0 xs.length)) := by
  have q1 : xs.length * 16 ≤ 140737488355328 := by omega
  have q2 : xs.length ≤ 9223372036854775807 := by omega
  have hb1 : (true != false) = true := rfl
  have hb2 : (false != false) = false := rfl
  cases xs with
  | nil =>
    refine nilArgH fun ad c => ?_
    cases ad with
    | none =>
      refine ownNil (by decide) (ACallsF.intro ok101 follows fun X c0 => ?_)
      simp only [RUN, core, T.c, T.s, T.b, T.i, sBin, sInt, sUn, isShift, asInt, P1.cells, loadT, ptrC, storeT, putC, fillP, Nat.reduceAdd, reduceIte, Nat.reduceEqDiff, Nat.reduceLT, Nat.reduceLeDiff, reduceCtorEq, eq_self, FIT, lendCs_map, verC_map, FinC, resPs, resP, lendPl, lendCs, lendC, sealC, partsT, finHs, tupT, verT, verP, verC, verB, verAt, Blk.ver, handsAre, forall_const, CHT, disj, Nat.reduceBEq, beq_self_eq_true, APT, srcOf, sealPs, sealCs, sealC, toVs, Option.map_some, List.mem_singleton, forall_eq, ALT, UFd_3, Option.isNone_none, hb1]
    | some a =>
      refine ACallsF.intro ok101 follows fun X c0 => ?_
      simp only [RUN, core, T.c, T.s, T.b, T.i, sBin, sInt, sUn, isShift, asInt, P1.cells, loadT, ptrC, storeT, putC, fillP, Nat.reduceAdd, reduceIte, Nat.reduceEqDiff, Nat.reduceLT, Nat.reduceLeDiff, reduceCtorEq, eq_self, FIT, lendCs_map, verC_map, FinC, resPs, resP, lendPl, lendCs, lendC, sealC, partsT, finHs, tupT, verT, verP, verC, verB, verAt, Blk.ver, handsAre, forall_const, CHT, disj, Nat.reduceBEq, beq_self_eq_true, APT, srcOf, sealPs, sealCs, sealC, toVs, Option.map_some, List.mem_singleton, forall_eq, ALT, UFd_3, Option.isNone_some, hb2, Nat.zero_mul, Nat.zero_le, List.not_mem_nil, false_implies, implies_true, imp_self]
  | cons y ys =>
    refine ACallsF.intro ok101 follows fun X c0 => ?_
    obtain ⟨x, es, he⟩ : ∃ x es, en eS (y :: ys) = x :: es := ⟨_, _, rfl⟩
    have hall := en_all eS eS_len (y :: ys)
    have hlen := en_len eS (y :: ys)
    rw [he] at hall hlen ⊢
    simp only [List.length_cons] at hlen q1 q2
    have hlen' : es.length = ys.length := by omega
    simp only [RUN, core, T.c, T.s, T.b, T.i, sBin, sInt, sUn, isShift, asInt, P1.cells, loadT, ptrC, storeT, putC, fillP, Nat.reduceAdd, reduceIte, Nat.reduceEqDiff, Nat.reduceLT, Nat.reduceLeDiff, reduceCtorEq, eq_self, FIT, lendCs_map, verC_map, FinC, resPs, resP, lendPl, lendCs, lendC, sealC, partsT, finHs, tupT, verT, verP, verC, verB, verAt, Blk.ver, handsAre, forall_const, CHT, disj, Nat.reduceBEq, beq_self_eq_true, APT, srcOf, sealPs, sealCs, sealC, UFd_3, hall, hlen', q1, q2, Nat.zero_add, imp_self]
/- slices.Clone[[]loop.example/teagle/impl.DiskMove,loop.example/teagle/impl.DiskMove] -/
def r110_0 : List AOper := [ao 0 2 (.mv (.k (.c .nil0)))]
def r110_1 : List AOper := [ao 0 3 (.mv (.t 0)),
  ao 1 4 (.isnil false (.t 3))]
def r110_2 : List AOper := [ao 0 2 (.mv (.k (.c .nil0)))]
def c110_3 : ACode := .seq (.reg r110_2) .ret
def c110_4 : ACode := .cond (.t 4) c110_3 .skip
def c110_5 : ACode := .seq (.reg r110_1) c110_4
def r110_6 : List AOper := [ao 0 5 (.bsl 2 90 []),
  ao 1 6 (.mv (.t 0)),
  ao 2 7 (.app 2 90 24 (.t 5) (.t 6)),
  ao 3 2 (.mv (.t 7))]
def c110 : ACode := .seq (.reg r110_0) (.seq c110_5 (.seq (.reg r110_6) .ret))
def s110 : List ARes := [.tmp 2]
theorem ok110 : okF Try.prog 110 8 c110 s110 := ⟨Try.f110, Try.func110, Try.ntmps110, by kernel_rfl, by kernel_rfl, by kernel_rfl⟩
theorem UFd_4 : (type_of% (uA c110.eq_1)) ∧ (type_of% (uR r110_0.eq_1)) ∧ (type_of% (uA c110_5.eq_1)) ∧ (type_of% (uR r110_1.eq_1)) ∧ (type_of% (uA c110_4.eq_1)) ∧ (type_of% (uA c110_3.eq_1)) ∧ (type_of% (uR r110_2.eq_1)) ∧ (type_of% (uR r110_6.eq_1)) ∧ (type_of% s110.eq_1) :=
  ⟨uA c110.eq_1, uR r110_0.eq_1, uA c110_5.eq_1, uR r110_1.eq_1, uA c110_4.eq_1, uA c110_3.eq_1, uR r110_2.eq_1, uR r110_6.eq_1, s110.eq_1⟩
theorem cloneDM_ok (xs : List DM) (hl : xs.length ≤ 2000000) (m : Nat) : ACallsF Try.prog 110 [tL (en eM xs)] [newH 5 m 2 90 (en eM xs)] (.c (.own 5 0 xs.length)) := by
  have q1 : xs.length * 24 ≤ 140737488355328 := by omega
  have q2 : xs.length ≤ 9223372036854775807 := by omega
  have hb1 : (true != false) = true := rfl
  have hb2 : (false != false) = false := rfl
  cases xs with
  | nil =>
    refine nilArgH fun ad c => ?_
    cases ad with
    | none =>
      refine ownNil (by decide) (ACallsF.intro ok110 follows fun X c0 => ?_)
      simp only [RUN, core, T.c, T.s, T.b, T.i, sBin, sInt, sUn, isShift, asInt, P1.cells, loadT, ptrC, storeT, putC, fillP, Nat.reduceAdd, reduceIte, Nat.reduceEqDiff, Nat.reduceLT, Nat.reduceLeDiff, reduceCtorEq, eq_self, FIT, lendCs_map, verC_map, FinC, resPs, resP, lendPl, lendCs, lendC, sealC, partsT, finHs, tupT, verT, verP, verC, verB, verAt, Blk.ver, handsAre, forall_const, CHT, disj, Nat.reduceBEq, beq_self_eq_true, APT, srcOf, sealPs, sealCs, sealC, toVs, Option.map_some, List.mem_singleton, forall_eq, ALT, UFd_4, Option.isNone_none, hb1]
    | some a =>
      refine ACallsF.intro ok110 follows fun X c0 => ?_
      simp only [RUN, core, T.c, T.s, T.b, T.i, sBin, sInt, sUn, isShift, asInt, P1.cells, loadT, ptrC, storeT, putC, fillP, Nat.reduceAdd, reduceIte, Nat.reduceEqDiff, Nat.reduceLT, Nat.reduceLeDiff, reduceCtorEq, eq_self, FIT, lendCs_map, verC_map, FinC, resPs, resP, lendPl, lendCs, lendC, sealC, partsT, finHs, tupT, verT, verP, verC, verB, verAt, Blk.ver, handsAre, forall_const, CHT, disj, Nat.reduceBEq, beq_self_eq_true, APT, srcOf, sealPs, sealCs, sealC, toVs, Option.map_some, List.mem_singleton, forall_eq, ALT, UFd_4, Option.isNone_some, hb2, Nat.zero_mul, Nat.zero_le, List.not_mem_nil, false_implies, implies_true, imp_self]
  | cons y ys =>
    refine ACallsF.intro ok110 follows fun X c0 => ?_
    obtain ⟨x, es, he⟩ : ∃ x es, en eM (y :: ys) = x :: es := ⟨_, _, rfl⟩
    have hall := en_all eM eM_len (y :: ys)
    have hlen := en_len eM (y :: ys)
    rw [he] at hall hlen ⊢
    simp only [List.length_cons] at hlen q1 q2
    have hlen' : es.length = ys.length := by omega
    simp only [RUN, core, T.c, T.s, T.b, T.i, sBin, sInt, sUn, isShift, asInt, P1.cells, loadT, ptrC, storeT, putC, fillP, Nat.reduceAdd, reduceIte, Nat.reduceEqDiff, Nat.reduceLT, Nat.reduceLeDiff, reduceCtorEq, eq_self, FIT, lendCs_map, verC_map, FinC, resPs, resP, lendPl, lendCs, lendC, sealC, partsT, finHs, tupT, verT, verP, verC, verB, verAt, Blk.ver, handsAre, forall_const, CHT, disj, Nat.reduceBEq, beq_self_eq_true, APT, srcOf, sealPs, sealCs, sealC, UFd_4, hall, hlen', q1, q2, Nat.zero_add, imp_self]
/- (loop.example/teagle/impl.Disk).clone -/
def r53_0 : List AOper := [ao 0 1 (.box 34 (.t 0)),
  ao 1 2 (.alloc 34 [.nil0, .nil0, .nil0])]
def r53_1 : List AOper := [ao 0 3 (.fa 0 (.t 1)),
  ao 1 4 (.ld 1 false (.t 3)),
  ao 2 5 (.call (.k (.c (.fn 109 []))) [(.t 4)]),
  au 3 6 (ru 3) (.fa 1 (.t 1)),
  au 4 7 (ru 3) (.ld 1 false (.t 6)),
  ao 5 8 (.call (.k (.c (.fn 101 []))) [(.t 7)]),
  au 6 9 (ru 6) (.fa 2 (.t 1)),
  au 7 10 (ru 6) (.ld 1 false (.t 9)),
  ao 8 11 (.call (.k (.c (.fn 110 []))) [(.t 10)]),
  ao 9 12 (.build [.nil0, .nil0, .nil0] [(0, 1, (.t 5)), (1, 1, (.t 8)), (2, 1, (.t 11))]),
  an 10 (.st 3 (.t 2) (.t 12))]
def c53 : ACode := .seq (.reg r53_0) (.seq (.reg r53_1) .ret)
def s53 : List ARes := [.cell 2 3 true]
theorem ok53 : okF Try.prog 53 13 c53 s53 := ⟨Try.f53, Try.func53, Try.ntmps53, by kernel_rfl, by kernel_rfl, by kernel_rfl⟩
theorem UFd_5 : (type_of% (uA c53.eq_1)) ∧ (type_of% (uR r53_0.eq_1)) ∧ (type_of% (uR r53_1.eq_1)) ∧ (type_of% s53.eq_1) :=
  ⟨uA c53.eq_1, uR r53_0.eq_1, uR r53_1.eq_1, s53.eq_1⟩
theorem cloneDk_ok (d : Dk) (hd : smallDk d) (m1 m2 m3 : Nat) : ACallsF Try.prog 53 [tDk d] (dkH 1001 1002 1003 m1 m2 m3 d) (.pt (oDk 1001 0 1002 0 1003 0 d)) := by
  refine ACallsF.intro ok53 follows fun X c0 => ?_
  simp only [RUN, core, T.c, T.s, T.b, T.i, sBin, sInt, sUn, isShift, asInt, P1.cells, loadT, ptrC, storeT, putC, fillP, Nat.reduceAdd, reduceIte, Nat.reduceEqDiff, Nat.reduceLT, Nat.reduceLeDiff, reduceCtorEq, eq_self, FIT, lendCs_map, verC_map, FinC, resPs, resP, lendPl, lendCs, lendC, sealC, partsT, finHs, tupT, verT, verP, verC, verB, verAt, Blk.ver, handsAre, forall_const, CHT, disj, Nat.reduceBEq, beq_self_eq_true, APT, srcOf, sealPs, sealCs, sealC, toVs, Option.map_some, List.mem_singleton, forall_eq, ALT, UFd_5]
  refine callA1 (m := 1001) (ws := []) (ns := []) (cloneDF_ok d.files (by have := hd.f; omega) 1001) rfl rfl rfl (en_flat eF eF_flat _) ⟨rfl, ?_⟩
  simp only [RUN, core, T.c, T.s, T.b, T.i, sBin, sInt, sUn, isShift, asInt, P1.cells, loadT, ptrC, storeT, putC, fillP, Nat.reduceAdd, reduceIte, Nat.reduceEqDiff, Nat.reduceLT, Nat.reduceLeDiff, reduceCtorEq, eq_self, FIT, lendCs_map, verC_map, FinC, resPs, resP, lendPl, lendCs, lendC, sealC, partsT, finHs, tupT, verT, verP, verC, verB, verAt, Blk.ver, handsAre, forall_const, CHT, disj, Nat.reduceBEq, beq_self_eq_true, APT, srcOf, sealPs, sealCs, sealC, toVs, Option.map_some, List.mem_singleton, forall_eq, ALT, UFd_5]
  refine callA1 (m := 1002) (ws := []) (ns := []) (cloneS_ok d.names (by have := hd.n; omega) 1002) rfl rfl rfl (en_flat eS eS_flat _) ⟨rfl, ?_⟩
  simp only [RUN, core, T.c, T.s, T.b, T.i, sBin, sInt, sUn, isShift, asInt, P1.cells, loadT, ptrC, storeT, putC, fillP, Nat.reduceAdd, reduceIte, Nat.reduceEqDiff, Nat.reduceLT, Nat.reduceLeDiff, reduceCtorEq, eq_self, FIT, lendCs_map, verC_map, FinC, resPs, resP, lendPl, lendCs, lendC, sealC, partsT, finHs, tupT, verT, verP, verC, verB, verAt, Blk.ver, handsAre, forall_const, CHT, disj, Nat.reduceBEq, beq_self_eq_true, APT, srcOf, sealPs, sealCs, sealC, toVs, Option.map_some, List.mem_singleton, forall_eq, ALT, UFd_5]
  refine callA1 (m := 1003) (ws := []) (ns := []) (cloneDM_ok d.moves (by have := hd.m; omega) 1003) rfl rfl rfl (en_flat eM eM_flat _) ⟨rfl, ?_⟩
  simp only [RUN, core, T.c, T.s, T.b, T.i, sBin, sInt, sUn, isShift, asInt, P1.cells, loadT, ptrC, storeT, putC, fillP, Nat.reduceAdd, reduceIte, Nat.reduceEqDiff, Nat.reduceLT, Nat.reduceLeDiff, reduceCtorEq, eq_self, FIT, lendCs_map, verC_map, FinC, resPs, resP, lendPl, lendCs, lendC, sealC, partsT, finHs, tupT, verT, verP, verC, verB, verAt, Blk.ver, handsAre, forall_const, CHT, disj, Nat.reduceBEq, beq_self_eq_true, APT, srcOf, sealPs, sealCs, sealC, toVs, Option.map_some, List.mem_singleton, forall_eq, ALT, UFd_5, imp_self]
/- loop.example/teagle/spec.l41Copy -/
def r42_0 : List AOper := [ao 0 1 (.box 34 (.t 0)),
  ao 1 2 (.alloc 34 [.nil0, .nil0, .nil0])]
def r42_1 : List AOper := [ao 0 3 (.bsl 3 88 []),
  au 1 4 [0] (.fa 0 (.t 1)),
  au 2 5 [0] (.ld 1 false (.t 4)),
  ao 3 6 (.app 3 88 40 (.t 3) (.t 5)),
  au 4 7 (ru 4) (.bsl 1 9 []),
  au 5 8 (ru 5) (.fa 1 (.t 1)),
  au 6 9 (ru 5) (.ld 1 false (.t 8)),
  ao 7 10 (.app 1 9 16 (.t 7) (.t 9)),
  au 8 11 (ru 8) (.bsl 2 90 []),
  au 9 12 (ru 9) (.fa 2 (.t 1)),
  au 10 13 (ru 9) (.ld 1 false (.t 12)),
  ao 11 14 (.app 2 90 24 (.t 11) (.t 13)),
  ao 12 15 (.build [.nil0, .nil0, .nil0] [(0, 1, (.t 6)), (1, 1, (.t 10)), (2, 1, (.t 14))]),
  an 13 (.st 3 (.t 2) (.t 15))]
def c42 : ACode := .seq (.reg r42_0) (.seq (.reg r42_1) .ret)
def s42 : List ARes := [.cell 2 3 true]
theorem ok42 : okF Try.prog 42 16 c42 s42 := ⟨Try.f42, Try.func42, Try.ntmps42, by kernel_rfl, by kernel_rfl, by kernel_rfl⟩
theorem UFd_6 : (type_of% (uA c42.eq_1)) ∧ (type_of% (uR r42_0.eq_1)) ∧ (type_of% (uR r42_1.eq_1)) ∧ (type_of% s42.eq_1) :=
  ⟨uA c42.eq_1, uR r42_0.eq_1, uR r42_1.eq_1, s42.eq_1⟩
theorem copyDk_ok (d : Dk) (hd : smallDk d) (m1 m2 m3 : Nat) : ACallsF Try.prog 42 [tDk d] (dkH 3 7 11 m1 m2 m3 d) (.pt (oDk 3 0 7 0 11 0 d)) := by
  have h1 := hd.f
  have h2 := hd.n
  have h3 := hd.m
  have q1 : d.files.length * 40 ≤ 140737488355328 := by omega
  have q2 : d.files.length ≤ 9223372036854775807 := by omega
  have q3 : d.names.length * 16 ≤ 140737488355328 := by omega
  have q4 : d.names.length ≤ 9223372036854775807 := by omega
  have q5 : d.moves.length * 24 ≤ 140737488355328 := by omega
  have q6 : d.moves.length ≤ 9223372036854775807 := by omega
  refine ACallsF.intro ok42 follows fun X c0 => ?_
  simp only [RUN, core, T.c, T.s, T.b, T.i, sBin, sInt, sUn, isShift, asInt, P1.cells, loadT, ptrC, storeT, putC, fillP, Nat.reduceAdd, reduceIte, Nat.reduceEqDiff, Nat.reduceLT, Nat.reduceLeDiff, reduceCtorEq, eq_self, FIT, lendCs_map, verC_map, FinC, resPs, resP, lendPl, lendCs, lendC, sealC, partsT, finHs, tupT, verT, verP, verC, verB, verAt, Blk.ver, handsAre, forall_const, CHT, disj, Nat.reduceBEq, beq_self_eq_true, APT, srcOf, sealPs, sealCs, sealC, toVs, Option.map_some, List.mem_singleton, forall_eq, ALT, UFd_6, q1, q2, q3, q4, q5, q6, Nat.zero_add, imp_self]
/- loop.example/teagle/laws.szDisk -/
def r7_0 : List AOper := [ao 0 2 (.box 26 (.t 0)),
  ao 1 4 (.mv (.k (.i 0)))]
def r7_1 : List AOper := [ao 0 5 (.fa 0 (.t 2)),
  ao 1 6 (.ld 1 false (.t 5)),
  ao 2 7 (.mv (.t 1)),
  ao 3 8 (.call (.k (.c (.fn 38 []))) [(.t 6), (.t 7)]),
  ao 4 1 (.mv (.t 8))]
def r7_2 : List AOper := [ao 0 9 (.mv (.t 1)),
  ao 1 10 (.bin .lss (.t 9) (.k (.i 0)))]
def r7_3 : List AOper := [ao 0 4 (.mv (.k (.i (-1))))]
def c7_4 : ACode := .seq (.reg r7_3) .ret
def c7_5 : ACode := .cond (.t 10) c7_4 .skip
def c7_6 : ACode := .seq (.reg r7_2) c7_5
def r7_7 : List AOper := [ao 0 11 (.fa 1 (.t 2)),
  ao 1 12 (.ld 1 false (.t 11)),
  ao 2 13 (.mv (.t 1)),
  ao 3 14 (.call (.k (.c (.fn 39 []))) [(.t 12), (.t 13)]),
  ao 4 1 (.mv (.t 14))]
def r7_8 : List AOper := [ao 0 15 (.mv (.t 1)),
  ao 1 16 (.bin .lss (.t 15) (.k (.i 0)))]
def r7_9 : List AOper := [ao 0 4 (.mv (.k (.i (-1))))]
def c7_10 : ACode := .seq (.reg r7_9) .ret
def c7_11 : ACode := .cond (.t 16) c7_10 .skip
def c7_12 : ACode := .seq (.reg r7_8) c7_11
def r7_13 : List AOper := [ao 0 17 (.fa 2 (.t 2)),
  ao 1 18 (.ld 1 false (.t 17)),
  ao 2 19 (.mv (.t 1)),
  ao 3 20 (.call (.k (.c (.fn 40 []))) [(.t 18), (.t 19)]),
  ao 4 1 (.mv (.t 20))]
def r7_14 : List AOper := [ao 0 21 (.mv (.t 1)),
  ao 1 22 (.bin .lss (.t 21) (.k (.i 0)))]
def r7_15 : List AOper := [ao 0 4 (.mv (.k (.i (-1))))]
def c7_16 : ACode := .seq (.reg r7_15) .ret
def c7_17 : ACode := .cond (.t 22) c7_16 .skip
def c7_18 : ACode := .seq (.reg r7_14) c7_17
def r7_19 : List AOper := [ao 0 23 (.mv (.t 1)),
  ao 1 4 (.mv (.t 23))]
def c7 : ACode := .seq (.reg r7_0) (.seq (.reg r7_1) (.seq c7_6 (.seq (.reg r7_7) (.seq c7_12 (.seq (.reg r7_13) (.seq c7_18 (.seq (.reg r7_19) .ret)))))))
def s7 : List ARes := [.tmp 4]
theorem ok7 : okF Try.prog 7 24 c7 s7 := ⟨Try.f7, Try.func7, Try.ntmps7, by kernel_rfl, by kernel_rfl, by kernel_rfl⟩
theorem UFd_7 : (type_of% (uA c7.eq_1)) ∧ (type_of% (uR r7_0.eq_1)) ∧ (type_of% (uR r7_1.eq_1)) ∧ (type_of% (uA c7_6.eq_1)) ∧ (type_of% (uR r7_2.eq_1)) ∧ (type_of% (uA c7_5.eq_1)) ∧ (type_of% (uA c7_4.eq_1)) ∧ (type_of% (uR r7_3.eq_1)) ∧ (type_of% (uR r7_7.eq_1)) ∧ (type_of% (uA c7_12.eq_1)) ∧ (type_of% (uR r7_8.eq_1)) ∧ (type_of% (uA c7_11.eq_1)) ∧ (type_of% (uA c7_10.eq_1)) ∧ (type_of% (uR r7_9.eq_1)) ∧ (type_of% (uR r7_13.eq_1)) ∧ (type_of% (uA c7_18.eq_1)) ∧ (type_of% (uR r7_14.eq_1)) ∧ (type_of% (uA c7_17.eq_1)) ∧ (type_of% (uA c7_16.eq_1)) ∧ (type_of% (uR r7_15.eq_1)) ∧ (type_of% (uR r7_19.eq_1)) ∧ (type_of% s7.eq_1) :=
  ⟨uA c7.eq_1, uR r7_0.eq_1, uR r7_1.eq_1, uA c7_6.eq_1, uR r7_2.eq_1, uA c7_5.eq_1, uA c7_4.eq_1, uR r7_3.eq_1, uR r7_7.eq_1, uA c7_12.eq_1, uR r7_8.eq_1, uA c7_11.eq_1, uA c7_10.eq_1, uR r7_9.eq_1, uR r7_13.eq_1, uA c7_18.eq_1, uR r7_14.eq_1, uA c7_17.eq_1, uA c7_16.eq_1, uR r7_15.eq_1, uR r7_19.eq_1, s7.eq_1⟩
theorem szDk_ok (d : Dk) (left : Int) (h0 : 0 ≤ left ∧ left ≤ 1048576) (hf : d.files.length ≤ 9223372036854775807 ∧ ∀ x ∈ d.files, okDF x) (hn : d.names.length ≤ 9223372036854775807 ∧ ∀ x ∈ d.names, okS x) (hm : d.moves.length ≤ 9223372036854775807 ∧ ∀ x ∈ d.moves, okDM x) :
    ∃ q, ((q = -1) ∨ (0 ≤ q ∧ q ≤ left ∧ ((d.files.length + wsum wF d.files + (d.names.length + wsum wS d.names) + (d.moves.length + wsum wM d.moves) : Nat) : Int) ≤ left)) ∧ ACallsF Try.prog 7 [tDk d, .i left] [] (.i q) := by
  have C1 := szDFs_ok d.files left h0 hf.1 hf.2
  by_cases hA : ((d.files.length + wsum wF d.files : Nat) : Int) ≤ left
  · have e1 : sub1 left (d.files.length + wsum wF d.files) = left - ((d.files.length + wsum wF d.files : Nat) : Int) := by rw [sub1, if_pos hA]
    rw [e1] at C1
    have k1 : ¬ left - ((d.files.length + wsum wF d.files : Nat) : Int) < 0 := by omega
    have C2 := szSs_ok d.names _ (show 0 ≤ left - ((d.files.length + wsum wF d.files : Nat) : Int) ∧ left - ((d.files.length + wsum wF d.files : Nat) : Int) ≤ 1048576 from ⟨by omega, by omega⟩) hn.1 hn.2
    generalize hl1 : left - ((d.files.length + wsum wF d.files : Nat) : Int) = l1 at *
    by_cases hB : ((d.names.length + wsum wS d.names : Nat) : Int) ≤ l1
    · have e2 : sub1 l1 (d.names.length + wsum wS d.names) = l1 - ((d.names.length + wsum wS d.names : Nat) : Int) := by rw [sub1, if_pos hB]
      rw [e2] at C2
      have k2 : ¬ l1 - ((d.names.length + wsum wS d.names : Nat) : Int) < 0 := by omega
      have C3 := szDMs_ok d.moves _ (show 0 ≤ l1 - ((d.names.length + wsum wS d.names : Nat) : Int) ∧ l1 - ((d.names.length + wsum wS d.names : Nat) : Int) ≤ 1048576 from ⟨by omega, by omega⟩) hm.1 hm.2
      generalize hl2 : l1 - ((d.names.length + wsum wS d.names : Nat) : Int) = l2 at *
      refine ⟨sub1 l2 (d.moves.length + wsum wM d.moves), ?_, ACallsF.intro ok7 follows fun X c0 => ?_⟩
      · unfold sub1
        split
        · exact .inr ⟨by omega, by omega, by omega⟩
        · exact .inl rfl
      · simp only [RUN, core, T.c, T.s, T.b, T.i, sBin, sInt, sUn, isShift, asInt, P1.cells, loadT, ptrC, storeT, putC, fillP, Nat.reduceAdd, reduceIte, Nat.reduceEqDiff, Nat.reduceLT, Nat.reduceLeDiff, reduceCtorEq, eq_self, FIT, lendCs_map, verC_map, FinC, resPs, resP, lendPl, lendCs, lendC, sealC, partsT, finHs, tupT, verT, verP, verC, verB, verAt, Blk.ver, handsAre, forall_const, CHT, disj, Nat.reduceBEq, beq_self_eq_true, APT, srcOf, sealPs, sealCs, sealC, toVs, Option.map_some, List.mem_singleton, forall_eq, ALT, UFd_7]
        refine callC C1 rfl rfl (by simp [closedA, closedP, closedC]) rfl ?_
        simp only [RUN, core, T.c, T.s, T.b, T.i, sBin, sInt, sUn, isShift, asInt, P1.cells, loadT, ptrC, storeT, putC, fillP, Nat.reduceAdd, reduceIte, Nat.reduceEqDiff, Nat.reduceLT, Nat.reduceLeDiff, reduceCtorEq, eq_self, FIT, lendCs_map, verC_map, FinC, resPs, resP, lendPl, lendCs, lendC, sealC, partsT, finHs, tupT, verT, verP, verC, verB, verAt, Blk.ver, handsAre, forall_const, CHT, disj, Nat.reduceBEq, beq_self_eq_true, APT, srcOf, sealPs, sealCs, sealC, toVs, Option.map_some, List.mem_singleton, forall_eq, ALT, UFd_7, k1]
        refine callC C2 rfl rfl (by simp [closedA, closedP, closedC]) rfl ?_
        simp only [RUN, core, T.c, T.s, T.b, T.i, sBin, sInt, sUn, isShift, asInt, P1.cells, loadT, ptrC, storeT, putC, fillP, Nat.reduceAdd, reduceIte, Nat.reduceEqDiff, Nat.reduceLT, Nat.reduceLeDiff, reduceCtorEq, eq_self, FIT, lendCs_map, verC_map, FinC, resPs, resP, lendPl, lendCs, lendC, sealC, partsT, finHs, tupT, verT, verP, verC, verB, verAt, Blk.ver, handsAre, forall_const, CHT, disj, Nat.reduceBEq, beq_self_eq_true, APT, srcOf, sealPs, sealCs, sealC, toVs, Option.map_some, List.mem_singleton, forall_eq, ALT, UFd_7, k2]
        refine callC C3 rfl rfl (by simp [closedA, closedP, closedC]) rfl ?_
        by_cases k3 : sub1 l2 (d.moves.length + wsum wM d.moves) < 0
        · have e3 : sub1 l2 (d.moves.length + wsum wM d.moves) = -1 := by
            unfold sub1 at k3 ⊢
            split
            · rename_i h; rw [if_pos h] at k3; omega
            · rfl
          simp only [RUN, core, T.c, T.s, T.b, T.i, sBin, sInt, sUn, isShift, asInt, P1.cells, loadT, ptrC, storeT, putC, fillP, Nat.reduceAdd, reduceIte, Nat.reduceEqDiff, Nat.reduceLT, Nat.reduceLeDiff, reduceCtorEq, eq_self, FIT, lendCs_map, verC_map, FinC, resPs, resP, lendPl, lendCs, lendC, sealC, partsT, finHs, tupT, verT, verP, verC, verB, verAt, Blk.ver, handsAre, forall_const, CHT, disj, Nat.reduceBEq, beq_self_eq_true, APT, srcOf, sealPs, sealCs, sealC, toVs, Option.map_some, List.mem_singleton, forall_eq, ALT, UFd_7, e3, Int.reduceLT]
        · simp only [RUN, core, T.c, T.s, T.b, T.i, sBin, sInt, sUn, isShift, asInt, P1.cells, loadT, ptrC, storeT, putC, fillP, Nat.reduceAdd, reduceIte, Nat.reduceEqDiff, Nat.reduceLT, Nat.reduceLeDiff, reduceCtorEq, eq_self, FIT, lendCs_map, verC_map, FinC, resPs, resP, lendPl, lendCs, lendC, sealC, partsT, finHs, tupT, verT, verP, verC, verB, verAt, Blk.ver, handsAre, forall_const, CHT, disj, Nat.reduceBEq, beq_self_eq_true, APT, srcOf, sealPs, sealCs, sealC, toVs, Option.map_some, List.mem_singleton, forall_eq, ALT, UFd_7, k3]
    · have e2 : sub1 l1 (d.names.length + wsum wS d.names) = -1 := by rw [sub1, if_neg hB]
      rw [e2] at C2
      refine ⟨-1, .inl rfl, ACallsF.intro ok7 follows fun X c0 => ?_⟩
      simp only [RUN, core, T.c, T.s, T.b, T.i, sBin, sInt, sUn, isShift, asInt, P1.cells, loadT, ptrC, storeT, putC, fillP, Nat.reduceAdd, reduceIte, Nat.reduceEqDiff, Nat.reduceLT, Nat.reduceLeDiff, reduceCtorEq, eq_self, FIT, lendCs_map, verC_map, FinC, resPs, resP, lendPl, lendCs, lendC, sealC, partsT, finHs, tupT, verT, verP, verC, verB, verAt, Blk.ver, handsAre, forall_const, CHT, disj, Nat.reduceBEq, beq_self_eq_true, APT, srcOf, sealPs, sealCs, sealC, toVs, Option.map_some, List.mem_singleton, forall_eq, ALT, UFd_7]
      refine callC C1 rfl rfl (by simp [closedA, closedP, closedC]) rfl ?_
      simp only [RUN, core, T.c, T.s, T.b, T.i, sBin, sInt, sUn, isShift, asInt, P1.cells, loadT, ptrC, storeT, putC, fillP, Nat.reduceAdd, reduceIte, Nat.reduceEqDiff, Nat.reduceLT, Nat.reduceLeDiff, reduceCtorEq, eq_self, FIT, lendCs_map, verC_map, FinC, resPs, resP, lendPl, lendCs, lendC, sealC, partsT, finHs, tupT, verT, verP, verC, verB, verAt, Blk.ver, handsAre, forall_const, CHT, disj, Nat.reduceBEq, beq_self_eq_true, APT, srcOf, sealPs, sealCs, sealC, toVs, Option.map_some, List.mem_singleton, forall_eq, ALT, UFd_7, k1]
      refine callC C2 rfl rfl (by simp [closedA, closedP, closedC]) rfl ?_
      simp only [RUN, core, T.c, T.s, T.b, T.i, sBin, sInt, sUn, isShift, asInt, P1.cells, loadT, ptrC, storeT, putC, fillP, Nat.reduceAdd, reduceIte, Nat.reduceEqDiff, Nat.reduceLT, Nat.reduceLeDiff, reduceCtorEq, eq_self, FIT, lendCs_map, verC_map, FinC, resPs, resP, lendPl, lendCs, lendC, sealC, partsT, finHs, tupT, verT, verP, verC, verB, verAt, Blk.ver, handsAre, forall_const, CHT, disj, Nat.reduceBEq, beq_self_eq_true, APT, srcOf, sealPs, sealCs, sealC, toVs, Option.map_some, List.mem_singleton, forall_eq, ALT, UFd_7, Int.reduceLT]
  · have e1 : sub1 left (d.files.length + wsum wF d.files) = -1 := by rw [sub1, if_neg hA]
    rw [e1] at C1
    refine ⟨-1, .inl rfl, ACallsF.intro ok7 follows fun X c0 => ?_⟩
    simp only [RUN, core, T.c, T.s, T.b, T.i, sBin, sInt, sUn, isShift, asInt, P1.cells, loadT, ptrC, storeT, putC, fillP, Nat.reduceAdd, reduceIte, Nat.reduceEqDiff, Nat.reduceLT, Nat.reduceLeDiff, reduceCtorEq, eq_self, FIT, lendCs_map, verC_map, FinC, resPs, resP, lendPl, lendCs, lendC, sealC, partsT, finHs, tupT, verT, verP, verC, verB, verAt, Blk.ver, handsAre, forall_const, CHT, disj, Nat.reduceBEq, beq_self_eq_true, APT, srcOf, sealPs, sealCs, sealC, toVs, Option.map_some, List.mem_singleton, forall_eq, ALT, UFd_7]
    refine callC C1 rfl rfl (by simp [closedA, closedP, closedC]) rfl ?_
    simp only [RUN, core, T.c, T.s, T.b, T.i, sBin, sInt, sUn, isShift, asInt, P1.cells, loadT, ptrC, storeT, putC, fillP, Nat.reduceAdd, reduceIte, Nat.reduceEqDiff, Nat.reduceLT, Nat.reduceLeDiff, reduceCtorEq, eq_self, FIT, lendCs_map, verC_map, FinC, resPs, resP, lendPl, lendCs, lendC, sealC, partsT, finHs, tupT, verT, verP, verC, verB, verAt, Blk.ver, handsAre, forall_const, CHT, disj, Nat.reduceBEq, beq_self_eq_true, APT, srcOf, sealPs, sealCs, sealC, toVs, Option.map_some, List.mem_singleton, forall_eq, ALT, UFd_7, Int.reduceLT]
end Go.V
set_option linter.unusedSimpArgs false
namespace Go.V
open Go.Proofs
theorem push_size (r : ByteArray) (b : UInt8) : (r.push b).size = r.size + 1 := by cases r; simp [ByteArray.push, ByteArray.size]
/- loop.example/teagle/laws.eqDiskFile -/
def r114_0 : List AOper := [ao 0 2 (.box 88 (.t 0)),
  ao 1 3 (.box 88 (.t 1)),
  ao 2 4 (.mv (.k (.b false)))]
def r114_1 : List AOper := [ao 0 5 (.fa 0 (.t 2)),
  ao 1 6 (.ld 1 false (.t 5)),
  ao 2 7 (.fa 0 (.t 3)),
  ao 3 8 (.ld 1 false (.t 7)),
  ao 4 9 (.bin .neq (.t 6) (.t 8))]
def r114_2 : List AOper := [ao 0 4 (.mv (.k (.b false)))]
def c114_3 : ACode := .seq (.reg r114_2) .ret
def c114_4 : ACode := .cond (.t 9) c114_3 .skip
def c114_5 : ACode := .seq (.reg r114_1) c114_4
def r114_6 : List AOper := [ao 0 10 (.fa 1 (.t 2)),
  ao 1 11 (.ld 1 false (.t 10)),
  ao 2 12 (.fa 1 (.t 3)),
  ao 3 13 (.ld 1 false (.t 12)),
  ao 4 14 (.bin .neq (.t 11) (.t 13))]
def r114_7 : List AOper := [ao 0 4 (.mv (.k (.b false)))]
def c114_8 : ACode := .seq (.reg r114_7) .ret
def c114_9 : ACode := .cond (.t 14) c114_8 .skip
def c114_10 : ACode := .seq (.reg r114_6) c114_9
def r114_11 : List AOper := [ao 0 15 (.fa 2 (.t 2)),
  ao 1 16 (.ld 1 false (.t 15)),
  ao 2 17 (.fa 2 (.t 3)),
  ao 3 18 (.ld 1 false (.t 17)),
  ao 4 19 (.bin .neq (.t 16) (.t 18))]
def r114_12 : List AOper := [ao 0 4 (.mv (.k (.b false)))]
def c114_13 : ACode := .seq (.reg r114_12) .ret
def c114_14 : ACode := .cond (.t 19) c114_13 .skip
def c114_15 : ACode := .seq (.reg r114_11) c114_14
def r114_16 : List AOper := [ao 0 4 (.mv (.k (.b true)))]
def c114 : ACode := .seq (.reg r114_0) (.seq c114_5 (.seq c114_10 (.seq c114_15 (.seq (.reg r114_16) .ret))))
def s114 : List ARes := [.tmp 4]
theorem ok114 : okF Try.prog 114 20 c114 s114 := ⟨Try.f114, Try.func114, Try.ntmps114, by kernel_rfl, by kernel_rfl, by kernel_rfl⟩
theorem UFe_1 : (type_of% (uA c114.eq_1)) ∧ (type_of% (uR r114_0.eq_1)) ∧ (type_of% (uA c114_5.eq_1)) ∧ (type_of% (uR r114_1.eq_1)) ∧ (type_of% (uA c114_4.eq_1)) ∧ (type_of% (uA c114_3.eq_1)) ∧ (type_of% (uR r114_2.eq_1)) ∧ (type_of% (uA c114_10.eq_1)) ∧ (type_of% (uR r114_6.eq_1)) ∧ (type_of% (uA c114_9.eq_1)) ∧ (type_of% (uA c114_8.eq_1)) ∧ (type_of% (uR r114_7.eq_1)) ∧ (type_of% (uA c114_15.eq_1)) ∧ (type_of% (uR r114_11.eq_1)) ∧ (type_of% (uA c114_14.eq_1)) ∧ (type_of% (uA c114_13.eq_1)) ∧ (type_of% (uR r114_12.eq_1)) ∧ (type_of% (uR r114_16.eq_1)) ∧ (type_of% s114.eq_1) :=
  ⟨uA c114.eq_1, uR r114_0.eq_1, uA c114_5.eq_1, uR r114_1.eq_1, uA c114_4.eq_1, uA c114_3.eq_1, uR r114_2.eq_1, uA c114_10.eq_1, uR r114_6.eq_1, uA c114_9.eq_1, uA c114_8.eq_1, uR r114_7.eq_1, uA c114_15.eq_1, uR r114_11.eq_1, uA c114_14.eq_1, uA c114_13.eq_1, uR r114_12.eq_1, uR r114_16.eq_1, s114.eq_1⟩
theorem eqDF_ok (x : DF) : ACallsF Try.prog 114 [tDF x, tDF x] [] (.b true) := by
  have n0 : (x.kept != x.kept) = false := by simp
  refine ACallsF.intro ok114 follows fun X c0 => ?_
  simp only [RUN, core, T.c, T.s, T.b, T.i, sBin, sInt, sUn, isShift, asInt, P1.cells, loadT, ptrC, storeT, putC, fillP, Nat.reduceAdd, reduceIte, Nat.reduceEqDiff, Nat.reduceLT, Nat.reduceLeDiff, reduceCtorEq, eq_self, FIT, lendCs_map, verC_map, FinC, resPs, resP, lendPl, lendCs, lendC, sealC, partsT, finHs, tupT, verT, verP, verC, verB, verAt, Blk.ver, handsAre, forall_const, CHT, disj, Nat.reduceBEq, beq_self_eq_true, APT, srcOf, sealPs, sealCs, sealC, toVs, Option.map_some, List.mem_singleton, forall_eq, ALT, UFe_1, sStr, str_beq, decide_true, n0]
/- loop.example/teagle/laws.eqDiskMove -/
def r115_0 : List AOper := [ao 0 2 (.box 90 (.t 0)),
  ao 1 3 (.box 90 (.t 1)),
  ao 2 4 (.mv (.k (.b false)))]
def r115_1 : List AOper := [ao 0 5 (.fa 0 (.t 2)),
  ao 1 6 (.ld 1 false (.t 5)),
  ao 2 7 (.fa 0 (.t 3)),
  ao 3 8 (.ld 1 false (.t 7)),
  ao 4 9 (.binB .neq (.t 6) (.t 8))]
def r115_2 : List AOper := [ao 0 4 (.mv (.k (.b false)))]
def c115_3 : ACode := .seq (.reg r115_2) .ret
def c115_4 : ACode := .cond (.t 9) c115_3 .skip
def c115_5 : ACode := .seq (.reg r115_1) c115_4
def r115_6 : List AOper := [ao 0 10 (.fa 1 (.t 2)),
  ao 1 11 (.ld 1 false (.t 10)),
  ao 2 12 (.fa 1 (.t 3)),
  ao 3 13 (.ld 1 false (.t 12)),
  ao 4 14 (.bin .neq (.t 11) (.t 13))]
def r115_7 : List AOper := [ao 0 4 (.mv (.k (.b false)))]
def c115_8 : ACode := .seq (.reg r115_7) .ret
def c115_9 : ACode := .cond (.t 14) c115_8 .skip
def c115_10 : ACode := .seq (.reg r115_6) c115_9
def r115_11 : List AOper := [ao 0 4 (.mv (.k (.b true)))]
def c115 : ACode := .seq (.reg r115_0) (.seq c115_5 (.seq c115_10 (.seq (.reg r115_11) .ret)))
def s115 : List ARes := [.tmp 4]
theorem ok115 : okF Try.prog 115 15 c115 s115 := ⟨Try.f115, Try.func115, Try.ntmps115, by kernel_rfl, by kernel_rfl, by kernel_rfl⟩
theorem UFe_2 : (type_of% (uA c115.eq_1)) ∧ (type_of% (uR r115_0.eq_1)) ∧ (type_of% (uA c115_5.eq_1)) ∧ (type_of% (uR r115_1.eq_1)) ∧ (type_of% (uA c115_4.eq_1)) ∧ (type_of% (uA c115_3.eq_1)) ∧ (type_of% (uR r115_2.eq_1)) ∧ (type_of% (uA c115_10.eq_1)) ∧ (type_of% (uR r115_6.eq_1)) ∧ (type_of% (uA c115_9.eq_1)) ∧ (type_of% (uA c115_8.eq_1)) ∧ (type_of% (uR r115_7.eq_1)) ∧ (type_of% (uR r115_11.eq_1)) ∧ (type_of% s115.eq_1) :=
  ⟨uA c115.eq_1, uR r115_0.eq_1, uA c115_5.eq_1, uR r115_1.eq_1, uA c115_4.eq_1, uA c115_3.eq_1, uR r115_2.eq_1, uA c115_10.eq_1, uR r115_6.eq_1, uA c115_9.eq_1, uA c115_8.eq_1, uR r115_7.eq_1, uR r115_11.eq_1, s115.eq_1⟩
theorem eqDM_ok (x : DM) : ACallsF Try.prog 115 [tDM x, tDM x] [] (.b true) := by
  have n0 : (x.gone != x.gone) = false := by simp
  refine ACallsF.intro ok115 follows fun X c0 => ?_
  simp only [RUN, core, T.c, T.s, T.b, T.i, sBin, sInt, sUn, isShift, asInt, P1.cells, loadT, ptrC, storeT, putC, fillP, Nat.reduceAdd, reduceIte, Nat.reduceEqDiff, Nat.reduceLT, Nat.reduceLeDiff, reduceCtorEq, eq_self, FIT, lendCs_map, verC_map, FinC, resPs, resP, lendPl, lendCs, lendC, sealC, partsT, finHs, tupT, verT, verP, verC, verB, verAt, Blk.ver, handsAre, forall_const, CHT, disj, Nat.reduceBEq, beq_self_eq_true, APT, srcOf, sealPs, sealCs, sealC, toVs, Option.map_some, List.mem_singleton, forall_eq, ALT, UFe_2, sStr, str_beq, decide_true, n0]
/- loop.example/teagle/laws.eqDiskFileS -/
def r55_0 : List AOper := [ao 0 4 (.mv (.k (.b false)))]
def r55_1 : List AOper := [ao 0 6 (.mv (.t 0)),
  ao 1 7 (.len (.t 6)),
  ao 2 8 (.mv (.t 1)),
  ao 3 9 (.len (.t 8)),
  ao 4 10 (.bin .neq (.t 7) (.t 9))]
def r55_2 : List AOper := [ao 0 4 (.mv (.k (.b false)))]
def c55_3 : ACode := .seq (.reg r55_2) .ret
def c55_4 : ACode := .cond (.t 10) c55_3 .skip
def c55_5 : ACode := .seq (.reg r55_1) c55_4
def r55_6 : List AOper := [ao 0 5 (.mv (.k (.i 0)))]
def r55_7 : List AOper := [ao 0 11 (.mv (.t 5)),
  ao 1 12 (.mv (.t 0)),
  ao 2 13 (.len (.t 12)),
  ao 3 14 (.bin .lss (.t 11) (.t 13))]
def c55_8 : ACode := .cond (.t 14) .skip (.exit 0)
def c55_9 : ACode := .seq (.reg r55_7) c55_8
def r55_10 : List AOper := [ao 0 17 (.mv (.t 0)),
  au 1 18 [0] (.mv (.t 5)),
  ao 2 19 (.ia 3 (.t 17) (.t 18)),
  ao 3 20 (.ld 3 true (.t 19)),
  au 4 21 (ru 4) (.mv (.t 1)),
  au 5 22 (ru 5) (.mv (.t 5)),
  au 6 23 (ru 4) (.ia 3 (.t 21) (.t 22)),
  au 7 24 (ru 4) (.ld 3 true (.t 23)),
  ao 8 25 (.call (.k (.c (.fn 114 []))) [(.t 20), (.t 24)]),
  ao 9 26 (.un .not (.t 25))]
def r55_11 : List AOper := [ao 0 4 (.mv (.k (.b false)))]
def c55_12 : ACode := .seq (.reg r55_11) .ret
def c55_13 : ACode := .cond (.t 26) c55_12 .skip
def c55_14 : ACode := .seq (.reg r55_10) c55_13
def c55_15 : ACode := .block 1 c55_14
def r55_16 : List AOper := [ao 0 15 (.mv (.t 5)),
  ao 1 16 (.bin .add (.t 15) (.k (.i 1))),
  ao 2 5 (.mv (.t 16))]
def c55_17 : ACode := .seq c55_9 (.seq c55_15 (.reg r55_16))
def c55_18 : ACode := .loop c55_17
def c55_19 : ACode := .block 0 c55_18
def c55_20 : ACode := .seq (.reg r55_6) c55_19
def r55_21 : List AOper := [ao 0 4 (.mv (.k (.b true)))]
def c55 : ACode := .seq (.reg r55_0) (.seq c55_5 (.seq c55_20 (.seq (.reg r55_21) .ret)))
def s55 : List ARes := [.tmp 4]
theorem ok55 : okF Try.prog 55 27 c55 s55 := ⟨Try.f55, Try.func55, Try.ntmps55, by kernel_rfl, by kernel_rfl, by kernel_rfl⟩
def inv55 (xs : List DF) (i : Nat) (σ : St) : Prop := σ.t 0 = tL (en eF xs) ∧ σ.t 1 = tL (en eF xs) ∧ σ.t 5 = .i i
theorem UFe_3 : (type_of% (uA c55.eq_1)) ∧ (type_of% (uR r55_0.eq_1)) ∧ (type_of% (uA c55_5.eq_1)) ∧ (type_of% (uR r55_1.eq_1)) ∧ (type_of% (uA c55_4.eq_1)) ∧ (type_of% (uA c55_3.eq_1)) ∧ (type_of% (uR r55_2.eq_1)) ∧ (type_of% (uA c55_20.eq_1)) ∧ (type_of% (uR r55_6.eq_1)) ∧ (type_of% (uA c55_19.eq_1)) ∧ (type_of% (uA c55_18.eq_1)) ∧ (type_of% (uR r55_21.eq_1)) ∧ (type_of% s55.eq_1) :=
  ⟨uA c55.eq_1, uR r55_0.eq_1, uA c55_5.eq_1, uR r55_1.eq_1, uA c55_4.eq_1, uA c55_3.eq_1, uR r55_2.eq_1, uA c55_20.eq_1, uR r55_6.eq_1, uA c55_19.eq_1, uA c55_18.eq_1, uR r55_21.eq_1, s55.eq_1⟩
theorem UFe_8 : (type_of% (uA c55_17.eq_1)) ∧ (type_of% (uA c55_9.eq_1)) ∧ (type_of% (uR r55_7.eq_1)) ∧ (type_of% (uA c55_8.eq_1)) ∧ (type_of% (uA c55_15.eq_1)) ∧ (type_of% (uA c55_14.eq_1)) ∧ (type_of% (uR r55_10.eq_1)) ∧ (type_of% (uA c55_13.eq_1)) ∧ (type_of% (uA c55_12.eq_1)) ∧ (type_of% (uR r55_11.eq_1)) ∧ (type_of% (uR r55_16.eq_1)) ∧ (type_of% (uA c55.eq_1)) ∧ (type_of% (uR r55_0.eq_1)) ∧ (type_of% (uA c55_5.eq_1)) ∧ (type_of% (uR r55_1.eq_1)) ∧ (type_of% (uA c55_4.eq_1)) ∧ (type_of% (uA c55_3.eq_1)) ∧ (type_of% (uR r55_2.eq_1)) ∧ (type_of% (uA c55_20.eq_1)) ∧ (type_of% (uR r55_6.eq_1)) ∧ (type_of% (uA c55_19.eq_1)) ∧ (type_of% (uA c55_18.eq_1)) ∧ (type_of% (uR r55_21.eq_1)) ∧ (type_of% s55.eq_1) :=
  ⟨uA c55_17.eq_1, uA c55_9.eq_1, uR r55_7.eq_1, uA c55_8.eq_1, uA c55_15.eq_1, uA c55_14.eq_1, uR r55_10.eq_1, uA c55_13.eq_1, uA c55_12.eq_1, uR r55_11.eq_1, uR r55_16.eq_1, uA c55.eq_1, uR r55_0.eq_1, uA c55_5.eq_1, uR r55_1.eq_1, uA c55_4.eq_1, uA c55_3.eq_1, uR r55_2.eq_1, uA c55_20.eq_1, uR r55_6.eq_1, uA c55_19.eq_1, uA c55_18.eq_1, uR r55_21.eq_1, s55.eq_1⟩
theorem eqDFs_ok (xs : List DF) (hl : xs.length ≤ 9000000000000000000) : ACallsF Try.prog 55 [tL (en eF xs), tL (en eF xs)] [] (.b true) := by
  have n0 : ((xs.length : Int) != xs.length) = false := by simp
  refine ACallsF.intro ok55 follows fun X c0 => ?_
  simp only [RUN, core, T.c, T.s, T.b, T.i, sBin, sInt, sUn, isShift, asInt, P1.cells, loadT, ptrC, storeT, putC, fillP, Nat.reduceAdd, reduceIte, Nat.reduceEqDiff, Nat.reduceLT, Nat.reduceLeDiff, reduceCtorEq, eq_self, FIT, lendCs_map, verC_map, FinC, resPs, resP, lendPl, lendCs, lendC, sealC, partsT, finHs, tupT, verT, verP, verC, verB, verAt, Blk.ver, handsAre, forall_const, CHT, disj, Nat.reduceBEq, beq_self_eq_true, APT, srcOf, sealPs, sealCs, sealC, toVs, Option.map_some, List.mem_singleton, forall_eq, ALT, UFe_3, n0]
  refine AW.upto xs.length (inv55 xs) ⟨rfl, rfl, rfl⟩ fun i t H c hi h => ?_
  obtain ⟨e0, e1, e5⟩ := h
  simp only [T.c, T.i, tL] at e0 e1 e5
  by_cases hlt : i < xs.length
  · obtain ⟨x, hx⟩ : ∃ x, xs[i]? = some x := ⟨_, List.getElem?_eq_getElem hlt⟩
    have ex := en_at eF hx
    have k1 : (i : Int) < xs.length := by omega
    have gz : (0 : Int) ≤ i := by omega
    have gw : IntKind.i64.wrap ((i : Int) + 1) = ((i + 1 : Nat) : Int) := wrap64 (x := (i : Int) + 1) ⟨by omega, by omega⟩
    simp only [RUN, core, T.c, T.s, T.b, T.i, sBin, sInt, sUn, isShift, asInt, P1.cells, loadT, ptrC, storeT, putC, fillP, Nat.reduceAdd, reduceIte, Nat.reduceEqDiff, Nat.reduceLT, Nat.reduceLeDiff, reduceCtorEq, eq_self, FIT, lendCs_map, verC_map, FinC, resPs, resP, lendPl, lendCs, lendC, sealC, partsT, finHs, tupT, verT, verP, verC, verB, verAt, Blk.ver, handsAre, forall_const, CHT, disj, Nat.reduceBEq, beq_self_eq_true, APT, srcOf, sealPs, sealCs, sealC, toVs, Option.map_some, List.mem_singleton, forall_eq, ALT, UFe_8, e0, e1, e5, en_len, k1, gz, ex, eF, Int.toNat_natCast]
    refine callC (eqDF_ok x) rfl rfl (by simp [closedA, closedP, closedC]) rfl ?_
    simp only [RUN, core, T.c, T.s, T.b, T.i, sBin, sInt, sUn, isShift, asInt, P1.cells, loadT, ptrC, storeT, putC, fillP, Nat.reduceAdd, reduceIte, Nat.reduceEqDiff, Nat.reduceLT, Nat.reduceLeDiff, reduceCtorEq, eq_self, FIT, lendCs_map, verC_map, FinC, resPs, resP, lendPl, lendCs, lendC, sealC, partsT, finHs, tupT, verT, verP, verC, verB, verAt, Blk.ver, handsAre, forall_const, CHT, disj, Nat.reduceBEq, beq_self_eq_true, APT, srcOf, sealPs, sealCs, sealC, toVs, Option.map_some, List.mem_singleton, forall_eq, ALT, UFe_8, e5, gw]
    exact ⟨hlt, e0, e1, rfl⟩
  · have k1 : ¬ (i : Int) < xs.length := by omega
    simp only [RUN, core, T.c, T.s, T.b, T.i, sBin, sInt, sUn, isShift, asInt, P1.cells, loadT, ptrC, storeT, putC, fillP, Nat.reduceAdd, reduceIte, Nat.reduceEqDiff, Nat.reduceLT, Nat.reduceLeDiff, reduceCtorEq, eq_self, FIT, lendCs_map, verC_map, FinC, resPs, resP, lendPl, lendCs, lendC, sealC, partsT, finHs, tupT, verT, verP, verC, verB, verAt, Blk.ver, handsAre, forall_const, CHT, disj, Nat.reduceBEq, beq_self_eq_true, APT, srcOf, sealPs, sealCs, sealC, toVs, Option.map_some, List.mem_singleton, forall_eq, ALT, UFe_8, UFe_3, e0, e1, e5, en_len, k1]
/- loop.example/teagle/laws.eqDiskMoveS -/
def r57_0 : List AOper := [ao 0 4 (.mv (.k (.b false)))]
def r57_1 : List AOper := [ao 0 6 (.mv (.t 0)),
  ao 1 7 (.len (.t 6)),
  ao 2 8 (.mv (.t 1)),
  ao 3 9 (.len (.t 8)),
  ao 4 10 (.bin .neq (.t 7) (.t 9))]
def r57_2 : List AOper := [ao 0 4 (.mv (.k (.b false)))]
def c57_3 : ACode := .seq (.reg r57_2) .ret
def c57_4 : ACode := .cond (.t 10) c57_3 .skip
def c57_5 : ACode := .seq (.reg r57_1) c57_4
def r57_6 : List AOper := [ao 0 5 (.mv (.k (.i 0)))]
def r57_7 : List AOper := [ao 0 11 (.mv (.t 5)),
  ao 1 12 (.mv (.t 0)),
  ao 2 13 (.len (.t 12)),
  ao 3 14 (.bin .lss (.t 11) (.t 13))]
def c57_8 : ACode := .cond (.t 14) .skip (.exit 0)
def c57_9 : ACode := .seq (.reg r57_7) c57_8
def r57_10 : List AOper := [ao 0 17 (.mv (.t 0)),
  au 1 18 [0] (.mv (.t 5)),
  ao 2 19 (.ia 2 (.t 17) (.t 18)),
  ao 3 20 (.ld 2 true (.t 19)),
  au 4 21 (ru 4) (.mv (.t 1)),
  au 5 22 (ru 5) (.mv (.t 5)),
  au 6 23 (ru 4) (.ia 2 (.t 21) (.t 22)),
  au 7 24 (ru 4) (.ld 2 true (.t 23)),
  ao 8 25 (.call (.k (.c (.fn 115 []))) [(.t 20), (.t 24)]),
  ao 9 26 (.un .not (.t 25))]
def r57_11 : List AOper := [ao 0 4 (.mv (.k (.b false)))]
def c57_12 : ACode := .seq (.reg r57_11) .ret
def c57_13 : ACode := .cond (.t 26) c57_12 .skip
def c57_14 : ACode := .seq (.reg r57_10) c57_13
def c57_15 : ACode := .block 1 c57_14
def r57_16 : List AOper := [ao 0 15 (.mv (.t 5)),
  ao 1 16 (.bin .add (.t 15) (.k (.i 1))),
  ao 2 5 (.mv (.t 16))]
def c57_17 : ACode := .seq c57_9 (.seq c57_15 (.reg r57_16))
def c57_18 : ACode := .loop c57_17
def c57_19 : ACode := .block 0 c57_18
def c57_20 : ACode := .seq (.reg r57_6) c57_19
def r57_21 : List AOper := [ao 0 4 (.mv (.k (.b true)))]
def c57 : ACode := .seq (.reg r57_0) (.seq c57_5 (.seq c57_20 (.seq (.reg r57_21) .ret)))
def s57 : List ARes := [.tmp 4]
theorem ok57 : okF Try.prog 57 27 c57 s57 := ⟨Try.f57, Try.func57, Try.ntmps57, by kernel_rfl, by kernel_rfl, by kernel_rfl⟩
def inv57 (xs : List DM) (i : Nat) (σ : St) : Prop := σ.t 0 = tL (en eM xs) ∧ σ.t 1 = tL (en eM xs) ∧ σ.t 5 = .i i
theorem UFe_4 : (type_of% (uA c57.eq_1)) ∧ (type_of% (uR r57_0.eq_1)) ∧ (type_of% (uA c57_5.eq_1)) ∧ (type_of% (uR r57_1.eq_1)) ∧ (type_of% (uA c57_4.eq_1)) ∧ (type_of% (uA c57_3.eq_1)) ∧ (type_of% (uR r57_2.eq_1)) ∧ (type_of% (uA c57_20.eq_1)) ∧ (type_of% (uR r57_6.eq_1)) ∧ (type_of% (uA c57_19.eq_1)) ∧ (type_of% (uA c57_18.eq_1)) ∧ (type_of% (uR r57_21.eq_1)) ∧ (type_of% s57.eq_1) :=
  ⟨uA c57.eq_1, uR r57_0.eq_1, uA c57_5.eq_1, uR r57_1.eq_1, uA c57_4.eq_1, uA c57_3.eq_1, uR r57_2.eq_1, uA c57_20.eq_1, uR r57_6.eq_1, uA c57_19.eq_1, uA c57_18.eq_1, uR r57_21.eq_1, s57.eq_1⟩
theorem UFe_9 : (type_of% (uA c57_17.eq_1)) ∧ (type_of% (uA c57_9.eq_1)) ∧ (type_of% (uR r57_7.eq_1)) ∧ (type_of% (uA c57_8.eq_1)) ∧ (type_of% (uA c57_15.eq_1)) ∧ (type_of% (uA c57_14.eq_1)) ∧ (type_of% (uR r57_10.eq_1)) ∧ (type_of% (uA c57_13.eq_1)) ∧ (type_of% (uA c57_12.eq_1)) ∧ (type_of% (uR r57_11.eq_1)) ∧ (type_of% (uR r57_16.eq_1)) ∧ (type_of% (uA c57.eq_1)) ∧ (type_of% (uR r57_0.eq_1)) ∧ (type_of% (uA c57_5.eq_1)) ∧ (type_of% (uR r57_1.eq_1)) ∧ (type_of% (uA c57_4.eq_1)) ∧ (type_of% (uA c57_3.eq_1)) ∧ (type_of% (uR r57_2.eq_1)) ∧ (type_of% (uA c57_20.eq_1)) ∧ (type_of% (uR r57_6.eq_1)) ∧ (type_of% (uA c57_19.eq_1)) ∧ (type_of% (uA c57_18.eq_1)) ∧ (type_of% (uR r57_21.eq_1)) ∧ (type_of% s57.eq_1) :=
  ⟨uA c57_17.eq_1, uA c57_9.eq_1, uR r57_7.eq_1, uA c57_8.eq_1, uA c57_15.eq_1, uA c57_14.eq_1, uR r57_10.eq_1, uA c57_13.eq_1, uA c57_12.eq_1, uR r57_11.eq_1, uR r57_16.eq_1, uA c57.eq_1, uR r57_0.eq_1, uA c57_5.eq_1, uR r57_1.eq_1, uA c57_4.eq_1, uA c57_3.eq_1, uR r57_2.eq_1, uA c57_20.eq_1, uR r57_6.eq_1, uA c57_19.eq_1, uA c57_18.eq_1, uR r57_21.eq_1, s57.eq_1⟩
theorem eqDMs_ok (xs : List DM) (hl : xs.length ≤ 9000000000000000000) : ACallsF Try.prog 57 [tL (en eM xs), tL (en eM xs)] [] (.b true) := by
  have n0 : ((xs.length : Int) != xs.length) = false := by simp
  refine ACallsF.intro ok57 follows fun X c0 => ?_
  simp only [RUN, core, T.c, T.s, T.b, T.i, sBin, sInt, sUn, isShift, asInt, P1.cells, loadT, ptrC, storeT, putC, fillP, Nat.reduceAdd, reduceIte, Nat.reduceEqDiff, Nat.reduceLT, Nat.reduceLeDiff, reduceCtorEq, eq_self, FIT, lendCs_map, verC_map, FinC, resPs, resP, lendPl, lendCs, lendC, sealC, partsT, finHs, tupT, verT, verP, verC, verB, verAt, Blk.ver, handsAre, forall_const, CHT, disj, Nat.reduceBEq, beq_self_eq_true, APT, srcOf, sealPs, sealCs, sealC, toVs, Option.map_some, List.mem_singleton, forall_eq, ALT, UFe_4, n0]
  refine AW.upto xs.length (inv57 xs) ⟨rfl, rfl, rfl⟩ fun i t H c hi h => ?_
  obtain ⟨e0, e1, e5⟩ := h
  simp only [T.c, T.i, tL] at e0 e1 e5
  by_cases hlt : i < xs.length
  · obtain ⟨x, hx⟩ : ∃ x, xs[i]? = some x := ⟨_, List.getElem?_eq_getElem hlt⟩
    have ex := en_at eM hx
    have k1 : (i : Int) < xs.length := by omega
    have gz : (0 : Int) ≤ i := by omega
    have gw : IntKind.i64.wrap ((i : Int) + 1) = ((i + 1 : Nat) : Int) := wrap64 (x := (i : Int) + 1) ⟨by omega, by omega⟩
    simp only [RUN, core, T.c, T.s, T.b, T.i, sBin, sInt, sUn, isShift, asInt, P1.cells, loadT, ptrC, storeT, putC, fillP, Nat.reduceAdd, reduceIte, Nat.reduceEqDiff, Nat.reduceLT, Nat.reduceLeDiff, reduceCtorEq, eq_self, FIT, lendCs_map, verC_map, FinC, resPs, resP, lendPl, lendCs, lendC, sealC, partsT, finHs, tupT, verT, verP, verC, verB, verAt, Blk.ver, handsAre, forall_const, CHT, disj, Nat.reduceBEq, beq_self_eq_true, APT, srcOf, sealPs, sealCs, sealC, toVs, Option.map_some, List.mem_singleton, forall_eq, ALT, UFe_9, e0, e1, e5, en_len, k1, gz, ex, eM, Int.toNat_natCast]
    refine callC (eqDM_ok x) rfl rfl (by simp [closedA, closedP, closedC]) rfl ?_
    simp only [RUN, core, T.c, T.s, T.b, T.i, sBin, sInt, sUn, isShift, asInt, P1.cells, loadT, ptrC, storeT, putC, fillP, Nat.reduceAdd, reduceIte, Nat.reduceEqDiff, Nat.reduceLT, Nat.reduceLeDiff, reduceCtorEq, eq_self, FIT, lendCs_map, verC_map, FinC, resPs, resP, lendPl, lendCs, lendC, sealC, partsT, finHs, tupT, verT, verP, verC, verB, verAt, Blk.ver, handsAre, forall_const, CHT, disj, Nat.reduceBEq, beq_self_eq_true, APT, srcOf, sealPs, sealCs, sealC, toVs, Option.map_some, List.mem_singleton, forall_eq, ALT, UFe_9, e5, gw]
    exact ⟨hlt, e0, e1, rfl⟩
  · have k1 : ¬ (i : Int) < xs.length := by omega
    simp only [RUN, core, T.c, T.s, T.b, T.i, sBin, sInt, sUn, isShift, asInt, P1.cells, loadT, ptrC, storeT, putC, fillP, Nat.reduceAdd, reduceIte, Nat.reduceEqDiff, Nat.reduceLT, Nat.reduceLeDiff, reduceCtorEq, eq_self, FIT, lendCs_map, verC_map, FinC, resPs, resP, lendPl, lendCs, lendC, sealC, partsT, finHs, tupT, verT, verP, verC, verB, verAt, Blk.ver, handsAre, forall_const, CHT, disj, Nat.reduceBEq, beq_self_eq_true, APT, srcOf, sealPs, sealCs, sealC, toVs, Option.map_some, List.mem_singleton, forall_eq, ALT, UFe_9, UFe_4, e0, e1, e5, en_len, k1]
/- loop.example/teagle/laws.eqStringS -/
def r56_0 : List AOper := [ao 0 4 (.mv (.k (.b false)))]
def r56_1 : List AOper := [ao 0 6 (.mv (.t 0)),
  ao 1 7 (.len (.t 6)),
  ao 2 8 (.mv (.t 1)),
  ao 3 9 (.len (.t 8)),
  ao 4 10 (.bin .neq (.t 7) (.t 9))]
def r56_2 : List AOper := [ao 0 4 (.mv (.k (.b false)))]
def c56_3 : ACode := .seq (.reg r56_2) .ret
def c56_4 : ACode := .cond (.t 10) c56_3 .skip
def c56_5 : ACode := .seq (.reg r56_1) c56_4
def r56_6 : List AOper := [ao 0 5 (.mv (.k (.i 0)))]
def r56_7 : List AOper := [ao 0 11 (.mv (.t 5)),
  ao 1 12 (.mv (.t 0)),
  ao 2 13 (.len (.t 12)),
  ao 3 14 (.bin .lss (.t 11) (.t 13))]
def c56_8 : ACode := .cond (.t 14) .skip (.exit 0)
def c56_9 : ACode := .seq (.reg r56_7) c56_8
def r56_10 : List AOper := [ao 0 17 (.mv (.t 0)),
  au 1 18 [0] (.mv (.t 5)),
  ao 2 19 (.ia 1 (.t 17) (.t 18)),
  ao 3 20 (.ld 1 false (.t 19)),
  au 4 21 (ru 4) (.mv (.t 1)),
  au 5 22 (ru 5) (.mv (.t 5)),
  au 6 23 (ru 4) (.ia 1 (.t 21) (.t 22)),
  au 7 24 (ru 4) (.ld 1 false (.t 23)),
  ao 8 25 (.bin .neq (.t 20) (.t 24))]
def r56_11 : List AOper := [ao 0 4 (.mv (.k (.b false)))]
def c56_12 : ACode := .seq (.reg r56_11) .ret
def c56_13 : ACode := .cond (.t 25) c56_12 .skip
def c56_14 : ACode := .seq (.reg r56_10) c56_13
def c56_15 : ACode := .block 1 c56_14
def r56_16 : List AOper := [ao 0 15 (.mv (.t 5)),
  ao 1 16 (.bin .add (.t 15) (.k (.i 1))),
  ao 2 5 (.mv (.t 16))]
def c56_17 : ACode := .seq c56_9 (.seq c56_15 (.reg r56_16))
def c56_18 : ACode := .loop c56_17
def c56_19 : ACode := .block 0 c56_18
def c56_20 : ACode := .seq (.reg r56_6) c56_19
def r56_21 : List AOper := [ao 0 4 (.mv (.k (.b true)))]
def c56 : ACode := .seq (.reg r56_0) (.seq c56_5 (.seq c56_20 (.seq (.reg r56_21) .ret)))
def s56 : List ARes := [.tmp 4]
theorem ok56 : okF Try.prog 56 26 c56 s56 := ⟨Try.f56, Try.func56, Try.ntmps56, by kernel_rfl, by kernel_rfl, by kernel_rfl⟩
def inv56 (xs : List ByteArray) (i : Nat) (σ : St) : Prop := σ.t 0 = tL (en eS xs) ∧ σ.t 1 = tL (en eS xs) ∧ σ.t 5 = .i i
theorem UFe_5 : (type_of% (uA c56.eq_1)) ∧ (type_of% (uR r56_0.eq_1)) ∧ (type_of% (uA c56_5.eq_1)) ∧ (type_of% (uR r56_1.eq_1)) ∧ (type_of% (uA c56_4.eq_1)) ∧ (type_of% (uA c56_3.eq_1)) ∧ (type_of% (uR r56_2.eq_1)) ∧ (type_of% (uA c56_20.eq_1)) ∧ (type_of% (uR r56_6.eq_1)) ∧ (type_of% (uA c56_19.eq_1)) ∧ (type_of% (uA c56_18.eq_1)) ∧ (type_of% (uR r56_21.eq_1)) ∧ (type_of% s56.eq_1) :=
  ⟨uA c56.eq_1, uR r56_0.eq_1, uA c56_5.eq_1, uR r56_1.eq_1, uA c56_4.eq_1, uA c56_3.eq_1, uR r56_2.eq_1, uA c56_20.eq_1, uR r56_6.eq_1, uA c56_19.eq_1, uA c56_18.eq_1, uR r56_21.eq_1, s56.eq_1⟩
theorem UFe_10 : (type_of% (uA c56_17.eq_1)) ∧ (type_of% (uA c56_9.eq_1)) ∧ (type_of% (uR r56_7.eq_1)) ∧ (type_of% (uA c56_8.eq_1)) ∧ (type_of% (uA c56_15.eq_1)) ∧ (type_of% (uA c56_14.eq_1)) ∧ (type_of% (uR r56_10.eq_1)) ∧ (type_of% (uA c56_13.eq_1)) ∧ (type_of% (uA c56_12.eq_1)) ∧ (type_of% (uR r56_11.eq_1)) ∧ (type_of% (uR r56_16.eq_1)) ∧ (type_of% (uA c56.eq_1)) ∧ (type_of% (uR r56_0.eq_1)) ∧ (type_of% (uA c56_5.eq_1)) ∧ (type_of% (uR r56_1.eq_1)) ∧ (type_of% (uA c56_4.eq_1)) ∧ (type_of% (uA c56_3.eq_1)) ∧ (type_of% (uR r56_2.eq_1)) ∧ (type_of% (uA c56_20.eq_1)) ∧ (type_of% (uR r56_6.eq_1)) ∧ (type_of% (uA c56_19.eq_1)) ∧ (type_of% (uA c56_18.eq_1)) ∧ (type_of% (uR r56_21.eq_1)) ∧ (type_of% s56.eq_1) :=
  ⟨uA c56_17.eq_1, uA c56_9.eq_1, uR r56_7.eq_1, uA c56_8.eq_1, uA c56_15.eq_1, uA c56_14.eq_1, uR r56_10.eq_1, uA c56_13.eq_1, uA c56_12.eq_1, uR r56_11.eq_1, uR r56_16.eq_1, uA c56.eq_1, uR r56_0.eq_1, uA c56_5.eq_1, uR r56_1.eq_1, uA c56_4.eq_1, uA c56_3.eq_1, uR r56_2.eq_1, uA c56_20.eq_1, uR r56_6.eq_1, uA c56_19.eq_1, uA c56_18.eq_1, uR r56_21.eq_1, s56.eq_1⟩
theorem eqSs_ok (xs : List ByteArray) (hl : xs.length ≤ 9000000000000000000) : ACallsF Try.prog 56 [tL (en eS xs), tL (en eS xs)] [] (.b true) := by
  have n0 : ((xs.length : Int) != xs.length) = false := by simp
  refine ACallsF.intro ok56 follows fun X c0 => ?_
  simp only [RUN, core, T.c, T.s, T.b, T.i, sBin, sInt, sUn, isShift, asInt, P1.cells, loadT, ptrC, storeT, putC, fillP, Nat.reduceAdd, reduceIte, Nat.reduceEqDiff, Nat.reduceLT, Nat.reduceLeDiff, reduceCtorEq, eq_self, FIT, lendCs_map, verC_map, FinC, resPs, resP, lendPl, lendCs, lendC, sealC, partsT, finHs, tupT, verT, verP, verC, verB, verAt, Blk.ver, handsAre, forall_const, CHT, disj, Nat.reduceBEq, beq_self_eq_true, APT, srcOf, sealPs, sealCs, sealC, toVs, Option.map_some, List.mem_singleton, forall_eq, ALT, UFe_5, n0]
  refine AW.upto xs.length (inv56 xs) ⟨rfl, rfl, rfl⟩ fun i t H c hi h => ?_
  obtain ⟨e0, e1, e5⟩ := h
  simp only [T.c, T.i, tL] at e0 e1 e5
  by_cases hlt : i < xs.length
  · obtain ⟨x, hx⟩ : ∃ x, xs[i]? = some x := ⟨_, List.getElem?_eq_getElem hlt⟩
    have ex := en_at eS hx
    have k1 : (i : Int) < xs.length := by omega
    have gz : (0 : Int) ≤ i := by omega
    have gw : IntKind.i64.wrap ((i : Int) + 1) = ((i + 1 : Nat) : Int) := wrap64 (x := (i : Int) + 1) ⟨by omega, by omega⟩
    simp only [RUN, core, T.c, T.s, T.b, T.i, sBin, sInt, sUn, isShift, asInt, P1.cells, loadT, ptrC, storeT, putC, fillP, Nat.reduceAdd, reduceIte, Nat.reduceEqDiff, Nat.reduceLT, Nat.reduceLeDiff, reduceCtorEq, eq_self, FIT, lendCs_map, verC_map, FinC, resPs, resP, lendPl, lendCs, lendC, sealC, partsT, finHs, tupT, verT, verP, verC, verB, verAt, Blk.ver, handsAre, forall_const, CHT, disj, Nat.reduceBEq, beq_self_eq_true, APT, srcOf, sealPs, sealCs, sealC, toVs, Option.map_some, List.mem_singleton, forall_eq, ALT, UFe_10, e0, e1, e5, en_len, k1, gz, ex, eS, Int.toNat_natCast, sStr, str_beq, decide_true, gw]
    exact ⟨hlt, e0, e1, rfl⟩
  · have k1 : ¬ (i : Int) < xs.length := by omega
    simp only [RUN, core, T.c, T.s, T.b, T.i, sBin, sInt, sUn, isShift, asInt, P1.cells, loadT, ptrC, storeT, putC, fillP, Nat.reduceAdd, reduceIte, Nat.reduceEqDiff, Nat.reduceLT, Nat.reduceLeDiff, reduceCtorEq, eq_self, FIT, lendCs_map, verC_map, FinC, resPs, resP, lendPl, lendCs, lendC, sealC, partsT, finHs, tupT, verT, verP, verC, verB, verAt, Blk.ver, handsAre, forall_const, CHT, disj, Nat.reduceBEq, beq_self_eq_true, APT, srcOf, sealPs, sealCs, sealC, toVs, Option.map_some, List.mem_singleton, forall_eq, ALT, UFe_10, UFe_5, e0, e1, e5, en_len, k1]
/- loop.example/teagle/laws.eqDisk -/
def r13_0 : List AOper := [ao 0 2 (.box 34 (.t 0)),
  ao 1 3 (.box 34 (.t 1)),
  ao 2 4 (.mv (.k (.b false)))]
def r13_1 : List AOper := [ao 0 5 (.fa 0 (.t 2)),
  ao 1 6 (.ld 1 false (.t 5)),
  ao 2 7 (.fa 0 (.t 3)),
  ao 3 8 (.ld 1 false (.t 7)),
  ao 4 9 (.call (.k (.c (.fn 55 []))) [(.t 6), (.t 8)]),
  ao 5 10 (.un .not (.t 9))]
def r13_2 : List AOper := [ao 0 4 (.mv (.k (.b false)))]
def c13_3 : ACode := .seq (.reg r13_2) .ret
def c13_4 : ACode := .cond (.t 10) c13_3 .skip
def c13_5 : ACode := .seq (.reg r13_1) c13_4
def r13_6 : List AOper := [ao 0 11 (.fa 1 (.t 2)),
  ao 1 12 (.ld 1 false (.t 11)),
  ao 2 13 (.fa 1 (.t 3)),
  ao 3 14 (.ld 1 false (.t 13)),
  ao 4 15 (.call (.k (.c (.fn 56 []))) [(.t 12), (.t 14)]),
  ao 5 16 (.un .not (.t 15))]
def r13_7 : List AOper := [ao 0 4 (.mv (.k (.b false)))]
def c13_8 : ACode := .seq (.reg r13_7) .ret
def c13_9 : ACode := .cond (.t 16) c13_8 .skip
def c13_10 : ACode := .seq (.reg r13_6) c13_9
def r13_11 : List AOper := [ao 0 17 (.fa 2 (.t 2)),
  ao 1 18 (.ld 1 false (.t 17)),
  ao 2 19 (.fa 2 (.t 3)),
  ao 3 20 (.ld 1 false (.t 19)),
  ao 4 21 (.call (.k (.c (.fn 57 []))) [(.t 18), (.t 20)]),
  ao 5 22 (.un .not (.t 21))]
def r13_12 : List AOper := [ao 0 4 (.mv (.k (.b false)))]
def c13_13 : ACode := .seq (.reg r13_12) .ret
def c13_14 : ACode := .cond (.t 22) c13_13 .skip
def c13_15 : ACode := .seq (.reg r13_11) c13_14
def r13_16 : List AOper := [ao 0 4 (.mv (.k (.b true)))]
def c13 : ACode := .seq (.reg r13_0) (.seq c13_5 (.seq c13_10 (.seq c13_15 (.seq (.reg r13_16) .ret))))
def s13 : List ARes := [.tmp 4]
theorem ok13 : okF Try.prog 13 23 c13 s13 := ⟨Try.f13, Try.func13, Try.ntmps13, by kernel_rfl, by kernel_rfl, by kernel_rfl⟩
theorem UFe_6 : (type_of% (uA c13.eq_1)) ∧ (type_of% (uR r13_0.eq_1)) ∧ (type_of% (uA c13_5.eq_1)) ∧ (type_of% (uR r13_1.eq_1)) ∧ (type_of% (uA c13_4.eq_1)) ∧ (type_of% (uA c13_3.eq_1)) ∧ (type_of% (uR r13_2.eq_1)) ∧ (type_of% (uA c13_10.eq_1)) ∧ (type_of% (uR r13_6.eq_1)) ∧ (type_of% (uA c13_9.eq_1)) ∧ (type_of% (uA c13_8.eq_1)) ∧ (type_of% (uR r13_7.eq_1)) ∧ (type_of% (uA c13_15.eq_1)) ∧ (type_of% (uR r13_11.eq_1)) ∧ (type_of% (uA c13_14.eq_1)) ∧ (type_of% (uA c13_13.eq_1)) ∧ (type_of% (uR r13_12.eq_1)) ∧ (type_of% (uR r13_16.eq_1)) ∧ (type_of% s13.eq_1) :=
  ⟨uA c13.eq_1, uR r13_0.eq_1, uA c13_5.eq_1, uR r13_1.eq_1, uA c13_4.eq_1, uA c13_3.eq_1, uR r13_2.eq_1, uA c13_10.eq_1, uR r13_6.eq_1, uA c13_9.eq_1, uA c13_8.eq_1, uR r13_7.eq_1, uA c13_15.eq_1, uR r13_11.eq_1, uA c13_14.eq_1, uA c13_13.eq_1, uR r13_12.eq_1, uR r13_16.eq_1, s13.eq_1⟩
theorem eqDk_ok (d : Dk) (hd : smallDk d) : ACallsF Try.prog 13 [tDk d, tDk d] [] (.b true) := by
  refine ACallsF.intro ok13 follows fun X c0 => ?_
  simp only [RUN, core, T.c, T.s, T.b, T.i, sBin, sInt, sUn, isShift, asInt, P1.cells, loadT, ptrC, storeT, putC, fillP, Nat.reduceAdd, reduceIte, Nat.reduceEqDiff, Nat.reduceLT, Nat.reduceLeDiff, reduceCtorEq, eq_self, FIT, lendCs_map, verC_map, FinC, resPs, resP, lendPl, lendCs, lendC, sealC, partsT, finHs, tupT, verT, verP, verC, verB, verAt, Blk.ver, handsAre, forall_const, CHT, disj, Nat.reduceBEq, beq_self_eq_true, APT, srcOf, sealPs, sealCs, sealC, toVs, Option.map_some, List.mem_singleton, forall_eq, ALT, UFe_6]
  refine callC (eqDFs_ok d.files (by have := hd.f; omega)) rfl rfl rfl rfl ?_
  simp only [RUN, core, T.c, T.s, T.b, T.i, sBin, sInt, sUn, isShift, asInt, P1.cells, loadT, ptrC, storeT, putC, fillP, Nat.reduceAdd, reduceIte, Nat.reduceEqDiff, Nat.reduceLT, Nat.reduceLeDiff, reduceCtorEq, eq_self, FIT, lendCs_map, verC_map, FinC, resPs, resP, lendPl, lendCs, lendC, sealC, partsT, finHs, tupT, verT, verP, verC, verB, verAt, Blk.ver, handsAre, forall_const, CHT, disj, Nat.reduceBEq, beq_self_eq_true, APT, srcOf, sealPs, sealCs, sealC, toVs, Option.map_some, List.mem_singleton, forall_eq, ALT, UFe_6]
  refine callC (eqSs_ok d.names (by have := hd.n; omega)) rfl rfl rfl rfl ?_
  simp only [RUN, core, T.c, T.s, T.b, T.i, sBin, sInt, sUn, isShift, asInt, P1.cells, loadT, ptrC, storeT, putC, fillP, Nat.reduceAdd, reduceIte, Nat.reduceEqDiff, Nat.reduceLT, Nat.reduceLeDiff, reduceCtorEq, eq_self, FIT, lendCs_map, verC_map, FinC, resPs, resP, lendPl, lendCs, lendC, sealC, partsT, finHs, tupT, verT, verP, verC, verB, verAt, Blk.ver, handsAre, forall_const, CHT, disj, Nat.reduceBEq, beq_self_eq_true, APT, srcOf, sealPs, sealCs, sealC, toVs, Option.map_some, List.mem_singleton, forall_eq, ALT, UFe_6]
  refine callC (eqDMs_ok d.moves (by have := hd.m; omega)) rfl rfl rfl rfl ?_
  simp only [RUN, core, T.c, T.s, T.b, T.i, sBin, sInt, sUn, isShift, asInt, P1.cells, loadT, ptrC, storeT, putC, fillP, Nat.reduceAdd, reduceIte, Nat.reduceEqDiff, Nat.reduceLT, Nat.reduceLeDiff, reduceCtorEq, eq_self, FIT, lendCs_map, verC_map, FinC, resPs, resP, lendPl, lendCs, lendC, sealC, partsT, finHs, tupT, verT, verP, verC, verB, verAt, Blk.ver, handsAre, forall_const, CHT, disj, Nat.reduceBEq, beq_self_eq_true, APT, srcOf, sealPs, sealCs, sealC, toVs, Option.map_some, List.mem_singleton, forall_eq, ALT, UFe_6]
/- loop.example/teagle/laws.markText -/
def r70_0 : List AOper := [ao 0 2 (.mv (.k (.s (.string ⟨#[]⟩))))]
def r70_1 : List AOper := [ao 0 4 (.mv (.t 0)),
  ao 1 5 (.bin .leq (.t 4) (.k (.i 0)))]
def r70_2 : List AOper := [ao 0 2 (.mv (.k (.s (.string ⟨#[109, 48]⟩))))]
def c70_3 : ACode := .seq (.reg r70_2) .ret
def c70_4 : ACode := .cond (.t 5) c70_3 .skip
def c70_5 : ACode := .seq (.reg r70_1) c70_4
def r70_6 : List AOper := [ao 0 3 (.mv (.k (.s (.string ⟨#[]⟩))))]
def r70_7 : List AOper := [ao 0 6 (.mv (.t 0)),
  ao 1 7 (.bin .gtr (.t 6) (.k (.i 0)))]
def c70_8 : ACode := .cond (.t 7) .skip (.exit 0)
def c70_9 : ACode := .seq (.reg r70_7) c70_8
def r70_10 : List AOper := [ao 0 8 (.mv (.t 0)),
  ao 1 9 (.bin .rem (.t 8) (.k (.i 10))),
  ao 2 10 (.bin .add (.k (.i 48)) (.t 9)),
  ao 3 11 (.cnvI .u8 (.t 10)),
  ao 4 12 (.bsl 1 5 [(.t 11)]),
  ao 5 13 (.cnvBS (.t 12)),
  ao 6 14 (.mv (.t 3)),
  ao 7 15 (.bin .add (.t 13) (.t 14)),
  ao 8 3 (.mv (.t 15))]
def r70_11 : List AOper := [ao 0 16 (.mv (.t 0)),
  ao 1 17 (.bin .quo (.t 16) (.k (.i 10))),
  ao 2 0 (.mv (.t 17))]
def c70_12 : ACode := .seq (.reg r70_10) (.reg r70_11)
def c70_13 : ACode := .block 1 c70_12
def c70_14 : ACode := .seq c70_9 c70_13
def c70_15 : ACode := .loop c70_14
def c70_16 : ACode := .block 0 c70_15
def r70_17 : List AOper := [ao 0 18 (.mv (.t 3)),
  ao 1 19 (.bin .add (.k (.s (.string ⟨#[109]⟩))) (.t 18)),
  ao 2 2 (.mv (.t 19))]
def c70 : ACode := .seq (.reg r70_0) (.seq c70_5 (.seq (.reg r70_6) (.seq c70_16 (.seq (.reg r70_17) .ret))))
def s70 : List ARes := [.tmp 2]
theorem ok70 : okF Try.prog 70 20 c70 s70 := ⟨Try.f70, Try.func70, Try.ntmps70, by kernel_rfl, by kernel_rfl, by kernel_rfl⟩
/-- How far the text of a mark is written. -/
def mtI (k : Nat) : Nat → Nat × ByteArray
  | 0 => (k, ⟨#[]⟩)
  | i + 1 => ((mtI k i).1 / 10, pushB [IntKind.u8.wrap (48 + (((mtI k i).1 % 10 : Nat) : Int))] ++ (mtI k i).2)
theorem mtI_size (k : Nat) : ∀ i, (mtI k i).2.size = i
  | 0 => rfl
  | i + 1 => by
    have hsz : ∀ x : Int, (pushB [x]).size = 1 := fun x => by rw [pushB, List.foldl_cons, List.foldl_nil, push_size]; rfl
    rw [mtI, ByteArray.size_append, hsz, mtI_size k i]; omega
theorem mtI_le (k : Nat) : ∀ i, (mtI k i).1 ≤ k
  | 0 => Nat.le_refl _
  | i + 1 => by have := mtI_le k i; simp only [mtI]; omega
theorem mtI_fall (k : Nat) : ∀ i, (mtI k i).1 * 10 ^ i ≤ k
  | 0 => by simp [mtI]
  | i + 1 => by
    have := mtI_fall k i
    simp only [mtI]
    have h : (mtI k i).1 / 10 * 10 ≤ (mtI k i).1 := Nat.div_mul_le_self _ _
    calc (mtI k i).1 / 10 * 10 ^ (i + 1) = (mtI k i).1 / 10 * 10 * 10 ^ i := by rw [Nat.pow_succ, Nat.mul_comm (10 ^ i) 10, Nat.mul_assoc]
      _ ≤ (mtI k i).1 * 10 ^ i := Nat.mul_le_mul_right _ h
      _ ≤ k := this
def inv70 (k N : Nat) (i : Nat) (σ : St) : Prop := (∀ j, j < i → (mtI k j).1 ≠ 0) ∧ i ≤ N ∧ σ.t 0 = .i (mtI k i).1 ∧ σ.t 3 = tS (mtI k i).2
def mtG (k : Nat) : Nat → Nat → Nat
  | 0, i => i
  | f + 1, i => if (mtI k i).1 = 0 then i else mtG k f (i + 1)
theorem mtG_ok (k : Nat) : ∀ f i, (mtI k (i + f)).1 = 0 → (mtI k (mtG k f i)).1 = 0 ∧ (∀ j, i ≤ j → j < mtG k f i → (mtI k j).1 ≠ 0) ∧ mtG k f i ≤ i + f
  | 0, i, h => ⟨h, fun j h1 h2 => absurd h2 (by simp only [mtG]; omega), Nat.le_refl _⟩
  | f + 1, i, h => by
    by_cases h0 : (mtI k i).1 = 0
    · simp only [mtG, if_pos h0]; exact ⟨h0, fun j h1 h2 => by omega, by omega⟩
    · simp only [mtG, if_neg h0]
      obtain ⟨g1, g2, g3⟩ := mtG_ok k f (i + 1) (by rw [show i + 1 + f = i + (f + 1) by omega]; exact h)
      refine ⟨g1, fun j h1 h2 => ?_, by omega⟩
      rcases Nat.eq_or_lt_of_le h1 with rfl | h1
      · exact h0
      · exact g2 j h1 h2
/-- The text of a mark. -/
def mt (k : Nat) : ByteArray := ⟨#[109]⟩ ++ (mtI k (mtG k 9 0)).2
theorem UFe_7 : (type_of% (uA c70.eq_1)) ∧ (type_of% (uR r70_0.eq_1)) ∧ (type_of% (uA c70_5.eq_1)) ∧ (type_of% (uR r70_1.eq_1)) ∧ (type_of% (uA c70_4.eq_1)) ∧ (type_of% (uA c70_3.eq_1)) ∧ (type_of% (uR r70_2.eq_1)) ∧ (type_of% (uR r70_6.eq_1)) ∧ (type_of% (uA c70_16.eq_1)) ∧ (type_of% (uA c70_15.eq_1)) ∧ (type_of% (uR r70_17.eq_1)) ∧ (type_of% s70.eq_1) :=
  ⟨uA c70.eq_1, uR r70_0.eq_1, uA c70_5.eq_1, uR r70_1.eq_1, uA c70_4.eq_1, uA c70_3.eq_1, uR r70_2.eq_1, uR r70_6.eq_1, uA c70_16.eq_1, uA c70_15.eq_1, uR r70_17.eq_1, s70.eq_1⟩
theorem UFe_11 : (type_of% (uA c70_14.eq_1)) ∧ (type_of% (uA c70_9.eq_1)) ∧ (type_of% (uR r70_7.eq_1)) ∧ (type_of% (uA c70_8.eq_1)) ∧ (type_of% (uA c70_13.eq_1)) ∧ (type_of% (uA c70_12.eq_1)) ∧ (type_of% (uR r70_10.eq_1)) ∧ (type_of% (uR r70_11.eq_1)) ∧ (type_of% (uA c70.eq_1)) ∧ (type_of% (uR r70_0.eq_1)) ∧ (type_of% (uA c70_5.eq_1)) ∧ (type_of% (uR r70_1.eq_1)) ∧ (type_of% (uA c70_4.eq_1)) ∧ (type_of% (uA c70_3.eq_1)) ∧ (type_of% (uR r70_2.eq_1)) ∧ (type_of% (uR r70_6.eq_1)) ∧ (type_of% (uA c70_16.eq_1)) ∧ (type_of% (uA c70_15.eq_1)) ∧ (type_of% (uR r70_17.eq_1)) ∧ (type_of% s70.eq_1) :=
  ⟨uA c70_14.eq_1, uA c70_9.eq_1, uR r70_7.eq_1, uA c70_8.eq_1, uA c70_13.eq_1, uA c70_12.eq_1, uR r70_10.eq_1, uR r70_11.eq_1, uA c70.eq_1, uR r70_0.eq_1, uA c70_5.eq_1, uR r70_1.eq_1, uA c70_4.eq_1, uA c70_3.eq_1, uR r70_2.eq_1, uR r70_6.eq_1, uA c70_16.eq_1, uA c70_15.eq_1, uR r70_17.eq_1, s70.eq_1⟩
theorem mark_ok (k : Nat) (h1 : 1 ≤ k) (h2 : k ≤ 100000000) : ACallsF Try.prog 70 [.i k] [] (tS (mt k)) := by
  have h0 : (mtI k 9).1 = 0 := by
    have := mtI_fall k 9
    by_cases h : (mtI k 9).1 = 0
    · exact h
    · have : 1 * 10 ^ 9 ≤ (mtI k 9).1 * 10 ^ 9 := Nat.mul_le_mul_right _ (by omega)
      omega
  obtain ⟨hN, hmin, hN9⟩ := mtG_ok k 9 0 h0
  unfold mt
  generalize mtG k 9 0 = N at *
  have hsz : ∀ x : Int, (pushB [x]).size = 1 := fun x => by rw [pushB, List.foldl_cons, List.foldl_nil, push_size]; rfl
  refine ACallsF.intro ok70 follows fun X c0 => ?_
  have k0 : ¬ (k : Int) ≤ 0 := by omega
  simp only [RUN, core, T.c, T.s, T.b, T.i, sBin, sInt, sUn, isShift, asInt, P1.cells, loadT, ptrC, storeT, putC, fillP, Nat.reduceAdd, reduceIte, Nat.reduceEqDiff, Nat.reduceLT, Nat.reduceLeDiff, reduceCtorEq, eq_self, FIT, lendCs_map, verC_map, FinC, resPs, resP, lendPl, lendCs, lendC, sealC, partsT, finHs, tupT, verT, verP, verC, verB, verAt, Blk.ver, handsAre, forall_const, CHT, disj, Nat.reduceBEq, beq_self_eq_true, APT, srcOf, sealPs, sealCs, sealC, toVs, Option.map_some, List.mem_singleton, forall_eq, ALT, UFe_7, k0]
  refine AW.upto N (inv70 k N) ⟨fun j hj => absurd hj (Nat.not_lt_zero j), Nat.zero_le _, rfl, rfl⟩ fun i t H c hi h => ?_
  obtain ⟨g, _, e0, e3⟩ := h
  simp only [T.c, T.i, T.s] at e0 e3
  have hle := mtI_le k i
  have hz := mtI_size k i
  by_cases hlt : i < N
  · have hne : (mtI k i).1 ≠ 0 := hmin i (Nat.zero_le _) hlt
    have k1 : ((mtI k i).1 : Int) > 0 := by omega
    have q1 : IntKind.i64.wrap (((mtI k i).1 : Int).tdiv 10) = (((mtI k i).1 / 10 : Nat) : Int) := (IntWalk.i64_quo ((mtI k i).1 : Int) 10 ⟨by omega, by omega, by omega⟩).trans (by omega)
    have q2 : ((mtI k i).1 : Int).tmod 10 = (((mtI k i).1 % 10 : Nat) : Int) := rfl
    have q3 : IntKind.i64.wrap (48 + (((mtI k i).1 % 10 : Nat) : Int)) = 48 + (((mtI k i).1 % 10 : Nat) : Int) := wrap64 ⟨by omega, by omega⟩
    have h10 : ¬ (10 : Int) = 0 := by omega
    have hlen : (pushB [IntKind.u8.wrap (48 + (((mtI k i).1 % 10 : Nat) : Int))]).size + (mtI k i).2.size ≤ 9223372036854775807 := by rw [hsz, hz]; omega
    simp only [RUN, core, T.c, T.s, T.b, T.i, sBin, sInt, sUn, isShift, asInt, P1.cells, loadT, ptrC, storeT, putC, fillP, Nat.reduceAdd, reduceIte, Nat.reduceEqDiff, Nat.reduceLT, Nat.reduceLeDiff, reduceCtorEq, eq_self, FIT, lendCs_map, verC_map, FinC, resPs, resP, lendPl, lendCs, lendC, sealC, partsT, finHs, tupT, verT, verP, verC, verB, verAt, Blk.ver, handsAre, forall_const, CHT, disj, Nat.reduceBEq, beq_self_eq_true, APT, srcOf, sealPs, sealCs, sealC, toVs, Option.map_some, List.mem_singleton, forall_eq, ALT, UFe_11, e0, e3, k1, q1, q2, q3, h10, bytesOf, sStr, hlen]
    exact ⟨hlt, fun j hj => (by rcases Nat.lt_succ_iff_lt_or_eq.1 hj with hj | rfl; exact g j hj; exact hne), hlt, rfl, rfl⟩
  · have hi2 : i = N := by omega
    subst hi2
    have hN' : (mtI k i).1 = 0 := hN
    have k1 : ¬ ((mtI k i).1 : Int) > 0 := by omega
    have hlen : (⟨#[109]⟩ : ByteArray).size + (mtI k i).2.size ≤ 9223372036854775807 := by rw [hz]; show 1 + i ≤ _; omega
    simp only [RUN, core, T.c, T.s, T.b, T.i, sBin, sInt, sUn, isShift, asInt, P1.cells, loadT, ptrC, storeT, putC, fillP, Nat.reduceAdd, reduceIte, Nat.reduceEqDiff, Nat.reduceLT, Nat.reduceLeDiff, reduceCtorEq, eq_self, FIT, lendCs_map, verC_map, FinC, resPs, resP, lendPl, lendCs, lendC, sealC, partsT, finHs, tupT, verT, verP, verC, verB, verAt, Blk.ver, handsAre, forall_const, CHT, disj, Nat.reduceBEq, beq_self_eq_true, APT, srcOf, sealPs, sealCs, sealC, toVs, Option.map_some, List.mem_singleton, forall_eq, ALT, UFe_11, UFe_7, e0, e3, k1, sStr, hlen]
end Go.V
set_option linter.unusedSimpArgs false
namespace Go.V
open Go.Proofs
/-- What stands in a list that is marked. -/
def marks {α : Type} (m : Nat → α) (s k n : Nat) : List α := (List.range n).map fun j => m (k + s * j)
theorem marks_len {α : Type} (m : Nat → α) (s k n : Nat) : (marks m s k n).length = n := by simp [marks]
theorem marks_at {α : Type} (m : Nat → α) (s k : Nat) {n i : Nat} (h : i < n) : (marks m s k n)[i]? = some (m (k + s * i)) := by simp [marks, h]
def mrk {α : Type} (m : Nat → α) (s : Nat) (xs : List α) (k i : Nat) : List α := marks m s k i ++ xs.drop i
theorem mrk_len {α : Type} (m : Nat → α) (s : Nat) (xs : List α) (k : Nat) {i : Nat} (h : i ≤ xs.length) : (mrk m s xs k i).length = xs.length := by simp [mrk, marks_len]; omega
theorem mrk_zero {α : Type} (m : Nat → α) (s : Nat) (xs : List α) (k : Nat) : mrk m s xs k 0 = xs := by simp [mrk, marks]
theorem mrk_end {α : Type} (m : Nat → α) (s : Nat) (xs : List α) (k : Nat) : mrk m s xs k xs.length = marks m s k xs.length := by simp [mrk]
theorem mrk_at {α : Type} (m : Nat → α) (s : Nat) (xs : List α) (k : Nat) {i : Nat} {x : α} (h : xs[i]? = some x) : (mrk m s xs k i)[i]? = some x := by
  rw [mrk, List.getElem?_append_right (by rw [marks_len]; omega), marks_len, Nat.sub_self, List.getElem?_drop]; simpa using h
theorem mrk_set {α : Type} (m : Nat → α) (s : Nat) (xs : List α) (k : Nat) {i : Nat} {x : α} (h : xs[i]? = some x) : (mrk m s xs k i).set i (m (k + s * i)) = mrk m s xs k (i + 1) := by
  have hi := (List.getElem?_eq_some_iff.1 h).1
  rw [mrk, List.set_append, if_neg (by rw [marks_len]; omega), marks_len, Nat.sub_self, List.drop_eq_getElem_cons hi, List.set_cons_zero, mrk]
  simp [marks, List.range_succ]
def mS (k : Nat) : ByteArray := mt k
def mI (k : Nat) : Int := k
def mF (k : Nat) : DF := ⟨mt k, mt (k + 1), ((k + 2 : Nat) : Int)⟩
def mM (k : Nat) : DM := ⟨(((k % 3 : Nat) : Int) == 0), mt (k + 1)⟩
def mW (k : Nat) : DW := ⟨k, mt (k + 1), mt (k + 2)⟩
theorem SET : (type_of% @List.getElem?_set_self.{0}) ∧ (type_of% @List.set_set.{0}) ∧ (type_of% @List.length_set.{0}) := ⟨@List.getElem?_set_self.{0}, @List.set_set.{0}, @List.length_set.{0}⟩
/-- An array that is handed on. -/
abbrev arH (c m v st : Nat) (ty : TypeId) (es es' : List (List V)) : Hand := ⟨c, m, some (.arr v true st ty es), .arr v true st ty es', true⟩
/- loop.example/teagle/laws.markStringS -/
def r59_0 : List AOper := [ao 0 4 (.mv (.k (.i 0)))]
def r59_1 : List AOper := [ao 0 5 (.mv (.k (.i 0)))]
def r59_2 : List AOper := [ao 0 6 (.mv (.t 5)),
  ao 1 7 (.mv (.t 0)),
  ao 2 8 (.len (.t 7)),
  ao 3 9 (.bin .lss (.t 6) (.t 8))]
def c59_3 : ACode := .cond (.t 9) .skip (.exit 0)
def c59_4 : ACode := .seq (.reg r59_2) c59_3
def r59_5 : List AOper := [ao 0 12 (.mv (.t 0)),
  ao 1 13 (.mv (.t 5)),
  ao 2 14 (.mv (.t 1)),
  ao 3 15 (.call (.k (.c (.fn 70 []))) [(.t 14)]),
  ao 4 16 (.ia 1 (.t 12) (.t 13)),
  an 5 (.st 1 (.t 16) (.t 15))]
def r59_6 : List AOper := [ao 0 17 (.mv (.t 1)),
  ao 1 18 (.bin .add (.t 17) (.k (.i 1))),
  ao 2 1 (.mv (.t 18))]
def c59_7 : ACode := .seq (.reg r59_5) (.reg r59_6)
def c59_8 : ACode := .block 1 c59_7
def r59_9 : List AOper := [ao 0 10 (.mv (.t 5)),
  ao 1 11 (.bin .add (.t 10) (.k (.i 1))),
  ao 2 5 (.mv (.t 11))]
def c59_10 : ACode := .seq c59_4 (.seq c59_8 (.reg r59_9))
def c59_11 : ACode := .loop c59_10
def c59_12 : ACode := .block 0 c59_11
def c59_13 : ACode := .seq (.reg r59_1) c59_12
def r59_14 : List AOper := [ao 0 19 (.mv (.t 1)),
  ao 1 4 (.mv (.t 19))]
def c59 : ACode := .seq (.reg r59_0) (.seq c59_13 (.seq (.reg r59_14) .ret))
def s59 : List ARes := [.tmp 4]
theorem ok59 : okF Try.prog 59 20 c59 s59 := ⟨Try.f59, Try.func59, Try.ntmps59, by kernel_rfl, by kernel_rfl, by kernel_rfl⟩
def inv59 (xs : List ByteArray) (k v : Nat) (i : Nat) (σ : St) : Prop := σ.t 0 = .c (.own 2001 v xs.length) ∧ σ.H 2001 = some (.arr v true 1 9 (en eS (mrk mS 1 xs k i))) ∧ σ.t 1 = .i ((k + 1 * i : Nat) : Int) ∧ σ.t 5 = .i i
theorem UFf_1 : (type_of% (uA c59.eq_1)) ∧ (type_of% (uR r59_0.eq_1)) ∧ (type_of% (uA c59_13.eq_1)) ∧ (type_of% (uR r59_1.eq_1)) ∧ (type_of% (uA c59_12.eq_1)) ∧ (type_of% (uA c59_11.eq_1)) ∧ (type_of% (uR r59_14.eq_1)) ∧ (type_of% s59.eq_1) :=
  ⟨uA c59.eq_1, uR r59_0.eq_1, uA c59_13.eq_1, uR r59_1.eq_1, uA c59_12.eq_1, uA c59_11.eq_1, uR r59_14.eq_1, s59.eq_1⟩
theorem UFf_4 : (type_of% (uA c59_10.eq_1)) ∧ (type_of% (uA c59_4.eq_1)) ∧ (type_of% (uR r59_2.eq_1)) ∧ (type_of% (uA c59_3.eq_1)) ∧ (type_of% (uA c59_8.eq_1)) ∧ (type_of% (uA c59_7.eq_1)) ∧ (type_of% (uR r59_5.eq_1)) ∧ (type_of% (uR r59_6.eq_1)) ∧ (type_of% (uR r59_9.eq_1)) ∧ (type_of% (uA c59.eq_1)) ∧ (type_of% (uR r59_0.eq_1)) ∧ (type_of% (uA c59_13.eq_1)) ∧ (type_of% (uR r59_1.eq_1)) ∧ (type_of% (uA c59_12.eq_1)) ∧ (type_of% (uA c59_11.eq_1)) ∧ (type_of% (uR r59_14.eq_1)) ∧ (type_of% s59.eq_1) :=
  ⟨uA c59_10.eq_1, uA c59_4.eq_1, uR r59_2.eq_1, uA c59_3.eq_1, uA c59_8.eq_1, uA c59_7.eq_1, uR r59_5.eq_1, uR r59_6.eq_1, uR r59_9.eq_1, uA c59.eq_1, uR r59_0.eq_1, uA c59_13.eq_1, uR r59_1.eq_1, uA c59_12.eq_1, uA c59_11.eq_1, uR r59_14.eq_1, s59.eq_1⟩
theorem markSs_ok (xs : List ByteArray) (k : Nat) (h1 : 1 ≤ k) (hk : k + 1 * xs.length ≤ 100000000) (m v : Nat) : ACallsF Try.prog 59 [.c (.own 2001 v xs.length), .i k] [arH 2001 m v 1 9 (en eS xs) (en eS (marks mS 1 k xs.length))] (.i ((k + 1 * xs.length : Nat) : Int)) := by
  refine ACallsF.intro ok59 follows fun X c0 => ?_
  simp only [RUN, core, T.c, T.s, T.b, T.i, sBin, sInt, sUn, isShift, asInt, P1.cells, loadT, ptrC, storeT, putC, fillP, Nat.reduceAdd, reduceIte, Nat.reduceEqDiff, Nat.reduceLT, Nat.reduceLeDiff, reduceCtorEq, eq_self, FIT, lendCs_map, verC_map, FinC, resPs, resP, lendPl, lendCs, lendC, sealC, partsT, finHs, tupT, verT, verP, verC, verB, verAt, Blk.ver, handsAre, forall_const, CHT, disj, Nat.reduceBEq, beq_self_eq_true, APT, srcOf, sealPs, sealCs, sealC, toVs, Option.map_some, List.mem_singleton, forall_eq, ALT, UFf_1]
  refine AW.upto xs.length (inv59 xs k v) ?_ fun i t H c hi h => ?_
  · unfold inv59
    rw [mrk_zero]
    exact ⟨rfl, rfl, rfl, rfl⟩
  obtain ⟨e0, eH, e1, e5⟩ := h
  simp only [T.c, T.i] at e0 eH e1 e5
  have hpl : (mrk mS 1 xs k i).length = xs.length := mrk_len mS 1 xs k hi
  by_cases hlt : i < xs.length
  · obtain ⟨x, hx⟩ : ∃ x, xs[i]? = some x := ⟨_, List.getElem?_eq_getElem hlt⟩
    have ex := en_at eS (mrk_at mS 1 xs k hx)
    have k1 : (i : Int) < xs.length := by omega
    have gz : (0 : Int) ≤ i := by omega
    have gm : i < xs.length := hlt
    have gw : IntKind.i64.wrap ((i : Int) + 1) = ((i + 1 : Nat) : Int) := wrap64 (x := (i : Int) + 1) ⟨by omega, by omega⟩
    have h30 : ¬ (3 : Int) = 0 := by omega
    have q3 : ((k + 1 * i : Nat) : Int).tmod 3 = (((k + 1 * i) % 3 : Nat) : Int) := rfl
    have g0 : IntKind.i64.wrap (((k + 1 * i : Nat) : Int) + 1) = ((k + 1 * (i + 1) : Nat) : Int) := (wrap64 (x := ((k + 1 * i : Nat) : Int) + 1) ⟨by omega, by omega⟩).trans (by omega)
    have hn : (en eS (mrk mS 1 xs k i)).set i (eS (mS (k + 1 * i))) = en eS (mrk mS 1 xs k (i + 1)) := by rw [en_set, mrk_set mS 1 xs k hx]
    simp only [RUN, core, T.c, T.s, T.b, T.i, sBin, sInt, sUn, isShift, asInt, P1.cells, loadT, ptrC, storeT, putC, fillP, Nat.reduceAdd, reduceIte, Nat.reduceEqDiff, Nat.reduceLT, Nat.reduceLeDiff, reduceCtorEq, eq_self, FIT, lendCs_map, verC_map, FinC, resPs, resP, lendPl, lendCs, lendC, sealC, partsT, finHs, tupT, verT, verP, verC, verB, verAt, Blk.ver, handsAre, forall_const, CHT, disj, Nat.reduceBEq, beq_self_eq_true, APT, srcOf, sealPs, sealCs, sealC, toVs, Option.map_some, List.mem_singleton, forall_eq, ALT, UFf_4, SET, e0, eH, e1, e5, en_len, hpl, k1, gz, gm, ex, eS, g0, gw, h30, q3]
    refine callC (mark_ok (k + 1 * i) (by omega) (by omega)) rfl rfl rfl rfl ?_
    simp only [RUN, core, T.c, T.s, T.b, T.i, sBin, sInt, sUn, isShift, asInt, P1.cells, loadT, ptrC, storeT, putC, fillP, Nat.reduceAdd, reduceIte, Nat.reduceEqDiff, Nat.reduceLT, Nat.reduceLeDiff, reduceCtorEq, eq_self, FIT, lendCs_map, verC_map, FinC, resPs, resP, lendPl, lendCs, lendC, sealC, partsT, finHs, tupT, verT, verP, verC, verB, verAt, Blk.ver, handsAre, forall_const, CHT, disj, Nat.reduceBEq, beq_self_eq_true, APT, srcOf, sealPs, sealCs, sealC, toVs, Option.map_some, List.mem_singleton, forall_eq, ALT, UFf_4, SET, e0, eH, e1, e5, en_len, hpl, k1, gz, gm, ex, eS, g0, gw, h30, q3]
    exact ⟨e0, congrArg (fun q => some (Blk.arr v true 1 9 q)) hn, rfl, rfl⟩
  · have k1 : ¬ (i : Int) < xs.length := by omega
    have hi2 : i = xs.length := by omega
    subst hi2
    rw [mrk_end] at eH
    simp only [RUN, core, T.c, T.s, T.b, T.i, sBin, sInt, sUn, isShift, asInt, P1.cells, loadT, ptrC, storeT, putC, fillP, Nat.reduceAdd, reduceIte, Nat.reduceEqDiff, Nat.reduceLT, Nat.reduceLeDiff, reduceCtorEq, eq_self, FIT, lendCs_map, verC_map, FinC, resPs, resP, lendPl, lendCs, lendC, sealC, partsT, finHs, tupT, verT, verP, verC, verB, verAt, Blk.ver, handsAre, forall_const, CHT, disj, Nat.reduceBEq, beq_self_eq_true, APT, srcOf, sealPs, sealCs, sealC, toVs, Option.map_some, List.mem_singleton, forall_eq, ALT, UFf_4, UFf_1, e0, eH, e1, e5, en_len, k1, imp_self]
/- loop.example/teagle/laws.markDiskFileS -/
def r58_0 : List AOper := [ao 0 4 (.mv (.k (.i 0)))]
def r58_1 : List AOper := [ao 0 5 (.mv (.k (.i 0)))]
def r58_2 : List AOper := [ao 0 6 (.mv (.t 5)),
  ao 1 7 (.mv (.t 0)),
  ao 2 8 (.len (.t 7)),
  ao 3 9 (.bin .lss (.t 6) (.t 8))]
def c58_3 : ACode := .cond (.t 9) .skip (.exit 0)
def c58_4 : ACode := .seq (.reg r58_2) c58_3
def r58_5 : List AOper := [ao 0 12 (.mv (.t 0)),
  ao 1 13 (.mv (.t 5)),
  ao 2 14 (.mv (.t 1)),
  ao 3 15 (.call (.k (.c (.fn 70 []))) [(.t 14)]),
  ao 4 16 (.ia 3 (.t 12) (.t 13)),
  ao 5 17 (.fa 0 (.t 16)),
  an 6 (.st 1 (.t 17) (.t 15))]
def r58_6 : List AOper := [ao 0 18 (.mv (.t 1)),
  ao 1 19 (.bin .add (.t 18) (.k (.i 1))),
  ao 2 1 (.mv (.t 19))]
def r58_7 : List AOper := [ao 0 20 (.mv (.t 0)),
  ao 1 21 (.mv (.t 5)),
  ao 2 22 (.mv (.t 1)),
  ao 3 23 (.call (.k (.c (.fn 70 []))) [(.t 22)]),
  ao 4 24 (.ia 3 (.t 20) (.t 21)),
  ao 5 25 (.fa 1 (.t 24)),
  an 6 (.st 1 (.t 25) (.t 23))]
def r58_8 : List AOper := [ao 0 26 (.mv (.t 1)),
  ao 1 27 (.bin .add (.t 26) (.k (.i 1))),
  ao 2 1 (.mv (.t 27))]
def r58_9 : List AOper := [ao 0 28 (.mv (.t 0)),
  ao 1 29 (.mv (.t 5)),
  ao 2 30 (.mv (.t 1)),
  ao 3 31 (.ia 3 (.t 28) (.t 29)),
  ao 4 32 (.fa 2 (.t 31)),
  an 5 (.st 1 (.t 32) (.t 30))]
def r58_10 : List AOper := [ao 0 33 (.mv (.t 1)),
  ao 1 34 (.bin .add (.t 33) (.k (.i 1))),
  ao 2 1 (.mv (.t 34))]
def c58_11 : ACode := .seq (.reg r58_5) (.seq (.reg r58_6) (.seq (.reg r58_7) (.seq (.reg r58_8) (.seq (.reg r58_9) (.reg r58_10)))))
def c58_12 : ACode := .block 1 c58_11
def r58_13 : List AOper := [ao 0 10 (.mv (.t 5)),
  ao 1 11 (.bin .add (.t 10) (.k (.i 1))),
  ao 2 5 (.mv (.t 11))]
def c58_14 : ACode := .seq c58_4 (.seq c58_12 (.reg r58_13))
def c58_15 : ACode := .loop c58_14
def c58_16 : ACode := .block 0 c58_15
def c58_17 : ACode := .seq (.reg r58_1) c58_16
def r58_18 : List AOper := [ao 0 35 (.mv (.t 1)),
  ao 1 4 (.mv (.t 35))]
def c58 : ACode := .seq (.reg r58_0) (.seq c58_17 (.seq (.reg r58_18) .ret))
def s58 : List ARes := [.tmp 4]
theorem ok58 : okF Try.prog 58 36 c58 s58 := ⟨Try.f58, Try.func58, Try.ntmps58, by kernel_rfl, by kernel_rfl, by kernel_rfl⟩
def inv58 (xs : List DF) (k v : Nat) (i : Nat) (σ : St) : Prop := σ.t 0 = .c (.own 2001 v xs.length) ∧ σ.H 2001 = some (.arr v true 3 88 (en eF (mrk mF 3 xs k i))) ∧ σ.t 1 = .i ((k + 3 * i : Nat) : Int) ∧ σ.t 5 = .i i
theorem UFf_2 : (type_of% (uA c58.eq_1)) ∧ (type_of% (uR r58_0.eq_1)) ∧ (type_of% (uA c58_17.eq_1)) ∧ (type_of% (uR r58_1.eq_1)) ∧ (type_of% (uA c58_16.eq_1)) ∧ (type_of% (uA c58_15.eq_1)) ∧ (type_of% (uR r58_18.eq_1)) ∧ (type_of% s58.eq_1) :=
  ⟨uA c58.eq_1, uR r58_0.eq_1, uA c58_17.eq_1, uR r58_1.eq_1, uA c58_16.eq_1, uA c58_15.eq_1, uR r58_18.eq_1, s58.eq_1⟩
theorem UFf_5 : (type_of% (uA c58_14.eq_1)) ∧ (type_of% (uA c58_4.eq_1)) ∧ (type_of% (uR r58_2.eq_1)) ∧ (type_of% (uA c58_3.eq_1)) ∧ (type_of% (uA c58_12.eq_1)) ∧ (type_of% (uA c58_11.eq_1)) ∧ (type_of% (uR r58_5.eq_1)) ∧ (type_of% (uR r58_6.eq_1)) ∧ (type_of% (uR r58_7.eq_1)) ∧ (type_of% (uR r58_8.eq_1)) ∧ (type_of% (uR r58_9.eq_1)) ∧ (type_of% (uR r58_10.eq_1)) ∧ (type_of% (uR r58_13.eq_1)) ∧ (type_of% (uA c58.eq_1)) ∧ (type_of% (uR r58_0.eq_1)) ∧ (type_of% (uA c58_17.eq_1)) ∧ (type_of% (uR r58_1.eq_1)) ∧ (type_of% (uA c58_16.eq_1)) ∧ (type_of% (uA c58_15.eq_1)) ∧ (type_of% (uR r58_18.eq_1)) ∧ (type_of% s58.eq_1) :=
  ⟨uA c58_14.eq_1, uA c58_4.eq_1, uR r58_2.eq_1, uA c58_3.eq_1, uA c58_12.eq_1, uA c58_11.eq_1, uR r58_5.eq_1, uR r58_6.eq_1, uR r58_7.eq_1, uR r58_8.eq_1, uR r58_9.eq_1, uR r58_10.eq_1, uR r58_13.eq_1, uA c58.eq_1, uR r58_0.eq_1, uA c58_17.eq_1, uR r58_1.eq_1, uA c58_16.eq_1, uA c58_15.eq_1, uR r58_18.eq_1, s58.eq_1⟩
theorem markDFs_ok (xs : List DF) (k : Nat) (h1 : 1 ≤ k) (hk : k + 3 * xs.length ≤ 100000000) (m v : Nat) : ACallsF Try.prog 58 [.c (.own 2001 v xs.length), .i k] [arH 2001 m v 3 88 (en eF xs) (en eF (marks mF 3 k xs.length))] (.i ((k + 3 * xs.length : Nat) : Int)) := by
  refine ACallsF.intro ok58 follows fun X c0 => ?_
  simp only [RUN, core, T.c, T.s, T.b, T.i, sBin, sInt, sUn, isShift, asInt, P1.cells, loadT, ptrC, storeT, putC, fillP, Nat.reduceAdd, reduceIte, Nat.reduceEqDiff, Nat.reduceLT, Nat.reduceLeDiff, reduceCtorEq, eq_self, FIT, lendCs_map, verC_map, FinC, resPs, resP, lendPl, lendCs, lendC, sealC, partsT, finHs, tupT, verT, verP, verC, verB, verAt, Blk.ver, handsAre, forall_const, CHT, disj, Nat.reduceBEq, beq_self_eq_true, APT, srcOf, sealPs, sealCs, sealC, toVs, Option.map_some, List.mem_singleton, forall_eq, ALT, UFf_2]
  refine AW.upto xs.length (inv58 xs k v) ?_ fun i t H c hi h => ?_
  · unfold inv58
    rw [mrk_zero]
    exact ⟨rfl, rfl, rfl, rfl⟩
  obtain ⟨e0, eH, e1, e5⟩ := h
  simp only [T.c, T.i] at e0 eH e1 e5
  have hpl : (mrk mF 3 xs k i).length = xs.length := mrk_len mF 3 xs k hi
  by_cases hlt : i < xs.length
  · obtain ⟨x, hx⟩ : ∃ x, xs[i]? = some x := ⟨_, List.getElem?_eq_getElem hlt⟩
    have ex := en_at eF (mrk_at mF 3 xs k hx)
    have k1 : (i : Int) < xs.length := by omega
    have gz : (0 : Int) ≤ i := by omega
    have gm : i < xs.length := hlt
    have gw : IntKind.i64.wrap ((i : Int) + 1) = ((i + 1 : Nat) : Int) := wrap64 (x := (i : Int) + 1) ⟨by omega, by omega⟩
    have h30 : ¬ (3 : Int) = 0 := by omega
    have q3 : ((k + 3 * i : Nat) : Int).tmod 3 = (((k + 3 * i) % 3 : Nat) : Int) := rfl
    have g0 : IntKind.i64.wrap (((k + 3 * i : Nat) : Int) + 1) = ((k + 3 * i + 1 : Nat) : Int) := (wrap64 (x := ((k + 3 * i : Nat) : Int) + 1) ⟨by omega, by omega⟩).trans (by omega)
    have g1 : IntKind.i64.wrap (((k + 3 * i + 1 : Nat) : Int) + 1) = ((k + 3 * i + 2 : Nat) : Int) := (wrap64 (x := ((k + 3 * i + 1 : Nat) : Int) + 1) ⟨by omega, by omega⟩).trans (by omega)
    have g2 : IntKind.i64.wrap (((k + 3 * i + 2 : Nat) : Int) + 1) = ((k + 3 * (i + 1) : Nat) : Int) := (wrap64 (x := ((k + 3 * i + 2 : Nat) : Int) + 1) ⟨by omega, by omega⟩).trans (by omega)
    have hn : (en eF (mrk mF 3 xs k i)).set i (eF (mF (k + 3 * i))) = en eF (mrk mF 3 xs k (i + 1)) := by rw [en_set, mrk_set mF 3 xs k hx]
    simp only [RUN, core, T.c, T.s, T.b, T.i, sBin, sInt, sUn, isShift, asInt, P1.cells, loadT, ptrC, storeT, putC, fillP, Nat.reduceAdd, reduceIte, Nat.reduceEqDiff, Nat.reduceLT, Nat.reduceLeDiff, reduceCtorEq, eq_self, FIT, lendCs_map, verC_map, FinC, resPs, resP, lendPl, lendCs, lendC, sealC, partsT, finHs, tupT, verT, verP, verC, verB, verAt, Blk.ver, handsAre, forall_const, CHT, disj, Nat.reduceBEq, beq_self_eq_true, APT, srcOf, sealPs, sealCs, sealC, toVs, Option.map_some, List.mem_singleton, forall_eq, ALT, UFf_5, SET, e0, eH, e1, e5, en_len, hpl, k1, gz, gm, ex, eF, g0, g1, g2, gw, h30, q3]
    refine callC (mark_ok (k + 3 * i) (by omega) (by omega)) rfl rfl rfl rfl ?_
    simp only [RUN, core, T.c, T.s, T.b, T.i, sBin, sInt, sUn, isShift, asInt, P1.cells, loadT, ptrC, storeT, putC, fillP, Nat.reduceAdd, reduceIte, Nat.reduceEqDiff, Nat.reduceLT, Nat.reduceLeDiff, reduceCtorEq, eq_self, FIT, lendCs_map, verC_map, FinC, resPs, resP, lendPl, lendCs, lendC, sealC, partsT, finHs, tupT, verT, verP, verC, verB, verAt, Blk.ver, handsAre, forall_const, CHT, disj, Nat.reduceBEq, beq_self_eq_true, APT, srcOf, sealPs, sealCs, sealC, toVs, Option.map_some, List.mem_singleton, forall_eq, ALT, UFf_5, SET, e0, eH, e1, e5, en_len, hpl, k1, gz, gm, ex, eF, g0, g1, g2, gw, h30, q3]
    refine callC (mark_ok (k + 3 * i + 1) (by omega) (by omega)) rfl rfl rfl rfl ?_
    simp only [RUN, core, T.c, T.s, T.b, T.i, sBin, sInt, sUn, isShift, asInt, P1.cells, loadT, ptrC, storeT, putC, fillP, Nat.reduceAdd, reduceIte, Nat.reduceEqDiff, Nat.reduceLT, Nat.reduceLeDiff, reduceCtorEq, eq_self, FIT, lendCs_map, verC_map, FinC, resPs, resP, lendPl, lendCs, lendC, sealC, partsT, finHs, tupT, verT, verP, verC, verB, verAt, Blk.ver, handsAre, forall_const, CHT, disj, Nat.reduceBEq, beq_self_eq_true, APT, srcOf, sealPs, sealCs, sealC, toVs, Option.map_some, List.mem_singleton, forall_eq, ALT, UFf_5, SET, e0, eH, e1, e5, en_len, hpl, k1, gz, gm, ex, eF, g0, g1, g2, gw, h30, q3]
    exact ⟨e0, congrArg (fun q => some (Blk.arr v true 3 88 q)) hn, rfl, rfl⟩
  · have k1 : ¬ (i : Int) < xs.length := by omega
    have hi2 : i = xs.length := by omega
    subst hi2
    rw [mrk_end] at eH
    simp only [RUN, core, T.c, T.s, T.b, T.i, sBin, sInt, sUn, isShift, asInt, P1.cells, loadT, ptrC, storeT, putC, fillP, Nat.reduceAdd, reduceIte, Nat.reduceEqDiff, Nat.reduceLT, Nat.reduceLeDiff, reduceCtorEq, eq_self, FIT, lendCs_map, verC_map, FinC, resPs, resP, lendPl, lendCs, lendC, sealC, partsT, finHs, tupT, verT, verP, verC, verB, verAt, Blk.ver, handsAre, forall_const, CHT, disj, Nat.reduceBEq, beq_self_eq_true, APT, srcOf, sealPs, sealCs, sealC, toVs, Option.map_some, List.mem_singleton, forall_eq, ALT, UFf_5, UFf_2, e0, eH, e1, e5, en_len, k1, imp_self]
/- loop.example/teagle/laws.markDiskMoveS -/
def r60_0 : List AOper := [ao 0 4 (.mv (.k (.i 0)))]
def r60_1 : List AOper := [ao 0 5 (.mv (.k (.i 0)))]
def r60_2 : List AOper := [ao 0 6 (.mv (.t 5)),
  ao 1 7 (.mv (.t 0)),
  ao 2 8 (.len (.t 7)),
  ao 3 9 (.bin .lss (.t 6) (.t 8))]
def c60_3 : ACode := .cond (.t 9) .skip (.exit 0)
def c60_4 : ACode := .seq (.reg r60_2) c60_3
def r60_5 : List AOper := [ao 0 12 (.mv (.t 0)),
  ao 1 13 (.mv (.t 5)),
  ao 2 14 (.mv (.t 1)),
  ao 3 15 (.bin .rem (.t 14) (.k (.i 3))),
  ao 4 16 (.bin .eql (.t 15) (.k (.i 0))),
  ao 5 17 (.ia 2 (.t 12) (.t 13)),
  ao 6 18 (.fa 0 (.t 17)),
  an 7 (.st 1 (.t 18) (.t 16))]
def r60_6 : List AOper := [ao 0 19 (.mv (.t 1)),
  ao 1 20 (.bin .add (.t 19) (.k (.i 1))),
  ao 2 1 (.mv (.t 20))]
def r60_7 : List AOper := [ao 0 21 (.mv (.t 0)),
  ao 1 22 (.mv (.t 5)),
  ao 2 23 (.mv (.t 1)),
  ao 3 24 (.call (.k (.c (.fn 70 []))) [(.t 23)]),
  ao 4 25 (.ia 2 (.t 21) (.t 22)),
  ao 5 26 (.fa 1 (.t 25)),
  an 6 (.st 1 (.t 26) (.t 24))]
def r60_8 : List AOper := [ao 0 27 (.mv (.t 1)),
  ao 1 28 (.bin .add (.t 27) (.k (.i 1))),
  ao 2 1 (.mv (.t 28))]
def c60_9 : ACode := .seq (.reg r60_5) (.seq (.reg r60_6) (.seq (.reg r60_7) (.reg r60_8)))
def c60_10 : ACode := .block 1 c60_9
def r60_11 : List AOper := [ao 0 10 (.mv (.t 5)),
  ao 1 11 (.bin .add (.t 10) (.k (.i 1))),
  ao 2 5 (.mv (.t 11))]
def c60_12 : ACode := .seq c60_4 (.seq c60_10 (.reg r60_11))
def c60_13 : ACode := .loop c60_12
def c60_14 : ACode := .block 0 c60_13
def c60_15 : ACode := .seq (.reg r60_1) c60_14
def r60_16 : List AOper := [ao 0 29 (.mv (.t 1)),
  ao 1 4 (.mv (.t 29))]
def c60 : ACode := .seq (.reg r60_0) (.seq c60_15 (.seq (.reg r60_16) .ret))
def s60 : List ARes := [.tmp 4]
theorem ok60 : okF Try.prog 60 30 c60 s60 := ⟨Try.f60, Try.func60, Try.ntmps60, by kernel_rfl, by kernel_rfl, by kernel_rfl⟩
def inv60 (xs : List DM) (k v : Nat) (i : Nat) (σ : St) : Prop := σ.t 0 = .c (.own 2001 v xs.length) ∧ σ.H 2001 = some (.arr v true 2 90 (en eM (mrk mM 2 xs k i))) ∧ σ.t 1 = .i ((k + 2 * i : Nat) : Int) ∧ σ.t 5 = .i i
theorem UFf_3 : (type_of% (uA c60.eq_1)) ∧ (type_of% (uR r60_0.eq_1)) ∧ (type_of% (uA c60_15.eq_1)) ∧ (type_of% (uR r60_1.eq_1)) ∧ (type_of% (uA c60_14.eq_1)) ∧ (type_of% (uA c60_13.eq_1)) ∧ (type_of% (uR r60_16.eq_1)) ∧ (type_of% s60.eq_1) :=
  ⟨uA c60.eq_1, uR r60_0.eq_1, uA c60_15.eq_1, uR r60_1.eq_1, uA c60_14.eq_1, uA c60_13.eq_1, uR r60_16.eq_1, s60.eq_1⟩
theorem UFf_6 : (type_of% (uA c60_12.eq_1)) ∧ (type_of% (uA c60_4.eq_1)) ∧ (type_of% (uR r60_2.eq_1)) ∧ (type_of% (uA c60_3.eq_1)) ∧ (type_of% (uA c60_10.eq_1)) ∧ (type_of% (uA c60_9.eq_1)) ∧ (type_of% (uR r60_5.eq_1)) ∧ (type_of% (uR r60_6.eq_1)) ∧ (type_of% (uR r60_7.eq_1)) ∧ (type_of% (uR r60_8.eq_1)) ∧ (type_of% (uR r60_11.eq_1)) ∧ (type_of% (uA c60.eq_1)) ∧ (type_of% (uR r60_0.eq_1)) ∧ (type_of% (uA c60_15.eq_1)) ∧ (type_of% (uR r60_1.eq_1)) ∧ (type_of% (uA c60_14.eq_1)) ∧ (type_of% (uA c60_13.eq_1)) ∧ (type_of% (uR r60_16.eq_1)) ∧ (type_of% s60.eq_1) :=
  ⟨uA c60_12.eq_1, uA c60_4.eq_1, uR r60_2.eq_1, uA c60_3.eq_1, uA c60_10.eq_1, uA c60_9.eq_1, uR r60_5.eq_1, uR r60_6.eq_1, uR r60_7.eq_1, uR r60_8.eq_1, uR r60_11.eq_1, uA c60.eq_1, uR r60_0.eq_1, uA c60_15.eq_1, uR r60_1.eq_1, uA c60_14.eq_1, uA c60_13.eq_1, uR r60_16.eq_1, s60.eq_1⟩
theorem markDMs_ok (xs : List DM) (k : Nat) (h1 : 1 ≤ k) (hk : k + 2 * xs.length ≤ 100000000) (m v : Nat) : ACallsF Try.prog 60 [.c (.own 2001 v xs.length), .i k] [arH 2001 m v 2 90 (en eM xs) (en eM (marks mM 2 k xs.length))] (.i ((k + 2 * xs.length : Nat) : Int)) := by
  refine ACallsF.intro ok60 follows fun X c0 => ?_
  simp only [RUN, core, T.c, T.s, T.b, T.i, sBin, sInt, sUn, isShift, asInt, P1.cells, loadT, ptrC, storeT, putC, fillP, Nat.reduceAdd, reduceIte, Nat.reduceEqDiff, Nat.reduceLT, Nat.reduceLeDiff, reduceCtorEq, eq_self, FIT, lendCs_map, verC_map, FinC, resPs, resP, lendPl, lendCs, lendC, sealC, partsT, finHs, tupT, verT, verP, verC, verB, verAt, Blk.ver, handsAre, forall_const, CHT, disj, Nat.reduceBEq, beq_self_eq_true, APT, srcOf, sealPs, sealCs, sealC, toVs, Option.map_some, List.mem_singleton, forall_eq, ALT, UFf_3]
  refine AW.upto xs.length (inv60 xs k v) ?_ fun i t H c hi h => ?_
  · unfold inv60
    rw [mrk_zero]
    exact ⟨rfl, rfl, rfl, rfl⟩
  obtain ⟨e0, eH, e1, e5⟩ := h
  simp only [T.c, T.i] at e0 eH e1 e5
  have hpl : (mrk mM 2 xs k i).length = xs.length := mrk_len mM 2 xs k hi
  by_cases hlt : i < xs.length
  · obtain ⟨x, hx⟩ : ∃ x, xs[i]? = some x := ⟨_, List.getElem?_eq_getElem hlt⟩
    have ex := en_at eM (mrk_at mM 2 xs k hx)
    have k1 : (i : Int) < xs.length := by omega
    have gz : (0 : Int) ≤ i := by omega
    have gm : i < xs.length := hlt
    have gw : IntKind.i64.wrap ((i : Int) + 1) = ((i + 1 : Nat) : Int) := wrap64 (x := (i : Int) + 1) ⟨by omega, by omega⟩
    have h30 : ¬ (3 : Int) = 0 := by omega
    have q3 : ((k + 2 * i : Nat) : Int).tmod 3 = (((k + 2 * i) % 3 : Nat) : Int) := rfl
    have g0 : IntKind.i64.wrap (((k + 2 * i : Nat) : Int) + 1) = ((k + 2 * i + 1 : Nat) : Int) := (wrap64 (x := ((k + 2 * i : Nat) : Int) + 1) ⟨by omega, by omega⟩).trans (by omega)
    have g1 : IntKind.i64.wrap (((k + 2 * i + 1 : Nat) : Int) + 1) = ((k + 2 * (i + 1) : Nat) : Int) := (wrap64 (x := ((k + 2 * i + 1 : Nat) : Int) + 1) ⟨by omega, by omega⟩).trans (by omega)
    have hn : (en eM (mrk mM 2 xs k i)).set i (eM (mM (k + 2 * i))) = en eM (mrk mM 2 xs k (i + 1)) := by rw [en_set, mrk_set mM 2 xs k hx]
    simp only [RUN, core, T.c, T.s, T.b, T.i, sBin, sInt, sUn, isShift, asInt, P1.cells, loadT, ptrC, storeT, putC, fillP, Nat.reduceAdd, reduceIte, Nat.reduceEqDiff, Nat.reduceLT, Nat.reduceLeDiff, reduceCtorEq, eq_self, FIT, lendCs_map, verC_map, FinC, resPs, resP, lendPl, lendCs, lendC, sealC, partsT, finHs, tupT, verT, verP, verC, verB, verAt, Blk.ver, handsAre, forall_const, CHT, disj, Nat.reduceBEq, beq_self_eq_true, APT, srcOf, sealPs, sealCs, sealC, toVs, Option.map_some, List.mem_singleton, forall_eq, ALT, UFf_6, SET, e0, eH, e1, e5, en_len, hpl, k1, gz, gm, ex, eM, g0, g1, gw, h30, q3]
    refine callC (mark_ok (k + 2 * i + 1) (by omega) (by omega)) rfl rfl rfl rfl ?_
    simp only [RUN, core, T.c, T.s, T.b, T.i, sBin, sInt, sUn, isShift, asInt, P1.cells, loadT, ptrC, storeT, putC, fillP, Nat.reduceAdd, reduceIte, Nat.reduceEqDiff, Nat.reduceLT, Nat.reduceLeDiff, reduceCtorEq, eq_self, FIT, lendCs_map, verC_map, FinC, resPs, resP, lendPl, lendCs, lendC, sealC, partsT, finHs, tupT, verT, verP, verC, verB, verAt, Blk.ver, handsAre, forall_const, CHT, disj, Nat.reduceBEq, beq_self_eq_true, APT, srcOf, sealPs, sealCs, sealC, toVs, Option.map_some, List.mem_singleton, forall_eq, ALT, UFf_6, SET, e0, eH, e1, e5, en_len, hpl, k1, gz, gm, ex, eM, g0, g1, gw, h30, q3]
    exact ⟨e0, congrArg (fun q => some (Blk.arr v true 2 90 q)) hn, rfl, rfl⟩
  · have k1 : ¬ (i : Int) < xs.length := by omega
    have hi2 : i = xs.length := by omega
    subst hi2
    rw [mrk_end] at eH
    simp only [RUN, core, T.c, T.s, T.b, T.i, sBin, sInt, sUn, isShift, asInt, P1.cells, loadT, ptrC, storeT, putC, fillP, Nat.reduceAdd, reduceIte, Nat.reduceEqDiff, Nat.reduceLT, Nat.reduceLeDiff, reduceCtorEq, eq_self, FIT, lendCs_map, verC_map, FinC, resPs, resP, lendPl, lendCs, lendC, sealC, partsT, finHs, tupT, verT, verP, verC, verB, verAt, Blk.ver, handsAre, forall_const, CHT, disj, Nat.reduceBEq, beq_self_eq_true, APT, srcOf, sealPs, sealCs, sealC, toVs, Option.map_some, List.mem_singleton, forall_eq, ALT, UFf_6, UFf_3, e0, eH, e1, e5, en_len, k1, imp_self]
end Go.V
set_option linter.unusedSimpArgs false
namespace Go.V
open Go.Proofs
/-- A call that works in place on an array of the caller's. -/
theorem callM1 {P : Program} {t : Nat → T} {H : HMap} {c : Nat} {f : Opd} {args : List Opd} {fid : FuncId} {n m v N st : Nat} {ty : TypeId} {es es' : List (List V)} {x r : T} {k : Nat} {d : Option Nat} {un : List Nat} {l : List AOper} {prev : List (Nat × List Nat × List Nat)} {K : St → Prop}
    (hC : ACallsF P fid [.c (.own n v N), x] [arH n m v st ty es es'] r) (hf : ev t f = .pt (.one (.fn fid []))) (hl : args.map (ev t) = [.c (.own m v N), x]) (hH : H m = some (.arr v true st ty es)) (hx : closedA x = true) (hr : closedT r = true)
    (hk : chk prev un ⟨r, [(m, .arr v true st ty es')], [m], [m]⟩ = true ∧ DRun P l ((k, [m], [m]) :: prev) K ⟨updD t d r, upd H m (some (.arr v true st ty es')), c⟩) :
    step P k d un (.call f args) l prev K t H c := by
  have hN : renN [arH n m v st ty es es'] n = some (arH n m v st ty es es') := by simp [renN]
  obtain ⟨x1, x2⟩ := closed_A [arH n m v st ty es es'] H x hx
  refine callW (caps := []) («as» := [.c (.own m v N), x]) (ws := []) (ns := []) (r' := r) (ob := [(m, .arr v true st ty es')]) [arH n m v st ty es es'] hC hf ?_ ?_ ⟨?_, trivial⟩ (by simp) (by simp) (closed_T _ r hr _) ?_ ?_
  · rw [hl]
    have a1 : lendT H (T.c (.own n v N)) (T.c (.own m v N)) = some (T.c (.own m v N), [], []) := rfl
    simp only [List.map_nil, List.append_nil, lendTs, a1, x1]
  · have a1 : renIT [arH n m v st ty es es'] (T.c (.own n v N)) = some (T.c (.own m v N)) := by simp only [T.c, renIT, renI, inN, hN, Option.bind_some, Option.map_some]
    simp only [renITs, a1, x2]
  · show (match renIB [arH n m v st ty es es'] (.arr v true st ty es) with | some B => (updH H []) m = some B | none => False)
    simp only [renIB, updH]
    exact hH
  · simp only [renOBs, renOB, verOf, if_true, Blk.ver]
  · have hq : quiet r [arH n m v st ty es es'] = false := by simp [quiet]
    simpa [hq, updH] using hk
/-- A disk that is marked. -/
def mkDk (k : Nat) (d : Dk) : Dk := ⟨marks mF 3 k d.files.length, marks mS 1 (k + 3 * d.files.length) d.names.length, marks mM 2 (k + 3 * d.files.length + 1 * d.names.length) d.moves.length⟩
def mkN (k : Nat) (d : Dk) : Nat := k + 3 * d.files.length + 1 * d.names.length + 2 * d.moves.length
/-- A disk's three arrays, as they are handed on. -/
abbrev dkM (m1 m2 m3 v1 v2 v3 : Nat) (d d' : Dk) : List Hand := [arH 2001 m1 v1 3 88 (en eF d.files) (en eF d'.files), arH 2002 m2 v2 1 9 (en eS d.names) (en eS d'.names), arH 2003 m3 v3 2 90 (en eM d.moves) (en eM d'.moves)]
/- loop.example/teagle/laws.markDisk -/
def r14_0 : List AOper := [ao 0 2 (.box 34 (.t 0)),
  ao 1 4 (.mv (.k (.i 0)))]
def r14_1 : List AOper := [ao 0 5 (.fa 0 (.t 2)),
  ao 1 6 (.ld 1 false (.t 5)),
  ao 2 7 (.mv (.t 1)),
  ao 3 8 (.call (.k (.c (.fn 58 []))) [(.t 6), (.t 7)]),
  ao 4 1 (.mv (.t 8))]
def r14_2 : List AOper := [ao 0 9 (.fa 1 (.t 2)),
  ao 1 10 (.ld 1 false (.t 9)),
  ao 2 11 (.mv (.t 1)),
  ao 3 12 (.call (.k (.c (.fn 59 []))) [(.t 10), (.t 11)]),
  ao 4 1 (.mv (.t 12))]
def r14_3 : List AOper := [ao 0 13 (.fa 2 (.t 2)),
  ao 1 14 (.ld 1 false (.t 13)),
  ao 2 15 (.mv (.t 1)),
  ao 3 16 (.call (.k (.c (.fn 60 []))) [(.t 14), (.t 15)]),
  ao 4 1 (.mv (.t 16))]
def r14_4 : List AOper := [ao 0 17 (.mv (.t 1)),
  ao 1 4 (.mv (.t 17))]
def c14 : ACode := .seq (.reg r14_0) (.seq (.reg r14_1) (.seq (.reg r14_2) (.seq (.reg r14_3) (.seq (.reg r14_4) .ret))))
def s14 : List ARes := [.tmp 4]
theorem ok14 : okF Try.prog 14 18 c14 s14 := ⟨Try.f14, Try.func14, Try.ntmps14, by kernel_rfl, by kernel_rfl, by kernel_rfl⟩
theorem UFg_1 : (type_of% (uA c14.eq_1)) ∧ (type_of% (uR r14_0.eq_1)) ∧ (type_of% (uR r14_1.eq_1)) ∧ (type_of% (uR r14_2.eq_1)) ∧ (type_of% (uR r14_3.eq_1)) ∧ (type_of% (uR r14_4.eq_1)) ∧ (type_of% s14.eq_1) :=
  ⟨uA c14.eq_1, uR r14_0.eq_1, uR r14_1.eq_1, uR r14_2.eq_1, uR r14_3.eq_1, uR r14_4.eq_1, s14.eq_1⟩
theorem markDk_ok (d : Dk) (k : Nat) (h1 : 1 ≤ k) (hk : mkN k d ≤ 100000000) (m1 m2 m3 v1 v2 v3 : Nat) : ACallsF Try.prog 14 [.pt (oDk 2001 v1 2002 v2 2003 v3 d), .i k] (dkM m1 m2 m3 v1 v2 v3 d (mkDk k d)) (.i (mkN k d)) := by
  unfold mkN at hk
  refine ACallsF.intro ok14 follows fun X c0 => ?_
  simp only [RUN, core, T.c, T.s, T.b, T.i, sBin, sInt, sUn, isShift, asInt, P1.cells, loadT, ptrC, storeT, putC, fillP, Nat.reduceAdd, reduceIte, Nat.reduceEqDiff, Nat.reduceLT, Nat.reduceLeDiff, reduceCtorEq, eq_self, FIT, lendCs_map, verC_map, FinC, resPs, resP, lendPl, lendCs, lendC, sealC, partsT, finHs, tupT, verT, verP, verC, verB, verAt, Blk.ver, handsAre, forall_const, CHT, disj, Nat.reduceBEq, beq_self_eq_true, APT, srcOf, sealPs, sealCs, sealC, toVs, Option.map_some, List.mem_singleton, forall_eq, ALT, UFg_1]
  refine callM1 (m := 2001) (markDFs_ok d.files k h1 (by omega) 2001 v1) rfl rfl rfl rfl rfl ⟨rfl, ?_⟩
  simp only [RUN, core, T.c, T.s, T.b, T.i, sBin, sInt, sUn, isShift, asInt, P1.cells, loadT, ptrC, storeT, putC, fillP, Nat.reduceAdd, reduceIte, Nat.reduceEqDiff, Nat.reduceLT, Nat.reduceLeDiff, reduceCtorEq, eq_self, FIT, lendCs_map, verC_map, FinC, resPs, resP, lendPl, lendCs, lendC, sealC, partsT, finHs, tupT, verT, verP, verC, verB, verAt, Blk.ver, handsAre, forall_const, CHT, disj, Nat.reduceBEq, beq_self_eq_true, APT, srcOf, sealPs, sealCs, sealC, toVs, Option.map_some, List.mem_singleton, forall_eq, ALT, UFg_1]
  refine callM1 (m := 2002) (markSs_ok d.names (k + 3 * d.files.length) (by omega) (by omega) 2002 v2) rfl rfl rfl rfl rfl ⟨rfl, ?_⟩
  simp only [RUN, core, T.c, T.s, T.b, T.i, sBin, sInt, sUn, isShift, asInt, P1.cells, loadT, ptrC, storeT, putC, fillP, Nat.reduceAdd, reduceIte, Nat.reduceEqDiff, Nat.reduceLT, Nat.reduceLeDiff, reduceCtorEq, eq_self, FIT, lendCs_map, verC_map, FinC, resPs, resP, lendPl, lendCs, lendC, sealC, partsT, finHs, tupT, verT, verP, verC, verB, verAt, Blk.ver, handsAre, forall_const, CHT, disj, Nat.reduceBEq, beq_self_eq_true, APT, srcOf, sealPs, sealCs, sealC, toVs, Option.map_some, List.mem_singleton, forall_eq, ALT, UFg_1]
  refine callM1 (m := 2003) (markDMs_ok d.moves (k + 3 * d.files.length + 1 * d.names.length) (by omega) (by omega) 2003 v3) rfl rfl rfl rfl rfl ⟨rfl, ?_⟩
  simp only [RUN, core, T.c, T.s, T.b, T.i, sBin, sInt, sUn, isShift, asInt, P1.cells, loadT, ptrC, storeT, putC, fillP, Nat.reduceAdd, reduceIte, Nat.reduceEqDiff, Nat.reduceLT, Nat.reduceLeDiff, reduceCtorEq, eq_self, FIT, lendCs_map, verC_map, FinC, resPs, resP, lendPl, lendCs, lendC, sealC, partsT, finHs, tupT, verT, verP, verC, verB, verAt, Blk.ver, handsAre, forall_const, CHT, disj, Nat.reduceBEq, beq_self_eq_true, APT, srcOf, sealPs, sealCs, sealC, toVs, Option.map_some, List.mem_singleton, forall_eq, ALT, UFg_1, mkDk, mkN, imp_self, Nat.reduceEqDiff]
/- loop.example/teagle/laws.heldStringS -/
def r62_0 : List AOper := [ao 0 4 (.mv (.k (.i 0)))]
def r62_1 : List AOper := [ao 0 5 (.mv (.k (.i 0)))]
def r62_2 : List AOper := [ao 0 6 (.mv (.t 5)),
  ao 1 7 (.mv (.t 0)),
  ao 2 8 (.len (.t 7)),
  ao 3 9 (.bin .lss (.t 6) (.t 8))]
def c62_3 : ACode := .cond (.t 9) .skip (.exit 0)
def c62_4 : ACode := .seq (.reg r62_2) c62_3
def r62_5 : List AOper := [ao 0 12 (.mv (.t 0)),
  au 1 13 [0] (.mv (.t 5)),
  ao 2 14 (.ia 1 (.t 12) (.t 13)),
  ao 3 15 (.ld 1 false (.t 14)),
  au 4 16 (ru 4) (.mv (.t 1)),
  au 5 17 (ru 4) (.call (.k (.c (.fn 70 []))) [(.t 16)]),
  ao 6 18 (.bin .neq (.t 15) (.t 17))]
def r62_6 : List AOper := [ao 0 4 (.mv (.k (.i (-1))))]
def c62_7 : ACode := .seq (.reg r62_6) .ret
def c62_8 : ACode := .cond (.t 18) c62_7 .skip
def c62_9 : ACode := .seq (.reg r62_5) c62_8
def r62_10 : List AOper := [ao 0 19 (.mv (.t 1)),
  ao 1 20 (.bin .add (.t 19) (.k (.i 1))),
  ao 2 1 (.mv (.t 20))]
def c62_11 : ACode := .seq c62_9 (.reg r62_10)
def c62_12 : ACode := .block 1 c62_11
def r62_13 : List AOper := [ao 0 10 (.mv (.t 5)),
  ao 1 11 (.bin .add (.t 10) (.k (.i 1))),
  ao 2 5 (.mv (.t 11))]
def c62_14 : ACode := .seq c62_4 (.seq c62_12 (.reg r62_13))
def c62_15 : ACode := .loop c62_14
def c62_16 : ACode := .block 0 c62_15
def c62_17 : ACode := .seq (.reg r62_1) c62_16
def r62_18 : List AOper := [ao 0 21 (.mv (.t 1)),
  ao 1 4 (.mv (.t 21))]
def c62 : ACode := .seq (.reg r62_0) (.seq c62_17 (.seq (.reg r62_18) .ret))
def s62 : List ARes := [.tmp 4]
theorem ok62 : okF Try.prog 62 22 c62 s62 := ⟨Try.f62, Try.func62, Try.ntmps62, by kernel_rfl, by kernel_rfl, by kernel_rfl⟩
def inv62 (N k : Nat) (i : Nat) (σ : St) : Prop := σ.t 0 = tL (en eS (marks mS 1 k N)) ∧ σ.t 1 = .i ((k + 1 * i : Nat) : Int) ∧ σ.t 5 = .i i
theorem UFg_2 : (type_of% (uA c62.eq_1)) ∧ (type_of% (uR r62_0.eq_1)) ∧ (type_of% (uA c62_17.eq_1)) ∧ (type_of% (uR r62_1.eq_1)) ∧ (type_of% (uA c62_16.eq_1)) ∧ (type_of% (uA c62_15.eq_1)) ∧ (type_of% (uR r62_18.eq_1)) ∧ (type_of% s62.eq_1) :=
  ⟨uA c62.eq_1, uR r62_0.eq_1, uA c62_17.eq_1, uR r62_1.eq_1, uA c62_16.eq_1, uA c62_15.eq_1, uR r62_18.eq_1, s62.eq_1⟩
theorem UFg_6 : (type_of% (uA c62_14.eq_1)) ∧ (type_of% (uA c62_4.eq_1)) ∧ (type_of% (uR r62_2.eq_1)) ∧ (type_of% (uA c62_3.eq_1)) ∧ (type_of% (uA c62_12.eq_1)) ∧ (type_of% (uA c62_11.eq_1)) ∧ (type_of% (uA c62_9.eq_1)) ∧ (type_of% (uR r62_5.eq_1)) ∧ (type_of% (uA c62_8.eq_1)) ∧ (type_of% (uA c62_7.eq_1)) ∧ (type_of% (uR r62_6.eq_1)) ∧ (type_of% (uR r62_10.eq_1)) ∧ (type_of% (uR r62_13.eq_1)) ∧ (type_of% (uA c62.eq_1)) ∧ (type_of% (uR r62_0.eq_1)) ∧ (type_of% (uA c62_17.eq_1)) ∧ (type_of% (uR r62_1.eq_1)) ∧ (type_of% (uA c62_16.eq_1)) ∧ (type_of% (uA c62_15.eq_1)) ∧ (type_of% (uR r62_18.eq_1)) ∧ (type_of% s62.eq_1) :=
  ⟨uA c62_14.eq_1, uA c62_4.eq_1, uR r62_2.eq_1, uA c62_3.eq_1, uA c62_12.eq_1, uA c62_11.eq_1, uA c62_9.eq_1, uR r62_5.eq_1, uA c62_8.eq_1, uA c62_7.eq_1, uR r62_6.eq_1, uR r62_10.eq_1, uR r62_13.eq_1, uA c62.eq_1, uR r62_0.eq_1, uA c62_17.eq_1, uR r62_1.eq_1, uA c62_16.eq_1, uA c62_15.eq_1, uR r62_18.eq_1, s62.eq_1⟩
theorem heldSs_ok (N : Nat) (k : Nat) (h1 : 1 ≤ k) (hk : k + 1 * N ≤ 100000000) : ACallsF Try.prog 62 [tL (en eS (marks mS 1 k N)), .i k] [] (.i ((k + 1 * N : Nat) : Int)) := by
  refine ACallsF.intro ok62 follows fun X c0 => ?_
  simp only [RUN, core, T.c, T.s, T.b, T.i, sBin, sInt, sUn, isShift, asInt, P1.cells, loadT, ptrC, storeT, putC, fillP, Nat.reduceAdd, reduceIte, Nat.reduceEqDiff, Nat.reduceLT, Nat.reduceLeDiff, reduceCtorEq, eq_self, FIT, lendCs_map, verC_map, FinC, resPs, resP, lendPl, lendCs, lendC, sealC, partsT, finHs, tupT, verT, verP, verC, verB, verAt, Blk.ver, handsAre, forall_const, CHT, disj, Nat.reduceBEq, beq_self_eq_true, APT, srcOf, sealPs, sealCs, sealC, toVs, Option.map_some, List.mem_singleton, forall_eq, ALT, UFg_2]
  refine AW.upto N (inv62 N k) ⟨rfl, rfl, rfl⟩ fun i t H c hi h => ?_
  obtain ⟨e0, e1, e5⟩ := h
  simp only [T.c, T.i, tL] at e0 e1 e5
  have hpl : (marks mS 1 k N).length = N := marks_len mS 1 k N
  by_cases hlt : i < N
  · have ex := en_at eS (marks_at mS 1 k hlt)
    have k1 : (i : Int) < N := by omega
    have gz : (0 : Int) ≤ i := by omega
    have gw : IntKind.i64.wrap ((i : Int) + 1) = ((i + 1 : Nat) : Int) := wrap64 (x := (i : Int) + 1) ⟨by omega, by omega⟩
    have h30 : ¬ (3 : Int) = 0 := by omega
    have q3 : ((k + 1 * i : Nat) : Int).tmod 3 = (((k + 1 * i) % 3 : Nat) : Int) := rfl
    have g0 : IntKind.i64.wrap (((k + 1 * i : Nat) : Int) + 1) = ((k + 1 * (i + 1) : Nat) : Int) := (wrap64 (x := ((k + 1 * i : Nat) : Int) + 1) ⟨by omega, by omega⟩).trans (by omega)

    simp only [RUN, core, T.c, T.s, T.b, T.i, sBin, sInt, sUn, isShift, asInt, P1.cells, loadT, ptrC, storeT, putC, fillP, Nat.reduceAdd, reduceIte, Nat.reduceEqDiff, Nat.reduceLT, Nat.reduceLeDiff, reduceCtorEq, eq_self, FIT, lendCs_map, verC_map, FinC, resPs, resP, lendPl, lendCs, lendC, sealC, partsT, finHs, tupT, verT, verP, verC, verB, verAt, Blk.ver, handsAre, forall_const, CHT, disj, Nat.reduceBEq, beq_self_eq_true, APT, srcOf, sealPs, sealCs, sealC, toVs, Option.map_some, List.mem_singleton, forall_eq, ALT, UFg_6, e0, e1, e5, en_len, hpl, k1, gz, ex, eS, mS, g0, gw, h30, q3, sStr, str_beq, decide_true]
    refine callC (mark_ok (k + 1 * i) (by omega) (by omega)) rfl rfl rfl rfl ?_
    simp only [RUN, core, T.c, T.s, T.b, T.i, sBin, sInt, sUn, isShift, asInt, P1.cells, loadT, ptrC, storeT, putC, fillP, Nat.reduceAdd, reduceIte, Nat.reduceEqDiff, Nat.reduceLT, Nat.reduceLeDiff, reduceCtorEq, eq_self, FIT, lendCs_map, verC_map, FinC, resPs, resP, lendPl, lendCs, lendC, sealC, partsT, finHs, tupT, verT, verP, verC, verB, verAt, Blk.ver, handsAre, forall_const, CHT, disj, Nat.reduceBEq, beq_self_eq_true, APT, srcOf, sealPs, sealCs, sealC, toVs, Option.map_some, List.mem_singleton, forall_eq, ALT, UFg_6, e0, e1, e5, en_len, hpl, k1, gz, ex, eS, mS, g0, gw, h30, q3, sStr, str_beq, decide_true]
    exact ⟨hlt, e0, rfl, rfl⟩
  · have k1 : ¬ (i : Int) < N := by omega
    have hi2 : i = N := by omega
    subst hi2
    simp only [RUN, core, T.c, T.s, T.b, T.i, sBin, sInt, sUn, isShift, asInt, P1.cells, loadT, ptrC, storeT, putC, fillP, Nat.reduceAdd, reduceIte, Nat.reduceEqDiff, Nat.reduceLT, Nat.reduceLeDiff, reduceCtorEq, eq_self, FIT, lendCs_map, verC_map, FinC, resPs, resP, lendPl, lendCs, lendC, sealC, partsT, finHs, tupT, verT, verP, verC, verB, verAt, Blk.ver, handsAre, forall_const, CHT, disj, Nat.reduceBEq, beq_self_eq_true, APT, srcOf, sealPs, sealCs, sealC, toVs, Option.map_some, List.mem_singleton, forall_eq, ALT, UFg_6, UFg_2, e0, e1, e5, en_len, hpl, k1]
/- loop.example/teagle/laws.heldDiskFileS -/
def r61_0 : List AOper := [ao 0 4 (.mv (.k (.i 0)))]
def r61_1 : List AOper := [ao 0 5 (.mv (.k (.i 0)))]
def r61_2 : List AOper := [ao 0 6 (.mv (.t 5)),
  ao 1 7 (.mv (.t 0)),
  ao 2 8 (.len (.t 7)),
  ao 3 9 (.bin .lss (.t 6) (.t 8))]
def c61_3 : ACode := .cond (.t 9) .skip (.exit 0)
def c61_4 : ACode := .seq (.reg r61_2) c61_3
def r61_5 : List AOper := [ao 0 12 (.mv (.t 0)),
  au 1 13 [0] (.mv (.t 5)),
  ao 2 14 (.ia 3 (.t 12) (.t 13)),
  ao 3 15 (.fa 0 (.t 14)),
  ao 4 16 (.ld 1 false (.t 15)),
  au 5 17 (ru 5) (.mv (.t 1)),
  au 6 18 (ru 5) (.call (.k (.c (.fn 70 []))) [(.t 17)]),
  ao 7 19 (.bin .neq (.t 16) (.t 18))]
def r61_6 : List AOper := [ao 0 4 (.mv (.k (.i (-1))))]
def c61_7 : ACode := .seq (.reg r61_6) .ret
def c61_8 : ACode := .cond (.t 19) c61_7 .skip
def c61_9 : ACode := .seq (.reg r61_5) c61_8
def r61_10 : List AOper := [ao 0 20 (.mv (.t 1)),
  ao 1 21 (.bin .add (.t 20) (.k (.i 1))),
  ao 2 1 (.mv (.t 21))]
def r61_11 : List AOper := [ao 0 22 (.mv (.t 0)),
  au 1 23 [0] (.mv (.t 5)),
  ao 2 24 (.ia 3 (.t 22) (.t 23)),
  ao 3 25 (.fa 1 (.t 24)),
  ao 4 26 (.ld 1 false (.t 25)),
  au 5 27 (ru 5) (.mv (.t 1)),
  au 6 28 (ru 5) (.call (.k (.c (.fn 70 []))) [(.t 27)]),
  ao 7 29 (.bin .neq (.t 26) (.t 28))]
def r61_12 : List AOper := [ao 0 4 (.mv (.k (.i (-1))))]
def c61_13 : ACode := .seq (.reg r61_12) .ret
def c61_14 : ACode := .cond (.t 29) c61_13 .skip
def c61_15 : ACode := .seq (.reg r61_11) c61_14
def r61_16 : List AOper := [ao 0 30 (.mv (.t 1)),
  ao 1 31 (.bin .add (.t 30) (.k (.i 1))),
  ao 2 1 (.mv (.t 31))]
def r61_17 : List AOper := [ao 0 32 (.mv (.t 0)),
  ao 1 33 (.mv (.t 5)),
  ao 2 34 (.ia 3 (.t 32) (.t 33)),
  ao 3 35 (.fa 2 (.t 34)),
  ao 4 36 (.ld 1 false (.t 35)),
  ao 5 37 (.mv (.t 1)),
  ao 6 38 (.bin .neq (.t 36) (.t 37))]
def r61_18 : List AOper := [ao 0 4 (.mv (.k (.i (-1))))]
def c61_19 : ACode := .seq (.reg r61_18) .ret
def c61_20 : ACode := .cond (.t 38) c61_19 .skip
def c61_21 : ACode := .seq (.reg r61_17) c61_20
def r61_22 : List AOper := [ao 0 39 (.mv (.t 1)),
  ao 1 40 (.bin .add (.t 39) (.k (.i 1))),
  ao 2 1 (.mv (.t 40))]
def c61_23 : ACode := .seq c61_9 (.seq (.reg r61_10) (.seq c61_15 (.seq (.reg r61_16) (.seq c61_21 (.reg r61_22)))))
def c61_24 : ACode := .block 1 c61_23
def r61_25 : List AOper := [ao 0 10 (.mv (.t 5)),
  ao 1 11 (.bin .add (.t 10) (.k (.i 1))),
  ao 2 5 (.mv (.t 11))]
def c61_26 : ACode := .seq c61_4 (.seq c61_24 (.reg r61_25))
def c61_27 : ACode := .loop c61_26
def c61_28 : ACode := .block 0 c61_27
def c61_29 : ACode := .seq (.reg r61_1) c61_28
def r61_30 : List AOper := [ao 0 41 (.mv (.t 1)),
  ao 1 4 (.mv (.t 41))]
def c61 : ACode := .seq (.reg r61_0) (.seq c61_29 (.seq (.reg r61_30) .ret))
def s61 : List ARes := [.tmp 4]
theorem ok61 : okF Try.prog 61 42 c61 s61 := ⟨Try.f61, Try.func61, Try.ntmps61, by kernel_rfl, by kernel_rfl, by kernel_rfl⟩
def inv61 (N k : Nat) (i : Nat) (σ : St) : Prop := σ.t 0 = tL (en eF (marks mF 3 k N)) ∧ σ.t 1 = .i ((k + 3 * i : Nat) : Int) ∧ σ.t 5 = .i i
theorem UFg_3 : (type_of% (uA c61.eq_1)) ∧ (type_of% (uR r61_0.eq_1)) ∧ (type_of% (uA c61_29.eq_1)) ∧ (type_of% (uR r61_1.eq_1)) ∧ (type_of% (uA c61_28.eq_1)) ∧ (type_of% (uA c61_27.eq_1)) ∧ (type_of% (uR r61_30.eq_1)) ∧ (type_of% s61.eq_1) :=
  ⟨uA c61.eq_1, uR r61_0.eq_1, uA c61_29.eq_1, uR r61_1.eq_1, uA c61_28.eq_1, uA c61_27.eq_1, uR r61_30.eq_1, s61.eq_1⟩
theorem UFg_7 : (type_of% (uA c61_26.eq_1)) ∧ (type_of% (uA c61_4.eq_1)) ∧ (type_of% (uR r61_2.eq_1)) ∧ (type_of% (uA c61_3.eq_1)) ∧ (type_of% (uA c61_24.eq_1)) ∧ (type_of% (uA c61_23.eq_1)) ∧ (type_of% (uA c61_9.eq_1)) ∧ (type_of% (uR r61_5.eq_1)) ∧ (type_of% (uA c61_8.eq_1)) ∧ (type_of% (uA c61_7.eq_1)) ∧ (type_of% (uR r61_6.eq_1)) ∧ (type_of% (uR r61_10.eq_1)) ∧ (type_of% (uA c61_15.eq_1)) ∧ (type_of% (uR r61_11.eq_1)) ∧ (type_of% (uA c61_14.eq_1)) ∧ (type_of% (uA c61_13.eq_1)) ∧ (type_of% (uR r61_12.eq_1)) ∧ (type_of% (uR r61_16.eq_1)) ∧ (type_of% (uA c61_21.eq_1)) ∧ (type_of% (uR r61_17.eq_1)) ∧ (type_of% (uA c61_20.eq_1)) ∧ (type_of% (uA c61_19.eq_1)) ∧ (type_of% (uR r61_18.eq_1)) ∧ (type_of% (uR r61_22.eq_1)) ∧ (type_of% (uR r61_25.eq_1)) ∧ (type_of% (uA c61.eq_1)) ∧ (type_of% (uR r61_0.eq_1)) ∧ (type_of% (uA c61_29.eq_1)) ∧ (type_of% (uR r61_1.eq_1)) ∧ (type_of% (uA c61_28.eq_1)) ∧ (type_of% (uA c61_27.eq_1)) ∧ (type_of% (uR r61_30.eq_1)) ∧ (type_of% s61.eq_1) :=
  ⟨uA c61_26.eq_1, uA c61_4.eq_1, uR r61_2.eq_1, uA c61_3.eq_1, uA c61_24.eq_1, uA c61_23.eq_1, uA c61_9.eq_1, uR r61_5.eq_1, uA c61_8.eq_1, uA c61_7.eq_1, uR r61_6.eq_1, uR r61_10.eq_1, uA c61_15.eq_1, uR r61_11.eq_1, uA c61_14.eq_1, uA c61_13.eq_1, uR r61_12.eq_1, uR r61_16.eq_1, uA c61_21.eq_1, uR r61_17.eq_1, uA c61_20.eq_1, uA c61_19.eq_1, uR r61_18.eq_1, uR r61_22.eq_1, uR r61_25.eq_1, uA c61.eq_1, uR r61_0.eq_1, uA c61_29.eq_1, uR r61_1.eq_1, uA c61_28.eq_1, uA c61_27.eq_1, uR r61_30.eq_1, s61.eq_1⟩
theorem heldDFs_ok (N : Nat) (k : Nat) (h1 : 1 ≤ k) (hk : k + 3 * N ≤ 100000000) : ACallsF Try.prog 61 [tL (en eF (marks mF 3 k N)), .i k] [] (.i ((k + 3 * N : Nat) : Int)) := by
  refine ACallsF.intro ok61 follows fun X c0 => ?_
  simp only [RUN, core, T.c, T.s, T.b, T.i, sBin, sInt, sUn, isShift, asInt, P1.cells, loadT, ptrC, storeT, putC, fillP, Nat.reduceAdd, reduceIte, Nat.reduceEqDiff, Nat.reduceLT, Nat.reduceLeDiff, reduceCtorEq, eq_self, FIT, lendCs_map, verC_map, FinC, resPs, resP, lendPl, lendCs, lendC, sealC, partsT, finHs, tupT, verT, verP, verC, verB, verAt, Blk.ver, handsAre, forall_const, CHT, disj, Nat.reduceBEq, beq_self_eq_true, APT, srcOf, sealPs, sealCs, sealC, toVs, Option.map_some, List.mem_singleton, forall_eq, ALT, UFg_3]
  refine AW.upto N (inv61 N k) ⟨rfl, rfl, rfl⟩ fun i t H c hi h => ?_
  obtain ⟨e0, e1, e5⟩ := h
  simp only [T.c, T.i, tL] at e0 e1 e5
  have hpl : (marks mF 3 k N).length = N := marks_len mF 3 k N
  by_cases hlt : i < N
  · have ex := en_at eF (marks_at mF 3 k hlt)
    have k1 : (i : Int) < N := by omega
    have gz : (0 : Int) ≤ i := by omega
    have gw : IntKind.i64.wrap ((i : Int) + 1) = ((i + 1 : Nat) : Int) := wrap64 (x := (i : Int) + 1) ⟨by omega, by omega⟩
    have h30 : ¬ (3 : Int) = 0 := by omega
    have q3 : ((k + 3 * i : Nat) : Int).tmod 3 = (((k + 3 * i) % 3 : Nat) : Int) := rfl
    have g0 : IntKind.i64.wrap (((k + 3 * i : Nat) : Int) + 1) = ((k + 3 * i + 1 : Nat) : Int) := (wrap64 (x := ((k + 3 * i : Nat) : Int) + 1) ⟨by omega, by omega⟩).trans (by omega)
    have g1 : IntKind.i64.wrap (((k + 3 * i + 1 : Nat) : Int) + 1) = ((k + 3 * i + 2 : Nat) : Int) := (wrap64 (x := ((k + 3 * i + 1 : Nat) : Int) + 1) ⟨by omega, by omega⟩).trans (by omega)
    have g2 : IntKind.i64.wrap (((k + 3 * i + 2 : Nat) : Int) + 1) = ((k + 3 * (i + 1) : Nat) : Int) := (wrap64 (x := ((k + 3 * i + 2 : Nat) : Int) + 1) ⟨by omega, by omega⟩).trans (by omega)
    have n2 : (((k + 3 * i + 2 : Nat) : Int) != ((k + 3 * i + 2 : Nat) : Int)) = false := by simp
    simp only [RUN, core, T.c, T.s, T.b, T.i, sBin, sInt, sUn, isShift, asInt, P1.cells, loadT, ptrC, storeT, putC, fillP, Nat.reduceAdd, reduceIte, Nat.reduceEqDiff, Nat.reduceLT, Nat.reduceLeDiff, reduceCtorEq, eq_self, FIT, lendCs_map, verC_map, FinC, resPs, resP, lendPl, lendCs, lendC, sealC, partsT, finHs, tupT, verT, verP, verC, verB, verAt, Blk.ver, handsAre, forall_const, CHT, disj, Nat.reduceBEq, beq_self_eq_true, APT, srcOf, sealPs, sealCs, sealC, toVs, Option.map_some, List.mem_singleton, forall_eq, ALT, UFg_7, e0, e1, e5, en_len, hpl, k1, gz, ex, eF, mF, g0, g1, g2, gw, h30, q3, sStr, str_beq, decide_true, n2]
    refine callC (mark_ok (k + 3 * i) (by omega) (by omega)) rfl rfl rfl rfl ?_
    simp only [RUN, core, T.c, T.s, T.b, T.i, sBin, sInt, sUn, isShift, asInt, P1.cells, loadT, ptrC, storeT, putC, fillP, Nat.reduceAdd, reduceIte, Nat.reduceEqDiff, Nat.reduceLT, Nat.reduceLeDiff, reduceCtorEq, eq_self, FIT, lendCs_map, verC_map, FinC, resPs, resP, lendPl, lendCs, lendC, sealC, partsT, finHs, tupT, verT, verP, verC, verB, verAt, Blk.ver, handsAre, forall_const, CHT, disj, Nat.reduceBEq, beq_self_eq_true, APT, srcOf, sealPs, sealCs, sealC, toVs, Option.map_some, List.mem_singleton, forall_eq, ALT, UFg_7, e0, e1, e5, en_len, hpl, k1, gz, ex, eF, mF, g0, g1, g2, gw, h30, q3, sStr, str_beq, decide_true, n2]
    refine callC (mark_ok (k + 3 * i + 1) (by omega) (by omega)) rfl rfl rfl rfl ?_
    simp only [RUN, core, T.c, T.s, T.b, T.i, sBin, sInt, sUn, isShift, asInt, P1.cells, loadT, ptrC, storeT, putC, fillP, Nat.reduceAdd, reduceIte, Nat.reduceEqDiff, Nat.reduceLT, Nat.reduceLeDiff, reduceCtorEq, eq_self, FIT, lendCs_map, verC_map, FinC, resPs, resP, lendPl, lendCs, lendC, sealC, partsT, finHs, tupT, verT, verP, verC, verB, verAt, Blk.ver, handsAre, forall_const, CHT, disj, Nat.reduceBEq, beq_self_eq_true, APT, srcOf, sealPs, sealCs, sealC, toVs, Option.map_some, List.mem_singleton, forall_eq, ALT, UFg_7, e0, e1, e5, en_len, hpl, k1, gz, ex, eF, mF, g0, g1, g2, gw, h30, q3, sStr, str_beq, decide_true, n2]
    exact ⟨hlt, e0, rfl, rfl⟩
  · have k1 : ¬ (i : Int) < N := by omega
    have hi2 : i = N := by omega
    subst hi2
    simp only [RUN, core, T.c, T.s, T.b, T.i, sBin, sInt, sUn, isShift, asInt, P1.cells, loadT, ptrC, storeT, putC, fillP, Nat.reduceAdd, reduceIte, Nat.reduceEqDiff, Nat.reduceLT, Nat.reduceLeDiff, reduceCtorEq, eq_self, FIT, lendCs_map, verC_map, FinC, resPs, resP, lendPl, lendCs, lendC, sealC, partsT, finHs, tupT, verT, verP, verC, verB, verAt, Blk.ver, handsAre, forall_const, CHT, disj, Nat.reduceBEq, beq_self_eq_true, APT, srcOf, sealPs, sealCs, sealC, toVs, Option.map_some, List.mem_singleton, forall_eq, ALT, UFg_7, UFg_3, e0, e1, e5, en_len, hpl, k1]
/- loop.example/teagle/laws.heldDiskMoveS -/
def r63_0 : List AOper := [ao 0 4 (.mv (.k (.i 0)))]
def r63_1 : List AOper := [ao 0 5 (.mv (.k (.i 0)))]
def r63_2 : List AOper := [ao 0 6 (.mv (.t 5)),
  ao 1 7 (.mv (.t 0)),
  ao 2 8 (.len (.t 7)),
  ao 3 9 (.bin .lss (.t 6) (.t 8))]
def c63_3 : ACode := .cond (.t 9) .skip (.exit 0)
def c63_4 : ACode := .seq (.reg r63_2) c63_3
def r63_5 : List AOper := [ao 0 12 (.mv (.t 0)),
  ao 1 13 (.mv (.t 5)),
  ao 2 14 (.ia 2 (.t 12) (.t 13)),
  ao 3 15 (.fa 0 (.t 14)),
  ao 4 16 (.ld 1 false (.t 15)),
  ao 5 17 (.mv (.t 1)),
  ao 6 18 (.bin .rem (.t 17) (.k (.i 3))),
  ao 7 19 (.bin .eql (.t 18) (.k (.i 0))),
  ao 8 20 (.binB .neq (.t 16) (.t 19))]
def r63_6 : List AOper := [ao 0 4 (.mv (.k (.i (-1))))]
def c63_7 : ACode := .seq (.reg r63_6) .ret
def c63_8 : ACode := .cond (.t 20) c63_7 .skip
def c63_9 : ACode := .seq (.reg r63_5) c63_8
def r63_10 : List AOper := [ao 0 21 (.mv (.t 1)),
  ao 1 22 (.bin .add (.t 21) (.k (.i 1))),
  ao 2 1 (.mv (.t 22))]
def r63_11 : List AOper := [ao 0 23 (.mv (.t 0)),
  au 1 24 [0] (.mv (.t 5)),
  ao 2 25 (.ia 2 (.t 23) (.t 24)),
  ao 3 26 (.fa 1 (.t 25)),
  ao 4 27 (.ld 1 false (.t 26)),
  au 5 28 (ru 5) (.mv (.t 1)),
  au 6 29 (ru 5) (.call (.k (.c (.fn 70 []))) [(.t 28)]),
  ao 7 30 (.bin .neq (.t 27) (.t 29))]
def r63_12 : List AOper := [ao 0 4 (.mv (.k (.i (-1))))]
def c63_13 : ACode := .seq (.reg r63_12) .ret
def c63_14 : ACode := .cond (.t 30) c63_13 .skip
def c63_15 : ACode := .seq (.reg r63_11) c63_14
def r63_16 : List AOper := [ao 0 31 (.mv (.t 1)),
  ao 1 32 (.bin .add (.t 31) (.k (.i 1))),
  ao 2 1 (.mv (.t 32))]
def c63_17 : ACode := .seq c63_9 (.seq (.reg r63_10) (.seq c63_15 (.reg r63_16)))
def c63_18 : ACode := .block 1 c63_17
def r63_19 : List AOper := [ao 0 10 (.mv (.t 5)),
  ao 1 11 (.bin .add (.t 10) (.k (.i 1))),
  ao 2 5 (.mv (.t 11))]
def c63_20 : ACode := .seq c63_4 (.seq c63_18 (.reg r63_19))
def c63_21 : ACode := .loop c63_20
def c63_22 : ACode := .block 0 c63_21
def c63_23 : ACode := .seq (.reg r63_1) c63_22
def r63_24 : List AOper := [ao 0 33 (.mv (.t 1)),
  ao 1 4 (.mv (.t 33))]
def c63 : ACode := .seq (.reg r63_0) (.seq c63_23 (.seq (.reg r63_24) .ret))
def s63 : List ARes := [.tmp 4]
theorem ok63 : okF Try.prog 63 34 c63 s63 := ⟨Try.f63, Try.func63, Try.ntmps63, by kernel_rfl, by kernel_rfl, by kernel_rfl⟩
def inv63 (N k : Nat) (i : Nat) (σ : St) : Prop := σ.t 0 = tL (en eM (marks mM 2 k N)) ∧ σ.t 1 = .i ((k + 2 * i : Nat) : Int) ∧ σ.t 5 = .i i
theorem UFg_4 : (type_of% (uA c63.eq_1)) ∧ (type_of% (uR r63_0.eq_1)) ∧ (type_of% (uA c63_23.eq_1)) ∧ (type_of% (uR r63_1.eq_1)) ∧ (type_of% (uA c63_22.eq_1)) ∧ (type_of% (uA c63_21.eq_1)) ∧ (type_of% (uR r63_24.eq_1)) ∧ (type_of% s63.eq_1) :=
  ⟨uA c63.eq_1, uR r63_0.eq_1, uA c63_23.eq_1, uR r63_1.eq_1, uA c63_22.eq_1, uA c63_21.eq_1, uR r63_24.eq_1, s63.eq_1⟩
theorem UFg_8 : (type_of% (uA c63_20.eq_1)) ∧ (type_of% (uA c63_4.eq_1)) ∧ (type_of% (uR r63_2.eq_1)) ∧ (type_of% (uA c63_3.eq_1)) ∧ (type_of% (uA c63_18.eq_1)) ∧ (type_of% (uA c63_17.eq_1)) ∧ (type_of% (uA c63_9.eq_1)) ∧ (type_of% (uR r63_5.eq_1)) ∧ (type_of% (uA c63_8.eq_1)) ∧ (type_of% (uA c63_7.eq_1)) ∧ (type_of% (uR r63_6.eq_1)) ∧ (type_of% (uR r63_10.eq_1)) ∧ (type_of% (uA c63_15.eq_1)) ∧ (type_of% (uR r63_11.eq_1)) ∧ (type_of% (uA c63_14.eq_1)) ∧ (type_of% (uA c63_13.eq_1)) ∧ (type_of% (uR r63_12.eq_1)) ∧ (type_of% (uR r63_16.eq_1)) ∧ (type_of% (uR r63_19.eq_1)) ∧ (type_of% (uA c63.eq_1)) ∧ (type_of% (uR r63_0.eq_1)) ∧ (type_of% (uA c63_23.eq_1)) ∧ (type_of% (uR r63_1.eq_1)) ∧ (type_of% (uA c63_22.eq_1)) ∧ (type_of% (uA c63_21.eq_1)) ∧ (type_of% (uR r63_24.eq_1)) ∧ (type_of% s63.eq_1) :=
  ⟨uA c63_20.eq_1, uA c63_4.eq_1, uR r63_2.eq_1, uA c63_3.eq_1, uA c63_18.eq_1, uA c63_17.eq_1, uA c63_9.eq_1, uR r63_5.eq_1, uA c63_8.eq_1, uA c63_7.eq_1, uR r63_6.eq_1, uR r63_10.eq_1, uA c63_15.eq_1, uR r63_11.eq_1, uA c63_14.eq_1, uA c63_13.eq_1, uR r63_12.eq_1, uR r63_16.eq_1, uR r63_19.eq_1, uA c63.eq_1, uR r63_0.eq_1, uA c63_23.eq_1, uR r63_1.eq_1, uA c63_22.eq_1, uA c63_21.eq_1, uR r63_24.eq_1, s63.eq_1⟩
theorem heldDMs_ok (N : Nat) (k : Nat) (h1 : 1 ≤ k) (hk : k + 2 * N ≤ 100000000) : ACallsF Try.prog 63 [tL (en eM (marks mM 2 k N)), .i k] [] (.i ((k + 2 * N : Nat) : Int)) := by
  refine ACallsF.intro ok63 follows fun X c0 => ?_
  simp only [RUN, core, T.c, T.s, T.b, T.i, sBin, sInt, sUn, isShift, asInt, P1.cells, loadT, ptrC, storeT, putC, fillP, Nat.reduceAdd, reduceIte, Nat.reduceEqDiff, Nat.reduceLT, Nat.reduceLeDiff, reduceCtorEq, eq_self, FIT, lendCs_map, verC_map, FinC, resPs, resP, lendPl, lendCs, lendC, sealC, partsT, finHs, tupT, verT, verP, verC, verB, verAt, Blk.ver, handsAre, forall_const, CHT, disj, Nat.reduceBEq, beq_self_eq_true, APT, srcOf, sealPs, sealCs, sealC, toVs, Option.map_some, List.mem_singleton, forall_eq, ALT, UFg_4]
  refine AW.upto N (inv63 N k) ⟨rfl, rfl, rfl⟩ fun i t H c hi h => ?_
  obtain ⟨e0, e1, e5⟩ := h
  simp only [T.c, T.i, tL] at e0 e1 e5
  have hpl : (marks mM 2 k N).length = N := marks_len mM 2 k N
  by_cases hlt : i < N
  · have ex := en_at eM (marks_at mM 2 k hlt)
    have k1 : (i : Int) < N := by omega
    have gz : (0 : Int) ≤ i := by omega
    have gw : IntKind.i64.wrap ((i : Int) + 1) = ((i + 1 : Nat) : Int) := wrap64 (x := (i : Int) + 1) ⟨by omega, by omega⟩
    have h30 : ¬ (3 : Int) = 0 := by omega
    have q3 : ((k + 2 * i : Nat) : Int).tmod 3 = (((k + 2 * i) % 3 : Nat) : Int) := rfl
    have g0 : IntKind.i64.wrap (((k + 2 * i : Nat) : Int) + 1) = ((k + 2 * i + 1 : Nat) : Int) := (wrap64 (x := ((k + 2 * i : Nat) : Int) + 1) ⟨by omega, by omega⟩).trans (by omega)
    have g1 : IntKind.i64.wrap (((k + 2 * i + 1 : Nat) : Int) + 1) = ((k + 2 * (i + 1) : Nat) : Int) := (wrap64 (x := ((k + 2 * i + 1 : Nat) : Int) + 1) ⟨by omega, by omega⟩).trans (by omega)
    have n0 : (((((k + 2 * i) % 3 : Nat) : Int) == 0) == ((((k + 2 * i) % 3 : Nat) : Int) == 0)) = true := by simp
    simp only [RUN, core, T.c, T.s, T.b, T.i, sBin, sInt, sUn, isShift, asInt, P1.cells, loadT, ptrC, storeT, putC, fillP, Nat.reduceAdd, reduceIte, Nat.reduceEqDiff, Nat.reduceLT, Nat.reduceLeDiff, reduceCtorEq, eq_self, FIT, lendCs_map, verC_map, FinC, resPs, resP, lendPl, lendCs, lendC, sealC, partsT, finHs, tupT, verT, verP, verC, verB, verAt, Blk.ver, handsAre, forall_const, CHT, disj, Nat.reduceBEq, beq_self_eq_true, APT, srcOf, sealPs, sealCs, sealC, toVs, Option.map_some, List.mem_singleton, forall_eq, ALT, UFg_8, e0, e1, e5, en_len, hpl, k1, gz, ex, eM, mM, g0, g1, gw, h30, q3, sStr, str_beq, decide_true, n0]
    refine callC (mark_ok (k + 2 * i + 1) (by omega) (by omega)) rfl rfl rfl rfl ?_
    simp only [RUN, core, T.c, T.s, T.b, T.i, sBin, sInt, sUn, isShift, asInt, P1.cells, loadT, ptrC, storeT, putC, fillP, Nat.reduceAdd, reduceIte, Nat.reduceEqDiff, Nat.reduceLT, Nat.reduceLeDiff, reduceCtorEq, eq_self, FIT, lendCs_map, verC_map, FinC, resPs, resP, lendPl, lendCs, lendC, sealC, partsT, finHs, tupT, verT, verP, verC, verB, verAt, Blk.ver, handsAre, forall_const, CHT, disj, Nat.reduceBEq, beq_self_eq_true, APT, srcOf, sealPs, sealCs, sealC, toVs, Option.map_some, List.mem_singleton, forall_eq, ALT, UFg_8, e0, e1, e5, en_len, hpl, k1, gz, ex, eM, mM, g0, g1, gw, h30, q3, sStr, str_beq, decide_true, n0]
    exact ⟨hlt, e0, rfl, rfl⟩
  · have k1 : ¬ (i : Int) < N := by omega
    have hi2 : i = N := by omega
    subst hi2
    simp only [RUN, core, T.c, T.s, T.b, T.i, sBin, sInt, sUn, isShift, asInt, P1.cells, loadT, ptrC, storeT, putC, fillP, Nat.reduceAdd, reduceIte, Nat.reduceEqDiff, Nat.reduceLT, Nat.reduceLeDiff, reduceCtorEq, eq_self, FIT, lendCs_map, verC_map, FinC, resPs, resP, lendPl, lendCs, lendC, sealC, partsT, finHs, tupT, verT, verP, verC, verB, verAt, Blk.ver, handsAre, forall_const, CHT, disj, Nat.reduceBEq, beq_self_eq_true, APT, srcOf, sealPs, sealCs, sealC, toVs, Option.map_some, List.mem_singleton, forall_eq, ALT, UFg_8, UFg_4, e0, e1, e5, en_len, hpl, k1]
/- loop.example/teagle/laws.heldDisk -/
def r15_0 : List AOper := [ao 0 2 (.box 34 (.t 0)),
  ao 1 4 (.mv (.k (.i 0)))]
def r15_1 : List AOper := [ao 0 5 (.fa 0 (.t 2)),
  ao 1 6 (.ld 1 false (.t 5)),
  ao 2 7 (.mv (.t 1)),
  ao 3 8 (.call (.k (.c (.fn 61 []))) [(.t 6), (.t 7)]),
  ao 4 1 (.mv (.t 8))]
def r15_2 : List AOper := [ao 0 9 (.mv (.t 1)),
  ao 1 10 (.bin .lss (.t 9) (.k (.i 0)))]
def r15_3 : List AOper := [ao 0 4 (.mv (.k (.i (-1))))]
def c15_4 : ACode := .seq (.reg r15_3) .ret
def c15_5 : ACode := .cond (.t 10) c15_4 .skip
def c15_6 : ACode := .seq (.reg r15_2) c15_5
def r15_7 : List AOper := [ao 0 11 (.fa 1 (.t 2)),
  ao 1 12 (.ld 1 false (.t 11)),
  ao 2 13 (.mv (.t 1)),
  ao 3 14 (.call (.k (.c (.fn 62 []))) [(.t 12), (.t 13)]),
  ao 4 1 (.mv (.t 14))]
def r15_8 : List AOper := [ao 0 15 (.mv (.t 1)),
  ao 1 16 (.bin .lss (.t 15) (.k (.i 0)))]
def r15_9 : List AOper := [ao 0 4 (.mv (.k (.i (-1))))]
def c15_10 : ACode := .seq (.reg r15_9) .ret
def c15_11 : ACode := .cond (.t 16) c15_10 .skip
def c15_12 : ACode := .seq (.reg r15_8) c15_11
def r15_13 : List AOper := [ao 0 17 (.fa 2 (.t 2)),
  ao 1 18 (.ld 1 false (.t 17)),
  ao 2 19 (.mv (.t 1)),
  ao 3 20 (.call (.k (.c (.fn 63 []))) [(.t 18), (.t 19)]),
  ao 4 1 (.mv (.t 20))]
def r15_14 : List AOper := [ao 0 21 (.mv (.t 1)),
  ao 1 22 (.bin .lss (.t 21) (.k (.i 0)))]
def r15_15 : List AOper := [ao 0 4 (.mv (.k (.i (-1))))]
def c15_16 : ACode := .seq (.reg r15_15) .ret
def c15_17 : ACode := .cond (.t 22) c15_16 .skip
def c15_18 : ACode := .seq (.reg r15_14) c15_17
def r15_19 : List AOper := [ao 0 23 (.mv (.t 1)),
  ao 1 4 (.mv (.t 23))]
def c15 : ACode := .seq (.reg r15_0) (.seq (.reg r15_1) (.seq c15_6 (.seq (.reg r15_7) (.seq c15_12 (.seq (.reg r15_13) (.seq c15_18 (.seq (.reg r15_19) .ret)))))))
def s15 : List ARes := [.tmp 4]
theorem ok15 : okF Try.prog 15 24 c15 s15 := ⟨Try.f15, Try.func15, Try.ntmps15, by kernel_rfl, by kernel_rfl, by kernel_rfl⟩
theorem UFg_5 : (type_of% (uA c15.eq_1)) ∧ (type_of% (uR r15_0.eq_1)) ∧ (type_of% (uR r15_1.eq_1)) ∧ (type_of% (uA c15_6.eq_1)) ∧ (type_of% (uR r15_2.eq_1)) ∧ (type_of% (uA c15_5.eq_1)) ∧ (type_of% (uA c15_4.eq_1)) ∧ (type_of% (uR r15_3.eq_1)) ∧ (type_of% (uR r15_7.eq_1)) ∧ (type_of% (uA c15_12.eq_1)) ∧ (type_of% (uR r15_8.eq_1)) ∧ (type_of% (uA c15_11.eq_1)) ∧ (type_of% (uA c15_10.eq_1)) ∧ (type_of% (uR r15_9.eq_1)) ∧ (type_of% (uR r15_13.eq_1)) ∧ (type_of% (uA c15_18.eq_1)) ∧ (type_of% (uR r15_14.eq_1)) ∧ (type_of% (uA c15_17.eq_1)) ∧ (type_of% (uA c15_16.eq_1)) ∧ (type_of% (uR r15_15.eq_1)) ∧ (type_of% (uR r15_19.eq_1)) ∧ (type_of% s15.eq_1) :=
  ⟨uA c15.eq_1, uR r15_0.eq_1, uR r15_1.eq_1, uA c15_6.eq_1, uR r15_2.eq_1, uA c15_5.eq_1, uA c15_4.eq_1, uR r15_3.eq_1, uR r15_7.eq_1, uA c15_12.eq_1, uR r15_8.eq_1, uA c15_11.eq_1, uA c15_10.eq_1, uR r15_9.eq_1, uR r15_13.eq_1, uA c15_18.eq_1, uR r15_14.eq_1, uA c15_17.eq_1, uA c15_16.eq_1, uR r15_15.eq_1, uR r15_19.eq_1, s15.eq_1⟩
theorem heldDk_ok (d : Dk) (k : Nat) (h1 : 1 ≤ k) (hk : mkN k d ≤ 100000000) : ACallsF Try.prog 15 [tDk (mkDk k d), .i k] [] (.i (mkN k d)) := by
  unfold mkN at hk
  have n1 : ¬ ((k + 3 * d.files.length : Nat) : Int) < 0 := by omega
  have n2 : ¬ ((k + 3 * d.files.length + 1 * d.names.length : Nat) : Int) < 0 := by omega
  have n3 : ¬ ((k + 3 * d.files.length + 1 * d.names.length + 2 * d.moves.length : Nat) : Int) < 0 := by omega
  refine ACallsF.intro ok15 follows fun X c0 => ?_
  simp only [RUN, core, T.c, T.s, T.b, T.i, sBin, sInt, sUn, isShift, asInt, P1.cells, loadT, ptrC, storeT, putC, fillP, Nat.reduceAdd, reduceIte, Nat.reduceEqDiff, Nat.reduceLT, Nat.reduceLeDiff, reduceCtorEq, eq_self, FIT, lendCs_map, verC_map, FinC, resPs, resP, lendPl, lendCs, lendC, sealC, partsT, finHs, tupT, verT, verP, verC, verB, verAt, Blk.ver, handsAre, forall_const, CHT, disj, Nat.reduceBEq, beq_self_eq_true, APT, srcOf, sealPs, sealCs, sealC, toVs, Option.map_some, List.mem_singleton, forall_eq, ALT, UFg_5, mkDk]
  refine callC (heldDFs_ok d.files.length k h1 (by omega)) rfl rfl rfl rfl ?_
  simp only [RUN, core, T.c, T.s, T.b, T.i, sBin, sInt, sUn, isShift, asInt, P1.cells, loadT, ptrC, storeT, putC, fillP, Nat.reduceAdd, reduceIte, Nat.reduceEqDiff, Nat.reduceLT, Nat.reduceLeDiff, reduceCtorEq, eq_self, FIT, lendCs_map, verC_map, FinC, resPs, resP, lendPl, lendCs, lendC, sealC, partsT, finHs, tupT, verT, verP, verC, verB, verAt, Blk.ver, handsAre, forall_const, CHT, disj, Nat.reduceBEq, beq_self_eq_true, APT, srcOf, sealPs, sealCs, sealC, toVs, Option.map_some, List.mem_singleton, forall_eq, ALT, UFg_5, mkDk, n1]
  refine callC (heldSs_ok d.names.length (k + 3 * d.files.length) (by omega) (by omega)) rfl rfl rfl rfl ?_
  simp only [RUN, core, T.c, T.s, T.b, T.i, sBin, sInt, sUn, isShift, asInt, P1.cells, loadT, ptrC, storeT, putC, fillP, Nat.reduceAdd, reduceIte, Nat.reduceEqDiff, Nat.reduceLT, Nat.reduceLeDiff, reduceCtorEq, eq_self, FIT, lendCs_map, verC_map, FinC, resPs, resP, lendPl, lendCs, lendC, sealC, partsT, finHs, tupT, verT, verP, verC, verB, verAt, Blk.ver, handsAre, forall_const, CHT, disj, Nat.reduceBEq, beq_self_eq_true, APT, srcOf, sealPs, sealCs, sealC, toVs, Option.map_some, List.mem_singleton, forall_eq, ALT, UFg_5, mkDk, n2]
  refine callC (heldDMs_ok d.moves.length (k + 3 * d.files.length + 1 * d.names.length) (by omega) (by omega)) rfl rfl rfl rfl ?_
  simp only [RUN, core, T.c, T.s, T.b, T.i, sBin, sInt, sUn, isShift, asInt, P1.cells, loadT, ptrC, storeT, putC, fillP, Nat.reduceAdd, reduceIte, Nat.reduceEqDiff, Nat.reduceLT, Nat.reduceLeDiff, reduceCtorEq, eq_self, FIT, lendCs_map, verC_map, FinC, resPs, resP, lendPl, lendCs, lendC, sealC, partsT, finHs, tupT, verT, verP, verC, verB, verAt, Blk.ver, handsAre, forall_const, CHT, disj, Nat.reduceBEq, beq_self_eq_true, APT, srcOf, sealPs, sealCs, sealC, toVs, Option.map_some, List.mem_singleton, forall_eq, ALT, UFg_5, mkDk, mkN, n3]
end Go.V

/- It is proved that the law FnDiskDo returns true for every input and leaves its input as it was; no condition. -/
import Derived.Test.YtfemebnmlclibaaHV2
import Derived.Test.YtfemebnmlclibaaProg
set_option linter.unusedSimpArgs false
namespace Go.V
open Go.Proofs
theorem follows : Try.prog.follows .mixedOrders = true := by kernel_rfl
def encS (ss : List ByteArray) : List (List V) := ss.map fun s => [.s (.string s)]
theorem encS_at {ss : List ByteArray} {i : Nat} {s : ByteArray} (h : ss[i]? = some s) : (encS ss)[i]? = some [.s (.string s)] := by simp [encS, h]
theorem encS_len (ss : List ByteArray) : (encS ss).length = ss.length := by simp [encS]
theorem str_beq (a b : ByteArray) : (a.toList == b.toList) = decide (a = b) := by
  rw [ByteArray.toList_eq, ByteArray.toList_eq]
  by_cases h : a = b
  · subst h; simp
  · have : a.data.toList ≠ b.data.toList := fun e => h (by
      cases a; cases b; simp only [ByteArray.mk.injEq]; exact Array.ext' e)
    rw [decide_eq_false h]; exact beq_eq_false_iff_ne.2 this
/- loop.example/teagle/spec.l6In -/
def r28_0 : List AOper := [ao 0 6 (.mv (.k (.b false)))]
def r28_1 : List AOper := [ao 0 7 (.mv (.t 0)),
  ao 1 8 (.mv (.t 1)),
  ao 2 9 (.bin .geq (.t 7) (.t 8)),
  ao 3 10 (.mv (.t 9)),
  ag 4 11 10 true [] (.mv (.t 0)),
  ag 5 12 10 true [] (.mv (.t 2)),
  ag 6 13 10 true [] (.bin .leq (.t 11) (.t 12)),
  ao 7 14 (.pick (.t 10) (.t 13) (.k (.b false))),
  ao 8 6 (.mv (.t 14))]
def c28 : ACode := .seq (.reg r28_0) (.seq (.reg r28_1) .ret)
def s28 : List ARes := [.tmp 6]
theorem ok28 : okF Try.prog 28 15 c28 s28 := ⟨Try.f28, Try.func28, Try.ntmps28, by kernel_rfl, by kernel_rfl, by kernel_rfl⟩
def UPa_6 := Bx.mk <|
  aN (uR r28_0.eq_1) <| aN (uR r28_1.eq_1) <| aN (uA c28.eq_1) <| s28.eq_1
theorem l6In_ok (n lo hi : Int) : ACallsF Try.prog 28 [.i n, .i lo, .i hi] [] (.b (decide (lo ≤ n) && decide (n ≤ hi))) := by
  refine ACallsF.intro ok28 follows fun X c0 => ?_
  by_cases h1 : lo ≤ n <;> by_cases h2 : n ≤ hi <;> simp only [RUX, Nat.reduceAdd, reduceIte, Nat.reduceEqDiff, Nat.reduceLT, Nat.reduceLeDiff, reduceCtorEq, eq_self, FIX, forall_const, endE_n, endE_r, UPa_6.d, h1, h2, ge_iff_le]
def lower (b : UInt8) : Bool := decide (97 ≤ b.toNat) && decide (b.toNat ≤ 122)
def digit (b : UInt8) : Bool := decide (48 ≤ b.toNat) && decide (b.toNat ≤ 57)
def nameOk (s : ByteArray) : Bool := decide (1 ≤ s.size) && decide (s.size ≤ 8) && (s.data.toList.head?.any lower) && s.data.toList.all fun b => lower b || digit b
/- loop.example/teagle/spec.l6NameOk -/
def r24_0 : List AOper := [ao 0 2 (.mv (.k (.b false)))]
def r24_1 : List AOper := [ao 0 4 (.mv (.t 0)),
  ao 1 5 (.lenS (.t 4)),
  ao 2 6 (.call (.k (.c (.fn 28 []))) [(.t 5), (.k (.i 1)), (.k (.i 8))]),
  ao 3 7 (.un .not (.t 6)),
  ao 4 8 (.mv (.t 7)),
  ag 5 9 8 false [] (.mv (.t 0)),
  ag 6 10 8 false [] (.ix (.t 9) (.k (.i 0))),
  ag 7 11 8 false [] (.bin .lss (.t 10) (.k (.s (.int .u8 97)))),
  ao 8 12 (.pick (.t 8) (.k (.b true)) (.t 11)),
  ao 9 13 (.mv (.t 12)),
  ag 10 14 13 false [] (.mv (.t 0)),
  ag 11 15 13 false [] (.ix (.t 14) (.k (.i 0))),
  ag 12 16 13 false [] (.bin .gtr (.t 15) (.k (.s (.int .u8 122)))),
  ao 13 17 (.pick (.t 13) (.k (.b true)) (.t 16))]
def r24_2 : List AOper := [ao 0 2 (.mv (.k (.b false)))]
def c24_3 : ACode := .seq (.reg r24_2) .ret
def c24_4 : ACode := .cond (.t 17) c24_3 .skip
def c24_5 : ACode := .seq (.reg r24_1) c24_4
def r24_6 : List AOper := [ao 0 3 (.mv (.k (.i 0)))]
def r24_7 : List AOper := [ao 0 18 (.mv (.t 3)),
  ao 1 19 (.mv (.t 0)),
  ao 2 20 (.lenS (.t 19)),
  ao 3 21 (.bin .lss (.t 18) (.t 20))]
def c24_8 : ACode := .cond (.t 21) .skip (.exit 0)
def c24_9 : ACode := .seq (.reg r24_7) c24_8
def r24_10 : List AOper := [ao 0 24 (.mv (.t 0)),
  ao 1 25 (.mv (.t 3)),
  ao 2 26 (.ix (.t 24) (.t 25)),
  ao 3 27 (.bin .geq (.t 26) (.k (.s (.int .u8 97)))),
  ao 4 28 (.mv (.t 27)),
  ag 5 29 28 true [] (.mv (.t 0)),
  ag 6 30 28 true [] (.mv (.t 3)),
  ag 7 31 28 true [] (.ix (.t 29) (.t 30)),
  ag 8 32 28 true [] (.bin .leq (.t 31) (.k (.s (.int .u8 122)))),
  ao 9 33 (.pick (.t 28) (.t 32) (.k (.b false))),
  ao 10 34 (.mv (.t 33)),
  ag 11 35 34 false [] (.mv (.t 0)),
  ag 12 36 34 false [] (.mv (.t 3)),
  ag 13 37 34 false [] (.ix (.t 35) (.t 36)),
  ag 14 38 34 false [] (.bin .geq (.t 37) (.k (.s (.int .u8 48)))),
  ag 15 39 34 false [] (.mv (.t 38)),
  ag 16 40 39 true [] (.mv (.t 0)),
  ag 17 41 39 true [] (.mv (.t 3)),
  ag 18 42 39 true [] (.ix (.t 40) (.t 41)),
  ag 19 43 39 true [] (.bin .leq (.t 42) (.k (.s (.int .u8 57)))),
  ag 20 44 34 false [] (.pick (.t 39) (.t 43) (.k (.b false))),
  ao 21 45 (.pick (.t 34) (.k (.b true)) (.t 44)),
  ao 22 46 (.un .not (.t 45))]
def r24_11 : List AOper := [ao 0 2 (.mv (.k (.b false)))]
def c24_12 : ACode := .seq (.reg r24_11) .ret
def c24_13 : ACode := .cond (.t 46) c24_12 .skip
def c24_14 : ACode := .seq (.reg r24_10) c24_13
def c24_15 : ACode := .block 1 c24_14
def r24_16 : List AOper := [ao 0 22 (.mv (.t 3)),
  ao 1 23 (.bin .add (.t 22) (.k (.i 1))),
  ao 2 3 (.mv (.t 23))]
def c24_17 : ACode := .seq c24_9 (.seq c24_15 (.reg r24_16))
def c24_18 : ACode := .loop c24_17
def c24_19 : ACode := .block 0 c24_18
def c24_20 : ACode := .seq (.reg r24_6) c24_19
def r24_21 : List AOper := [ao 0 2 (.mv (.k (.b true)))]
def c24 : ACode := .seq (.reg r24_0) (.seq c24_5 (.seq c24_20 (.seq (.reg r24_21) .ret)))
def s24 : List ARes := [.tmp 2]
theorem ok24 : okF Try.prog 24 47 c24 s24 := ⟨Try.f24, Try.func24, Try.ntmps24, by kernel_rfl, by kernel_rfl, by kernel_rfl⟩
def inv24 (s : ByteArray) (i : Nat) (σ : St) : Prop := (∀ j b, j < i → s.data[j]? = some b → (lower b || digit b) = true) ∧ σ.t 0 = .s (.string s) ∧ σ.t 3 = .i i
theorem size_data (s : ByteArray) : s.size = s.data.size := rfl
def UPa_1 := Bx.mk <|
  aN (uA c24.eq_1) <| aN (uR r24_0.eq_1) <| aN (uA c24_5.eq_1) <| aN (uR r24_1.eq_1) <| aN (uA c24_4.eq_1) <| aN (uA c24_3.eq_1) <| aN (uR r24_2.eq_1) <| aN (uA c24_20.eq_1) <| aN (uR r24_6.eq_1) <| aN (uA c24_19.eq_1) <| aN (uA c24_18.eq_1) <| aN (uR r24_21.eq_1) <| s24.eq_1
def UPa_4 := Bx.mk <|
  aN (uA c24_17.eq_1) <| aN (uA c24_9.eq_1) <| aN (uR r24_7.eq_1) <| aN (uA c24_8.eq_1) <| aN (uA c24_15.eq_1) <| aN (uA c24_14.eq_1) <| aN (uR r24_10.eq_1) <| aN (uA c24_13.eq_1) <| aN (uA c24_12.eq_1) <| aN (uR r24_11.eq_1) <| aN (uR r24_16.eq_1) <| aN (uA c24.eq_1) <| aN (uR r24_0.eq_1) <| aN (uA c24_5.eq_1) <| aN (uR r24_1.eq_1) <| aN (uA c24_4.eq_1) <| aN (uA c24_3.eq_1) <| aN (uR r24_2.eq_1) <| aN (uA c24_20.eq_1) <| aN (uR r24_6.eq_1) <| aN (uA c24_19.eq_1) <| aN (uA c24_18.eq_1) <| aN (uR r24_21.eq_1) <| s24.eq_1
theorem nameOk_ok (s : ByteArray) (hs : s.size ≤ 4611686018427387904) : ACallsF Try.prog 24 [.s (.string s)] [] (.b (nameOk s)) := by
  refine ACallsF.intro ok24 follows fun X c0 => ?_
  simp only [RUX, Nat.reduceAdd, reduceIte, Nat.reduceEqDiff, Nat.reduceLT, Nat.reduceLeDiff, reduceCtorEq, eq_self, FIX, forall_const, endE_n, endE_r, UPa_1.d]
  refine callC (l6In_ok _ _ _) rfl rfl rfl rfl ?_
  by_cases h1 : (1 : Int) ≤ s.size
  · by_cases h2 : (s.size : Int) ≤ 8
    · obtain ⟨b0, hb0⟩ : ∃ b, s.data[0]? = some b := ⟨_, Array.getElem?_eq_getElem (by rw [← size_data]; omega)⟩
      have hhead : s.data.toList.head? = some b0 := by rw [List.head?_eq_getElem?, Array.getElem?_toList]; exact hb0
      by_cases h3 : (b0.toNat : Int) < 97
      · have hm : nameOk s = false := by
          have : lower b0 = false := by simp only [lower, Bool.and_eq_false_imp, decide_eq_true_eq, decide_eq_false_iff_not]; omega
          simp [nameOk, hhead, this]
        simp only [RUX, Nat.reduceAdd, reduceIte, Nat.reduceEqDiff, Nat.reduceLT, Nat.reduceLeDiff, reduceCtorEq, eq_self, FIX, forall_const, endE_n, endE_r, UPa_1.d, h1, h2, hb0, h3, hm, Int.toNat_zero, Int.le_refl]
      · by_cases h4 : (b0.toNat : Int) > 122
        · have hm : nameOk s = false := by
            have : lower b0 = false := by simp only [lower, Bool.and_eq_false_imp, decide_eq_true_eq, decide_eq_false_iff_not]; omega
            simp [nameOk, hhead, this]
          simp only [RUX, Nat.reduceAdd, reduceIte, Nat.reduceEqDiff, Nat.reduceLT, Nat.reduceLeDiff, reduceCtorEq, eq_self, FIX, forall_const, endE_n, endE_r, UPa_1.d, h1, h2, hb0, h3, h4, hm, Int.toNat_zero, Int.le_refl]
        · simp only [RUX, Nat.reduceAdd, reduceIte, Nat.reduceEqDiff, Nat.reduceLT, Nat.reduceLeDiff, reduceCtorEq, eq_self, FIX, forall_const, endE_n, endE_r, UPa_1.d, h1, h2, hb0, h3, h4, Int.toNat_zero, Int.le_refl]
          have hlow : lower b0 = true := by simp only [lower, Bool.and_eq_true, decide_eq_true_eq]; omega
          refine AW.upto s.size (inv24 s) ⟨fun j _ hj => absurd hj (Nat.not_lt_zero j), rfl, rfl⟩ fun i t H c hi h => ?_
          obtain ⟨g0, e0, e3⟩ := h
          simp only [T.c, T.i, T.s] at e0 e3
          by_cases hlt : i < s.size
          · have g1 : (i : Int) < s.size := by omega
            have gz : (0 : Int) ≤ i := by omega
            have gw : IntKind.i64.wrap ((i : Int) + 1) = ((i + 1 : Nat) : Int) := wrap64 (x := (i : Int) + 1) ⟨by omega, by omega⟩
            obtain ⟨b, hb⟩ : ∃ b, s.data[i]? = some b := ⟨_, Array.getElem?_eq_getElem (by rw [← size_data]; omega)⟩
            have key : ∀ j b', j < i + 1 → (lower b || digit b) = true → s.data[j]? = some b' → (lower b' || digit b') = true := by
              intro j b' hj hl hj2
              rcases Nat.lt_succ_iff_lt_or_eq.1 hj with hj | rfl
              · exact g0 j b' hj hj2
              · rw [hb] at hj2; cases hj2; exact hl
            by_cases hl : (lower b || digit b) = true
            · have hl2 : (97 ≤ (b.toNat : Int) ∧ (b.toNat : Int) ≤ 122) ∨ (48 ≤ (b.toNat : Int) ∧ (b.toNat : Int) ≤ 57) := by
                simp only [lower, digit, Bool.or_eq_true, Bool.and_eq_true, decide_eq_true_eq] at hl; omega
              rcases hl2 with ⟨q1, q2⟩ | ⟨q3, q4⟩
              · simp only [RUX, Nat.reduceAdd, reduceIte, Nat.reduceEqDiff, Nat.reduceLT, Nat.reduceLeDiff, reduceCtorEq, eq_self, FIX, forall_const, endE_n, endE_r, UPa_4.d, e0, e3, g1, gz, hb, Int.toNat_natCast, q1, q2, gw, ge_iff_le]
                exact ⟨hlt, fun j b' hj hj2 => key j b' hj hl hj2, e0, rfl⟩
              · have q1 : ¬ 97 ≤ (b.toNat : Int) := by omega
                simp only [RUX, Nat.reduceAdd, reduceIte, Nat.reduceEqDiff, Nat.reduceLT, Nat.reduceLeDiff, reduceCtorEq, eq_self, FIX, forall_const, endE_n, endE_r, UPa_4.d, e0, e3, g1, gz, hb, Int.toNat_natCast, q1, q3, q4, gw, ge_iff_le]
                exact ⟨hlt, fun j b' hj hj2 => key j b' hj hl hj2, e0, rfl⟩
            · have hm : nameOk s = false := by
                have : (s.data.toList.all fun b => lower b || digit b) = false := by
                  rw [List.all_eq_false]
                  exact ⟨b, by rw [Array.mem_toList_iff]; exact Array.mem_of_getElem? hb, hl⟩
                simp [nameOk, this]
              have hl2 : (¬ 97 ≤ (b.toNat : Int) ∧ ¬ 48 ≤ (b.toNat : Int)) ∨ (¬ 97 ≤ (b.toNat : Int) ∧ 48 ≤ (b.toNat : Int) ∧ ¬ (b.toNat : Int) ≤ 57) ∨ (97 ≤ (b.toNat : Int) ∧ ¬ (b.toNat : Int) ≤ 122 ∧ 48 ≤ (b.toNat : Int) ∧ ¬ (b.toNat : Int) ≤ 57) := by
                simp only [lower, digit, Bool.or_eq_true, Bool.and_eq_true, decide_eq_true_eq] at hl; omega
              rcases hl2 with ⟨q1, q3⟩ | ⟨q1, q3, q4⟩ | ⟨q1, q2, q3, q4⟩
              · simp only [RUX, Nat.reduceAdd, reduceIte, Nat.reduceEqDiff, Nat.reduceLT, Nat.reduceLeDiff, reduceCtorEq, eq_self, FIX, forall_const, endE_n, endE_r, UPa_4.d, e0, e3, g1, gz, hb, Int.toNat_natCast, q1, q3, hm, ge_iff_le]
              · simp only [RUX, Nat.reduceAdd, reduceIte, Nat.reduceEqDiff, Nat.reduceLT, Nat.reduceLeDiff, reduceCtorEq, eq_self, FIX, forall_const, endE_n, endE_r, UPa_4.d, e0, e3, g1, gz, hb, Int.toNat_natCast, q1, q3, q4, hm, ge_iff_le]
              · simp only [RUX, Nat.reduceAdd, reduceIte, Nat.reduceEqDiff, Nat.reduceLT, Nat.reduceLeDiff, reduceCtorEq, eq_self, FIX, forall_const, endE_n, endE_r, UPa_4.d, e0, e3, g1, gz, hb, Int.toNat_natCast, q1, q2, q3, q4, hm, ge_iff_le]
          · have g1 : ¬ (i : Int) < s.size := by omega
            have hm : nameOk s = true := by
              have : (s.data.toList.all fun b => lower b || digit b) = true := by
                rw [List.all_eq_true]
                intro b hb
                rw [Array.mem_toList_iff, Array.mem_iff_getElem?] at hb
                obtain ⟨j, hj⟩ := hb
                exact g0 j b (by have := (Array.getElem?_eq_some_iff.1 hj).1; rw [size_data] at hlt; omega) hj
              simp [nameOk, this, hhead, hlow]; omega
            simp only [RUX, Nat.reduceAdd, reduceIte, Nat.reduceEqDiff, Nat.reduceLT, Nat.reduceLeDiff, reduceCtorEq, eq_self, FIX, forall_const, endE_n, endE_r, UPa_4.d, e0, e3, g1, hm]
    · have hm : nameOk s = false := by simp [nameOk]; omega
      simp only [RUX, Nat.reduceAdd, reduceIte, Nat.reduceEqDiff, Nat.reduceLT, Nat.reduceLeDiff, reduceCtorEq, eq_self, FIX, forall_const, endE_n, endE_r, UPa_1.d, h1, h2, hm]
  · have hm : nameOk s = false := by simp [nameOk]; omega
    simp only [RUX, Nat.reduceAdd, reduceIte, Nat.reduceEqDiff, Nat.reduceLT, Nat.reduceLeDiff, reduceCtorEq, eq_self, FIX, forall_const, endE_n, endE_r, UPa_1.d, h1, hm]
/- loop.example/teagle/impl.inRange -/
def r41_0 : List AOper := [ao 0 6 (.mv (.k (.b false)))]
def r41_1 : List AOper := [ao 0 7 (.mv (.t 1)),
  ao 1 8 (.mv (.t 0)),
  ao 2 9 (.bin .leq (.t 7) (.t 8)),
  ao 3 10 (.mv (.t 9)),
  ag 4 11 10 true [] (.mv (.t 0)),
  ag 5 12 10 true [] (.mv (.t 2)),
  ag 6 13 10 true [] (.bin .leq (.t 11) (.t 12)),
  ao 7 14 (.pick (.t 10) (.t 13) (.k (.b false))),
  ao 8 6 (.mv (.t 14))]
def c41 : ACode := .seq (.reg r41_0) (.seq (.reg r41_1) .ret)
def s41 : List ARes := [.tmp 6]
theorem ok41 : okF Try.prog 41 15 c41 s41 := ⟨Try.f41, Try.func41, Try.ntmps41, by kernel_rfl, by kernel_rfl, by kernel_rfl⟩
def UPa_2 := Bx.mk <|
  aN (uA c41.eq_1) <| aN (uR r41_0.eq_1) <| aN (uR r41_1.eq_1) <| s41.eq_1
theorem inRange_ok (n lo hi : Int) : ACallsF Try.prog 41 [.i n, .i lo, .i hi] [] (.b (decide (lo ≤ n) && decide (n ≤ hi))) := by
  refine ACallsF.intro ok41 follows fun X c0 => ?_
  by_cases h1 : lo ≤ n <;> by_cases h2 : n ≤ hi <;> simp only [RUX, Nat.reduceAdd, reduceIte, Nat.reduceEqDiff, Nat.reduceLT, Nat.reduceLeDiff, reduceCtorEq, eq_self, FIX, forall_const, endE_n, endE_r, UPa_2.d, h1, h2]
/- loop.example/teagle/impl.isName -/
def r39_0 : List AOper := [ao 0 2 (.mv (.k (.b false)))]
def r39_1 : List AOper := [ao 0 5 (.mv (.t 0)),
  ao 1 6 (.lenS (.t 5)),
  ao 2 7 (.mv (.k (.i 0)))]
def r39_2 : List AOper := [ao 0 8 (.bin .lss (.t 7) (.t 6))]
def c39_3 : ACode := .cond (.t 8) .skip (.exit 0)
def r39_4 : List AOper := [ao 0 9 (.mv (.t 7)),
  ao 1 3 (.mv (.t 9))]
def r39_5 : List AOper := [ao 0 10 (.mv (.t 0)),
  ao 1 11 (.mv (.t 3)),
  ao 2 12 (.ix (.t 10) (.t 11)),
  ao 3 13 (.bin .geq (.t 12) (.k (.s (.int .u8 48)))),
  ao 4 14 (.mv (.t 13)),
  ag 5 15 14 true [] (.mv (.t 0)),
  ag 6 16 14 true [] (.mv (.t 3)),
  ag 7 17 14 true [] (.ix (.t 15) (.t 16)),
  ag 8 18 14 true [] (.bin .leq (.t 17) (.k (.s (.int .u8 57)))),
  ao 9 19 (.pick (.t 14) (.t 18) (.k (.b false))),
  ao 10 4 (.mv (.t 19))]
def r39_6 : List AOper := [ao 0 20 (.mv (.t 0)),
  ao 1 21 (.mv (.t 3)),
  ao 2 22 (.ix (.t 20) (.t 21)),
  ao 3 23 (.bin .lss (.t 22) (.k (.s (.int .u8 97)))),
  ao 4 24 (.mv (.t 23)),
  ag 5 25 24 false [] (.mv (.t 0)),
  ag 6 26 24 false [] (.mv (.t 3)),
  ag 7 27 24 false [] (.ix (.t 25) (.t 26)),
  ag 8 28 24 false [] (.bin .gtr (.t 27) (.k (.s (.int .u8 122)))),
  ao 9 29 (.pick (.t 24) (.k (.b true)) (.t 28)),
  ao 10 30 (.mv (.t 29)),
  ag 11 31 30 true [] (.mv (.t 4)),
  ag 12 32 30 true [] (.un .not (.t 31)),
  ag 13 33 30 true [] (.mv (.t 32)),
  ag 14 34 33 false [] (.mv (.t 3)),
  ag 15 35 33 false [] (.bin .eql (.t 34) (.k (.i 0))),
  ag 16 36 30 true [] (.pick (.t 33) (.k (.b true)) (.t 35)),
  ao 17 37 (.pick (.t 30) (.t 36) (.k (.b false)))]
def r39_7 : List AOper := [ao 0 2 (.mv (.k (.b false)))]
def c39_8 : ACode := .seq (.reg r39_7) .ret
def c39_9 : ACode := .cond (.t 37) c39_8 .skip
def c39_10 : ACode := .seq (.reg r39_4) (.seq (.reg r39_5) (.seq (.reg r39_6) c39_9))
def c39_11 : ACode := .block 1 c39_10
def r39_12 : List AOper := [ao 0 38 (.bin .add (.t 7) (.k (.i 1))),
  ao 1 7 (.mv (.t 38))]
def c39_13 : ACode := .seq (.reg r39_2) (.seq c39_3 (.seq c39_11 (.reg r39_12)))
def c39_14 : ACode := .loop c39_13
def c39_15 : ACode := .block 0 c39_14
def c39_16 : ACode := .seq (.reg r39_1) c39_15
def r39_17 : List AOper := [ao 0 39 (.mv (.t 0)),
  ao 1 40 (.lenS (.t 39)),
  ao 2 41 (.call (.k (.c (.fn 41 []))) [(.t 40), (.k (.i 1)), (.k (.i 8))]),
  ao 3 2 (.mv (.t 41))]
def c39 : ACode := .seq (.reg r39_0) (.seq c39_16 (.seq (.reg r39_17) .ret))
def s39 : List ARes := [.tmp 2]
theorem ok39 : okF Try.prog 39 42 c39 s39 := ⟨Try.f39, Try.func39, Try.ntmps39, by kernel_rfl, by kernel_rfl, by kernel_rfl⟩
def inv39 (s : ByteArray) (i : Nat) (σ : St) : Prop := (∀ j b, j < i → s.data[j]? = some b → (lower b || digit b) = true ∧ (j = 0 → lower b = true)) ∧ σ.t 0 = .s (.string s) ∧ σ.t 6 = .i s.size ∧ σ.t 7 = .i i
def UPa_3 := Bx.mk <|
  aN (uA c39.eq_1) <| aN (uR r39_0.eq_1) <| aN (uA c39_16.eq_1) <| aN (uR r39_1.eq_1) <| aN (uA c39_15.eq_1) <| aN (uA c39_14.eq_1) <| aN (uR r39_17.eq_1) <| s39.eq_1
def UPa_5 := Bx.mk <|
  aN (uA c39_13.eq_1) <| aN (uR r39_2.eq_1) <| aN (uA c39_3.eq_1) <| aN (uA c39_11.eq_1) <| aN (uA c39_10.eq_1) <| aN (uR r39_4.eq_1) <| aN (uR r39_5.eq_1) <| aN (uR r39_6.eq_1) <| aN (uA c39_9.eq_1) <| aN (uA c39_8.eq_1) <| aN (uR r39_7.eq_1) <| aN (uR r39_12.eq_1) <| aN (uA c39.eq_1) <| aN (uR r39_0.eq_1) <| aN (uA c39_16.eq_1) <| aN (uR r39_1.eq_1) <| aN (uA c39_15.eq_1) <| aN (uA c39_14.eq_1) <| aN (uR r39_17.eq_1) <| s39.eq_1
theorem isName_ok (s : ByteArray) (hs : s.size ≤ 4611686018427387904) : ACallsF Try.prog 39 [.s (.string s)] [] (.b (nameOk s)) := by
  refine ACallsF.intro ok39 follows fun X c0 => ?_
  simp only [RUX, Nat.reduceAdd, reduceIte, Nat.reduceEqDiff, Nat.reduceLT, Nat.reduceLeDiff, reduceCtorEq, eq_self, FIX, forall_const, endE_n, endE_r, UPa_3.d]
  refine AW.upto s.size (inv39 s) ⟨fun j _ hj => absurd hj (Nat.not_lt_zero j), rfl, rfl, rfl⟩ fun i t H c hi h => ?_
  obtain ⟨g0, e0, e6, e7⟩ := h
  simp only [T.c, T.i, T.s] at e0 e6 e7
  by_cases hlt : i < s.size
  · have g1 : (i : Int) < s.size := by omega
    have gz : (0 : Int) ≤ i := by omega
    have gw : IntKind.i64.wrap ((i : Int) + 1) = ((i + 1 : Nat) : Int) := wrap64 (x := (i : Int) + 1) ⟨by omega, by omega⟩
    obtain ⟨b, hb⟩ : ∃ b, s.data[i]? = some b := ⟨_, Array.getElem?_eq_getElem (by rw [← size_data]; omega)⟩
    have hbad : ¬ ((lower b || digit b) = true ∧ (i = 0 → lower b = true)) → nameOk s = false := by
      intro h
      by_cases hl : (lower b || digit b) = true
      · have hi0 : i = 0 := by
          by_cases h0 : i = 0
          · exact h0
          · exact absurd ⟨hl, fun e => absurd e h0⟩ h
        have hlow : lower b = false := by
          cases hlb : lower b with
          | false => rfl
          | true => exact absurd ⟨hl, fun _ => hlb⟩ h
        subst hi0
        have hhead : s.data.toList.head? = some b := by rw [List.head?_eq_getElem?, Array.getElem?_toList]; exact hb
        simp [nameOk, hhead, hlow]
      · have : (s.data.toList.all fun b => lower b || digit b) = false := by
          rw [List.all_eq_false]
          exact ⟨b, by rw [Array.mem_toList_iff]; exact Array.mem_of_getElem? hb, hl⟩
        simp [nameOk, this]
    have hgood : ((lower b || digit b) = true ∧ (i = 0 → lower b = true)) → ∀ j b', j < i + 1 → s.data[j]? = some b' → (lower b' || digit b') = true ∧ (j = 0 → lower b' = true) := by
      intro hl j b' hj hj2
      rcases Nat.lt_succ_iff_lt_or_eq.1 hj with hj | rfl
      · exact g0 j b' hj hj2
      · rw [hb] at hj2; cases hj2; exact hl
    have hlo : lower b = true ↔ (97 ≤ (b.toNat : Int) ∧ (b.toNat : Int) ≤ 122) := by simp only [lower, Bool.and_eq_true, decide_eq_true_eq]; omega
    have hdi : digit b = true ↔ (48 ≤ (b.toNat : Int) ∧ (b.toNat : Int) ≤ 57) := by simp only [digit, Bool.and_eq_true, decide_eq_true_eq]; omega
    rw [Bool.or_eq_true, hlo, hdi] at hgood hbad
    have hfin : (97 ≤ (b.toNat : Int) ∧ (b.toNat : Int) ≤ 122 ∨ 48 ≤ (b.toNat : Int) ∧ (b.toNat : Int) ≤ 57) ∧ (i = 0 → 97 ≤ (b.toNat : Int) ∧ (b.toNat : Int) ≤ 122) → ∀ t' H' c', t' 0 = t 0 → t' 6 = t 6 → t' 7 = .i (i + 1 : Nat) → i < s.size ∧ inv39 s (i + 1) ⟨t', H', c'⟩ := by
      intro hl t' H' c' r1 r2 r3
      exact ⟨hlt, hgood hl, r1.trans e0, r2.trans e6, r3⟩
    have hbad' : ¬ ((97 ≤ (b.toNat : Int) ∧ (b.toNat : Int) ≤ 122 ∨ 48 ≤ (b.toNat : Int) ∧ (b.toNat : Int) ≤ 57) ∧ (i = 0 → 97 ≤ (b.toNat : Int) ∧ (b.toNat : Int) ≤ 122)) → nameOk s = false := hbad
    clear hbad hgood hlo hdi
    rcases (by omega : (97 ≤ (b.toNat : Int) ∧ (b.toNat : Int) ≤ 122) ∨ (48 ≤ (b.toNat : Int) ∧ (b.toNat : Int) ≤ 57) ∨ (b.toNat : Int) < 48 ∨ (57 < (b.toNat : Int) ∧ (b.toNat : Int) < 97) ∨ 122 < (b.toNat : Int)) with ⟨c1, c2⟩ | ⟨c1, c2⟩ | c1 | ⟨c1, c2⟩ | c1
    · have k1 : (b.toNat : Int) ≥ 48 := by omega
      have k2 : ¬ (b.toNat : Int) ≤ 57 := by omega
      have k3 : ¬ (b.toNat : Int) < 97 := by omega
      have k4 : ¬ (b.toNat : Int) > 122 := by omega
      have hf := hfin ⟨.inl ⟨c1, c2⟩, fun _ => ⟨c1, c2⟩⟩
      clear hfin hbad'
      simp only [RUX, Nat.reduceAdd, reduceIte, Nat.reduceEqDiff, Nat.reduceLT, Nat.reduceLeDiff, reduceCtorEq, eq_self, FIX, forall_const, endE_n, endE_r, UPa_5.d, e0, e6, e7, g1, gz, hb, Int.toNat_natCast, k1, k2, k3, k4, gw]
      exact hf _ _ _ rfl rfl rfl
    · have k1 : (b.toNat : Int) ≥ 48 := by omega
      have k3 : (b.toNat : Int) < 97 := by omega
      by_cases hi0 : i = 0
      · have k5 : ((i : Int) == 0) = true := beq_iff_eq.2 (by omega)
        have hm := hbad' fun h => by have := h.2 hi0; omega
        clear hfin hbad'
        simp only [RUX, Nat.reduceAdd, reduceIte, Nat.reduceEqDiff, Nat.reduceLT, Nat.reduceLeDiff, reduceCtorEq, eq_self, FIX, forall_const, endE_n, endE_r, UPa_5.d, e0, e6, e7, g1, gz, hb, Int.toNat_natCast, k1, c2, k3, k5, hm]
      · have k5 : ((i : Int) == 0) = false := beq_eq_false_iff_ne.2 (by omega)
        have hf := hfin ⟨.inr ⟨c1, c2⟩, fun h => absurd h hi0⟩
        clear hfin hbad'
        simp only [RUX, Nat.reduceAdd, reduceIte, Nat.reduceEqDiff, Nat.reduceLT, Nat.reduceLeDiff, reduceCtorEq, eq_self, FIX, forall_const, endE_n, endE_r, UPa_5.d, e0, e6, e7, g1, gz, hb, Int.toNat_natCast, k1, c2, k3, k5, gw]
        exact hf _ _ _ rfl rfl rfl
    · have k1 : ¬ (b.toNat : Int) ≥ 48 := by omega
      have k3 : (b.toNat : Int) < 97 := by omega
      have hm := hbad' fun h => by have := h.1; omega
      clear hfin hbad'
      simp only [RUX, Nat.reduceAdd, reduceIte, Nat.reduceEqDiff, Nat.reduceLT, Nat.reduceLeDiff, reduceCtorEq, eq_self, FIX, forall_const, endE_n, endE_r, UPa_5.d, e0, e6, e7, g1, gz, hb, Int.toNat_natCast, k1, k3, hm]
    · have k1 : (b.toNat : Int) ≥ 48 := by omega
      have k2 : ¬ (b.toNat : Int) ≤ 57 := by omega
      have hm := hbad' fun h => by have := h.1; omega
      clear hfin hbad'
      simp only [RUX, Nat.reduceAdd, reduceIte, Nat.reduceEqDiff, Nat.reduceLT, Nat.reduceLeDiff, reduceCtorEq, eq_self, FIX, forall_const, endE_n, endE_r, UPa_5.d, e0, e6, e7, g1, gz, hb, Int.toNat_natCast, k1, k2, c2, hm]
    · have k1 : (b.toNat : Int) ≥ 48 := by omega
      have k2 : ¬ (b.toNat : Int) ≤ 57 := by omega
      have k3 : ¬ (b.toNat : Int) < 97 := by omega
      have k4 : (b.toNat : Int) > 122 := by omega
      have hm := hbad' fun h => by have := h.1; omega
      clear hfin hbad'
      simp only [RUX, Nat.reduceAdd, reduceIte, Nat.reduceEqDiff, Nat.reduceLT, Nat.reduceLeDiff, reduceCtorEq, eq_self, FIX, forall_const, endE_n, endE_r, UPa_5.d, e0, e6, e7, g1, gz, hb, Int.toNat_natCast, k1, k2, k3, k4, hm]
  · have g1 : ¬ (i : Int) < s.size := by omega
    have hall : (s.data.toList.all fun b => lower b || digit b) = true := by
      rw [List.all_eq_true]
      intro b hb
      rw [Array.mem_toList_iff, Array.mem_iff_getElem?] at hb
      obtain ⟨j, hj⟩ := hb
      exact (g0 j b (by have := (Array.getElem?_eq_some_iff.1 hj).1; rw [size_data] at hlt; omega) hj).1
    have hm : (decide ((1 : Int) ≤ s.size) && decide ((s.size : Int) ≤ 8)) = nameOk s := by
      by_cases h0 : s.size = 0
      · have h1 : ¬ (1 : Int) ≤ s.size := by omega
        have h2 : ¬ 1 ≤ s.size := by omega
        simp [nameOk, h0]
      · obtain ⟨b0, hb0⟩ : ∃ b, s.data[0]? = some b := ⟨_, Array.getElem?_eq_getElem (by rw [← size_data]; omega)⟩
        have hhead : s.data.toList.head? = some b0 := by rw [List.head?_eq_getElem?, Array.getElem?_toList]; exact hb0
        have hlow := (g0 0 b0 (by omega) hb0).2 rfl
        have e1 : decide ((1 : Int) ≤ s.size) = decide (1 ≤ s.size) := decide_eq_decide.2 (by omega)
        have e2 : decide ((s.size : Int) ≤ 8) = decide (s.size ≤ 8) := decide_eq_decide.2 (by omega)
        simp only [nameOk, hall, hhead, Option.any_some, hlow, e1, e2, Bool.and_true]
    simp only [RUX, Nat.reduceAdd, reduceIte, Nat.reduceEqDiff, Nat.reduceLT, Nat.reduceLeDiff, reduceCtorEq, eq_self, FIX, forall_const, endE_n, endE_r, UPa_5.d, UPa_3.d, e0, e6, e7, g1]
    refine callC (inRange_ok _ _ _) rfl rfl rfl rfl ?_
    simp only [RUX, Nat.reduceAdd, reduceIte, Nat.reduceEqDiff, Nat.reduceLT, Nat.reduceLeDiff, reduceCtorEq, eq_self, FIX, forall_const, endE_n, endE_r, UPa_3.d, hm]
end Go.V
set_option linter.unusedSimpArgs false
namespace Go.V
open Go.Proofs
def en {α : Type} (f : α → List V) (xs : List α) : List (List V) := xs.map f
section
variable {α : Type} (f : α → List V)
theorem en_len (xs : List α) : (en f xs).length = xs.length := by simp [en]
theorem en_at {xs : List α} {i : Nat} {x : α} (h : xs[i]? = some x) : (en f xs)[i]? = some (f x) := by simp [en, h]
theorem en_snoc (xs : List α) (x : α) : en f (xs ++ [x]) = en f xs ++ [f x] := by simp [en]
theorem en_app (xs ys : List α) : en f (xs ++ ys) = en f xs ++ en f ys := by simp [en]
theorem en_nil : en f [] = [] := rfl
theorem en_take (xs : List α) : (en f xs).take xs.length = en f xs := by rw [← en_len f xs, List.take_length]
theorem en_cut (xs : List α) (n : Nat) : (en f xs).take n = en f (xs.take n) := by simp [en, List.map_take]
theorem en_drop (xs : List α) (n : Nat) : (en f xs).drop n = en f (xs.drop n) := by simp [en, List.map_drop]
theorem en_set (xs : List α) (i : Nat) (x : α) : (en f xs).set i (f x) = en f (xs.set i x) := by simp [en, List.map_set]
theorem en_rep (n : Nat) (x : α) : List.replicate n (f x) = en f (List.replicate n x) := by simp [en]
theorem en_one {st : Nat} (h : ∀ x, (f x).length = st) (xs : List α) : ∀ e ∈ en f xs, e.length = st := by
  intro e he
  obtain ⟨x, _, rfl⟩ := List.mem_map.1 he
  exact h x
theorem en_all {st : Nat} (h : ∀ x, (f x).length = st) (xs : List α) : (∀ e ∈ en f xs, e.length = st) = True := eq_true (en_one f h xs)
theorem en_flat (h : ∀ x, (f x).all flatV = true) (xs : List α) : ((en f xs).all fun e => e.all flatV) = true := by
  rw [List.all_eq_true]
  intro e he
  obtain ⟨x, _, rfl⟩ := List.mem_map.1 he
  exact h x
def wsum (w : α → Nat) (xs : List α) : Nat := (xs.map w).sum
theorem wsum_take (w : α → Nat) {xs : List α} {i : Nat} {x : α} (h : xs[i]? = some x) : wsum w (xs.take (i + 1)) = wsum w (xs.take i) + w x := by
  rw [List.take_add_one, h]; simp [wsum]
theorem wsum_le (w : α → Nat) : ∀ (xs : List α) (n : Nat), wsum w (xs.take n) ≤ wsum w xs
  | [], n => by simp [wsum]
  | x :: xs, 0 => by simp [wsum]
  | x :: xs, n + 1 => by have := wsum_le w xs n; simp only [wsum, List.take_succ_cons, List.map_cons, List.sum_cons] at this ⊢; omega
theorem wsum_mem (w : α → Nat) {xs : List α} {x : α} (h : x ∈ xs) : w x ≤ wsum w xs := by
  induction xs with
  | nil => cases h
  | cons y ys ih =>
    simp only [wsum, List.map_cons, List.sum_cons]
    rcases List.mem_cons.1 h with rfl | h
    · omega
    · have := ih h; simp only [wsum] at this; omega
end
def sub1 (left : Int) (w : Nat) : Int := if (w : Int) ≤ left then left - w else -1
/-! what is stored -/
structure DF where
  name : ByteArray
  data : ByteArray
  kept : Int
structure DM where
  gone : Bool
  name : ByteArray
structure Dk where
  files : List DF
  names : List ByteArray
  moves : List DM
structure DW where
  kind : Int
  name : ByteArray
  data : ByteArray
def eS (s : ByteArray) : List V := [.s (.string s)]
def eI (n : Int) : List V := [.s (.int .i64 n)]
def eF (f : DF) : List V := [.s (.string f.name), .s (.string f.data), .s (.int .i64 f.kept)]
def eM (m : DM) : List V := [.s (.bool m.gone), .s (.string m.name)]
def eW (w : DW) : List V := [.s (.int .i64 w.kind), .s (.string w.name), .s (.string w.data)]
theorem eS_len (s : ByteArray) : (eS s).length = 1 := rfl
theorem eI_len (s : Int) : (eI s).length = 1 := rfl
theorem eF_len (f : DF) : (eF f).length = 3 := rfl
theorem eM_len (f : DM) : (eM f).length = 2 := rfl
theorem eW_len (f : DW) : (eW f).length = 3 := rfl
theorem eS_flat (s : ByteArray) : (eS s).all flatV = true := rfl
theorem eI_flat (s : Int) : (eI s).all flatV = true := rfl
theorem eF_flat (s : DF) : (eF s).all flatV = true := rfl
theorem eM_flat (s : DM) : (eM s).all flatV = true := rfl
theorem eW_flat (s : DW) : (eW s).all flatV = true := rfl
abbrev tL (es : List (List V)) : T := .c (.v (.sl es))
abbrev tS (s : ByteArray) : T := .s (.string s)
abbrev tDk (d : Dk) : T := .pt (.agg [.v (.sl (en eF d.files)), .v (.sl (en eS d.names)), .v (.sl (en eM d.moves))])
abbrev tDW (w : DW) : T := .pt (.agg [.v (.s (.int .i64 w.kind)), .v (.s (.string w.name)), .v (.s (.string w.data))])
abbrev tDF (f : DF) : T := .pt (.agg [.v (.s (.string f.name)), .v (.s (.string f.data)), .v (.s (.int .i64 f.kept))])
abbrev tDM (m : DM) : T := .pt (.agg [.v (.s (.bool m.gone)), .v (.s (.string m.name))])
theorem APT : (type_of% @sealCs_map) ∧ (type_of% @Nat.le_refl) ∧ (type_of% @List.take_length.{0}) ∧ (type_of% @List.length_append.{0}) ∧ (type_of% @List.length_singleton.{0}) ∧ (type_of% @List.cons_append.{0}) ∧ (type_of% @List.nil_append.{0}) ∧ (type_of% @List.map_cons.{0,0}) ∧ (type_of% @List.map_nil.{0,0}) ∧ (type_of% @List.length_cons.{0}) ∧ (type_of% @List.length_nil.{0}) ∧ (type_of% @List.take_succ_cons.{0}) ∧ (type_of% @List.take_zero.{0}) ∧ (type_of% @List.drop_succ_cons.{0}) ∧ (type_of% @List.drop_zero.{0}) :=
  ⟨@sealCs_map, @Nat.le_refl, @List.take_length.{0}, @List.length_append.{0}, @List.length_singleton.{0}, @List.cons_append.{0}, @List.nil_append.{0}, @List.map_cons.{0,0}, @List.map_nil.{0,0}, @List.length_cons.{0}, @List.length_nil.{0}, @List.take_succ_cons.{0}, @List.take_zero.{0}, @List.drop_succ_cons.{0}, @List.drop_zero.{0}⟩
theorem ALT : (type_of% @en_len) ∧ (type_of% @en_take) ∧ (type_of% @en_nil) ∧ (type_of% (@en_all DF eF 3 eF_len)) ∧ (type_of% (@en_all DM eM 2 eM_len)) ∧ (type_of% (@en_all DW eW 3 eW_len)) ∧ (type_of% (@en_all ByteArray eS 1 eS_len)) ∧ (type_of% (@en_all Int eI 1 eI_len)) ∧ (type_of% @Int.toNat_natCast) :=
  ⟨@en_len, @en_take, @en_nil, @en_all DF eF 3 eF_len, @en_all DM eM 2 eM_len, @en_all DW eW 3 eW_len, @en_all ByteArray eS 1 eS_len, @en_all Int eI 1 eI_len, @Int.toNat_natCast⟩
/-! what an argument of the given type may be -/
def okS (s : ByteArray) : Prop := s.size ≤ 9223372036854775807
def okDF (f : DF) : Prop := okS f.name ∧ okS f.data
def okDM (m : DM) : Prop := okS m.name
def okDW (w : DW) : Prop := okS w.name ∧ okS w.data
def wF (f : DF) : Nat := f.name.size + f.data.size
def wM (m : DM) : Nat := m.name.size
def wW (w : DW) : Nat := w.name.size + w.data.size
def wS (s : ByteArray) : Nat := s.size
end Go.V
set_option linter.unusedSimpArgs false
namespace Go.V
open Go.Proofs
/-- An array that a call makes. -/
abbrev newH (c m st : Nat) (ty : TypeId) (es : List (List V)) : Hand := ⟨c, m, none, .arr 0 true st ty es, false⟩
/-- What a call does for every empty slice it does for the empty list. -/
theorem nilArgH {P : Program} {f : FuncId} {hs : List Hand} {r : T} (h : ∀ ad c, ACallsF P f [.s (.slice ad 0 c)] hs r) : ACallsF P f [.c (.v (.sl []))] hs r := by
  refine ⟨(h none 0).1, fun w imm L c vs hH hT => ?_⟩
  obtain ⟨x, rfl⟩ : ∃ x, vs = [x] := by
    have := hT.1
    cases vs with
    | nil => simp at this
    | cons x l => cases l with
      | nil => exact ⟨x, rfl⟩
      | cons _ _ => simp at this
  have hx : VRep w imm x (.sl []) := hT.2 0 x _ rfl rfl
  cases hx with
  | nil a cap => exact (h a cap).2 w imm L c _ hH ⟨rfl, fun k x y hx hy => by
      cases k with
      | zero => simp at hx hy; subst hx hy; exact .s _ rfl
      | succ k => simp at hx⟩
  | sl _ _ _ _ _ _ _ hne => exact absurd rfl hne
/-- A nil slice that is returned is an array of the call's own, too. -/
theorem ownNil {P : Program} {f : FuncId} {args : List T} {n m st : Nat} {ty : TypeId} (hst : 0 < st) (h : ACallsF P f args [] (.c .nil0)) : ACallsF P f args [newH n m st ty []] (.c (.own n 0 0)) := by
  refine ⟨h.1, fun w imm L c vs hH hT => ?_⟩
  have e0 : hinOf [newH n m st ty []] = hinOf [] := by
    funext k; rw [hinOf_cons]; split <;> rfl
  rw [e0] at hH hT ⊢
  refine (h.2 w imm L c vs hH hT).mono ?_
  rintro e w' ⟨x, r, h', imm', L', c', he, ⟨ν, hr, _⟩, hx, hHo, hS, hN, hE⟩
  subst hr
  obtain ⟨a, hxa⟩ : ∃ a, x = .slice a 0 0 := hx
  subst hxa
  have hcc : c ≤ c' := by
    rcases Nat.eq_zero_or_pos c with h0 | h0
    · omega
    · have := hE.use (c - 1) (by omega); omega
  refine ⟨.slice a 0 0, .c (.own n c' 0), fun k => if k = n then some (.arr c' true st ty []) else none, imm', fun _ => none, c' + 1, he, ⟨fun _ => c', rfl, fun k hd hh => ?_⟩, ?_, ⟨fun k B hB => ?_, fun _ _ g _ _ hg => (by cases hg), hHo.imm⟩, hS, fun _ g _ hg => (by cases hg), ⟨fun v hv => ?_, fun k ver ty' cs hu hk => ?_, fun k ver wr st' ty' es hu hk => ?_, fun k ver wr st' ty' es g cur hu hk hg => (by cases hg)⟩⟩
  · obtain ⟨h1, h2⟩ := renN_mem hh
    rw [List.mem_singleton] at h1
    subst h1
    have h2' : n = k := h2
    subst h2'
    simp [newH, verB]
  · refine ⟨Nat.lt_succ_self _, ⟨a, 0, rfl, Nat.le_refl _⟩, fun wr st' ty' es hes => ⟨Nat.zero_le _, .inl ⟨a, rfl, rfl⟩⟩⟩
  · have hB' : (if k = n then some (Blk.arr c' true st ty []) else none) = some B := hB
    split at hB'
    · cases hB'
      exact ⟨Nat.lt_succ_self _, hst, fun e he => (by cases he), .inl ⟨rfl, rfl⟩⟩
    · cases hB'
  · have := hE.use v hv; omega
  · have hk' : (if k = n then some (Blk.arr c' true st ty []) else none) = some (Blk.var ver ty' cs) := hk
    split at hk' <;> cases hk'
  · have hk' : (if k = n then some (Blk.arr c' true st ty []) else none) = some (Blk.arr ver wr st' ty' es) := hk
    split at hk'
    · cases hk'; omega
    · cases hk'
section
variable {P : Program} {t : Nat → T} {H : HMap} {c : Nat} {f : Opd} {args : List Opd} {fid : FuncId} {argsC : List T} {ws : List (Nat × Blk)} {ns : List Nat} {k : Nat} {d : Option Nat} {un : List Nat} {l : List AOper} {prev : List (Nat × List Nat × List Nat)} {K : St → Prop}
/-- A call that makes arrays, and is lent slices. -/
theorem callF (hs : List Hand) {r r' : T} {ob : List (Nat × Blk)} (hC : ACallsF P fid argsC hs r) (hf : ev t f = .pt (.one (.fn fid []))) (hl : lendTs H argsC (args.map (ev t)) = some (argsC, ws, ns)) (ha : argsC.all closedA = true) (hb : ∀ h ∈ hs, h.b = none) (hm : (hs.map (·.m)).Nodup) (hc : (hs.map (·.c)).Nodup)
    (hq : quiet r hs = true) (hr : renOT hs (c + k) r = some r') (ho : renOBs hs (c + k) hs = some ob)
    (hk : chk prev un ⟨r', ob, ns ++ hs.map (·.m), hs.map (·.m)⟩ = true ∧ DRun P l ((k, ns ++ hs.map (·.m), hs.map (·.m)) :: prev) K ⟨updD t d r', updH H ob, c⟩) :
    step P k d un (.call f args) l prev K t H c := by
  refine callW (caps := []) («as» := argsC) (ws := ws) (ns := ns) (r' := r') (ob := ob) hs hC hf (by simpa using hl) (closed_As hs H argsC ha).2 ?_ hm hc hr ho (by simpa [hq] using hk)
  have : ∀ l : List Hand, (∀ h ∈ l, h.b = none) → handsIn (updH H ws) hs l := by
    intro l
    induction l with
    | nil => intro _; trivial
    | cons h l ih => intro hl; exact ⟨by rw [hl h (by simp)]; trivial, ih fun x hx => hl x (by simp [hx])⟩
  exact this hs hb
/-- A call that makes one array. -/
theorem callA1 {n m N st : Nat} {ty : TypeId} {es : List (List V)} (hC : ACallsF P fid argsC [newH n m st ty es] (.c (.own n 0 N))) (hf : ev t f = .pt (.one (.fn fid []))) (hl : lendTs H argsC (args.map (ev t)) = some (argsC, ws, ns)) (ha : argsC.all closedA = true) (he : (es.all fun e => e.all flatV) = true)
    (hk : chk prev un ⟨.c (.own m (c + k) N), [(m, .arr (c + k) true st ty es)], ns ++ [m], [m]⟩ = true ∧ DRun P l ((k, ns ++ [m], [m]) :: prev) K ⟨updD t d (.c (.own m (c + k) N)), upd H m (some (.arr (c + k) true st ty es)), c⟩) :
    step P k d un (.call f args) l prev K t H c := by
  have hN : renN [newH n m st ty es] n = some (newH n m st ty es) := by simp [renN]
  refine callF (r' := .c (.own m (c + k) N)) (ob := [(m, .arr (c + k) true st ty es)]) [newH n m st ty es] hC hf hl ha (by simp) (by simp) (by simp) ?_ ?_ ?_ ?_
  · simp only [quiet, List.all_cons, List.all_nil, flatB, he]; rfl
  · simp only [T.c, renOT, renOP, renO, hN, Option.map_some, verOf]; rfl
  · simp only [renOBs, renOB, verOf]; rfl
  · simpa [updH] using hk
end
def part {α : Type} (xs : List α) (z : α) (i : Nat) : List α := xs.take i ++ List.replicate (xs.length - i) z
theorem part_len {α : Type} (xs : List α) (z : α) {i : Nat} (h : i ≤ xs.length) : (part xs z i).length = xs.length := by simp [part]; omega
theorem part_zero {α : Type} (xs : List α) (z : α) : part xs z 0 = List.replicate xs.length z := by simp [part]
theorem part_end {α : Type} (xs : List α) (z : α) : part xs z xs.length = xs := by simp [part]
theorem part_set {α : Type} (xs : List α) (z : α) {i : Nat} {x : α} (h : xs[i]? = some x) : (part xs z i).set i x = part xs z (i + 1) := by
  have hi := (List.getElem?_eq_some_iff.1 h).1
  have e : xs.length - i = (xs.length - (i + 1)) + 1 := by omega
  have hl : (xs.take i).length = i := by simp; omega
  rw [part, e, List.replicate_succ, List.set_append, if_neg (by omega), hl, Nat.sub_self, List.set_cons_zero, part, List.take_add_one, h]
  simp
theorem part_at {α : Type} (xs : List α) (z : α) {i : Nat} (h : i < xs.length) : (part xs z i)[i]? = some z := by
  have hl : (xs.take i).length = i := by simp; omega
  rw [part, List.getElem?_append_right (by omega), hl, Nat.sub_self, List.getElem?_replicate, if_pos (by omega)]
def zF : DF := ⟨⟨#[]⟩, ⟨#[]⟩, 0⟩
def zM : DM := ⟨false, ⟨#[]⟩⟩
def zW : DW := ⟨0, ⟨#[]⟩, ⟨#[]⟩⟩
def zS : ByteArray := ⟨#[]⟩
end Go.V
set_option linter.unusedSimpArgs false
namespace Go.V
open Go.Proofs
/-- A disk's three arrays, new. -/
abbrev dkH (c1 c2 c3 m1 m2 m3 : Nat) (d : Dk) : List Hand := [newH c1 m1 3 58 (en eF d.files), newH c2 m2 1 9 (en eS d.names), newH c3 m3 2 60 (en eM d.moves)]
abbrev oDk (c1 v1 c2 v2 c3 v3 : Nat) (d : Dk) : P1 := .agg [.own c1 v1 d.files.length, .own c2 v2 d.names.length, .own c3 v3 d.moves.length]
structure smallDk (d : Dk) : Prop where
  f : d.files.length ≤ 1048576
  n : d.names.length ≤ 1048576
  m : d.moves.length ≤ 1048576
/- slices.Clone[[]loop.example/teagle/impl.DiskFile,loop.example/teagle/impl.DiskFile] -/
def r51_0 : List AOper := [ao 0 2 (.mv (.k (.c .nil0)))]
def r51_1 : List AOper := [ao 0 3 (.mv (.t 0)),
  ao 1 4 (.isnil false (.t 3))]
def r51_2 : List AOper := [ao 0 2 (.mv (.k (.c .nil0)))]
def c51_3 : ACode := .seq (.reg r51_2) .ret
def c51_4 : ACode := .cond (.t 4) c51_3 .skip
def c51_5 : ACode := .seq (.reg r51_1) c51_4
def r51_6 : List AOper := [ao 0 5 (.bsl 3 58 []),
  ao 1 6 (.mv (.t 0)),
  ao 2 7 (.app 3 58 40 (.t 5) (.t 6)),
  ao 3 2 (.mv (.t 7))]
def c51 : ACode := .seq (.reg r51_0) (.seq c51_5 (.seq (.reg r51_6) .ret))
def s51 : List ARes := [.tmp 2]
theorem ok51 : okF Try.prog 51 8 c51 s51 := ⟨Try.f51, Try.func51, Try.ntmps51, by kernel_rfl, by kernel_rfl, by kernel_rfl⟩
def UPd_1 := Bx.mk <|
  aN (uA c51.eq_1) <| aN (uR r51_0.eq_1) <| aN (uA c51_5.eq_1) <| aN (uR r51_1.eq_1) <| aN (uA c51_4.eq_1) <| aN (uA c51_3.eq_1) <| aN (uR r51_2.eq_1) <| aN (uR r51_6.eq_1) <| s51.eq_1
theorem cloneDF_ok (xs : List DF) (hl : xs.length ≤ 2000000) (m : Nat) : ACallsF Try.prog 51 [tL (en eF xs)] [newH 5 m 3 58 (en eF xs)] (.c (.own 5 0 xs.length)) := by
  have q1 : xs.length * 40 ≤ 140737488355328 := by omega
  have q2 : xs.length ≤ 9223372036854775807 := by omega
  have hb1 : (true != false) = true := rfl
  have hb2 : (false != false) = false := rfl
  cases xs with
  | nil =>
    refine nilArgH fun ad c => ?_
    cases ad with
    | none =>
      refine ownNil (by decide) (ACallsF.intro ok51 follows fun X c0 => ?_)
      simp only [RUX, Nat.reduceAdd, reduceIte, Nat.reduceEqDiff, Nat.reduceLT, Nat.reduceLeDiff, reduceCtorEq, eq_self, FIX, forall_const, endE_n, endE_r, CHT, disj, Nat.reduceBEq, beq_self_eq_true, APT, APX, forall_eq, ALT, UPd_1.d, Option.isNone_none, hb1]
    | some a =>
      refine ACallsF.intro ok51 follows fun X c0 => ?_
      simp only [RUX, Nat.reduceAdd, reduceIte, Nat.reduceEqDiff, Nat.reduceLT, Nat.reduceLeDiff, reduceCtorEq, eq_self, FIX, forall_const, endE_n, endE_r, CHT, disj, Nat.reduceBEq, beq_self_eq_true, APT, APX, forall_eq, ALT, UPd_1.d, Option.isNone_some, hb2, Nat.zero_mul, Nat.zero_le, List.not_mem_nil, false_implies, implies_true, imp_self]
  | cons y ys =>
    refine ACallsF.intro ok51 follows fun X c0 => ?_
    obtain ⟨x, es, he⟩ : ∃ x es, en eF (y :: ys) = x :: es := ⟨_, _, rfl⟩
    have hall := en_all eF eF_len (y :: ys)
    have hlen := en_len eF (y :: ys)
    rw [he] at hall hlen ⊢
    simp only [List.length_cons] at hlen q1 q2
    have hlen' : es.length = ys.length := by omega
    simp only [RUX, Nat.reduceAdd, reduceIte, Nat.reduceEqDiff, Nat.reduceLT, Nat.reduceLeDiff, reduceCtorEq, eq_self, FIX, forall_const, endE_n, endE_r, CHT, disj, Nat.reduceBEq, beq_self_eq_true, APT, srcOf, sealPs, sealCs, sealC, UPd_1.d, hall, hlen', q1, q2, Nat.zero_add, imp_self]
/- slices.Clone[[]string,string] -/
def r36_0 : List AOper := [ao 0 2 (.mv (.k (.c .nil0)))]
def r36_1 : List AOper := [ao 0 3 (.mv (.t 0)),
  ao 1 4 (.isnil false (.t 3))]
def r36_2 : List AOper := [ao 0 2 (.mv (.k (.c .nil0)))]
def c36_3 : ACode := .seq (.reg r36_2) .ret
def c36_4 : ACode := .cond (.t 4) c36_3 .skip
def c36_5 : ACode := .seq (.reg r36_1) c36_4
def r36_6 : List AOper := [ao 0 5 (.bsl 1 9 []),
  ao 1 6 (.mv (.t 0)),
  ao 2 7 (.app 1 9 16 (.t 5) (.t 6)),
  ao 3 2 (.mv (.t 7))]
def c36 : ACode := .seq (.reg r36_0) (.seq c36_5 (.seq (.reg r36_6) .ret))
def s36 : List ARes := [.tmp 2]
theorem ok36 : okF Try.prog 36 8 c36 s36 := ⟨Try.f36, Try.func36, Try.ntmps36, by kernel_rfl, by kernel_rfl, by kernel_rfl⟩
def UPd_2 := Bx.mk <|
  aN (uA c36.eq_1) <| aN (uR r36_0.eq_1) <| aN (uA c36_5.eq_1) <| aN (uR r36_1.eq_1) <| aN (uA c36_4.eq_1) <| aN (uA c36_3.eq_1) <| aN (uR r36_2.eq_1) <| aN (uR r36_6.eq_1) <| s36.eq_1
theorem cloneS_ok (xs : List ByteArray) (hl : xs.length ≤ 2000000) (m : Nat) : ACallsF Try.prog 36 [tL (en eS xs)] [newH 5 m 1 9 (en eS xs)] (.c (.own 5 0 xs.length)) := by
  have q1 : xs.length * 16 ≤ 140737488355328 := by omega
  have q2 : xs.length ≤ 9223372036854775807 := by omega
  have hb1 : (true != false) = true := rfl
  have hb2 : (false != false) = false := rfl
  cases xs with
  | nil =>
    refine nilArgH fun ad c => ?_
    cases ad with
    | none =>
      refine ownNil (by decide) (ACallsF.intro ok36 follows fun X c0 => ?_)
      simp only [RUX, Nat.reduceAdd, reduceIte, Nat.reduceEqDiff, Nat.reduceLT, Nat.reduceLeDiff, reduceCtorEq, eq_self, FIX, forall_const, endE_n, endE_r, CHT, disj, Nat.reduceBEq, beq_self_eq_true, APT, APX, forall_eq, ALT, UPd_2.d, Option.isNone_none, hb1]
    | some a =>
      refine ACallsF.intro ok36 follows fun X c0 => ?_
      simp only [RUX, Nat.reduceAdd, reduceIte, Nat.reduceEqDiff, Nat.reduceLT, Nat.reduceLeDiff, reduceCtorEq, eq_self, FIX, forall_const, endE_n, endE_r, CHT, disj, Nat.reduceBEq, beq_self_eq_true, APT, APX, forall_eq, ALT, UPd_2.d, Option.isNone_some, hb2, Nat.zero_mul, Nat.zero_le, List.not_mem_nil, false_implies, implies_true, imp_self]
  | cons y ys =>
    refine ACallsF.intro ok36 follows fun X c0 => ?_
    obtain ⟨x, es, he⟩ : ∃ x es, en eS (y :: ys) = x :: es := ⟨_, _, rfl⟩
    have hall := en_all eS eS_len (y :: ys)
    have hlen := en_len eS (y :: ys)
    rw [he] at hall hlen ⊢
    simp only [List.length_cons] at hlen q1 q2
    have hlen' : es.length = ys.length := by omega
    simp only [RUX, Nat.reduceAdd, reduceIte, Nat.reduceEqDiff, Nat.reduceLT, Nat.reduceLeDiff, reduceCtorEq, eq_self, FIX, forall_const, endE_n, endE_r, CHT, disj, Nat.reduceBEq, beq_self_eq_true, APT, srcOf, sealPs, sealCs, sealC, UPd_2.d, hall, hlen', q1, q2, Nat.zero_add, imp_self]
/- slices.Clone[[]loop.example/teagle/impl.DiskMove,loop.example/teagle/impl.DiskMove] -/
def r52_0 : List AOper := [ao 0 2 (.mv (.k (.c .nil0)))]
def r52_1 : List AOper := [ao 0 3 (.mv (.t 0)),
  ao 1 4 (.isnil false (.t 3))]
def r52_2 : List AOper := [ao 0 2 (.mv (.k (.c .nil0)))]
def c52_3 : ACode := .seq (.reg r52_2) .ret
def c52_4 : ACode := .cond (.t 4) c52_3 .skip
def c52_5 : ACode := .seq (.reg r52_1) c52_4
def r52_6 : List AOper := [ao 0 5 (.bsl 2 60 []),
  ao 1 6 (.mv (.t 0)),
  ao 2 7 (.app 2 60 24 (.t 5) (.t 6)),
  ao 3 2 (.mv (.t 7))]
def c52 : ACode := .seq (.reg r52_0) (.seq c52_5 (.seq (.reg r52_6) .ret))
def s52 : List ARes := [.tmp 2]
theorem ok52 : okF Try.prog 52 8 c52 s52 := ⟨Try.f52, Try.func52, Try.ntmps52, by kernel_rfl, by kernel_rfl, by kernel_rfl⟩
def UPd_3 := Bx.mk <|
  aN (uA c52.eq_1) <| aN (uR r52_0.eq_1) <| aN (uA c52_5.eq_1) <| aN (uR r52_1.eq_1) <| aN (uA c52_4.eq_1) <| aN (uA c52_3.eq_1) <| aN (uR r52_2.eq_1) <| aN (uR r52_6.eq_1) <| s52.eq_1
theorem cloneDM_ok (xs : List DM) (hl : xs.length ≤ 2000000) (m : Nat) : ACallsF Try.prog 52 [tL (en eM xs)] [newH 5 m 2 60 (en eM xs)] (.c (.own 5 0 xs.length)) := by
  have q1 : xs.length * 24 ≤ 140737488355328 := by omega
  have q2 : xs.length ≤ 9223372036854775807 := by omega
  have hb1 : (true != false) = true := rfl
  have hb2 : (false != false) = false := rfl
  cases xs with
  | nil =>
    refine nilArgH fun ad c => ?_
    cases ad with
    | none =>
      refine ownNil (by decide) (ACallsF.intro ok52 follows fun X c0 => ?_)
      simp only [RUX, Nat.reduceAdd, reduceIte, Nat.reduceEqDiff, Nat.reduceLT, Nat.reduceLeDiff, reduceCtorEq, eq_self, FIX, forall_const, endE_n, endE_r, CHT, disj, Nat.reduceBEq, beq_self_eq_true, APT, APX, forall_eq, ALT, UPd_3.d, Option.isNone_none, hb1]
    | some a =>
      refine ACallsF.intro ok52 follows fun X c0 => ?_
      simp only [RUX, Nat.reduceAdd, reduceIte, Nat.reduceEqDiff, Nat.reduceLT, Nat.reduceLeDiff, reduceCtorEq, eq_self, FIX, forall_const, endE_n, endE_r, CHT, disj, Nat.reduceBEq, beq_self_eq_true, APT, APX, forall_eq, ALT, UPd_3.d, Option.isNone_some, hb2, Nat.zero_mul, Nat.zero_le, List.not_mem_nil, false_implies, implies_true, imp_self]
  | cons y ys =>
    refine ACallsF.intro ok52 follows fun X c0 => ?_
    obtain ⟨x, es, he⟩ : ∃ x es, en eM (y :: ys) = x :: es := ⟨_, _, rfl⟩
    have hall := en_all eM eM_len (y :: ys)
    have hlen := en_len eM (y :: ys)
    rw [he] at hall hlen ⊢
    simp only [List.length_cons] at hlen q1 q2
    have hlen' : es.length = ys.length := by omega
    simp only [RUX, Nat.reduceAdd, reduceIte, Nat.reduceEqDiff, Nat.reduceLT, Nat.reduceLeDiff, reduceCtorEq, eq_self, FIX, forall_const, endE_n, endE_r, CHT, disj, Nat.reduceBEq, beq_self_eq_true, APT, srcOf, sealPs, sealCs, sealC, UPd_3.d, hall, hlen', q1, q2, Nat.zero_add, imp_self]
/- (loop.example/teagle/impl.Disk).clone -/
def r32_0 : List AOper := [ao 0 1 (.box 27 (.t 0)),
  ao 1 2 (.alloc 27 [.nil0, .nil0, .nil0])]
def r32_1 : List AOper := [ao 0 3 (.fa 0 (.t 1)),
  ao 1 4 (.ld 1 false (.t 3)),
  ao 2 5 (.call (.k (.c (.fn 51 []))) [(.t 4)]),
  au 3 6 (ru 3) (.fa 1 (.t 1)),
  au 4 7 (ru 3) (.ld 1 false (.t 6)),
  ao 5 8 (.call (.k (.c (.fn 36 []))) [(.t 7)]),
  au 6 9 (ru 6) (.fa 2 (.t 1)),
  au 7 10 (ru 6) (.ld 1 false (.t 9)),
  ao 8 11 (.call (.k (.c (.fn 52 []))) [(.t 10)]),
  ao 9 12 (.build [.nil0, .nil0, .nil0] [(0, 1, (.t 5)), (1, 1, (.t 8)), (2, 1, (.t 11))]),
  an 10 (.st 3 (.t 2) (.t 12))]
def c32 : ACode := .seq (.reg r32_0) (.seq (.reg r32_1) .ret)
def s32 : List ARes := [.cell 2 3 true]
theorem ok32 : okF Try.prog 32 13 c32 s32 := ⟨Try.f32, Try.func32, Try.ntmps32, by kernel_rfl, by kernel_rfl, by kernel_rfl⟩
def UPd_4 := Bx.mk <|
  aN (uA c32.eq_1) <| aN (uR r32_0.eq_1) <| aN (uR r32_1.eq_1) <| s32.eq_1
theorem cloneDk_ok (d : Dk) (hd : smallDk d) (m1 m2 m3 : Nat) : ACallsF Try.prog 32 [tDk d] (dkH 1001 1002 1003 m1 m2 m3 d) (.pt (oDk 1001 0 1002 0 1003 0 d)) := by
  refine ACallsF.intro ok32 follows fun X c0 => ?_
  simp only [RUX, Nat.reduceAdd, reduceIte, Nat.reduceEqDiff, Nat.reduceLT, Nat.reduceLeDiff, reduceCtorEq, eq_self, FIX, forall_const, endE_n, endE_r, CHT, disj, Nat.reduceBEq, beq_self_eq_true, APT, APX, forall_eq, ALT, UPd_4.d]
  refine callA1 (m := 1001) (ws := []) (ns := []) (cloneDF_ok d.files (by have := hd.f; omega) 1001) rfl rfl rfl (en_flat eF eF_flat _) ⟨rfl, ?_⟩
  simp only [RUX, Nat.reduceAdd, reduceIte, Nat.reduceEqDiff, Nat.reduceLT, Nat.reduceLeDiff, reduceCtorEq, eq_self, FIX, forall_const, endE_n, endE_r, CHT, disj, Nat.reduceBEq, beq_self_eq_true, APT, APX, forall_eq, ALT, UPd_4.d]
  refine callA1 (m := 1002) (ws := []) (ns := []) (cloneS_ok d.names (by have := hd.n; omega) 1002) rfl rfl rfl (en_flat eS eS_flat _) ⟨rfl, ?_⟩
  simp only [RUX, Nat.reduceAdd, reduceIte, Nat.reduceEqDiff, Nat.reduceLT, Nat.reduceLeDiff, reduceCtorEq, eq_self, FIX, forall_const, endE_n, endE_r, CHT, disj, Nat.reduceBEq, beq_self_eq_true, APT, APX, forall_eq, ALT, UPd_4.d]
  refine callA1 (m := 1003) (ws := []) (ns := []) (cloneDM_ok d.moves (by have := hd.m; omega) 1003) rfl rfl rfl (en_flat eM eM_flat _) ⟨rfl, ?_⟩
  simp only [RUX, Nat.reduceAdd, reduceIte, Nat.reduceEqDiff, Nat.reduceLT, Nat.reduceLeDiff, reduceCtorEq, eq_self, FIX, forall_const, endE_n, endE_r, CHT, disj, Nat.reduceBEq, beq_self_eq_true, APT, APX, forall_eq, ALT, UPd_4.d, imp_self]
/- loop.example/teagle/spec.l41Copy -/
def r23_0 : List AOper := [ao 0 1 (.box 27 (.t 0)),
  ao 1 2 (.alloc 27 [.nil0, .nil0, .nil0])]
def r23_1 : List AOper := [ao 0 3 (.bsl 3 58 []),
  au 1 4 [0] (.fa 0 (.t 1)),
  au 2 5 [0] (.ld 1 false (.t 4)),
  ao 3 6 (.app 3 58 40 (.t 3) (.t 5)),
  au 4 7 (ru 4) (.bsl 1 9 []),
  au 5 8 (ru 5) (.fa 1 (.t 1)),
  au 6 9 (ru 5) (.ld 1 false (.t 8)),
  ao 7 10 (.app 1 9 16 (.t 7) (.t 9)),
  au 8 11 (ru 8) (.bsl 2 60 []),
  au 9 12 (ru 9) (.fa 2 (.t 1)),
  au 10 13 (ru 9) (.ld 1 false (.t 12)),
  ao 11 14 (.app 2 60 24 (.t 11) (.t 13)),
  ao 12 15 (.build [.nil0, .nil0, .nil0] [(0, 1, (.t 6)), (1, 1, (.t 10)), (2, 1, (.t 14))]),
  an 13 (.st 3 (.t 2) (.t 15))]
def c23 : ACode := .seq (.reg r23_0) (.seq (.reg r23_1) .ret)
def s23 : List ARes := [.cell 2 3 true]
theorem ok23 : okF Try.prog 23 16 c23 s23 := ⟨Try.f23, Try.func23, Try.ntmps23, by kernel_rfl, by kernel_rfl, by kernel_rfl⟩
def UPd_5 := Bx.mk <|
  aN (uA c23.eq_1) <| aN (uR r23_0.eq_1) <| aN (uR r23_1.eq_1) <| s23.eq_1
theorem copyDk_ok (d : Dk) (hd : smallDk d) (m1 m2 m3 : Nat) : ACallsF Try.prog 23 [tDk d] (dkH 3 7 11 m1 m2 m3 d) (.pt (oDk 3 0 7 0 11 0 d)) := by
  have h1 := hd.f
  have h2 := hd.n
  have h3 := hd.m
  have q1 : d.files.length * 40 ≤ 140737488355328 := by omega
  have q2 : d.files.length ≤ 9223372036854775807 := by omega
  have q3 : d.names.length * 16 ≤ 140737488355328 := by omega
  have q4 : d.names.length ≤ 9223372036854775807 := by omega
  have q5 : d.moves.length * 24 ≤ 140737488355328 := by omega
  have q6 : d.moves.length ≤ 9223372036854775807 := by omega
  refine ACallsF.intro ok23 follows fun X c0 => ?_
  simp only [RUX, Nat.reduceAdd, reduceIte, Nat.reduceEqDiff, Nat.reduceLT, Nat.reduceLeDiff, reduceCtorEq, eq_self, FIX, forall_const, endE_n, endE_r, CHT, disj, Nat.reduceBEq, beq_self_eq_true, APT, APX, forall_eq, ALT, UPd_5.d, q1, q2, q3, q4, q5, q6, Nat.zero_add, imp_self]
end Go.V
set_option linter.unusedSimpArgs false
namespace Go.V
open Go.Proofs
theorem push_size (r : ByteArray) (b : UInt8) : (r.push b).size = r.size + 1 := by cases r; simp [ByteArray.push, ByteArray.size]
end Go.V
set_option linter.unusedSimpArgs false
namespace Go.V
open Go.Proofs
theorem SET : (type_of% @List.getElem?_set_self.{0}) ∧ (type_of% @List.set_set.{0}) ∧ (type_of% @List.length_set.{0}) := ⟨@List.getElem?_set_self.{0}, @List.set_set.{0}, @List.length_set.{0}⟩
/-- An array that is handed on. -/
abbrev arH (c m v st : Nat) (ty : TypeId) (es es' : List (List V)) : Hand := ⟨c, m, some (.arr v true st ty es), .arr v true st ty es', true⟩
end Go.V
set_option linter.unusedSimpArgs false
namespace Go.V
open Go.Proofs
/-- A call that works in place on an array of the caller's. -/
theorem callM1 {P : Program} {t : Nat → T} {H : HMap} {c : Nat} {f : Opd} {args : List Opd} {fid : FuncId} {n m v N st : Nat} {ty : TypeId} {es es' : List (List V)} {x r : T} {k : Nat} {d : Option Nat} {un : List Nat} {l : List AOper} {prev : List (Nat × List Nat × List Nat)} {K : St → Prop}
    (hC : ACallsF P fid [.c (.own n v N), x] [arH n m v st ty es es'] r) (hf : ev t f = .pt (.one (.fn fid []))) (hl : args.map (ev t) = [.c (.own m v N), x]) (hH : H m = some (.arr v true st ty es)) (hx : closedA x = true) (hr : closedT r = true)
    (hk : chk prev un ⟨r, [(m, .arr v true st ty es')], [m], [m]⟩ = true ∧ DRun P l ((k, [m], [m]) :: prev) K ⟨updD t d r, upd H m (some (.arr v true st ty es')), c⟩) :
    step P k d un (.call f args) l prev K t H c := by
  have hN : renN [arH n m v st ty es es'] n = some (arH n m v st ty es es') := by simp [renN]
  obtain ⟨x1, x2⟩ := closed_A [arH n m v st ty es es'] H x hx
  refine callW (caps := []) («as» := [.c (.own m v N), x]) (ws := []) (ns := []) (r' := r) (ob := [(m, .arr v true st ty es')]) [arH n m v st ty es es'] hC hf ?_ ?_ ⟨?_, trivial⟩ (by simp) (by simp) (closed_T _ r hr _) ?_ ?_
  · rw [hl]
    have a1 : lendT H (T.c (.own n v N)) (T.c (.own m v N)) = some (T.c (.own m v N), [], []) := rfl
    simp only [List.map_nil, List.append_nil, lendTs, a1, x1]
  · have a1 : renIT [arH n m v st ty es es'] (T.c (.own n v N)) = some (T.c (.own m v N)) := by simp only [T.c, renIT, renI, inN, hN, Option.bind_some, Option.map_some]
    simp only [renITs, a1, x2]
  · show (match renIB [arH n m v st ty es es'] (.arr v true st ty es) with | some B => (updH H []) m = some B | none => False)
    simp only [renIB, updH]
    exact hH
  · simp only [renOBs, renOB, verOf, if_true, Blk.ver]
  · have hq : quiet r [arH n m v st ty es es'] = false := by simp [quiet]
    simpa [hq, updH] using hk
end Go.V
set_option linter.unusedSimpArgs false
namespace Go.V
open Go.Proofs
/-! the reference's disk, as functions -/
/-- The place of a file, -1 if there is none. -/
def fnd (fs : List DF) (nm : ByteArray) : Int := match fs.findIdx? fun f => decide (f.name = nm) with
  | some i => i
  | none => -1
theorem fnd_at {fs : List DF} {nm : ByteArray} {i : Nat} {f : DF} (hi : fs[i]? = some f) (hf : f.name = nm) (hb : ∀ (j : Nat), j < i → ∀ (g : DF), fs[j]? = some g → g.name ≠ nm) : fnd fs nm = i := by
  have : (fs.findIdx? fun f => decide (f.name = nm)) = some i := by
    rw [List.findIdx?_eq_some_iff_getElem]
    have hlt := (List.getElem?_eq_some_iff.1 hi).1
    have he := (List.getElem?_eq_some_iff.1 hi).2
    refine ⟨hlt, by rw [he]; simpa using hf, fun j hj => ?_⟩
    have := hb j hj _ (List.getElem?_eq_getElem (by omega))
    simpa using this
  simp only [fnd, this]
theorem fnd_no {fs : List DF} {nm : ByteArray} (hb : ∀ (j : Nat) (g : DF), fs[j]? = some g → g.name ≠ nm) : fnd fs nm = -1 := by
  have : (fs.findIdx? fun f => decide (f.name = nm)) = none := by
    rw [List.findIdx?_eq_none_iff]
    intro x hx
    obtain ⟨j, hj⟩ := List.mem_iff_getElem?.1 hx
    simpa using hb j x hj
  simp only [fnd, this]
/- loop.example/teagle/spec.l41Find -/
def r25_0 : List AOper := [ao 0 4 (.mv (.k (.i 0)))]
def r25_1 : List AOper := [ao 0 5 (.mv (.k (.i 0)))]
def r25_2 : List AOper := [ao 0 6 (.mv (.t 5)),
  ao 1 7 (.mv (.t 0)),
  ao 2 8 (.len (.t 7)),
  ao 3 9 (.bin .lss (.t 6) (.t 8))]
def c25_3 : ACode := .cond (.t 9) .skip (.exit 0)
def c25_4 : ACode := .seq (.reg r25_2) c25_3
def r25_5 : List AOper := [ao 0 12 (.mv (.t 0)),
  ao 1 13 (.mv (.t 5)),
  ao 2 14 (.ia 3 (.t 12) (.t 13)),
  ao 3 15 (.fa 0 (.t 14)),
  ao 4 16 (.ld 1 false (.t 15)),
  ao 5 17 (.mv (.t 1)),
  ao 6 18 (.bin .eql (.t 16) (.t 17))]
def r25_6 : List AOper := [ao 0 19 (.mv (.t 5)),
  ao 1 4 (.mv (.t 19))]
def c25_7 : ACode := .seq (.reg r25_6) .ret
def c25_8 : ACode := .cond (.t 18) c25_7 .skip
def c25_9 : ACode := .seq (.reg r25_5) c25_8
def c25_10 : ACode := .block 1 c25_9
def r25_11 : List AOper := [ao 0 10 (.mv (.t 5)),
  ao 1 11 (.bin .add (.t 10) (.k (.i 1))),
  ao 2 5 (.mv (.t 11))]
def c25_12 : ACode := .seq c25_4 (.seq c25_10 (.reg r25_11))
def c25_13 : ACode := .loop c25_12
def c25_14 : ACode := .block 0 c25_13
def c25_15 : ACode := .seq (.reg r25_1) c25_14
def r25_16 : List AOper := [ao 0 4 (.mv (.k (.i (-1))))]
def c25 : ACode := .seq (.reg r25_0) (.seq c25_15 (.seq (.reg r25_16) .ret))
def s25 : List ARes := [.tmp 4]
theorem ok25 : okF Try.prog 25 20 c25 s25 := ⟨Try.f25, Try.func25, Try.ntmps25, by kernel_rfl, by kernel_rfl, by kernel_rfl⟩
def inv25 (fs : List DF) (nm : ByteArray) (i : Nat) (σ : St) : Prop := (∀ (j : Nat), j < i → ∀ (g : DF), fs[j]? = some g → g.name ≠ nm) ∧ σ.t 0 = tL (en eF fs) ∧ σ.t 1 = tS nm ∧ σ.t 5 = .i i
def UPh_1 := Bx.mk <|
  aN (uA c25.eq_1) <| aN (uR r25_0.eq_1) <| aN (uA c25_15.eq_1) <| aN (uR r25_1.eq_1) <| aN (uA c25_14.eq_1) <| aN (uA c25_13.eq_1) <| aN (uR r25_16.eq_1) <| s25.eq_1
def UPh_5 := Bx.mk <|
  aN (uA c25_12.eq_1) <| aN (uA c25_4.eq_1) <| aN (uR r25_2.eq_1) <| aN (uA c25_3.eq_1) <| aN (uA c25_10.eq_1) <| aN (uA c25_9.eq_1) <| aN (uR r25_5.eq_1) <| aN (uA c25_8.eq_1) <| aN (uA c25_7.eq_1) <| aN (uR r25_6.eq_1) <| aN (uR r25_11.eq_1) <| aN (uA c25.eq_1) <| aN (uR r25_0.eq_1) <| aN (uA c25_15.eq_1) <| aN (uR r25_1.eq_1) <| aN (uA c25_14.eq_1) <| aN (uA c25_13.eq_1) <| aN (uR r25_16.eq_1) <| s25.eq_1
theorem find_ok (fs : List DF) (nm : ByteArray) (hl : fs.length ≤ 9000000000000000000) : ACallsF Try.prog 25 [tL (en eF fs), tS nm] [] (.i (fnd fs nm)) := by
  refine ACallsF.intro ok25 follows fun X c0 => ?_
  simp only [RUX, Nat.reduceAdd, reduceIte, Nat.reduceEqDiff, Nat.reduceLT, Nat.reduceLeDiff, reduceCtorEq, eq_self, FIX, forall_const, endE_n, endE_r, CHT, disj, Nat.reduceBEq, beq_self_eq_true, APT, APX, forall_eq, ALT, UPh_1.d]
  refine AW.upto fs.length (inv25 fs nm) ⟨fun j hj => absurd hj (Nat.not_lt_zero j), rfl, rfl, rfl⟩ fun i t H c hi h => ?_
  obtain ⟨g, e0, e1, e5⟩ := h
  simp only [T.c, T.i, T.s, tL] at e0 e1 e5
  by_cases hlt : i < fs.length
  · obtain ⟨x, hx⟩ : ∃ x, fs[i]? = some x := ⟨_, List.getElem?_eq_getElem hlt⟩
    have ex := en_at eF hx
    have k1 : (i : Int) < fs.length := by omega
    have gz : (0 : Int) ≤ i := by omega
    have gw : IntKind.i64.wrap ((i : Int) + 1) = ((i + 1 : Nat) : Int) := wrap64 (x := (i : Int) + 1) ⟨by omega, by omega⟩
    by_cases hn : x.name = nm
    · have hr : fnd fs nm = i := fnd_at hx hn g
      simp only [RUX, Nat.reduceAdd, reduceIte, Nat.reduceEqDiff, Nat.reduceLT, Nat.reduceLeDiff, reduceCtorEq, eq_self, FIX, forall_const, endE_n, endE_r, CHT, disj, Nat.reduceBEq, beq_self_eq_true, APT, APX, forall_eq, ALT, UPh_5.d, UPh_1.d, e0, e1, e5, en_len, k1, gz, ex, eF, sStr, str_beq, hn, hr, decide_true]
    · simp only [RUX, Nat.reduceAdd, reduceIte, Nat.reduceEqDiff, Nat.reduceLT, Nat.reduceLeDiff, reduceCtorEq, eq_self, FIX, forall_const, endE_n, endE_r, CHT, disj, Nat.reduceBEq, beq_self_eq_true, APT, APX, forall_eq, ALT, UPh_5.d, e0, e1, e5, en_len, k1, gz, ex, eF, sStr, str_beq, hn, gw]
      exact ⟨hlt, fun j hj g' hg => (by rcases Nat.lt_succ_iff_lt_or_eq.1 hj with hj | rfl; exact g j hj g' hg; rw [hx] at hg; cases hg; exact hn), e0, e1, rfl⟩
  · have k1 : ¬ (i : Int) < fs.length := by omega
    have hr : fnd fs nm = -1 := fnd_no fun j g' hg => g j (by have := (List.getElem?_eq_some_iff.1 hg).1; omega) g' hg
    simp only [RUX, Nat.reduceAdd, reduceIte, Nat.reduceEqDiff, Nat.reduceLT, Nat.reduceLeDiff, reduceCtorEq, eq_self, FIX, forall_const, endE_n, endE_r, CHT, disj, Nat.reduceBEq, beq_self_eq_true, APT, APX, forall_eq, ALT, UPh_5.d, UPh_1.d, e0, e1, e5, en_len, k1, hr]
def has (ns : List ByteArray) (nm : ByteArray) : Bool := ns.any fun x => decide (x = nm)
theorem has_true {ns : List ByteArray} {nm : ByteArray} : has ns nm = true ↔ nm ∈ ns := by
  rw [has, List.any_eq_true]
  exact ⟨fun ⟨x, h1, h2⟩ => of_decide_eq_true h2 ▸ h1, fun h => ⟨nm, h, decide_eq_true rfl⟩⟩
theorem has_false {ns : List ByteArray} {nm : ByteArray} : has ns nm = false ↔ nm ∉ ns := by
  rw [← has_true]; cases has ns nm <;> simp
/- loop.example/teagle/spec.l6Has -/
def r29_0 : List AOper := [ao 0 4 (.mv (.k (.b false)))]
def r29_1 : List AOper := [ao 0 5 (.mv (.k (.i 0)))]
def r29_2 : List AOper := [ao 0 6 (.mv (.t 5)),
  ao 1 7 (.mv (.t 0)),
  ao 2 8 (.len (.t 7)),
  ao 3 9 (.bin .lss (.t 6) (.t 8))]
def c29_3 : ACode := .cond (.t 9) .skip (.exit 0)
def c29_4 : ACode := .seq (.reg r29_2) c29_3
def r29_5 : List AOper := [ao 0 12 (.mv (.t 0)),
  ao 1 13 (.mv (.t 5)),
  ao 2 14 (.ia 1 (.t 12) (.t 13)),
  ao 3 15 (.ld 1 false (.t 14)),
  ao 4 16 (.mv (.t 1)),
  ao 5 17 (.bin .eql (.t 15) (.t 16))]
def r29_6 : List AOper := [ao 0 4 (.mv (.k (.b true)))]
def c29_7 : ACode := .seq (.reg r29_6) .ret
def c29_8 : ACode := .cond (.t 17) c29_7 .skip
def c29_9 : ACode := .seq (.reg r29_5) c29_8
def c29_10 : ACode := .block 1 c29_9
def r29_11 : List AOper := [ao 0 10 (.mv (.t 5)),
  ao 1 11 (.bin .add (.t 10) (.k (.i 1))),
  ao 2 5 (.mv (.t 11))]
def c29_12 : ACode := .seq c29_4 (.seq c29_10 (.reg r29_11))
def c29_13 : ACode := .loop c29_12
def c29_14 : ACode := .block 0 c29_13
def c29_15 : ACode := .seq (.reg r29_1) c29_14
def r29_16 : List AOper := [ao 0 4 (.mv (.k (.b false)))]
def c29 : ACode := .seq (.reg r29_0) (.seq c29_15 (.seq (.reg r29_16) .ret))
def s29 : List ARes := [.tmp 4]
theorem ok29 : okF Try.prog 29 18 c29 s29 := ⟨Try.f29, Try.func29, Try.ntmps29, by kernel_rfl, by kernel_rfl, by kernel_rfl⟩
def inv29 (ns : List ByteArray) (nm : ByteArray) (i : Nat) (σ : St) : Prop := (∀ (j : Nat), j < i → ns[j]? ≠ some nm) ∧ σ.t 0 = tL (en eS ns) ∧ σ.t 1 = tS nm ∧ σ.t 5 = .i i
def UPh_2 := Bx.mk <|
  aN (uA c29.eq_1) <| aN (uR r29_0.eq_1) <| aN (uA c29_15.eq_1) <| aN (uR r29_1.eq_1) <| aN (uA c29_14.eq_1) <| aN (uA c29_13.eq_1) <| aN (uR r29_16.eq_1) <| s29.eq_1
def UPh_6 := Bx.mk <|
  aN (uA c29_12.eq_1) <| aN (uA c29_4.eq_1) <| aN (uR r29_2.eq_1) <| aN (uA c29_3.eq_1) <| aN (uA c29_10.eq_1) <| aN (uA c29_9.eq_1) <| aN (uR r29_5.eq_1) <| aN (uA c29_8.eq_1) <| aN (uA c29_7.eq_1) <| aN (uR r29_6.eq_1) <| aN (uR r29_11.eq_1) <| aN (uA c29.eq_1) <| aN (uR r29_0.eq_1) <| aN (uA c29_15.eq_1) <| aN (uR r29_1.eq_1) <| aN (uA c29_14.eq_1) <| aN (uA c29_13.eq_1) <| aN (uR r29_16.eq_1) <| s29.eq_1
theorem has_ok (ns : List ByteArray) (nm : ByteArray) (hl : ns.length ≤ 9000000000000000000) : ACallsF Try.prog 29 [tL (en eS ns), tS nm] [] (.b (has ns nm)) := by
  refine ACallsF.intro ok29 follows fun X c0 => ?_
  simp only [RUX, Nat.reduceAdd, reduceIte, Nat.reduceEqDiff, Nat.reduceLT, Nat.reduceLeDiff, reduceCtorEq, eq_self, FIX, forall_const, endE_n, endE_r, CHT, disj, Nat.reduceBEq, beq_self_eq_true, APT, APX, forall_eq, ALT, UPh_2.d]
  refine AW.upto ns.length (inv29 ns nm) ⟨fun j hj => absurd hj (Nat.not_lt_zero j), rfl, rfl, rfl⟩ fun i t H c hi h => ?_
  obtain ⟨g, e0, e1, e5⟩ := h
  simp only [T.c, T.i, T.s, tL] at e0 e1 e5
  by_cases hlt : i < ns.length
  · obtain ⟨x, hx⟩ : ∃ x, ns[i]? = some x := ⟨_, List.getElem?_eq_getElem hlt⟩
    have ex := en_at eS hx
    have k1 : (i : Int) < ns.length := by omega
    have gz : (0 : Int) ≤ i := by omega
    have gw : IntKind.i64.wrap ((i : Int) + 1) = ((i + 1 : Nat) : Int) := wrap64 (x := (i : Int) + 1) ⟨by omega, by omega⟩
    by_cases hn : x = nm
    · have hr : has ns nm = true := has_true.2 (hn ▸ List.mem_of_getElem? hx)
      simp only [RUX, Nat.reduceAdd, reduceIte, Nat.reduceEqDiff, Nat.reduceLT, Nat.reduceLeDiff, reduceCtorEq, eq_self, FIX, forall_const, endE_n, endE_r, CHT, disj, Nat.reduceBEq, beq_self_eq_true, APT, APX, forall_eq, ALT, UPh_6.d, UPh_2.d, e0, e1, e5, en_len, k1, gz, ex, eS, sStr, str_beq, hn, hr, decide_true]
    · simp only [RUX, Nat.reduceAdd, reduceIte, Nat.reduceEqDiff, Nat.reduceLT, Nat.reduceLeDiff, reduceCtorEq, eq_self, FIX, forall_const, endE_n, endE_r, CHT, disj, Nat.reduceBEq, beq_self_eq_true, APT, APX, forall_eq, ALT, UPh_6.d, e0, e1, e5, en_len, k1, gz, ex, eS, sStr, str_beq, hn, gw]
      exact ⟨hlt, fun j hj => (by rcases Nat.lt_succ_iff_lt_or_eq.1 hj with hj | rfl; exact g j hj; rw [hx]; exact fun e => hn (Option.some.inj e)), e0, e1, rfl⟩
  · have k1 : ¬ (i : Int) < ns.length := by omega
    have hr : has ns nm = false := has_false.2 fun hm => by
      obtain ⟨j, hj⟩ := List.mem_iff_getElem?.1 hm
      exact g j (by have := (List.getElem?_eq_some_iff.1 hj).1; omega) hj
    simp only [RUX, Nat.reduceAdd, reduceIte, Nat.reduceEqDiff, Nat.reduceLT, Nat.reduceLeDiff, reduceCtorEq, eq_self, FIX, forall_const, endE_n, endE_r, CHT, disj, Nat.reduceBEq, beq_self_eq_true, APT, APX, forall_eq, ALT, UPh_6.d, UPh_2.d, e0, e1, e5, en_len, k1, hr]
/-- Names without one. -/
def wo (nm : ByteArray) (ns : List ByteArray) : List ByteArray := ns.filter fun x => !decide (x = nm)
theorem wo_len (nm : ByteArray) (ns : List ByteArray) : (wo nm ns).length ≤ ns.length := List.length_filter_le _ _
theorem wo_take (nm : ByteArray) {ns : List ByteArray} {i : Nat} {x : ByteArray} (h : ns[i]? = some x) : wo nm (ns.take (i + 1)) = if x = nm then wo nm (ns.take i) else wo nm (ns.take i) ++ [x] := by
  rw [List.take_add_one, h, wo, List.filter_append, wo]
  by_cases hx : x = nm <;> simp [hx]
/- loop.example/teagle/spec.l41Without -/
def r50_0 : List AOper := [ao 0 4 (.mv (.k (.c .nil0)))]
def r50_1 : List AOper := [ao 0 7 (.bsl 1 9 []),
  ao 1 5 (.mv (.t 7))]
def r50_2 : List AOper := [ao 0 6 (.mv (.k (.i 0)))]
def r50_3 : List AOper := [ao 0 8 (.mv (.t 6)),
  ao 1 9 (.mv (.t 0)),
  ao 2 10 (.len (.t 9)),
  ao 3 11 (.bin .lss (.t 8) (.t 10))]
def c50_4 : ACode := .cond (.t 11) .skip (.exit 0)
def c50_5 : ACode := .seq (.reg r50_3) c50_4
def r50_6 : List AOper := [ao 0 14 (.mv (.t 0)),
  ao 1 15 (.mv (.t 6)),
  ao 2 16 (.ia 1 (.t 14) (.t 15)),
  ao 3 17 (.ld 1 false (.t 16)),
  ao 4 18 (.mv (.t 1)),
  ao 5 19 (.bin .neq (.t 17) (.t 18))]
def r50_7 : List AOper := [ao 0 20 (.mv (.t 5)),
  ao 1 21 (.mv (.t 0)),
  ao 2 22 (.mv (.t 6)),
  ao 3 23 (.ia 1 (.t 21) (.t 22)),
  ao 4 24 (.ld 1 false (.t 23)),
  ao 5 25 (.bsl 1 9 [(.t 24)]),
  ao 6 26 (.app 1 9 16 (.t 20) (.t 25)),
  ao 7 5 (.mv (.t 26))]
def c50_8 : ACode := .cond (.t 19) (.reg r50_7) .skip
def c50_9 : ACode := .seq (.reg r50_6) c50_8
def c50_10 : ACode := .block 1 c50_9
def r50_11 : List AOper := [ao 0 12 (.mv (.t 6)),
  ao 1 13 (.bin .add (.t 12) (.k (.i 1))),
  ao 2 6 (.mv (.t 13))]
def c50_12 : ACode := .seq c50_5 (.seq c50_10 (.reg r50_11))
def c50_13 : ACode := .loop c50_12
def c50_14 : ACode := .block 0 c50_13
def c50_15 : ACode := .seq (.reg r50_2) c50_14
def r50_16 : List AOper := [ao 0 27 (.mv (.t 5)),
  ao 1 4 (.mv (.t 27))]
def c50 : ACode := .seq (.reg r50_0) (.seq (.reg r50_1) (.seq c50_15 (.seq (.reg r50_16) .ret)))
def s50 : List ARes := [.tmp 4]
theorem ok50 : okF Try.prog 50 28 c50 s50 := ⟨Try.f50, Try.func50, Try.ntmps50, by kernel_rfl, by kernel_rfl, by kernel_rfl⟩
def inv50 (ns : List ByteArray) (nm : ByteArray) (i : Nat) (σ : St) : Prop := σ.t 0 = tL (en eS ns) ∧ σ.t 1 = tS nm ∧ (∃ v, σ.t 5 = .c (.own 7 v (wo nm (ns.take i)).length) ∧ σ.H 7 = some (.arr v true 1 9 (en eS (wo nm (ns.take i))))) ∧ σ.t 6 = .i i
def UPh_3 := Bx.mk <|
  aN (uA c50.eq_1) <| aN (uR r50_0.eq_1) <| aN (uR r50_1.eq_1) <| aN (uA c50_15.eq_1) <| aN (uR r50_2.eq_1) <| aN (uA c50_14.eq_1) <| aN (uA c50_13.eq_1) <| aN (uR r50_16.eq_1) <| s50.eq_1
def UPh_7 := Bx.mk <|
  aN (uA c50_12.eq_1) <| aN (uA c50_5.eq_1) <| aN (uR r50_3.eq_1) <| aN (uA c50_4.eq_1) <| aN (uA c50_10.eq_1) <| aN (uA c50_9.eq_1) <| aN (uR r50_6.eq_1) <| aN (uA c50_8.eq_1) <| aN (uR r50_7.eq_1) <| aN (uR r50_11.eq_1) <| aN (uA c50.eq_1) <| aN (uR r50_0.eq_1) <| aN (uR r50_1.eq_1) <| aN (uA c50_15.eq_1) <| aN (uR r50_2.eq_1) <| aN (uA c50_14.eq_1) <| aN (uA c50_13.eq_1) <| aN (uR r50_16.eq_1) <| s50.eq_1
theorem without_ok (ns : List ByteArray) (nm : ByteArray) (hl : ns.length ≤ 3000000) (m : Nat) : ACallsF Try.prog 50 [tL (en eS ns), tS nm] [newH 7 m 1 9 (en eS (wo nm ns))] (.c (.own 7 0 (wo nm ns).length)) := by
  refine ACallsF.intro ok50 follows fun X c0 => ?_
  simp only [RUX, Nat.reduceAdd, reduceIte, Nat.reduceEqDiff, Nat.reduceLT, Nat.reduceLeDiff, reduceCtorEq, eq_self, FIX, forall_const, endE_n, endE_r, CHT, disj, Nat.reduceBEq, beq_self_eq_true, APT, APX, forall_eq, ALT, UPh_3.d]
  refine AW.upto ns.length (inv50 ns nm) ⟨rfl, rfl, ⟨_, rfl, rfl⟩, rfl⟩ fun i t H c hi h => ?_
  obtain ⟨e0, e1, ⟨v, e5, eH⟩, e6⟩ := h
  simp only [T.c, T.i, T.s, tL] at e0 e1 e5 eH e6
  by_cases hlt : i < ns.length
  · obtain ⟨x, hx⟩ : ∃ x, ns[i]? = some x := ⟨_, List.getElem?_eq_getElem hlt⟩
    have ex := en_at eS hx
    have k1 : (i : Int) < ns.length := by omega
    have gz : (0 : Int) ≤ i := by omega
    have gw : IntKind.i64.wrap ((i : Int) + 1) = ((i + 1 : Nat) : Int) := wrap64 (x := (i : Int) + 1) ⟨by omega, by omega⟩
    have ht := wo_take nm hx
    have hwl := wo_len nm (ns.take i)
    rw [List.length_take] at hwl
    have q1 : ((wo nm (ns.take i)).length + 1) * 16 ≤ 140737488355328 := by omega
    have q2 : (wo nm (ns.take i)).length + 1 ≤ 9223372036854775807 := by omega
    by_cases hn : x = nm
    · rw [if_pos hn] at ht
      simp only [RUX, Nat.reduceAdd, reduceIte, Nat.reduceEqDiff, Nat.reduceLT, Nat.reduceLeDiff, reduceCtorEq, eq_self, FIX, forall_const, endE_n, endE_r, CHT, disj, Nat.reduceBEq, beq_self_eq_true, APT, APX, forall_eq, ALT, UPh_7.d, e0, e1, e6, en_len, k1, gz, ex, eS, sStr, str_beq, hn, gw, decide_true]
      unfold inv50
      rw [ht]
      exact ⟨hlt, e0, e1, ⟨v, e5, eH⟩, rfl⟩
    · rw [if_neg hn] at ht
      simp only [RUX, Nat.reduceAdd, reduceIte, Nat.reduceEqDiff, Nat.reduceLT, Nat.reduceLeDiff, reduceCtorEq, eq_self, FIX, forall_const, endE_n, endE_r, CHT, disj, Nat.reduceBEq, beq_self_eq_true, APT, APX, forall_eq, ALT, UPh_7.d, e0, e1, e5, eH, e6, en_len, k1, gz, ex, eS, sStr, str_beq, hn, gw, q1, q2]
      unfold inv50
      rw [ht, en_snoc, List.length_append]
      exact ⟨hlt, e0, e1, ⟨_, rfl, rfl⟩, rfl⟩
  · have k1 : ¬ (i : Int) < ns.length := by omega
    have hi2 : i = ns.length := by omega
    subst hi2
    rw [List.take_length] at e5 eH
    simp only [RUX, Nat.reduceAdd, reduceIte, Nat.reduceEqDiff, Nat.reduceLT, Nat.reduceLeDiff, reduceCtorEq, eq_self, FIX, forall_const, endE_n, endE_r, CHT, disj, Nat.reduceBEq, beq_self_eq_true, APT, APX, forall_eq, ALT, UPh_7.d, UPh_3.d, e0, e1, e5, eH, e6, en_len, k1, imp_self]
/-- The names behind so many moves. -/
def aft (ns : List ByteArray) : List DM → List ByteArray
  | [] => ns
  | m :: ms => aft (if m.gone then wo m.name ns else ns ++ [m.name]) ms
theorem aft_snoc (m : DM) : ∀ (ms : List DM) (ns : List ByteArray), aft ns (ms ++ [m]) = if m.gone then wo m.name (aft ns ms) else aft ns ms ++ [m.name]
  | [], ns => rfl
  | x :: ms, ns => by simp only [List.cons_append, aft]; exact aft_snoc m ms _
theorem aft_len : ∀ (ms : List DM) (ns : List ByteArray), (aft ns ms).length ≤ ns.length + ms.length
  | [], ns => Nat.le_refl _
  | x :: ms, ns => by
    have := aft_len ms (if x.gone then wo x.name ns else ns ++ [x.name])
    simp only [aft, List.length_cons]
    cases hx : x.gone with
    | true => rw [hx] at this; have h2 := wo_len x.name ns; simp only [if_true] at this ⊢; omega
    | false => rw [hx] at this; simp only [Bool.false_eq_true, if_false, List.length_append, List.length_singleton] at this ⊢; omega
theorem aft_take (ns : List ByteArray) {ms : List DM} {i : Nat} {m : DM} (h : ms[i]? = some m) : aft ns (ms.take (i + 1)) = if m.gone then wo m.name (aft ns (ms.take i)) else aft ns (ms.take i) ++ [m.name] := by
  rw [List.take_add_one, h]; exact aft_snoc m _ ns
/- loop.example/teagle/spec.l41After -/
def r31_0 : List AOper := [ao 0 2 (.box 27 (.t 0)),
  ao 1 4 (.mv (.k (.c .nil0)))]
def r31_1 : List AOper := [ao 0 7 (.bsl 1 9 []),
  ao 1 8 (.fa 1 (.t 2)),
  ao 2 9 (.ld 1 false (.t 8)),
  ao 3 10 (.app 1 9 16 (.t 7) (.t 9)),
  ao 4 5 (.mv (.t 10))]
def r31_2 : List AOper := [ao 0 6 (.mv (.k (.i 0)))]
def r31_3 : List AOper := [ao 0 11 (.mv (.t 6)),
  ao 1 12 (.mv (.t 1)),
  ao 2 13 (.bin .lss (.t 11) (.t 12))]
def c31_4 : ACode := .cond (.t 13) .skip (.exit 0)
def c31_5 : ACode := .seq (.reg r31_3) c31_4
def r31_6 : List AOper := [ao 0 16 (.fa 2 (.t 2)),
  ao 1 17 (.ld 1 false (.t 16)),
  ao 2 18 (.mv (.t 6)),
  ao 3 19 (.ia 2 (.t 17) (.t 18)),
  ao 4 20 (.fa 0 (.t 19)),
  ao 5 21 (.ld 1 false (.t 20))]
def r31_7 : List AOper := [ao 0 22 (.mv (.t 5)),
  ao 1 23 (.fa 2 (.t 2)),
  ao 2 24 (.ld 1 false (.t 23)),
  ao 3 25 (.mv (.t 6)),
  ao 4 26 (.ia 2 (.t 24) (.t 25)),
  ao 5 27 (.fa 1 (.t 26)),
  ao 6 28 (.ld 1 false (.t 27)),
  ao 7 29 (.call (.k (.c (.fn 50 []))) [(.t 22), (.t 28)]),
  ao 8 5 (.mv (.t 29))]
def r31_8 : List AOper := [ao 0 30 (.mv (.t 5)),
  ao 1 31 (.fa 2 (.t 2)),
  ao 2 32 (.ld 1 false (.t 31)),
  ao 3 33 (.mv (.t 6)),
  ao 4 34 (.ia 2 (.t 32) (.t 33)),
  ao 5 35 (.fa 1 (.t 34)),
  ao 6 36 (.ld 1 false (.t 35)),
  ao 7 37 (.bsl 1 9 [(.t 36)]),
  ao 8 38 (.app 1 9 16 (.t 30) (.t 37)),
  ao 9 5 (.mv (.t 38))]
def c31_9 : ACode := .cond (.t 21) (.reg r31_7) (.reg r31_8)
def c31_10 : ACode := .seq (.reg r31_6) c31_9
def c31_11 : ACode := .block 1 c31_10
def r31_12 : List AOper := [ao 0 14 (.mv (.t 6)),
  ao 1 15 (.bin .add (.t 14) (.k (.i 1))),
  ao 2 6 (.mv (.t 15))]
def c31_13 : ACode := .seq c31_5 (.seq c31_11 (.reg r31_12))
def c31_14 : ACode := .loop c31_13
def c31_15 : ACode := .block 0 c31_14
def c31_16 : ACode := .seq (.reg r31_2) c31_15
def r31_17 : List AOper := [ao 0 39 (.mv (.t 5)),
  ao 1 4 (.mv (.t 39))]
def c31 : ACode := .seq (.reg r31_0) (.seq (.reg r31_1) (.seq c31_16 (.seq (.reg r31_17) .ret)))
def s31 : List ARes := [.tmp 4]
theorem ok31 : okF Try.prog 31 40 c31 s31 := ⟨Try.f31, Try.func31, Try.ntmps31, by kernel_rfl, by kernel_rfl, by kernel_rfl⟩
def inv31 (d : Dk) (n : Nat) (i : Nat) (σ : St) : Prop := (∃ u, σ.t 2 = .c (.ptr 2 u 0) ∧ σ.H 2 = some (.var u 27 [.v (.sl (en eF d.files)), .v (.sl (en eS d.names)), .v (.sl (en eM d.moves))])) ∧ σ.t 1 = .i n ∧ (∃ v, σ.t 5 = .c (.own 7 v (aft d.names (d.moves.take i)).length) ∧ σ.H 7 = some (.arr v true 1 9 (en eS (aft d.names (d.moves.take i))))) ∧ σ.t 6 = .i i
def UPh_4 := Bx.mk <|
  aN (uA c31.eq_1) <| aN (uR r31_0.eq_1) <| aN (uR r31_1.eq_1) <| aN (uA c31_16.eq_1) <| aN (uR r31_2.eq_1) <| aN (uA c31_15.eq_1) <| aN (uA c31_14.eq_1) <| aN (uR r31_17.eq_1) <| s31.eq_1
def UPh_8 := Bx.mk <|
  aN (uA c31_13.eq_1) <| aN (uA c31_5.eq_1) <| aN (uR r31_3.eq_1) <| aN (uA c31_4.eq_1) <| aN (uA c31_11.eq_1) <| aN (uA c31_10.eq_1) <| aN (uR r31_6.eq_1) <| aN (uA c31_9.eq_1) <| aN (uR r31_7.eq_1) <| aN (uR r31_8.eq_1) <| aN (uR r31_12.eq_1) <| aN (uA c31.eq_1) <| aN (uR r31_0.eq_1) <| aN (uR r31_1.eq_1) <| aN (uA c31_16.eq_1) <| aN (uR r31_2.eq_1) <| aN (uA c31_15.eq_1) <| aN (uA c31_14.eq_1) <| aN (uR r31_17.eq_1) <| s31.eq_1
theorem after_ok (d : Dk) (hd : smallDk d) (n : Nat) (hn : n ≤ d.moves.length) (m : Nat) : ACallsF Try.prog 31 [tDk d, .i n] [newH 7 m 1 9 (en eS (aft d.names (d.moves.take n)))] (.c (.own 7 0 (aft d.names (d.moves.take n)).length)) := by
  have h1 := hd.n
  have h2 := hd.m
  have q1 : d.names.length * 16 ≤ 140737488355328 := by omega
  have q2 : d.names.length ≤ 9223372036854775807 := by omega
  refine ACallsF.intro ok31 follows fun X c0 => ?_
  simp only [RUX, Nat.reduceAdd, reduceIte, Nat.reduceEqDiff, Nat.reduceLT, Nat.reduceLeDiff, reduceCtorEq, eq_self, FIX, forall_const, endE_n, endE_r, CHT, disj, Nat.reduceBEq, beq_self_eq_true, APT, APX, forall_eq, ALT, UPh_4.d, q1, q2, Nat.zero_add]
  refine AW.upto n (inv31 d n) ⟨⟨_, rfl, rfl⟩, rfl, ⟨_, rfl, rfl⟩, rfl⟩ fun i t H c hi h => ?_
  obtain ⟨⟨u, e2, eH2⟩, e1, ⟨v, e5, eH⟩, e6⟩ := h
  simp only [T.c, T.i, T.s] at e2 eH2 e1 e5 eH e6
  by_cases hlt : i < n
  · obtain ⟨x, hx⟩ : ∃ x, d.moves[i]? = some x := ⟨_, List.getElem?_eq_getElem (by omega)⟩
    have ex := en_at eM hx
    have k1 : (i : Int) < n := by omega
    have gz : (0 : Int) ≤ i := by omega
    have gw : IntKind.i64.wrap ((i : Int) + 1) = ((i + 1 : Nat) : Int) := wrap64 (x := (i : Int) + 1) ⟨by omega, by omega⟩
    have ht := aft_take d.names hx
    have hwl := aft_len (d.moves.take i) d.names
    rw [List.length_take] at hwl
    have q3 : ((aft d.names (d.moves.take i)).length + 1) * 16 ≤ 140737488355328 := by omega
    have q4 : (aft d.names (d.moves.take i)).length + 1 ≤ 9223372036854775807 := by omega
    cases hg : x.gone with
    | true =>
      rw [hg, if_pos rfl] at ht
      simp only [RUX, Nat.reduceAdd, reduceIte, Nat.reduceEqDiff, Nat.reduceLT, Nat.reduceLeDiff, reduceCtorEq, eq_self, FIX, forall_const, endE_n, endE_r, CHT, disj, Nat.reduceBEq, beq_self_eq_true, APT, APX, forall_eq, ALT, UPh_8.d, e2, eH2, e1, e5, eH, e6, en_len, k1, gz, ex, eM, hg]
      refine callA1 (m := 7) (ws := [(7, .arr v false 1 9 (en eS (aft d.names (d.moves.take i))))]) (ns := [7]) (without_ok (aft d.names (d.moves.take i)) x.name (by omega) 7) rfl ?_ rfl (en_flat eS eS_flat _) ⟨?_, ?_⟩
      · simp only [RUX, Nat.reduceAdd, reduceIte, Nat.reduceEqDiff, Nat.reduceLT, Nat.reduceLeDiff, reduceCtorEq, eq_self, FIX, forall_const, endE_n, endE_r, CHT, disj, Nat.reduceBEq, beq_self_eq_true, APT, APX, forall_eq, ALT, UPh_8.d, lendTs, lendT, e5, eH]
      · simp only [RUX, Nat.reduceAdd, reduceIte, Nat.reduceEqDiff, Nat.reduceLT, Nat.reduceLeDiff, reduceCtorEq, eq_self, FIX, forall_const, endE_n, endE_r, CHT, disj, Nat.reduceBEq, beq_self_eq_true, APT, APX, forall_eq, ALT, UPh_8.d]
      simp only [RUX, Nat.reduceAdd, reduceIte, Nat.reduceEqDiff, Nat.reduceLT, Nat.reduceLeDiff, reduceCtorEq, eq_self, FIX, forall_const, endE_n, endE_r, CHT, disj, Nat.reduceBEq, beq_self_eq_true, APT, APX, forall_eq, ALT, UPh_8.d, e6, gw]
      unfold inv31
      rw [ht]
      exact ⟨hlt, ⟨u, e2, eH2⟩, e1, ⟨_, rfl, rfl⟩, rfl⟩
    | false =>
      rw [hg, if_neg (by simp)] at ht
      simp only [RUX, Nat.reduceAdd, reduceIte, Nat.reduceEqDiff, Nat.reduceLT, Nat.reduceLeDiff, reduceCtorEq, eq_self, FIX, forall_const, endE_n, endE_r, CHT, disj, Nat.reduceBEq, beq_self_eq_true, APT, APX, forall_eq, ALT, UPh_8.d, e2, eH2, e1, e5, eH, e6, en_len, k1, gz, ex, eM, hg, gw, q3, q4]
      unfold inv31
      rw [ht, en_snoc, List.length_append]
      exact ⟨hlt, ⟨u, e2, eH2⟩, e1, ⟨_, rfl, rfl⟩, rfl⟩
  · have k1 : ¬ (i : Int) < n := by omega
    have hi2 : i = n := by omega
    subst hi2
    simp only [RUX, Nat.reduceAdd, reduceIte, Nat.reduceEqDiff, Nat.reduceLT, Nat.reduceLeDiff, reduceCtorEq, eq_self, FIX, forall_const, endE_n, endE_r, CHT, disj, Nat.reduceBEq, beq_self_eq_true, APT, APX, forall_eq, ALT, UPh_8.d, UPh_4.d, e2, eH2, e1, e5, eH, e6, en_len, k1, imp_self]
end Go.V
set_option linter.unusedSimpArgs false
namespace Go.V
open Go.Proofs
/-- The names, and those of moves that make files. -/
def mades (ms : List DM) : List ByteArray := (ms.filter fun m => !m.gone).map DM.name
def made (d : Dk) : List ByteArray := d.names ++ mades d.moves
theorem mades_len (ms : List DM) : (mades ms).length ≤ ms.length := by rw [mades, List.length_map]; exact List.length_filter_le _ _
theorem mades_take {ms : List DM} {i : Nat} {m : DM} (h : ms[i]? = some m) : mades (ms.take (i + 1)) = if m.gone then mades (ms.take i) else mades (ms.take i) ++ [m.name] := by
  rw [List.take_add_one, h, mades, List.filter_append, List.map_append, mades]
  cases hg : m.gone <;> simp [hg]
/- loop.example/teagle/spec.l41Made -/
def r30_0 : List AOper := [ao 0 1 (.box 27 (.t 0)),
  ao 1 2 (.mv (.k (.c .nil0)))]
def r30_1 : List AOper := [ao 0 5 (.bsl 1 9 []),
  ao 1 6 (.fa 1 (.t 1)),
  ao 2 7 (.ld 1 false (.t 6)),
  ao 3 8 (.app 1 9 16 (.t 5) (.t 7)),
  ao 4 3 (.mv (.t 8))]
def r30_2 : List AOper := [ao 0 4 (.mv (.k (.i 0)))]
def r30_3 : List AOper := [ao 0 9 (.mv (.t 4)),
  ao 1 10 (.fa 2 (.t 1)),
  ao 2 11 (.ld 1 false (.t 10)),
  ao 3 12 (.len (.t 11)),
  ao 4 13 (.bin .lss (.t 9) (.t 12))]
def c30_4 : ACode := .cond (.t 13) .skip (.exit 0)
def c30_5 : ACode := .seq (.reg r30_3) c30_4
def r30_6 : List AOper := [ao 0 16 (.fa 2 (.t 1)),
  ao 1 17 (.ld 1 false (.t 16)),
  ao 2 18 (.mv (.t 4)),
  ao 3 19 (.ia 2 (.t 17) (.t 18)),
  ao 4 20 (.fa 0 (.t 19)),
  ao 5 21 (.ld 1 false (.t 20)),
  ao 6 22 (.un .not (.t 21))]
def r30_7 : List AOper := [ao 0 23 (.mv (.t 3)),
  ao 1 24 (.fa 2 (.t 1)),
  ao 2 25 (.ld 1 false (.t 24)),
  ao 3 26 (.mv (.t 4)),
  ao 4 27 (.ia 2 (.t 25) (.t 26)),
  ao 5 28 (.fa 1 (.t 27)),
  ao 6 29 (.ld 1 false (.t 28)),
  ao 7 30 (.bsl 1 9 [(.t 29)]),
  ao 8 31 (.app 1 9 16 (.t 23) (.t 30)),
  ao 9 3 (.mv (.t 31))]
def c30_8 : ACode := .cond (.t 22) (.reg r30_7) .skip
def c30_9 : ACode := .seq (.reg r30_6) c30_8
def c30_10 : ACode := .block 1 c30_9
def r30_11 : List AOper := [ao 0 14 (.mv (.t 4)),
  ao 1 15 (.bin .add (.t 14) (.k (.i 1))),
  ao 2 4 (.mv (.t 15))]
def c30_12 : ACode := .seq c30_5 (.seq c30_10 (.reg r30_11))
def c30_13 : ACode := .loop c30_12
def c30_14 : ACode := .block 0 c30_13
def c30_15 : ACode := .seq (.reg r30_2) c30_14
def r30_16 : List AOper := [ao 0 32 (.mv (.t 3)),
  ao 1 2 (.mv (.t 32))]
def c30 : ACode := .seq (.reg r30_0) (.seq (.reg r30_1) (.seq c30_15 (.seq (.reg r30_16) .ret)))
def s30 : List ARes := [.tmp 2]
theorem ok30 : okF Try.prog 30 33 c30 s30 := ⟨Try.f30, Try.func30, Try.ntmps30, by kernel_rfl, by kernel_rfl, by kernel_rfl⟩
def inv30 (d : Dk) (i : Nat) (σ : St) : Prop := (∃ u, σ.t 1 = .c (.ptr 1 u 0) ∧ σ.H 1 = some (.var u 27 [.v (.sl (en eF d.files)), .v (.sl (en eS d.names)), .v (.sl (en eM d.moves))])) ∧ (∃ v, σ.t 3 = .c (.own 5 v (d.names ++ mades (d.moves.take i)).length) ∧ σ.H 5 = some (.arr v true 1 9 (en eS (d.names ++ mades (d.moves.take i))))) ∧ σ.t 4 = .i i
def UPi_1 := Bx.mk <|
  aN (uA c30.eq_1) <| aN (uR r30_0.eq_1) <| aN (uR r30_1.eq_1) <| aN (uA c30_15.eq_1) <| aN (uR r30_2.eq_1) <| aN (uA c30_14.eq_1) <| aN (uA c30_13.eq_1) <| aN (uR r30_16.eq_1) <| s30.eq_1
def UPi_3 := Bx.mk <|
  aN (uA c30_12.eq_1) <| aN (uA c30_5.eq_1) <| aN (uR r30_3.eq_1) <| aN (uA c30_4.eq_1) <| aN (uA c30_10.eq_1) <| aN (uA c30_9.eq_1) <| aN (uR r30_6.eq_1) <| aN (uA c30_8.eq_1) <| aN (uR r30_7.eq_1) <| aN (uR r30_11.eq_1) <| aN (uA c30.eq_1) <| aN (uR r30_0.eq_1) <| aN (uR r30_1.eq_1) <| aN (uA c30_15.eq_1) <| aN (uR r30_2.eq_1) <| aN (uA c30_14.eq_1) <| aN (uA c30_13.eq_1) <| aN (uR r30_16.eq_1) <| s30.eq_1
theorem made_ok (d : Dk) (hd : smallDk d) (m : Nat) : ACallsF Try.prog 30 [tDk d] [newH 5 m 1 9 (en eS (made d))] (.c (.own 5 0 (made d).length)) := by
  have h1 := hd.n
  have h2 := hd.m
  have q1 : d.names.length * 16 ≤ 140737488355328 := by omega
  have q2 : d.names.length ≤ 9223372036854775807 := by omega
  refine ACallsF.intro ok30 follows fun X c0 => ?_
  simp only [RUX, Nat.reduceAdd, reduceIte, Nat.reduceEqDiff, Nat.reduceLT, Nat.reduceLeDiff, reduceCtorEq, eq_self, FIX, forall_const, endE_n, endE_r, CHT, disj, Nat.reduceBEq, beq_self_eq_true, APT, APX, forall_eq, ALT, UPi_1.d, q1, q2, Nat.zero_add]
  refine AW.upto d.moves.length (inv30 d) ?_ fun i t H c hi h => ?_
  · unfold inv30
    have e0 : d.names ++ mades (d.moves.take 0) = d.names := by simp [mades]
    rw [e0]
    exact ⟨⟨_, rfl, rfl⟩, ⟨_, rfl, rfl⟩, rfl⟩
  obtain ⟨⟨u, e1, eH1⟩, ⟨v, e3, eH⟩, e4⟩ := h
  simp only [T.c, T.i, T.s] at e1 eH1 e3 eH e4
  by_cases hlt : i < d.moves.length
  · obtain ⟨x, hx⟩ : ∃ x, d.moves[i]? = some x := ⟨_, List.getElem?_eq_getElem hlt⟩
    have ex := en_at eM hx
    have k1 : (i : Int) < d.moves.length := by omega
    have gz : (0 : Int) ≤ i := by omega
    have gw : IntKind.i64.wrap ((i : Int) + 1) = ((i + 1 : Nat) : Int) := wrap64 (x := (i : Int) + 1) ⟨by omega, by omega⟩
    have ht := mades_take hx
    have hwl := mades_len (d.moves.take i)
    rw [List.length_take] at hwl
    have hl : (d.names ++ mades (d.moves.take i)).length ≤ 3000000 := by rw [List.length_append]; omega
    cases hg : x.gone with
    | true =>
      rw [hg, if_pos rfl] at ht
      simp only [RUX, Nat.reduceAdd, reduceIte, Nat.reduceEqDiff, Nat.reduceLT, Nat.reduceLeDiff, reduceCtorEq, eq_self, FIX, forall_const, endE_n, endE_r, CHT, disj, Nat.reduceBEq, beq_self_eq_true, APT, APX, forall_eq, ALT, UPi_3.d, e1, eH1, e4, en_len, k1, gz, ex, eM, hg, gw]
      unfold inv30
      rw [ht]
      exact ⟨hlt, ⟨u, e1, eH1⟩, ⟨v, e3, eH⟩, rfl⟩
    | false =>
      rw [hg, if_neg (by simp)] at ht
      generalize hq : d.names ++ mades (d.moves.take i) = q at *
      have q3 : (q.length + 1) * 16 ≤ 140737488355328 := by omega
      have q4 : q.length + 1 ≤ 9223372036854775807 := by omega
      simp only [RUX, Nat.reduceAdd, reduceIte, Nat.reduceEqDiff, Nat.reduceLT, Nat.reduceLeDiff, reduceCtorEq, eq_self, FIX, forall_const, endE_n, endE_r, CHT, disj, Nat.reduceBEq, beq_self_eq_true, APT, APX, forall_eq, ALT, UPi_3.d, e1, eH1, e3, eH, e4, en_len, k1, gz, ex, eM, hg, gw, q3, q4]
      unfold inv30
      have ht2 : d.names ++ mades (d.moves.take (i + 1)) = q ++ [x.name] := by rw [← hq, mades_take hx, hg, if_neg (by simp), List.append_assoc]
      rw [ht2, en_snoc, List.length_append]
      exact ⟨hlt, ⟨u, e1, eH1⟩, ⟨_, rfl, rfl⟩, rfl⟩
  · have k1 : ¬ (i : Int) < d.moves.length := by omega
    have hi2 : i = d.moves.length := by omega
    subst hi2
    rw [List.take_length] at e3 eH
    simp only [RUX, Nat.reduceAdd, reduceIte, Nat.reduceEqDiff, Nat.reduceLT, Nat.reduceLeDiff, reduceCtorEq, eq_self, FIX, forall_const, endE_n, endE_r, CHT, disj, Nat.reduceBEq, beq_self_eq_true, APT, APX, forall_eq, ALT, UPi_3.d, UPi_1.d, e1, eH1, e3, eH, e4, en_len, k1, made, imp_self]
/-- What a disk's file must be. -/
structure FOk (d : Dk) (i : Nat) (f : DF) : Prop where
  name : nameOk f.name = true
  made : (made d)[i]? = some f.name
  data : f.data.size ≤ 20000
  lo : 0 ≤ f.kept
  hi : f.kept ≤ f.data.size
  one : fnd d.files f.name = i
structure DOk (d : Dk) : Prop where
  f : d.files.length ≤ 64
  n : d.names.length ≤ 64
  m : d.moves.length ≤ 128
  l : (made d).length = d.files.length
  files : ∀ (i : Nat) (f : DF), d.files[i]? = some f → FOk d i f
  moves : ∀ (i : Nat) (m : DM), d.moves[i]? = some m → m.gone = true → m.name ∈ aft d.names (d.moves.take i)
/-- All texts are of bounded length. -/
structure fineDk (d : Dk) : Prop where
  s : smallDk d
  f : ∀ f ∈ d.files, f.name.size ≤ 1048576 ∧ f.data.size ≤ 1048576
  n : ∀ x ∈ d.names, x.size ≤ 1048576
  m : ∀ m ∈ d.moves, m.name.size ≤ 1048576
/- loop.example/teagle/spec.DiskOk -/
def r7_0 : List AOper := [ao 0 1 (.box 27 (.t 0)),
  ao 1 2 (.mv (.k (.b false)))]
def r7_1 : List AOper := [ao 0 7 (.fa 0 (.t 1)),
  ao 1 8 (.ld 1 false (.t 7)),
  ao 2 9 (.len (.t 8)),
  ao 3 10 (.bin .gtr (.t 9) (.k (.i 64))),
  ao 4 11 (.mv (.t 10)),
  ag 5 12 11 false [] (.fa 1 (.t 1)),
  ag 6 13 11 false [] (.ld 1 false (.t 12)),
  ag 7 14 11 false [] (.len (.t 13)),
  ag 8 15 11 false [] (.bin .gtr (.t 14) (.k (.i 64))),
  ao 9 16 (.pick (.t 11) (.k (.b true)) (.t 15)),
  ao 10 17 (.mv (.t 16)),
  ag 11 18 17 false [] (.fa 2 (.t 1)),
  ag 12 19 17 false [] (.ld 1 false (.t 18)),
  ag 13 20 17 false [] (.len (.t 19)),
  ag 14 21 17 false [] (.bin .gtr (.t 20) (.k (.i 128))),
  ao 15 22 (.pick (.t 17) (.k (.b true)) (.t 21))]
def r7_2 : List AOper := [ao 0 2 (.mv (.k (.b false)))]
def c7_3 : ACode := .seq (.reg r7_2) .ret
def c7_4 : ACode := .cond (.t 22) c7_3 .skip
def c7_5 : ACode := .seq (.reg r7_1) c7_4
def r7_6 : List AOper := [ao 0 23 (.ld 3 true (.t 1)),
  ao 1 24 (.call (.k (.c (.fn 30 []))) [(.t 23)]),
  ao 2 3 (.mv (.t 24))]
def r7_7 : List AOper := [ao 0 25 (.mv (.t 3)),
  ao 1 26 (.len (.t 25)),
  ao 2 27 (.fa 0 (.t 1)),
  ao 3 28 (.ld 1 false (.t 27)),
  ao 4 29 (.len (.t 28)),
  ao 5 30 (.bin .neq (.t 26) (.t 29))]
def r7_8 : List AOper := [ao 0 2 (.mv (.k (.b false)))]
def c7_9 : ACode := .seq (.reg r7_8) .ret
def c7_10 : ACode := .cond (.t 30) c7_9 .skip
def c7_11 : ACode := .seq (.reg r7_7) c7_10
def r7_12 : List AOper := [ao 0 4 (.mv (.k (.i 0)))]
def r7_13 : List AOper := [ao 0 31 (.mv (.t 4)),
  ao 1 32 (.fa 0 (.t 1)),
  ao 2 33 (.ld 1 false (.t 32)),
  ao 3 34 (.len (.t 33)),
  ao 4 35 (.bin .lss (.t 31) (.t 34))]
def c7_14 : ACode := .cond (.t 35) .skip (.exit 0)
def c7_15 : ACode := .seq (.reg r7_13) c7_14
def r7_16 : List AOper := [ao 0 38 (.fa 0 (.t 1)),
  ao 1 39 (.ld 1 false (.t 38)),
  ao 2 40 (.mv (.t 4)),
  ao 3 41 (.ia 3 (.t 39) (.t 40)),
  ao 4 42 (.ld 3 true (.t 41)),
  ao 5 5 (.alloc 58 [(.v (.s (.string ⟨#[]⟩))), (.v (.s (.string ⟨#[]⟩))), (.v (.s (.int .i64 0)))]),
  an 6 (.st 3 (.t 5) (.t 42))]
def r7_17 : List AOper := [ao 0 43 (.fa 0 (.t 5)),
  ao 1 44 (.ld 1 false (.t 43)),
  ao 2 45 (.call (.k (.c (.fn 24 []))) [(.t 44)]),
  ao 3 46 (.un .not (.t 45)),
  ao 4 47 (.mv (.t 46)),
  ag 5 48 47 false [] (.fa 0 (.t 5)),
  ag 6 49 47 false [] (.ld 1 false (.t 48)),
  ag 7 50 47 false [5, 6] (.mv (.t 3)),
  ag 8 51 47 false [5, 6, 7] (.mv (.t 4)),
  ag 9 52 47 false [5, 6] (.ia 1 (.t 50) (.t 51)),
  ag 10 53 47 false [5, 6] (.ld 1 false (.t 52)),
  ag 11 54 47 false [] (.bin .neq (.t 49) (.t 53)),
  ao 12 55 (.pick (.t 47) (.k (.b true)) (.t 54)),
  ao 13 56 (.mv (.t 55)),
  ag 14 57 56 false [] (.fa 1 (.t 5)),
  ag 15 58 56 false [] (.ld 1 false (.t 57)),
  ag 16 59 56 false [] (.lenS (.t 58)),
  ag 17 60 56 false [] (.bin .gtr (.t 59) (.k (.i 20000))),
  ao 18 61 (.pick (.t 56) (.k (.b true)) (.t 60)),
  ao 19 62 (.mv (.t 61)),
  ag 20 63 62 false [] (.fa 2 (.t 5)),
  ag 21 64 62 false [] (.ld 1 false (.t 63)),
  ag 22 65 62 false [20, 21] (.fa 1 (.t 5)),
  ag 23 66 62 false [20, 21] (.ld 1 false (.t 65)),
  ag 24 67 62 false [20, 21] (.lenS (.t 66)),
  ag 25 68 62 false [] (.call (.k (.c (.fn 28 []))) [(.t 64), (.k (.i 0)), (.t 67)]),
  ag 26 69 62 false [] (.un .not (.t 68)),
  ao 27 70 (.pick (.t 62) (.k (.b true)) (.t 69)),
  ao 28 71 (.mv (.t 70)),
  ag 29 72 71 false [] (.fa 0 (.t 1)),
  ag 30 73 71 false [] (.ld 1 false (.t 72)),
  ag 31 74 71 false [29, 30] (.fa 0 (.t 5)),
  ag 32 75 71 false [29, 30] (.ld 1 false (.t 74)),
  ag 33 76 71 false [] (.call (.k (.c (.fn 25 []))) [(.t 73), (.t 75)]),
  ag 34 77 71 false [29, 30, 31, 32, 33] (.mv (.t 4)),
  ag 35 78 71 false [] (.bin .neq (.t 76) (.t 77)),
  ao 36 79 (.pick (.t 71) (.k (.b true)) (.t 78))]
def r7_18 : List AOper := [ao 0 2 (.mv (.k (.b false)))]
def c7_19 : ACode := .seq (.reg r7_18) .ret
def c7_20 : ACode := .cond (.t 79) c7_19 .skip
def c7_21 : ACode := .seq (.reg r7_16) (.seq (.reg r7_17) c7_20)
def c7_22 : ACode := .block 1 c7_21
def r7_23 : List AOper := [ao 0 36 (.mv (.t 4)),
  ao 1 37 (.bin .add (.t 36) (.k (.i 1))),
  ao 2 4 (.mv (.t 37))]
def c7_24 : ACode := .seq c7_15 (.seq c7_22 (.reg r7_23))
def c7_25 : ACode := .loop c7_24
def c7_26 : ACode := .block 0 c7_25
def c7_27 : ACode := .seq (.reg r7_12) c7_26
def r7_28 : List AOper := [ao 0 6 (.mv (.k (.i 0)))]
def r7_29 : List AOper := [ao 0 80 (.mv (.t 6)),
  ao 1 81 (.fa 2 (.t 1)),
  ao 2 82 (.ld 1 false (.t 81)),
  ao 3 83 (.len (.t 82)),
  ao 4 84 (.bin .lss (.t 80) (.t 83))]
def c7_30 : ACode := .cond (.t 84) .skip (.exit 2)
def c7_31 : ACode := .seq (.reg r7_29) c7_30
def r7_32 : List AOper := [ao 0 87 (.fa 2 (.t 1)),
  ao 1 88 (.ld 1 false (.t 87)),
  au 2 89 [0, 1] (.mv (.t 6)),
  ao 3 90 (.ia 2 (.t 88) (.t 89)),
  ao 4 91 (.fa 0 (.t 90)),
  ao 5 92 (.ld 1 false (.t 91)),
  ao 6 93 (.mv (.t 92)),
  ag 7 94 93 true [] (.ld 3 true (.t 1)),
  ag 8 95 93 true [7] (.mv (.t 6)),
  ag 9 96 93 true [] (.call (.k (.c (.fn 31 []))) [(.t 94), (.t 95)]),
  ag 10 97 93 true [7, 8, 9] (.fa 2 (.t 1)),
  ag 11 98 93 true [7, 8, 9] (.ld 1 false (.t 97)),
  ag 12 99 93 true [7, 8, 9, 10, 11] (.mv (.t 6)),
  ag 13 100 93 true [7, 8, 9] (.ia 2 (.t 98) (.t 99)),
  ag 14 101 93 true [7, 8, 9] (.fa 1 (.t 100)),
  ag 15 102 93 true [7, 8, 9] (.ld 1 false (.t 101)),
  ag 16 103 93 true [] (.call (.k (.c (.fn 29 []))) [(.t 96), (.t 102)]),
  ag 17 104 93 true [] (.un .not (.t 103)),
  ao 18 105 (.pick (.t 93) (.t 104) (.k (.b false)))]
def r7_33 : List AOper := [ao 0 2 (.mv (.k (.b false)))]
def c7_34 : ACode := .seq (.reg r7_33) .ret
def c7_35 : ACode := .cond (.t 105) c7_34 .skip
def c7_36 : ACode := .seq (.reg r7_32) c7_35
def c7_37 : ACode := .block 3 c7_36
def r7_38 : List AOper := [ao 0 85 (.mv (.t 6)),
  ao 1 86 (.bin .add (.t 85) (.k (.i 1))),
  ao 2 6 (.mv (.t 86))]
def c7_39 : ACode := .seq c7_31 (.seq c7_37 (.reg r7_38))
def c7_40 : ACode := .loop c7_39
def c7_41 : ACode := .block 2 c7_40
def c7_42 : ACode := .seq (.reg r7_28) c7_41
def r7_43 : List AOper := [ao 0 2 (.mv (.k (.b true)))]
def c7 : ACode := .seq (.reg r7_0) (.seq c7_5 (.seq (.reg r7_6) (.seq c7_11 (.seq c7_27 (.seq c7_42 (.seq (.reg r7_43) .ret))))))
def s7 : List ARes := [.tmp 2]
theorem ok7 : okF Try.prog 7 106 c7 s7 := ⟨Try.f7, Try.func7, Try.ntmps7, by kernel_rfl, by kernel_rfl, by kernel_rfl⟩
def Hd7 (d : Dk) (u : Nat) (σ : St) : Prop := σ.t 1 = .c (.ptr 1 u 0) ∧ σ.H 1 = some (.var u 27 [.v (.sl (en eF d.files)), .v (.sl (en eS d.names)), .v (.sl (en eM d.moves))])
def inv7 (d : Dk) (u v : Nat) (i : Nat) (σ : St) : Prop := (∀ (j : Nat) (f : DF), j < i → d.files[j]? = some f → FOk d j f) ∧ Hd7 d u σ ∧ (σ.t 3 = .c (.own 1005 v (made d).length) ∧ σ.H 1005 = some (.arr v true 1 9 (en eS (made d)))) ∧ σ.t 4 = .i i
def inv7b (d : Dk) (u : Nat) (i : Nat) (σ : St) : Prop := (∀ (j : Nat) (m : DM), j < i → d.moves[j]? = some m → m.gone = true → m.name ∈ aft d.names (d.moves.take j)) ∧ Hd7 d u σ ∧ σ.t 6 = .i i
def UPi_2 := Bx.mk <|
  aN (uA c7.eq_1) <| aN (uR r7_0.eq_1) <| aN (uA c7_5.eq_1) <| aN (uR r7_1.eq_1) <| aN (uA c7_4.eq_1) <| aN (uA c7_3.eq_1) <| aN (uR r7_2.eq_1) <| aN (uR r7_6.eq_1) <| aN (uA c7_11.eq_1) <| aN (uR r7_7.eq_1) <| aN (uA c7_10.eq_1) <| aN (uA c7_9.eq_1) <| aN (uR r7_8.eq_1) <| aN (uA c7_27.eq_1) <| aN (uR r7_12.eq_1) <| aN (uA c7_26.eq_1) <| aN (uA c7_25.eq_1) <| aN (uA c7_42.eq_1) <| aN (uR r7_28.eq_1) <| aN (uA c7_41.eq_1) <| aN (uA c7_40.eq_1) <| aN (uR r7_43.eq_1) <| s7.eq_1
def UPi_4 := Bx.mk <|
  aN (uA c7_24.eq_1) <| aN (uA c7_15.eq_1) <| aN (uR r7_13.eq_1) <| aN (uA c7_14.eq_1) <| aN (uA c7_22.eq_1) <| aN (uA c7_21.eq_1) <| aN (uR r7_16.eq_1) <| aN (uR r7_17.eq_1) <| aN (uA c7_20.eq_1) <| aN (uA c7_19.eq_1) <| aN (uR r7_18.eq_1) <| aN (uR r7_23.eq_1) <| aN (uA c7.eq_1) <| aN (uR r7_0.eq_1) <| aN (uA c7_5.eq_1) <| aN (uR r7_1.eq_1) <| aN (uA c7_4.eq_1) <| aN (uA c7_3.eq_1) <| aN (uR r7_2.eq_1) <| aN (uR r7_6.eq_1) <| aN (uA c7_11.eq_1) <| aN (uR r7_7.eq_1) <| aN (uA c7_10.eq_1) <| aN (uA c7_9.eq_1) <| aN (uR r7_8.eq_1) <| aN (uA c7_27.eq_1) <| aN (uR r7_12.eq_1) <| aN (uA c7_26.eq_1) <| aN (uA c7_25.eq_1) <| aN (uA c7_42.eq_1) <| aN (uR r7_28.eq_1) <| aN (uA c7_41.eq_1) <| aN (uA c7_40.eq_1) <| aN (uR r7_43.eq_1) <| s7.eq_1
def UPi_5 := Bx.mk <|
  aN (uA c7_39.eq_1) <| aN (uA c7_31.eq_1) <| aN (uR r7_29.eq_1) <| aN (uA c7_30.eq_1) <| aN (uA c7_37.eq_1) <| aN (uA c7_36.eq_1) <| aN (uR r7_32.eq_1) <| aN (uA c7_35.eq_1) <| aN (uA c7_34.eq_1) <| aN (uR r7_33.eq_1) <| aN (uR r7_38.eq_1) <| aN (uA c7.eq_1) <| aN (uR r7_0.eq_1) <| aN (uA c7_5.eq_1) <| aN (uR r7_1.eq_1) <| aN (uA c7_4.eq_1) <| aN (uA c7_3.eq_1) <| aN (uR r7_2.eq_1) <| aN (uR r7_6.eq_1) <| aN (uA c7_11.eq_1) <| aN (uR r7_7.eq_1) <| aN (uA c7_10.eq_1) <| aN (uA c7_9.eq_1) <| aN (uR r7_8.eq_1) <| aN (uA c7_27.eq_1) <| aN (uR r7_12.eq_1) <| aN (uA c7_26.eq_1) <| aN (uA c7_25.eq_1) <| aN (uA c7_42.eq_1) <| aN (uR r7_28.eq_1) <| aN (uA c7_41.eq_1) <| aN (uA c7_40.eq_1) <| aN (uR r7_43.eq_1) <| s7.eq_1
theorem okS_ok (d : Dk) (hd : fineDk d) : ∃ b : Bool, (b = true ↔ DOk d) ∧ ACallsF Try.prog 7 [tDk d] [] (.b b) := by
  obtain ⟨b, hb⟩ : ∃ b : Bool, b = true ↔ DOk d := by
    by_cases h : DOk d
    · exact ⟨true, by simp [h]⟩
    · exact ⟨false, by simp [h]⟩
  refine ⟨b, hb, ?_⟩
  have no : ¬ DOk d → b = false := fun h => by cases hq : b with | false => rfl | true => exact absurd (hb.1 hq) h
  have s1 := hd.s.f
  have s2 := hd.s.n
  have s3 := hd.s.m
  refine ACallsF.intro ok7 follows fun X c0 => ?_
  by_cases hf : (d.files.length : Int) > 64
  · have hbf := no fun h => by have := h.f; omega
    simp only [RUX, Nat.reduceAdd, reduceIte, Nat.reduceEqDiff, Nat.reduceLT, Nat.reduceLeDiff, reduceCtorEq, eq_self, FIX, forall_const, endE_n, endE_r, CHT, disj, Nat.reduceBEq, beq_self_eq_true, APT, APX, forall_eq, ALT, UPi_2.d, hf, hbf]
  by_cases hn : (d.names.length : Int) > 64
  · have hbf := no fun h => by have := h.n; omega
    simp only [RUX, Nat.reduceAdd, reduceIte, Nat.reduceEqDiff, Nat.reduceLT, Nat.reduceLeDiff, reduceCtorEq, eq_self, FIX, forall_const, endE_n, endE_r, CHT, disj, Nat.reduceBEq, beq_self_eq_true, APT, APX, forall_eq, ALT, UPi_2.d, hf, hn, hbf]
  by_cases hm : (d.moves.length : Int) > 128
  · have hbf := no fun h => by have := h.m; omega
    simp only [RUX, Nat.reduceAdd, reduceIte, Nat.reduceEqDiff, Nat.reduceLT, Nat.reduceLeDiff, reduceCtorEq, eq_self, FIX, forall_const, endE_n, endE_r, CHT, disj, Nat.reduceBEq, beq_self_eq_true, APT, APX, forall_eq, ALT, UPi_2.d, hf, hn, hm, hbf]
  simp only [RUX, Nat.reduceAdd, reduceIte, Nat.reduceEqDiff, Nat.reduceLT, Nat.reduceLeDiff, reduceCtorEq, eq_self, FIX, forall_const, endE_n, endE_r, CHT, disj, Nat.reduceBEq, beq_self_eq_true, APT, APX, forall_eq, ALT, UPi_2.d, hf, hn, hm]
  refine callA1 (m := 1005) (ws := []) (ns := []) (made_ok d hd.s 1005) rfl rfl rfl (en_flat eS eS_flat _) ⟨rfl, ?_⟩
  by_cases hl : (made d).length = d.files.length
  rotate_left
  · have hbf := no fun h => hl h.l
    have hl' : (((made d).length : Int) != (d.files.length : Int)) = true := by simp; omega
    simp only [RUX, Nat.reduceAdd, reduceIte, Nat.reduceEqDiff, Nat.reduceLT, Nat.reduceLeDiff, reduceCtorEq, eq_self, FIX, forall_const, endE_n, endE_r, CHT, disj, Nat.reduceBEq, beq_self_eq_true, APT, APX, forall_eq, ALT, UPi_2.d, hl', hbf]
  have hl' : (((made d).length : Int) != (d.files.length : Int)) = false := by simp; omega
  simp only [RUX, Nat.reduceAdd, reduceIte, Nat.reduceEqDiff, Nat.reduceLT, Nat.reduceLeDiff, reduceCtorEq, eq_self, FIX, forall_const, endE_n, endE_r, CHT, disj, Nat.reduceBEq, beq_self_eq_true, APT, APX, forall_eq, ALT, UPi_2.d, hl']
  refine AW.upto d.files.length (inv7 d (c0 + 0) (c0 + 2 + 16 + 1)) ⟨fun j f hj => absurd hj (Nat.not_lt_zero j), ⟨rfl, rfl⟩, ⟨rfl, rfl⟩, rfl⟩ fun i t H c hi h => ?_
  obtain ⟨g, ⟨e1, eH1⟩, ⟨e3, eH⟩, e4⟩ := h
  simp only [T.c, T.i, T.s] at e1 eH1 e3 eH e4
  by_cases hlt : i < d.files.length
  · obtain ⟨f, hx⟩ : ∃ f, d.files[i]? = some f := ⟨_, List.getElem?_eq_getElem hlt⟩
    obtain ⟨y, hy⟩ : ∃ y, (made d)[i]? = some y := ⟨_, List.getElem?_eq_getElem (by omega)⟩
    have ex := en_at eF hx
    have ey := en_at eS hy
    have hfm := hd.f f (List.mem_of_getElem? hx)
    have k1 : (i : Int) < d.files.length := by omega
    have k2 : (i : Int) < (made d).length := by omega
    have gz : (0 : Int) ≤ i := by omega
    have gw : IntKind.i64.wrap ((i : Int) + 1) = ((i + 1 : Nat) : Int) := wrap64 (x := (i : Int) + 1) ⟨by omega, by omega⟩
    have bad : ¬ FOk d i f → b = false := fun h => no fun hD => h (hD.files i f hx)
    simp only [RUX, Nat.reduceAdd, reduceIte, Nat.reduceEqDiff, Nat.reduceLT, Nat.reduceLeDiff, reduceCtorEq, eq_self, FIX, forall_const, endE_n, endE_r, CHT, disj, Nat.reduceBEq, beq_self_eq_true, APT, APX, forall_eq, ALT, UPi_4.d, e1, eH1, e3, eH, e4, en_len, k1, gz, ex, eF]
    refine callC (nameOk_ok f.name (by omega)) rfl rfl rfl rfl ?_
    cases p1 : nameOk f.name with
    | false =>
      have hbf := bad fun h => by have := h.name; rw [p1] at this; cases this
      simp only [RUX, Nat.reduceAdd, reduceIte, Nat.reduceEqDiff, Nat.reduceLT, Nat.reduceLeDiff, reduceCtorEq, eq_self, FIX, forall_const, endE_n, endE_r, CHT, disj, Nat.reduceBEq, beq_self_eq_true, APT, APX, forall_eq, ALT, UPi_4.d, UPi_2.d, hbf]
    | true =>
      by_cases p2 : f.name = y
      rotate_left
      · have hbf := bad fun h => by have := h.made; rw [hy] at this; exact p2 (Option.some.inj this).symm
        simp only [RUX, Nat.reduceAdd, reduceIte, Nat.reduceEqDiff, Nat.reduceLT, Nat.reduceLeDiff, reduceCtorEq, eq_self, FIX, forall_const, endE_n, endE_r, CHT, disj, Nat.reduceBEq, beq_self_eq_true, APT, APX, forall_eq, ALT, UPi_4.d, UPi_2.d, e3, eH, e4, en_len, k2, gz, ey, eS, sStr, str_beq, p2, hbf]
      subst p2
      by_cases p3 : (f.data.size : Int) > 20000
      · have hbf := bad fun h => by have := h.data; omega
        simp only [RUX, Nat.reduceAdd, reduceIte, Nat.reduceEqDiff, Nat.reduceLT, Nat.reduceLeDiff, reduceCtorEq, eq_self, FIX, forall_const, endE_n, endE_r, CHT, disj, Nat.reduceBEq, beq_self_eq_true, APT, APX, forall_eq, ALT, UPi_4.d, UPi_2.d, e3, eH, e4, en_len, k2, gz, ey, eS, sStr, str_beq, p3, hbf, decide_true]
      simp only [RUX, Nat.reduceAdd, reduceIte, Nat.reduceEqDiff, Nat.reduceLT, Nat.reduceLeDiff, reduceCtorEq, eq_self, FIX, forall_const, endE_n, endE_r, CHT, disj, Nat.reduceBEq, beq_self_eq_true, APT, APX, forall_eq, ALT, UPi_4.d, e3, eH, e4, en_len, k2, gz, ey, eS, sStr, str_beq, p3, decide_true]
      refine callC (l6In_ok _ _ _) rfl rfl rfl rfl ?_
      by_cases p4 : (0 : Int) ≤ f.kept
      rotate_left
      · have hbf := bad fun h => p4 h.lo
        simp only [RUX, Nat.reduceAdd, reduceIte, Nat.reduceEqDiff, Nat.reduceLT, Nat.reduceLeDiff, reduceCtorEq, eq_self, FIX, forall_const, endE_n, endE_r, CHT, disj, Nat.reduceBEq, beq_self_eq_true, APT, APX, forall_eq, ALT, UPi_4.d, UPi_2.d, p4, hbf]
      by_cases p5 : f.kept ≤ (f.data.size : Int)
      rotate_left
      · have hbf := bad fun h => p5 h.hi
        simp only [RUX, Nat.reduceAdd, reduceIte, Nat.reduceEqDiff, Nat.reduceLT, Nat.reduceLeDiff, reduceCtorEq, eq_self, FIX, forall_const, endE_n, endE_r, CHT, disj, Nat.reduceBEq, beq_self_eq_true, APT, APX, forall_eq, ALT, UPi_4.d, UPi_2.d, p4, p5, hbf]
      simp only [RUX, Nat.reduceAdd, reduceIte, Nat.reduceEqDiff, Nat.reduceLT, Nat.reduceLeDiff, reduceCtorEq, eq_self, FIX, forall_const, endE_n, endE_r, CHT, disj, Nat.reduceBEq, beq_self_eq_true, APT, APX, forall_eq, ALT, UPi_4.d, e1, eH1, e3, eH, e4, p4, p5]
      refine callC (find_ok d.files f.name (by omega)) rfl rfl rfl rfl ?_
      by_cases p6 : fnd d.files f.name = i
      · have p6' : (fnd d.files f.name != (i : Int)) = false := by simp [p6]
        simp only [RUX, Nat.reduceAdd, reduceIte, Nat.reduceEqDiff, Nat.reduceLT, Nat.reduceLeDiff, reduceCtorEq, eq_self, FIX, forall_const, endE_n, endE_r, CHT, disj, Nat.reduceBEq, beq_self_eq_true, APT, APX, forall_eq, ALT, UPi_4.d, e4, p6', gw]
        exact ⟨hlt, fun j f' hj hf' => (by rcases Nat.lt_succ_iff_lt_or_eq.1 hj with hj | rfl; exact g j f' hj hf'; rw [hx] at hf'; cases hf'; exact ⟨p1, hy, by omega, p4, p5, p6⟩), ⟨e1, eH1⟩, ⟨e3, eH⟩, rfl⟩
      · have p6' : (fnd d.files f.name != (i : Int)) = true := by simp [p6]
        have hbf := bad fun h => p6 h.one
        simp only [RUX, Nat.reduceAdd, reduceIte, Nat.reduceEqDiff, Nat.reduceLT, Nat.reduceLeDiff, reduceCtorEq, eq_self, FIX, forall_const, endE_n, endE_r, CHT, disj, Nat.reduceBEq, beq_self_eq_true, APT, APX, forall_eq, ALT, UPi_4.d, UPi_2.d, e4, p6', hbf]
  · have k1 : ¬ (i : Int) < d.files.length := by omega
    simp only [RUX, Nat.reduceAdd, reduceIte, Nat.reduceEqDiff, Nat.reduceLT, Nat.reduceLeDiff, reduceCtorEq, eq_self, FIX, forall_const, endE_n, endE_r, CHT, disj, Nat.reduceBEq, beq_self_eq_true, APT, APX, forall_eq, ALT, UPi_4.d, UPi_2.d, e1, eH1, e4, en_len, k1]
    refine AW.upto d.moves.length (inv7b d (c0 + 0)) ⟨fun j f hj => absurd hj (Nat.not_lt_zero j), ⟨e1, eH1⟩, rfl⟩ fun i2 t H c hi2 h => ?_
    clear e1 eH1 e3 eH e4
    obtain ⟨g2, ⟨e1, eH1⟩, e6⟩ := h
    simp only [T.c, T.i, T.s] at e1 eH1 e6
    by_cases hlt2 : i2 < d.moves.length
    · obtain ⟨x, hx⟩ : ∃ x, d.moves[i2]? = some x := ⟨_, List.getElem?_eq_getElem hlt2⟩
      have ex := en_at eM hx
      have k1 : (i2 : Int) < d.moves.length := by omega
      have gz : (0 : Int) ≤ i2 := by omega
      have gw : IntKind.i64.wrap ((i2 : Int) + 1) = ((i2 + 1 : Nat) : Int) := wrap64 (x := (i2 : Int) + 1) ⟨by omega, by omega⟩
      have hnext : (x.gone = true → x.name ∈ aft d.names (d.moves.take i2)) → ∀ (j : Nat) (m : DM), j < i2 + 1 → d.moves[j]? = some m → m.gone = true → m.name ∈ aft d.names (d.moves.take j) := fun hh j m hj hm hgm => by
        rcases Nat.lt_succ_iff_lt_or_eq.1 hj with hj | rfl
        · exact g2 j m hj hm hgm
        · rw [hx] at hm; cases hm; exact hh hgm
      cases hg : x.gone with
      | false =>
        simp only [RUX, Nat.reduceAdd, reduceIte, Nat.reduceEqDiff, Nat.reduceLT, Nat.reduceLeDiff, reduceCtorEq, eq_self, FIX, forall_const, endE_n, endE_r, CHT, disj, Nat.reduceBEq, beq_self_eq_true, APT, APX, forall_eq, ALT, UPi_5.d, e1, eH1, e6, en_len, k1, gz, ex, eM, hg, gw]
        exact ⟨hlt2, hnext fun h => (by rw [hg] at h; cases h), ⟨e1, eH1⟩, rfl⟩
      | true =>
        have hwl := aft_len (d.moves.take i2) d.names
        rw [List.length_take] at hwl
        simp only [RUX, Nat.reduceAdd, reduceIte, Nat.reduceEqDiff, Nat.reduceLT, Nat.reduceLeDiff, reduceCtorEq, eq_self, FIX, forall_const, endE_n, endE_r, CHT, disj, Nat.reduceBEq, beq_self_eq_true, APT, APX, forall_eq, ALT, UPi_5.d, e1, eH1, e6, en_len, k1, gz, ex, eM, hg]
        refine callA1 (m := 1007) (ws := []) (ns := []) (after_ok d hd.s i2 hi2 1007) rfl rfl rfl (en_flat eS eS_flat _) ⟨?_, ?_⟩
        · simp only [RUX, Nat.reduceAdd, reduceIte, Nat.reduceEqDiff, Nat.reduceLT, Nat.reduceLeDiff, reduceCtorEq, eq_self, FIX, forall_const, endE_n, endE_r, CHT, disj, Nat.reduceBEq, beq_self_eq_true, APT, APX, forall_eq, ALT, UPi_5.d]
        simp only [RUX, Nat.reduceAdd, reduceIte, Nat.reduceEqDiff, Nat.reduceLT, Nat.reduceLeDiff, reduceCtorEq, eq_self, FIX, forall_const, endE_n, endE_r, CHT, disj, Nat.reduceBEq, beq_self_eq_true, APT, APX, forall_eq, ALT, UPi_5.d, e1, eH1, e6, en_len, k1, gz, ex, eM, hg]
        refine callL (ws := [(1007, .arr (c + 5 + 9) false 1 9 (en eS (aft d.names (d.moves.take i2))))]) (ns := [1007]) (has_ok (aft d.names (d.moves.take i2)) x.name (by omega)) rfl ?_ rfl rfl ⟨?_, ?_⟩
        · simp only [RUX, Nat.reduceAdd, reduceIte, Nat.reduceEqDiff, Nat.reduceLT, Nat.reduceLeDiff, reduceCtorEq, eq_self, FIX, forall_const, endE_n, endE_r, CHT, disj, Nat.reduceBEq, beq_self_eq_true, APT, APX, forall_eq, ALT, UPi_5.d, lendTs, lendT]
        · simp only [RUX, Nat.reduceAdd, reduceIte, Nat.reduceEqDiff, Nat.reduceLT, Nat.reduceLeDiff, reduceCtorEq, eq_self, FIX, forall_const, endE_n, endE_r, CHT, disj, Nat.reduceBEq, beq_self_eq_true, APT, APX, forall_eq, ALT, UPi_5.d, scalarT, scalarP, scalarC]
        cases hh : has (aft d.names (d.moves.take i2)) x.name with
        | true =>
          simp only [RUX, Nat.reduceAdd, reduceIte, Nat.reduceEqDiff, Nat.reduceLT, Nat.reduceLeDiff, reduceCtorEq, eq_self, FIX, forall_const, endE_n, endE_r, CHT, disj, Nat.reduceBEq, beq_self_eq_true, APT, APX, forall_eq, ALT, UPi_5.d, scalarT, scalarP, scalarC, e6, gw]
          exact ⟨hlt2, hnext fun _ => has_true.1 hh, ⟨e1, eH1⟩, rfl⟩
        | false =>
          have hbf := no fun hD => has_false.1 hh (hD.moves i2 x hx hg)
          simp only [RUX, Nat.reduceAdd, reduceIte, Nat.reduceEqDiff, Nat.reduceLT, Nat.reduceLeDiff, reduceCtorEq, eq_self, FIX, forall_const, endE_n, endE_r, CHT, disj, Nat.reduceBEq, beq_self_eq_true, APT, APX, forall_eq, ALT, UPi_5.d, UPi_2.d, scalarT, scalarP, scalarC, hbf]
    · have k2 : ¬ (i2 : Int) < d.moves.length := by omega
      have hbt : b = true := hb.2 ⟨by omega, by omega, by omega, hl, fun j f hf => g j f (by have := (List.getElem?_eq_some_iff.1 hf).1; omega) hf, fun j m hm => g2 j m (by have := (List.getElem?_eq_some_iff.1 hm).1; omega) hm⟩
      simp only [RUX, Nat.reduceAdd, reduceIte, Nat.reduceEqDiff, Nat.reduceLT, Nat.reduceLeDiff, reduceCtorEq, eq_self, FIX, forall_const, endE_n, endE_r, CHT, disj, Nat.reduceBEq, beq_self_eq_true, APT, APX, forall_eq, ALT, UPi_5.d, UPi_2.d, e1, eH1, e6, en_len, k2, hbt]
end Go.V
set_option linter.unusedSimpArgs false
namespace Go.V
open Go.Proofs
/-- A call that makes a disk's three arrays. -/
theorem callDk {P : Program} {t : Nat → T} {H : HMap} {c : Nat} {f : Opd} {args : List Opd} {fid : FuncId} {argsC : List T} {ws : List (Nat × Blk)} {ns : List Nat} {c1 c2 c3 m1 m2 m3 : Nat} {dk : Dk} {k : Nat} {d : Option Nat} {un : List Nat} {l : List AOper} {prev : List (Nat × List Nat × List Nat)} {K : St → Prop}
    (hC : ACallsF P fid argsC (dkH c1 c2 c3 m1 m2 m3 dk) (.pt (oDk c1 0 c2 0 c3 0 dk))) (hf : ev t f = .pt (.one (.fn fid []))) (hl : lendTs H argsC (args.map (ev t)) = some (argsC, ws, ns)) (ha : argsC.all closedA = true)
    (hcs : (c1 ≠ c2 ∧ c1 ≠ c3 ∧ c2 ≠ c3) ∧ m1 ≠ m2 ∧ m1 ≠ m3 ∧ m2 ≠ m3)
    (hk : chk prev un ⟨.pt (oDk m1 (c + k) m2 (c + k) m3 (c + k) dk), [(m1, .arr (c + k) true 3 58 (en eF dk.files)), (m2, .arr (c + k) true 1 9 (en eS dk.names)), (m3, .arr (c + k) true 2 60 (en eM dk.moves))], ns ++ [m1, m2, m3], [m1, m2, m3]⟩ = true ∧
      DRun P l ((k, ns ++ [m1, m2, m3], [m1, m2, m3]) :: prev) K ⟨updD t d (.pt (oDk m1 (c + k) m2 (c + k) m3 (c + k) dk)), upd (upd (upd H m1 (some (.arr (c + k) true 3 58 (en eF dk.files)))) m2 (some (.arr (c + k) true 1 9 (en eS dk.names)))) m3 (some (.arr (c + k) true 2 60 (en eM dk.moves))), c⟩) :
    step P k d un (.call f args) l prev K t H c := by
  obtain ⟨⟨h1, h2, h3⟩, g1, g2, g3⟩ := hcs
  have N1 : renN (dkH c1 c2 c3 m1 m2 m3 dk) c1 = some (newH c1 m1 3 58 (en eF dk.files)) := by simp [renN]
  have N2 : renN (dkH c1 c2 c3 m1 m2 m3 dk) c2 = some (newH c2 m2 1 9 (en eS dk.names)) := by simp [renN, h1]
  have N3 : renN (dkH c1 c2 c3 m1 m2 m3 dk) c3 = some (newH c3 m3 2 60 (en eM dk.moves)) := by simp [renN, h2, h3]
  refine callF (r' := .pt (oDk m1 (c + k) m2 (c + k) m3 (c + k) dk)) (ob := [(m1, .arr (c + k) true 3 58 (en eF dk.files)), (m2, .arr (c + k) true 1 9 (en eS dk.names)), (m3, .arr (c + k) true 2 60 (en eM dk.moves))]) _ hC hf hl ha (by simp) (by simp [g1, g2, g3]) (by simp [h1, h2, h3]) ?_ ?_ ?_ ?_
  · simp only [quiet, List.all_cons, List.all_nil, flatB, en_flat eF eF_flat, en_flat eS eS_flat, en_flat eM eM_flat]; rfl
  · simp only [renOT, renOP, renOs, renO, N1, N2, N3, Option.map_some, verOf]; rfl
  · simp only [renOBs, renOB, verOf]; rfl
  · simpa [updH] using hk
theorem aft_sub : ∀ (ms : List DM) (ns : List ByteArray) (x : ByteArray), x ∈ aft ns ms → x ∈ ns ∨ x ∈ mades ms
  | [], ns, x, h => .inl h
  | m :: ms, ns, x, h => by
    have := aft_sub ms _ x h
    cases hg : m.gone with
    | true =>
      rw [hg, if_pos rfl] at this
      rcases this with h | h
      · exact .inl (List.mem_filter.1 h).1
      · exact .inr (by rw [mades, List.filter_cons]; simpa [hg, mades] using h)
    | false =>
      rw [hg, if_neg (by simp)] at this
      rcases this with h | h
      · rcases List.mem_append.1 h with h | h
        · exact .inl h
        · exact .inr (by rw [List.mem_singleton.1 h, mades, List.filter_cons]; simp [hg])
      · exact .inr (by
          have h' : x ∈ (ms.filter fun m => !m.gone).map DM.name := h
          rw [mades, List.filter_cons]; simp only [hg, Bool.not_false, if_true, List.map_cons, List.mem_cons]; exact .inr h')
/-- The file of a name. -/
def fileOf (fs : List DF) (nm : ByteArray) : DF := (fs.find? fun f => decide (f.name = nm)).getD zF
theorem DOk.find {d : Dk} (h : DOk d) {x : ByteArray} (hx : x ∈ made d) : ∃ i : Nat, fnd d.files x = i ∧ d.files[i]? = some (fileOf d.files x) ∧ (fileOf d.files x).name = x := by
  obtain ⟨i, hi⟩ := List.mem_iff_getElem?.1 hx
  have hil := (List.getElem?_eq_some_iff.1 hi).1
  obtain ⟨f, hf⟩ : ∃ f, d.files[i]? = some f := ⟨_, List.getElem?_eq_getElem (by rw [← h.l]; exact hil)⟩
  have hF := h.files i f hf
  have hn : f.name = x := by have := hF.made; rw [hi] at this; exact (Option.some.inj this).symm
  have h1 := hF.one
  rw [hn] at h1
  have hfd : d.files.find? (fun f => decide (f.name = x)) = some f := by
    have h2 : (d.files.findIdx? fun f => decide (f.name = x)) = some i := by
      unfold fnd at h1
      split at h1
      · rename_i j hj; rw [hj]; congr 1; omega
      · omega
    rw [List.findIdx?_eq_some_iff_getElem] at h2
    obtain ⟨a1, a2, a3⟩ := h2
    rw [List.find?_eq_some_iff_getElem]
    exact ⟨by simpa using hn, i, a1, (List.getElem?_eq_some_iff.1 hf).2, fun j hj => by simpa using a3 j hj⟩
  have he : fileOf d.files x = f := by rw [fileOf, hfd]; rfl
  exact ⟨i, h1, by rw [he]; exact hf, by rw [he]; exact hn⟩
theorem DOk.aft_made {d : Dk} {x : ByteArray} {n : Nat} (hx : x ∈ aft d.names (d.moves.take n)) : x ∈ made d := by
  rcases aft_sub _ _ _ hx with h | h
  · exact List.mem_append.2 (.inl h)
  · refine List.mem_append.2 (.inr ?_)
    rw [mades, List.mem_map] at h ⊢
    obtain ⟨m, h1, h2⟩ := h
    rw [List.mem_filter] at h1
    exact ⟨m, List.mem_filter.2 ⟨List.mem_of_mem_take h1.1, h1.2⟩, h2⟩
def keepD (d : Dk) (ns : List ByteArray) : Dk := ⟨ns.map (fileOf d.files), ns, []⟩
/- loop.example/teagle/spec.DiskNames -/
def r27_0 : List AOper := [ao 0 1 (.box 27 (.t 0)),
  ao 1 2 (.mv (.k (.c .nil0)))]
def r27_1 : List AOper := [ao 0 3 (.ld 3 true (.t 1)),
  ao 1 4 (.call (.k (.c (.fn 7 []))) [(.t 3)]),
  ao 2 5 (.un .not (.t 4))]
def r27_2 : List AOper := [ao 0 6 (.bsl 1 9 []),
  ao 1 2 (.mv (.t 6))]
def c27_3 : ACode := .seq (.reg r27_2) .ret
def c27_4 : ACode := .cond (.t 5) c27_3 .skip
def c27_5 : ACode := .seq (.reg r27_1) c27_4
def r27_6 : List AOper := [ao 0 7 (.ld 3 true (.t 1)),
  ao 1 8 (.fa 2 (.t 1)),
  ao 2 9 (.ld 1 false (.t 8)),
  ao 3 10 (.len (.t 9)),
  ao 4 11 (.call (.k (.c (.fn 31 []))) [(.t 7), (.t 10)]),
  ao 5 2 (.mv (.t 11))]
def c27 : ACode := .seq (.reg r27_0) (.seq c27_5 (.seq (.reg r27_6) .ret))
def s27 : List ARes := [.tmp 2]
theorem ok27 : okF Try.prog 27 12 c27 s27 := ⟨Try.f27, Try.func27, Try.ntmps27, by kernel_rfl, by kernel_rfl, by kernel_rfl⟩
def UPj_1 := Bx.mk <|
  aN (uA c27.eq_1) <| aN (uR r27_0.eq_1) <| aN (uA c27_5.eq_1) <| aN (uR r27_1.eq_1) <| aN (uA c27_4.eq_1) <| aN (uA c27_3.eq_1) <| aN (uR r27_2.eq_1) <| aN (uR r27_6.eq_1) <| s27.eq_1
theorem names_ok (d : Dk) (hd : fineDk d) (hD : DOk d) (m : Nat) : ACallsF Try.prog 27 [tDk d] [newH 1001 m 1 9 (en eS (aft d.names d.moves))] (.c (.own 1001 0 (aft d.names d.moves).length)) := by
  obtain ⟨b, hb, hC⟩ := okS_ok d hd
  rw [hb.2 hD] at hC
  have hA := after_ok d hd.s d.moves.length (Nat.le_refl _) 1001
  rw [List.take_length] at hA
  refine ACallsF.intro ok27 follows fun X c0 => ?_
  simp only [RUX, Nat.reduceAdd, reduceIte, Nat.reduceEqDiff, Nat.reduceLT, Nat.reduceLeDiff, reduceCtorEq, eq_self, FIX, forall_const, endE_n, endE_r, CHT, disj, Nat.reduceBEq, beq_self_eq_true, APT, APX, forall_eq, ALT, UPj_1.d]
  refine callC hC rfl rfl rfl rfl ?_
  simp only [RUX, Nat.reduceAdd, reduceIte, Nat.reduceEqDiff, Nat.reduceLT, Nat.reduceLeDiff, reduceCtorEq, eq_self, FIX, forall_const, endE_n, endE_r, CHT, disj, Nat.reduceBEq, beq_self_eq_true, APT, APX, forall_eq, ALT, UPj_1.d]
  refine callA1 (m := 1001) (ws := []) (ns := []) hA rfl rfl rfl (en_flat eS eS_flat _) ⟨rfl, ?_⟩
  simp only [RUX, Nat.reduceAdd, reduceIte, Nat.reduceEqDiff, Nat.reduceLT, Nat.reduceLeDiff, reduceCtorEq, eq_self, FIX, forall_const, endE_n, endE_r, CHT, disj, Nat.reduceBEq, beq_self_eq_true, APT, APX, forall_eq, ALT, UPj_1.d, imp_self]
/- loop.example/teagle/spec.l41Keep -/
def r26_0 : List AOper := [ao 0 2 (.box 27 (.t 0)),
  ao 1 4 (.alloc 27 [.nil0, .nil0, .nil0])]
def r26_1 : List AOper := [ao 0 7 (.bsl 1 9 []),
  ao 1 8 (.mv (.t 1)),
  ao 2 9 (.app 1 9 16 (.t 7) (.t 8)),
  ao 3 10 (.build [.nil0, .nil0, .nil0] [(1, 1, (.t 9))]),
  ao 4 5 (.alloc 27 [.nil0, .nil0, .nil0]),
  an 5 (.st 3 (.t 5) (.t 10))]
def r26_2 : List AOper := [ao 0 6 (.mv (.k (.i 0)))]
def r26_3 : List AOper := [ao 0 11 (.mv (.t 6)),
  ao 1 12 (.mv (.t 1)),
  ao 2 13 (.len (.t 12)),
  ao 3 14 (.bin .lss (.t 11) (.t 13))]
def c26_4 : ACode := .cond (.t 14) .skip (.exit 0)
def c26_5 : ACode := .seq (.reg r26_3) c26_4
def r26_6 : List AOper := [ao 0 17 (.fa 0 (.t 5)),
  ao 1 18 (.ld 1 false (.t 17)),
  au 2 19 [0, 1] (.fa 0 (.t 2)),
  au 3 20 [0, 1] (.ld 1 false (.t 19)),
  au 4 21 (ru 4) (.fa 0 (.t 2)),
  au 5 22 (ru 4) (.ld 1 false (.t 21)),
  au 6 23 (ru 6) (.mv (.t 1)),
  au 7 24 (ru 7) (.mv (.t 6)),
  au 8 25 (ru 6) (.ia 1 (.t 23) (.t 24)),
  au 9 26 (ru 6) (.ld 1 false (.t 25)),
  au 10 27 (ru 4) (.call (.k (.c (.fn 25 []))) [(.t 22), (.t 26)]),
  au 11 28 [0, 1] (.ia 3 (.t 20) (.t 27)),
  au 12 29 [0, 1] (.ld 3 true (.t 28)),
  au 13 30 [0, 1] (.bsl 3 58 [(.t 29)]),
  ao 14 31 (.app 3 58 40 (.t 18) (.t 30)),
  ao 15 32 (.fa 0 (.t 5)),
  an 16 (.st 1 (.t 32) (.t 31))]
def c26_7 : ACode := .block 1 (.reg r26_6)
def r26_8 : List AOper := [ao 0 15 (.mv (.t 6)),
  ao 1 16 (.bin .add (.t 15) (.k (.i 1))),
  ao 2 6 (.mv (.t 16))]
def c26_9 : ACode := .seq c26_5 (.seq c26_7 (.reg r26_8))
def c26_10 : ACode := .loop c26_9
def c26_11 : ACode := .block 0 c26_10
def c26_12 : ACode := .seq (.reg r26_2) c26_11
def r26_13 : List AOper := [ao 0 33 (.ld 3 true (.t 5)),
  an 1 (.st 3 (.t 4) (.t 33))]
def c26 : ACode := .seq (.reg r26_0) (.seq (.reg r26_1) (.seq c26_12 (.seq (.reg r26_13) .ret)))
def s26 : List ARes := [.cell 4 3 true]
theorem ok26 : okF Try.prog 26 34 c26 s26 := ⟨Try.f26, Try.func26, Try.ntmps26, by kernel_rfl, by kernel_rfl, by kernel_rfl⟩
def inv26 (d : Dk) (ns : List ByteArray) (i : Nat) (σ : St) : Prop := (∃ u, σ.t 2 = .c (.ptr 2 u 0) ∧ σ.H 2 = some (.var u 27 [.v (.sl (en eF d.files)), .v (.sl (en eS d.names)), .v (.sl (en eM d.moves))])) ∧ σ.t 1 = tL (en eS ns) ∧ (∃ u, σ.t 4 = .c (.ptr 4 u 0) ∧ σ.H 4 = some (.var u 27 [.nil0, .nil0, .nil0])) ∧
  (∃ u v w, σ.t 5 = .c (.ptr 5 u 0) ∧ σ.H 5 = some (.var u 27 [.own 2005 v ((ns.take i).map (fileOf d.files)).length, .own 7 w ns.length, .nil0]) ∧ σ.H 2005 = some (.arr v true 3 58 (en eF ((ns.take i).map (fileOf d.files)))) ∧ σ.H 7 = some (.arr w true 1 9 (en eS ns))) ∧ σ.t 6 = .i i
def UPj_2 := Bx.mk <|
  aN (uA c26.eq_1) <| aN (uR r26_0.eq_1) <| aN (uR r26_1.eq_1) <| aN (uA c26_12.eq_1) <| aN (uR r26_2.eq_1) <| aN (uA c26_11.eq_1) <| aN (uA c26_10.eq_1) <| aN (uR r26_13.eq_1) <| s26.eq_1
def UPj_3 := Bx.mk <|
  aN (uA c26_9.eq_1) <| aN (uA c26_5.eq_1) <| aN (uR r26_3.eq_1) <| aN (uA c26_4.eq_1) <| aN (uA c26_7.eq_1) <| aN (uR r26_6.eq_1) <| aN (uR r26_8.eq_1) <| aN (uA c26.eq_1) <| aN (uR r26_0.eq_1) <| aN (uR r26_1.eq_1) <| aN (uA c26_12.eq_1) <| aN (uR r26_2.eq_1) <| aN (uA c26_11.eq_1) <| aN (uA c26_10.eq_1) <| aN (uR r26_13.eq_1) <| s26.eq_1
theorem keep_ok (d : Dk) (hd : fineDk d) (hD : DOk d) (ns : List ByteArray) (hn : ns.length ≤ 3000000) (hm : ∀ x ∈ ns, x ∈ made d) : ACallsF Try.prog 26 [tDk d, tL (en eS ns)] [] (tDk (keepD d ns)) := by
  have q1 : ns.length * 16 ≤ 140737488355328 := by omega
  have q2 : ns.length ≤ 9223372036854775807 := by omega
  refine ACallsF.intro ok26 follows fun X c0 => ?_
  simp only [RUX, Nat.reduceAdd, reduceIte, Nat.reduceEqDiff, Nat.reduceLT, Nat.reduceLeDiff, reduceCtorEq, eq_self, FIX, forall_const, endE_n, endE_r, CHT, disj, Nat.reduceBEq, beq_self_eq_true, APT, APX, forall_eq, ALT, UPj_2.d, q1, q2, Nat.zero_add]
  refine AW.reify 5 0 2005 3 58 rfl rfl rfl (by decide) ?_
  refine AW.upto ns.length (inv26 d ns) ⟨⟨_, rfl, rfl⟩, rfl, ⟨_, rfl, rfl⟩, ⟨_, _, _, rfl, rfl, rfl, rfl⟩, rfl⟩ fun i t H c hi h => ?_
  obtain ⟨⟨u2, e2, eH2⟩, e1, ⟨u4, e4, eH4⟩, ⟨u5, v, w, e5, eH5, eHf, eHn⟩, e6⟩ := h
  simp only [T.c, T.i, T.s, tL] at e2 eH2 e1 e4 eH4 e5 eH5 eHf eHn e6
  by_cases hlt : i < ns.length
  · obtain ⟨x, hx⟩ : ∃ x, ns[i]? = some x := ⟨_, List.getElem?_eq_getElem hlt⟩
    obtain ⟨j, hj1, hj2, hj3⟩ := hD.find (hm x (List.mem_of_getElem? hx))
    have ex := en_at eS hx
    have ef := en_at eF hj2
    have k1 : (i : Int) < ns.length := by omega
    have gz : (0 : Int) ≤ i := by omega
    have gj : (0 : Int) ≤ j := by omega
    have gw : IntKind.i64.wrap ((i : Int) + 1) = ((i + 1 : Nat) : Int) := wrap64 (x := (i : Int) + 1) ⟨by omega, by omega⟩
    have ht : (ns.take (i + 1)).map (fileOf d.files) = (ns.take i).map (fileOf d.files) ++ [fileOf d.files x] := by rw [List.take_add_one, hx]; simp
    have hl : ((ns.take i).map (fileOf d.files)).length ≤ 3000000 := by rw [List.length_map, List.length_take]; omega
    generalize hq : (ns.take i).map (fileOf d.files) = q at *
    have q3 : (q.length + 1) * 40 ≤ 140737488355328 := by omega
    have q4 : q.length + 1 ≤ 9223372036854775807 := by omega
    have hfo := find_ok d.files x (by have := hd.s.f; omega)
    rw [hj1] at hfo
    simp only [RUX, Nat.reduceAdd, reduceIte, Nat.reduceEqDiff, Nat.reduceLT, Nat.reduceLeDiff, reduceCtorEq, eq_self, FIX, forall_const, endE_n, endE_r, CHT, disj, Nat.reduceBEq, beq_self_eq_true, APT, APX, forall_eq, ALT, UPj_3.d, e2, eH2, e1, e5, eH5, e6, en_len, k1, gz, ex, eS]
    refine callC hfo rfl rfl rfl rfl ?_
    simp only [RUX, Nat.reduceAdd, reduceIte, Nat.reduceEqDiff, Nat.reduceLT, Nat.reduceLeDiff, reduceCtorEq, eq_self, FIX, forall_const, endE_n, endE_r, CHT, disj, Nat.reduceBEq, beq_self_eq_true, APT, APX, forall_eq, ALT, UPj_3.d, e2, eH2, e1, e5, eH5, eHf, e6, en_len, k1, gj, ef, eF, gw, q3, q4]
    unfold inv26
    rw [ht, en_snoc, List.length_append]
    exact ⟨hlt, ⟨u2, e2, eH2⟩, e1, ⟨u4, e4, eH4⟩, ⟨u5, _, w, e5, rfl, rfl, eHn⟩, rfl⟩
  · have k1 : ¬ (i : Int) < ns.length := by omega
    have hi2 : i = ns.length := by omega
    subst hi2
    rw [List.take_length] at eH5 eHf
    simp only [RUX, Nat.reduceAdd, reduceIte, Nat.reduceEqDiff, Nat.reduceLT, Nat.reduceLeDiff, reduceCtorEq, eq_self, FIX, forall_const, endE_n, endE_r, CHT, disj, Nat.reduceBEq, beq_self_eq_true, APT, APX, forall_eq, ALT, UPj_3.d, UPj_2.d, e2, eH2, e1, e4, eH4, e5, eH5, eHf, eHn, e6, en_len, k1, keepD]
end Go.V
set_option linter.unusedSimpArgs false
namespace Go.V
open Go.Proofs
theorem en_take1 {α : Type} (f : α → List V) (xs : List α) (e : List V) : List.take (xs.length + 1) (en f xs ++ [e]) = en f xs ++ [e] := List.take_of_length_le (by simp [en_len])
/-- What a write does to a disk that is ok. -/
def doS (d : Dk) (w : DW) : Dk × Int :=
  if w.kind = 1 then
    if nameOk w.name = false ∨ 0 ≤ fnd d.files w.name then (d, 3)
    else if 64 ≤ d.files.length ∨ 128 ≤ d.moves.length then (d, 4)
    else (⟨d.files ++ [⟨w.name, ⟨#[]⟩, 0⟩], d.names, d.moves ++ [⟨false, w.name⟩]⟩, 0)
  else if w.kind = 5 then (keepD d (aft d.names d.moves), 0)
  else if ¬ (1 ≤ w.kind ∧ w.kind ≤ 5) then (d, 5)
  else if has (aft d.names d.moves) w.name = false then (d, 2)
  else if w.kind = 2 then
    if 20000 < (fileOf d.files w.name).data.size + w.data.size then (d, 4)
    else (⟨d.files.set (fnd d.files w.name).toNat ⟨(fileOf d.files w.name).name, (fileOf d.files w.name).data ++ w.data, (fileOf d.files w.name).kept⟩, d.names, d.moves⟩, 0)
  else if w.kind = 3 then (⟨d.files.set (fnd d.files w.name).toNat ⟨(fileOf d.files w.name).name, (fileOf d.files w.name).data, (fileOf d.files w.name).data.size⟩, d.names, d.moves⟩, 0)
  else if 128 ≤ d.moves.length then (d, 4)
  else (⟨d.files, d.names, d.moves ++ [⟨true, w.name⟩]⟩, 0)
abbrev DoR (d : Dk) (w : DW) (r : Dk × Int) : Prop := (DOk d ∧ r = doS d w) ∨ (¬ DOk d ∧ r = (⟨[], [], []⟩, 1))
theorem do_det {d : Dk} {w : DW} {r r' : Dk × Int} (h : DoR d w r) (h' : DoR d w r') : r = r' := by
  rcases h with ⟨h1, h2⟩ | ⟨h1, h2⟩ <;> rcases h' with ⟨g1, g2⟩ | ⟨g1, g2⟩
  · rw [h2, g2]
  · exact absurd h1 g1
  · exact absurd g1 h1
  · rw [h2, g2]
abbrev tDkI (r : Dk × Int) : T := .tup [.agg [.v (.sl (en eF r.1.files)), .v (.sl (en eS r.1.names)), .v (.sl (en eM r.1.moves))], .one (.v (.s (.int .i64 r.2)))]
abbrev fineDW (w : DW) : Prop := w.name.size ≤ 1048576 ∧ w.data.size ≤ 1048576
/- loop.example/teagle/spec.DiskDo -/
def r6_0 : List AOper := [ao 0 2 (.box 27 (.t 0)),
  ao 1 3 (.box 29 (.t 1)),
  ao 2 4 (.alloc 27 [.nil0, .nil0, .nil0]),
  ao 3 5 (.mv (.k (.i 0)))]
def r6_1 : List AOper := [ao 0 8 (.ld 3 true (.t 2)),
  ao 1 9 (.call (.k (.c (.fn 7 []))) [(.t 8)]),
  ao 2 10 (.un .not (.t 9))]
def r6_2 : List AOper := [ao 0 11 (.build [.nil0, .nil0, .nil0] []),
  an 1 (.st 3 (.t 4) (.t 11)),
  ao 2 5 (.mv (.k (.i 1)))]
def c6_3 : ACode := .seq (.reg r6_2) .ret
def c6_4 : ACode := .cond (.t 10) c6_3 .skip
def c6_5 : ACode := .seq (.reg r6_1) c6_4
def r6_6 : List AOper := [ao 0 12 (.ld 3 true (.t 2)),
  ao 1 13 (.call (.k (.c (.fn 23 []))) [(.t 12)]),
  ao 2 6 (.alloc 27 [.nil0, .nil0, .nil0]),
  an 3 (.st 3 (.t 6) (.t 13))]
def r6_7 : List AOper := [ao 0 14 (.fa 0 (.t 3)),
  ao 1 15 (.ld 1 false (.t 14)),
  ao 2 16 (.bin .eql (.t 15) (.k (.i 1)))]
def r6_8 : List AOper := [ao 0 18 (.fa 1 (.t 3)),
  ao 1 19 (.ld 1 false (.t 18)),
  ao 2 20 (.call (.k (.c (.fn 24 []))) [(.t 19)]),
  ao 3 21 (.un .not (.t 20)),
  ao 4 22 (.mv (.t 21)),
  ag 5 23 22 false [] (.fa 0 (.t 2)),
  ag 6 24 22 false [] (.ld 1 false (.t 23)),
  ag 7 25 22 false [] (.fa 1 (.t 3)),
  ag 8 26 22 false [] (.ld 1 false (.t 25)),
  ag 9 27 22 false [] (.call (.k (.c (.fn 25 []))) [(.t 24), (.t 26)]),
  ag 10 28 22 false [] (.bin .geq (.t 27) (.k (.i 0))),
  ao 11 29 (.pick (.t 22) (.k (.b true)) (.t 28)),
  ao 12 17 (.mv (.t 29))]
def r6_9 : List AOper := [ao 0 30 (.ld 3 true (.t 6)),
  an 1 (.st 3 (.t 4) (.t 30)),
  ao 2 5 (.mv (.k (.i 3)))]
def c6_10 : ACode := .seq (.reg r6_9) .ret
def r6_11 : List AOper := [ao 0 32 (.fa 0 (.t 2)),
  ao 1 33 (.ld 1 false (.t 32)),
  ao 2 34 (.len (.t 33)),
  ao 3 35 (.bin .geq (.t 34) (.k (.i 64))),
  ao 4 36 (.mv (.t 35)),
  ag 5 37 36 false [] (.fa 2 (.t 2)),
  ag 6 38 36 false [] (.ld 1 false (.t 37)),
  ag 7 39 36 false [] (.len (.t 38)),
  ag 8 40 36 false [] (.bin .geq (.t 39) (.k (.i 128))),
  ao 9 41 (.pick (.t 36) (.k (.b true)) (.t 40)),
  ao 10 31 (.mv (.t 41))]
def r6_12 : List AOper := [ao 0 42 (.ld 3 true (.t 6)),
  an 1 (.st 3 (.t 4) (.t 42)),
  ao 2 5 (.mv (.k (.i 4)))]
def c6_13 : ACode := .seq (.reg r6_12) .ret
def c6_14 : ACode := .cond (.t 31) c6_13 .skip
def c6_15 : ACode := .seq (.reg r6_11) c6_14
def c6_16 : ACode := .cond (.t 17) c6_10 c6_15
def c6_17 : ACode := .seq (.reg r6_8) c6_16
def c6_18 : ACode := .block 0 c6_17
def r6_19 : List AOper := [ao 0 43 (.fa 0 (.t 6)),
  ao 1 44 (.ld 1 false (.t 43)),
  ao 2 45 (.fa 1 (.t 3)),
  ao 3 46 (.ld 1 false (.t 45)),
  ao 4 47 (.build [(.v (.s (.string ⟨#[]⟩))), (.v (.s (.string ⟨#[]⟩))), (.v (.s (.int .i64 0)))] [(0, 1, (.t 46))]),
  ao 5 48 (.bsl 3 58 [(.t 47)]),
  ao 6 49 (.app 3 58 40 (.t 44) (.t 48)),
  ao 7 50 (.fa 0 (.t 6)),
  an 8 (.st 1 (.t 50) (.t 49))]
def r6_20 : List AOper := [ao 0 51 (.fa 2 (.t 6)),
  ao 1 52 (.ld 1 false (.t 51)),
  ao 2 53 (.fa 1 (.t 3)),
  ao 3 54 (.ld 1 false (.t 53)),
  ao 4 55 (.build [(.v (.s (.bool false))), (.v (.s (.string ⟨#[]⟩)))] [(1, 1, (.t 54))]),
  ao 5 56 (.bsl 2 60 [(.t 55)]),
  ao 6 57 (.app 2 60 24 (.t 52) (.t 56)),
  ao 7 58 (.fa 2 (.t 6)),
  an 8 (.st 1 (.t 58) (.t 57))]
def r6_21 : List AOper := [ao 0 59 (.ld 3 true (.t 6)),
  an 1 (.st 3 (.t 4) (.t 59)),
  ao 2 5 (.mv (.k (.i 0)))]
def c6_22 : ACode := .seq c6_18 (.seq (.reg r6_19) (.seq (.reg r6_20) (.seq (.reg r6_21) .ret)))
def c6_23 : ACode := .cond (.t 16) c6_22 .skip
def c6_24 : ACode := .seq (.reg r6_7) c6_23
def r6_25 : List AOper := [ao 0 60 (.fa 0 (.t 3)),
  ao 1 61 (.ld 1 false (.t 60)),
  ao 2 62 (.bin .eql (.t 61) (.k (.i 5)))]
def r6_26 : List AOper := [ao 0 63 (.ld 3 true (.t 2)),
  au 1 64 [0] (.ld 3 true (.t 2)),
  au 2 65 [0] (.call (.k (.c (.fn 27 []))) [(.t 64)]),
  ao 3 66 (.call (.k (.c (.fn 26 []))) [(.t 63), (.t 65)]),
  an 4 (.st 3 (.t 4) (.t 66)),
  ao 5 5 (.mv (.k (.i 0)))]
def c6_27 : ACode := .seq (.reg r6_26) .ret
def c6_28 : ACode := .cond (.t 62) c6_27 .skip
def c6_29 : ACode := .seq (.reg r6_25) c6_28
def r6_30 : List AOper := [ao 0 67 (.fa 0 (.t 3)),
  ao 1 68 (.ld 1 false (.t 67)),
  ao 2 69 (.call (.k (.c (.fn 28 []))) [(.t 68), (.k (.i 1)), (.k (.i 5))]),
  ao 3 70 (.un .not (.t 69))]
def r6_31 : List AOper := [ao 0 71 (.ld 3 true (.t 6)),
  an 1 (.st 3 (.t 4) (.t 71)),
  ao 2 5 (.mv (.k (.i 5)))]
def c6_32 : ACode := .seq (.reg r6_31) .ret
def c6_33 : ACode := .cond (.t 70) c6_32 .skip
def c6_34 : ACode := .seq (.reg r6_30) c6_33
def r6_35 : List AOper := [ao 0 72 (.ld 3 true (.t 2)),
  ao 1 73 (.call (.k (.c (.fn 27 []))) [(.t 72)]),
  au 2 74 [0, 1] (.fa 1 (.t 3)),
  au 3 75 [0, 1] (.ld 1 false (.t 74)),
  ao 4 76 (.call (.k (.c (.fn 29 []))) [(.t 73), (.t 75)]),
  ao 5 77 (.un .not (.t 76))]
def r6_36 : List AOper := [ao 0 78 (.ld 3 true (.t 6)),
  an 1 (.st 3 (.t 4) (.t 78)),
  ao 2 5 (.mv (.k (.i 2)))]
def c6_37 : ACode := .seq (.reg r6_36) .ret
def c6_38 : ACode := .cond (.t 77) c6_37 .skip
def c6_39 : ACode := .seq (.reg r6_35) c6_38
def r6_40 : List AOper := [ao 0 79 (.fa 0 (.t 2)),
  ao 1 80 (.ld 1 false (.t 79)),
  ao 2 81 (.fa 1 (.t 3)),
  ao 3 82 (.ld 1 false (.t 81)),
  ao 4 83 (.call (.k (.c (.fn 25 []))) [(.t 80), (.t 82)]),
  ao 5 7 (.mv (.t 83))]
def r6_41 : List AOper := [ao 0 84 (.fa 0 (.t 3)),
  ao 1 85 (.ld 1 false (.t 84))]
def r6_42 : List AOper := [ao 0 100 (.bin .eql (.t 85) (.k (.i 2))),
  ao 1 99 (.mv (.t 100))]
def r6_43 : List AOper := [ao 0 101 (.fa 2 (.t 3)),
  ao 1 102 (.ld 1 false (.t 101)),
  ao 2 103 (.lenS (.t 102)),
  au 3 104 (ru 3) (.fa 0 (.t 2)),
  au 4 105 (ru 3) (.ld 1 false (.t 104)),
  au 5 106 (ru 5) (.mv (.t 7)),
  au 6 107 (ru 3) (.ia 3 (.t 105) (.t 106)),
  au 7 108 (ru 3) (.fa 1 (.t 107)),
  au 8 109 (ru 3) (.ld 1 false (.t 108)),
  au 9 110 (ru 3) (.lenS (.t 109)),
  au 10 111 (ru 3) (.bin .sub (.k (.i 20000)) (.t 110)),
  ao 11 112 (.bin .gtr (.t 103) (.t 111))]
def r6_44 : List AOper := [ao 0 113 (.ld 3 true (.t 6)),
  an 1 (.st 3 (.t 4) (.t 113)),
  ao 2 5 (.mv (.k (.i 4)))]
def c6_45 : ACode := .seq (.reg r6_44) .ret
def c6_46 : ACode := .cond (.t 112) c6_45 .skip
def c6_47 : ACode := .seq (.reg r6_43) c6_46
def r6_48 : List AOper := [ao 0 114 (.fa 0 (.t 6)),
  ao 1 115 (.ld 1 false (.t 114)),
  au 2 116 [0, 1] (.mv (.t 7)),
  au 3 117 (ru 3) (.fa 0 (.t 2)),
  au 4 118 (ru 3) (.ld 1 false (.t 117)),
  au 5 119 (ru 5) (.mv (.t 7)),
  au 6 120 (ru 3) (.ia 3 (.t 118) (.t 119)),
  au 7 121 (ru 3) (.fa 1 (.t 120)),
  au 8 122 (ru 3) (.ld 1 false (.t 121)),
  au 9 123 (ru 9) (.fa 2 (.t 3)),
  au 10 124 (ru 9) (.ld 1 false (.t 123)),
  au 11 125 (ru 3) (.bin .add (.t 122) (.t 124)),
  ao 12 126 (.ia 3 (.t 115) (.t 116)),
  ao 13 127 (.fa 1 (.t 126)),
  an 14 (.st 1 (.t 127) (.t 125))]
def c6_49 : ACode := .seq c6_47 (.reg r6_48)
def r6_50 : List AOper := [ao 0 129 (.bin .eql (.t 85) (.k (.i 3))),
  ao 1 128 (.mv (.t 129))]
def r6_51 : List AOper := [ao 0 130 (.fa 0 (.t 6)),
  ao 1 131 (.ld 1 false (.t 130)),
  au 2 132 [0, 1] (.mv (.t 7)),
  au 3 133 (ru 3) (.fa 0 (.t 2)),
  au 4 134 (ru 3) (.ld 1 false (.t 133)),
  au 5 135 (ru 5) (.mv (.t 7)),
  au 6 136 (ru 3) (.ia 3 (.t 134) (.t 135)),
  au 7 137 (ru 3) (.fa 1 (.t 136)),
  au 8 138 (ru 3) (.ld 1 false (.t 137)),
  au 9 139 (ru 3) (.lenS (.t 138)),
  ao 10 140 (.ia 3 (.t 131) (.t 132)),
  ao 11 141 (.fa 2 (.t 140)),
  an 12 (.st 1 (.t 141) (.t 139))]
def r6_52 : List AOper := [ao 0 86 (.fa 2 (.t 2)),
  ao 1 87 (.ld 1 false (.t 86)),
  ao 2 88 (.len (.t 87)),
  ao 3 89 (.bin .geq (.t 88) (.k (.i 128)))]
def r6_53 : List AOper := [ao 0 90 (.ld 3 true (.t 6)),
  an 1 (.st 3 (.t 4) (.t 90)),
  ao 2 5 (.mv (.k (.i 4)))]
def c6_54 : ACode := .seq (.reg r6_53) .ret
def c6_55 : ACode := .cond (.t 89) c6_54 .skip
def c6_56 : ACode := .seq (.reg r6_52) c6_55
def r6_57 : List AOper := [ao 0 91 (.fa 2 (.t 6)),
  ao 1 92 (.ld 1 false (.t 91)),
  ao 2 93 (.fa 1 (.t 3)),
  ao 3 94 (.ld 1 false (.t 93)),
  ao 4 95 (.build [(.v (.s (.bool false))), (.v (.s (.string ⟨#[]⟩)))] [(0, 1, (.k (.b true))), (1, 1, (.t 94))]),
  ao 5 96 (.bsl 2 60 [(.t 95)]),
  ao 6 97 (.app 2 60 24 (.t 92) (.t 96)),
  ao 7 98 (.fa 2 (.t 6)),
  an 8 (.st 1 (.t 98) (.t 97))]
def c6_58 : ACode := .seq c6_56 (.reg r6_57)
def c6_59 : ACode := .cond (.t 128) (.reg r6_51) c6_58
def c6_60 : ACode := .seq (.reg r6_50) c6_59
def c6_61 : ACode := .cond (.t 99) c6_49 c6_60
def c6_62 : ACode := .seq (.reg r6_42) c6_61
def c6_63 : ACode := .block 1 c6_62
def c6_64 : ACode := .seq (.reg r6_41) c6_63
def r6_65 : List AOper := [ao 0 142 (.ld 3 true (.t 6)),
  an 1 (.st 3 (.t 4) (.t 142)),
  ao 2 5 (.mv (.k (.i 0)))]
def c6 : ACode := .seq (.reg r6_0) (.seq c6_5 (.seq (.reg r6_6) (.seq c6_24 (.seq c6_29 (.seq c6_34 (.seq c6_39 (.seq (.reg r6_40) (.seq c6_64 (.seq (.reg r6_65) .ret)))))))))
def s6 : List ARes := [.cell 4 3 true, .tmp 5]
theorem ok6 : okF Try.prog 6 143 c6 s6 := ⟨Try.f6, Try.func6, Try.ntmps6, by kernel_rfl, by kernel_rfl, by kernel_rfl⟩
def UPk_1 := Bx.mk <|
  aN (uA c6.eq_1) <| aN (uR r6_0.eq_1) <| aN (uA c6_5.eq_1) <| aN (uR r6_1.eq_1) <| aN (uA c6_4.eq_1) <| aN (uA c6_3.eq_1) <| aN (uR r6_2.eq_1) <| aN (uR r6_6.eq_1) <| aN (uA c6_24.eq_1) <| aN (uR r6_7.eq_1) <| aN (uA c6_23.eq_1) <| aN (uA c6_22.eq_1) <| aN (uA c6_18.eq_1) <| aN (uA c6_17.eq_1) <| aN (uR r6_8.eq_1) <| aN (uA c6_16.eq_1) <| aN (uA c6_10.eq_1) <| aN (uR r6_9.eq_1) <| aN (uA c6_15.eq_1) <| aN (uR r6_11.eq_1) <| aN (uA c6_14.eq_1) <| aN (uA c6_13.eq_1) <| aN (uR r6_12.eq_1) <| aN (uR r6_19.eq_1) <| aN (uR r6_20.eq_1) <| aN (uR r6_21.eq_1) <| aN (uA c6_29.eq_1) <| aN (uR r6_25.eq_1) <| aN (uA c6_28.eq_1) <| aN (uA c6_27.eq_1) <| aN (uR r6_26.eq_1) <| aN (uA c6_34.eq_1) <| aN (uR r6_30.eq_1) <| aN (uA c6_33.eq_1) <| aN (uA c6_32.eq_1) <| aN (uR r6_31.eq_1) <| aN (uA c6_39.eq_1) <| aN (uR r6_35.eq_1) <| aN (uA c6_38.eq_1) <| aN (uA c6_37.eq_1) <| aN (uR r6_36.eq_1) <| aN (uR r6_40.eq_1) <| aN (uA c6_64.eq_1) <| aN (uR r6_41.eq_1) <| aN (uA c6_63.eq_1) <| aN (uA c6_62.eq_1) <| aN (uR r6_42.eq_1) <| aN (uA c6_61.eq_1) <| aN (uA c6_49.eq_1) <| aN (uA c6_47.eq_1) <| aN (uR r6_43.eq_1) <| aN (uA c6_46.eq_1) <| aN (uA c6_45.eq_1) <| aN (uR r6_44.eq_1) <| aN (uR r6_48.eq_1) <| aN (uA c6_60.eq_1) <| aN (uR r6_50.eq_1) <| aN (uA c6_59.eq_1) <| aN (uR r6_51.eq_1) <| aN (uA c6_58.eq_1) <| aN (uA c6_56.eq_1) <| aN (uR r6_52.eq_1) <| aN (uA c6_55.eq_1) <| aN (uA c6_54.eq_1) <| aN (uR r6_53.eq_1) <| aN (uR r6_57.eq_1) <| aN (uR r6_65.eq_1) <| s6.eq_1
def UPk_2 := Bx.mk <|
  aN (uA c6.eq_1) <| aN (uR r6_0.eq_1) <| aN (uA c6_5.eq_1) <| aN (uR r6_1.eq_1) <| aN (uA c6_4.eq_1) <| aN (uA c6_3.eq_1) <| aN (uR r6_2.eq_1) <| aN (uR r6_6.eq_1) <| aN (uA c6_29.eq_1) <| aN (uR r6_25.eq_1) <| aN (uA c6_28.eq_1) <| aN (uA c6_27.eq_1) <| aN (uR r6_26.eq_1) <| aN (uA c6_34.eq_1) <| aN (uR r6_30.eq_1) <| aN (uA c6_33.eq_1) <| aN (uA c6_32.eq_1) <| aN (uR r6_31.eq_1) <| aN (uA c6_39.eq_1) <| aN (uR r6_35.eq_1) <| aN (uA c6_38.eq_1) <| aN (uA c6_37.eq_1) <| aN (uR r6_36.eq_1) <| aN (uR r6_40.eq_1) <| aN (uA c6_64.eq_1) <| aN (uR r6_41.eq_1) <| aN (uA c6_63.eq_1) <| aN (uA c6_62.eq_1) <| aN (uR r6_42.eq_1) <| aN (uA c6_61.eq_1) <| aN (uA c6_49.eq_1) <| aN (uA c6_47.eq_1) <| aN (uR r6_43.eq_1) <| aN (uA c6_46.eq_1) <| aN (uA c6_45.eq_1) <| aN (uR r6_44.eq_1) <| aN (uR r6_48.eq_1) <| aN (uA c6_60.eq_1) <| aN (uR r6_50.eq_1) <| aN (uA c6_59.eq_1) <| aN (uR r6_51.eq_1) <| aN (uA c6_58.eq_1) <| aN (uA c6_56.eq_1) <| aN (uR r6_52.eq_1) <| aN (uA c6_55.eq_1) <| aN (uA c6_54.eq_1) <| aN (uR r6_53.eq_1) <| aN (uR r6_57.eq_1) <| aN (uR r6_65.eq_1) <| s6.eq_1
def UPk_3 := Bx.mk <|
  aN (uA c6.eq_1) <| aN (uR r6_0.eq_1) <| aN (uA c6_5.eq_1) <| aN (uR r6_1.eq_1) <| aN (uA c6_4.eq_1) <| aN (uA c6_3.eq_1) <| aN (uR r6_2.eq_1) <| aN (uR r6_6.eq_1) <| aN (uA c6_24.eq_1) <| aN (uR r6_7.eq_1) <| aN (uA c6_23.eq_1) <| aN (uA c6_22.eq_1) <| aN (uA c6_18.eq_1) <| aN (uA c6_17.eq_1) <| aN (uR r6_8.eq_1) <| aN (uA c6_16.eq_1) <| aN (uA c6_10.eq_1) <| aN (uR r6_9.eq_1) <| aN (uA c6_15.eq_1) <| aN (uR r6_11.eq_1) <| aN (uA c6_14.eq_1) <| aN (uA c6_13.eq_1) <| aN (uR r6_12.eq_1) <| aN (uR r6_19.eq_1) <| aN (uR r6_20.eq_1) <| aN (uR r6_21.eq_1) <| aN (uA c6_29.eq_1) <| aN (uR r6_25.eq_1) <| aN (uA c6_28.eq_1) <| aN (uA c6_27.eq_1) <| aN (uR r6_26.eq_1) <| aN (uA c6_34.eq_1) <| aN (uR r6_30.eq_1) <| aN (uA c6_33.eq_1) <| aN (uA c6_32.eq_1) <| aN (uR r6_31.eq_1) <| aN (uA c6_39.eq_1) <| aN (uR r6_35.eq_1) <| aN (uA c6_38.eq_1) <| aN (uA c6_37.eq_1) <| aN (uR r6_36.eq_1) <| aN (uR r6_40.eq_1) <| aN (uR r6_65.eq_1) <| s6.eq_1
set_option maxHeartbeats 1000000 in
theorem doS_ok (d : Dk) (w : DW) (hd : fineDk d) (hw : fineDW w) : ∃ r, DoR d w r ∧ ACallsF Try.prog 6 [tDk d, tDW w] [] (tDkI r) := by
  obtain ⟨b, hb, hC⟩ := okS_ok d hd
  by_cases hD : DOk d
  rotate_left
  · have hbf : b = false := by cases hq : b with | false => rfl | true => exact absurd (hb.1 hq) hD
    rw [hbf] at hC
    refine ⟨_, .inr ⟨hD, rfl⟩, ACallsF.intro ok6 follows fun X c0 => ?_⟩
    simp only [RUX, Nat.reduceAdd, reduceIte, Nat.reduceEqDiff, Nat.reduceLT, Nat.reduceLeDiff, reduceCtorEq, eq_self, FIX, forall_const, endE_n, endE_r, CHT, disj, Nat.reduceBEq, beq_self_eq_true, APT, APX, forall_eq, ALT, UPk_1.d]
    refine callC hC rfl rfl rfl rfl ?_
    simp only [RUX, Nat.reduceAdd, reduceIte, Nat.reduceEqDiff, Nat.reduceLT, Nat.reduceLeDiff, reduceCtorEq, eq_self, FIX, forall_const, endE_n, endE_r, CHT, disj, Nat.reduceBEq, beq_self_eq_true, APT, APX, forall_eq, ALT, UPk_1.d]
  rw [hb.2 hD] at hC
  refine ⟨_, .inl ⟨hD, rfl⟩, ?_⟩
  have l1 := hD.f
  have l2 := hD.n
  have l3 := hD.m
  have hN := names_ok d hd hD
  have hcp := copyDk_ok d hd.s 1001 1002 1003
  have pre : ∀ r, doS d w = r → (∀ (X : Ctx) (t1 : Nat → T) (H : HMap) (c v u2 u3 u4 u6 : Nat), t1 2 = .c (.ptr 2 u2 0) → H 2 = some (.var u2 27 [.v (.sl (en eF d.files)), .v (.sl (en eS d.names)), .v (.sl (en eM d.moves))]) → t1 3 = .c (.ptr 3 u3 0) → H 3 = some (.var u3 29 [.v (.s (.int .i64 w.kind)), .v (.s (.string w.name)), .v (.s (.string w.data))]) →
      t1 4 = .c (.ptr 4 u4 0) → H 4 = some (.var u4 27 [.nil0, .nil0, .nil0]) → t1 6 = .c (.ptr 6 u6 0) → H 6 = some (.var u6 27 [.own 1001 v d.files.length, .own 1002 v d.names.length, .own 1003 v d.moves.length]) → H 1001 = some (.arr v true 3 58 (en eF d.files)) → H 1002 = some (.arr v true 1 9 (en eS d.names)) → H 1003 = some (.arr v true 2 60 (en eM d.moves)) → t1 5 = .i 0 →
      wpa Try.prog X c6_24 (thenW Try.prog X (.seq c6_29 (.seq c6_34 (.seq c6_39 (.seq (.reg r6_40) (.seq c6_64 (.seq (.reg r6_65) .ret)))))) (endA (FinC s6 (tDkI r) []))) ⟨t1, H, c⟩) → ACallsF Try.prog 6 [tDk d, tDW w] [] (tDkI (doS d w)) := by
    intro r hr hrest
    rw [hr]
    refine ACallsF.intro ok6 follows fun X c0 => ?_
    simp only [RUX, Nat.reduceAdd, reduceIte, Nat.reduceEqDiff, Nat.reduceLT, Nat.reduceLeDiff, reduceCtorEq, eq_self, FIX, forall_const, endE_n, endE_r, CHT, disj, Nat.reduceBEq, beq_self_eq_true, APT, APX, forall_eq, ALT, UPk_2.d]
    refine callC hC rfl rfl rfl rfl ?_
    simp only [RUX, Nat.reduceAdd, reduceIte, Nat.reduceEqDiff, Nat.reduceLT, Nat.reduceLeDiff, reduceCtorEq, eq_self, FIX, forall_const, endE_n, endE_r, CHT, disj, Nat.reduceBEq, beq_self_eq_true, APT, APX, forall_eq, ALT, UPk_2.d]
    refine callDk (ws := []) (ns := []) hcp rfl rfl rfl (by decide) ⟨rfl, ?_⟩
    simp only [RUX, Nat.reduceAdd, reduceIte, Nat.reduceEqDiff, Nat.reduceLT, Nat.reduceLeDiff, reduceCtorEq, eq_self, FIX, forall_const, endE_n, endE_r, CHT, disj, Nat.reduceBEq, beq_self_eq_true, APT, APX, forall_eq, ALT, UPk_2.d]
    exact hrest X _ _ _ _ _ _ _ _ rfl rfl rfl rfl rfl rfl rfl rfl rfl rfl rfl rfl
  by_cases k1 : w.kind = 1
  · have b1 : (w.kind == 1) = true := by simp [k1]
    by_cases n1 : nameOk w.name = false
    · refine pre (d, 3) (by simp only [doS, k1, n1, if_true, true_or]) ?_
      rintro X t1 H c v u2 u3 u4 u6 e2 eH2 e3 eH3 e4 eH4 e6 eH6 h1 h2 h3 e5
      simp only [T.c, T.i] at e2 eH2 e3 eH3 e4 eH4 e6 eH6 h1 h2 h3 e5
      simp only [RUX, Nat.reduceAdd, reduceIte, Nat.reduceEqDiff, Nat.reduceLT, Nat.reduceLeDiff, reduceCtorEq, eq_self, FIX, forall_const, endE_n, endE_r, CHT, disj, Nat.reduceBEq, beq_self_eq_true, APT, APX, forall_eq, ALT, UPk_1.d, e3, eH3, b1]
      refine callC (nameOk_ok w.name (by have := hw.1; omega)) rfl rfl rfl rfl ?_
      simp only [RUX, Nat.reduceAdd, reduceIte, Nat.reduceEqDiff, Nat.reduceLT, Nat.reduceLeDiff, reduceCtorEq, eq_self, FIX, forall_const, endE_n, endE_r, CHT, disj, Nat.reduceBEq, beq_self_eq_true, APT, APX, forall_eq, ALT, UPk_1.d, e4, eH4, e6, eH6, h1, h2, h3, n1]
    have n1' : nameOk w.name = true := by cases h : nameOk w.name with | true => rfl | false => exact absurd h n1
    by_cases n2 : 0 ≤ fnd d.files w.name
    · refine pre (d, 3) (by simp only [doS, k1, n2, if_true, or_true]) ?_
      rintro X t1 H c v u2 u3 u4 u6 e2 eH2 e3 eH3 e4 eH4 e6 eH6 h1 h2 h3 e5
      simp only [T.c, T.i] at e2 eH2 e3 eH3 e4 eH4 e6 eH6 h1 h2 h3 e5
      simp only [RUX, Nat.reduceAdd, reduceIte, Nat.reduceEqDiff, Nat.reduceLT, Nat.reduceLeDiff, reduceCtorEq, eq_self, FIX, forall_const, endE_n, endE_r, CHT, disj, Nat.reduceBEq, beq_self_eq_true, APT, APX, forall_eq, ALT, UPk_1.d, e3, eH3, b1]
      refine callC (nameOk_ok w.name (by have := hw.1; omega)) rfl rfl rfl rfl ?_
      simp only [RUX, Nat.reduceAdd, reduceIte, Nat.reduceEqDiff, Nat.reduceLT, Nat.reduceLeDiff, reduceCtorEq, eq_self, FIX, forall_const, endE_n, endE_r, CHT, disj, Nat.reduceBEq, beq_self_eq_true, APT, APX, forall_eq, ALT, UPk_1.d, e2, eH2, e3, eH3, n1']
      refine callC (find_ok d.files w.name (by omega)) rfl rfl rfl rfl ?_
      simp only [RUX, Nat.reduceAdd, reduceIte, Nat.reduceEqDiff, Nat.reduceLT, Nat.reduceLeDiff, reduceCtorEq, eq_self, FIX, forall_const, endE_n, endE_r, CHT, disj, Nat.reduceBEq, beq_self_eq_true, APT, APX, forall_eq, ALT, UPk_1.d, e4, eH4, e6, eH6, h1, h2, h3, ge_iff_le, n2]
    by_cases n3 : 64 ≤ d.files.length ∨ 128 ≤ d.moves.length
    · refine pre (d, 4) (by simp only [doS, k1, n1', n2, n3, if_true, if_false, or_self, Bool.true_eq_false]) ?_
      rintro X t1 H c v u2 u3 u4 u6 e2 eH2 e3 eH3 e4 eH4 e6 eH6 h1 h2 h3 e5
      simp only [T.c, T.i] at e2 eH2 e3 eH3 e4 eH4 e6 eH6 h1 h2 h3 e5
      simp only [RUX, Nat.reduceAdd, reduceIte, Nat.reduceEqDiff, Nat.reduceLT, Nat.reduceLeDiff, reduceCtorEq, eq_self, FIX, forall_const, endE_n, endE_r, CHT, disj, Nat.reduceBEq, beq_self_eq_true, APT, APX, forall_eq, ALT, UPk_1.d, e3, eH3, b1]
      refine callC (nameOk_ok w.name (by have := hw.1; omega)) rfl rfl rfl rfl ?_
      simp only [RUX, Nat.reduceAdd, reduceIte, Nat.reduceEqDiff, Nat.reduceLT, Nat.reduceLeDiff, reduceCtorEq, eq_self, FIX, forall_const, endE_n, endE_r, CHT, disj, Nat.reduceBEq, beq_self_eq_true, APT, APX, forall_eq, ALT, UPk_1.d, e2, eH2, e3, eH3, n1']
      refine callC (find_ok d.files w.name (by omega)) rfl rfl rfl rfl ?_
      by_cases n4 : (64 : Int) ≤ d.files.length
      · simp only [RUX, Nat.reduceAdd, reduceIte, Nat.reduceEqDiff, Nat.reduceLT, Nat.reduceLeDiff, reduceCtorEq, eq_self, FIX, forall_const, endE_n, endE_r, CHT, disj, Nat.reduceBEq, beq_self_eq_true, APT, APX, forall_eq, ALT, UPk_1.d, e2, eH2, e4, eH4, e6, eH6, h1, h2, h3, ge_iff_le, n2, n4]
      · have n5 : (128 : Int) ≤ d.moves.length := by omega
        simp only [RUX, Nat.reduceAdd, reduceIte, Nat.reduceEqDiff, Nat.reduceLT, Nat.reduceLeDiff, reduceCtorEq, eq_self, FIX, forall_const, endE_n, endE_r, CHT, disj, Nat.reduceBEq, beq_self_eq_true, APT, APX, forall_eq, ALT, UPk_1.d, e2, eH2, e4, eH4, e6, eH6, h1, h2, h3, ge_iff_le, n2, n4, n5]
    · refine pre (⟨d.files ++ [⟨w.name, ⟨#[]⟩, 0⟩], d.names, d.moves ++ [⟨false, w.name⟩]⟩, 0) (by simp only [doS, k1, n1', n2, n3, if_true, if_false, or_self, Bool.true_eq_false]) ?_
      rintro X t1 H c v u2 u3 u4 u6 e2 eH2 e3 eH3 e4 eH4 e6 eH6 h1 h2 h3 e5
      simp only [T.c, T.i] at e2 eH2 e3 eH3 e4 eH4 e6 eH6 h1 h2 h3 e5
      have n4 : ¬ (64 : Int) ≤ d.files.length := by omega
      have n5 : ¬ (128 : Int) ≤ d.moves.length := by omega
      have q1 : (d.files.length + 1) * 40 ≤ 140737488355328 := by omega
      have q2 : d.files.length + 1 ≤ 9223372036854775807 := by omega
      have q3 : (d.moves.length + 1) * 24 ≤ 140737488355328 := by omega
      have q4 : d.moves.length + 1 ≤ 9223372036854775807 := by omega
      simp only [RUX, Nat.reduceAdd, reduceIte, Nat.reduceEqDiff, Nat.reduceLT, Nat.reduceLeDiff, reduceCtorEq, eq_self, FIX, forall_const, endE_n, endE_r, CHT, disj, Nat.reduceBEq, beq_self_eq_true, APT, APX, forall_eq, ALT, UPk_1.d, e3, eH3, b1]
      refine callC (nameOk_ok w.name (by have := hw.1; omega)) rfl rfl rfl rfl ?_
      simp only [RUX, Nat.reduceAdd, reduceIte, Nat.reduceEqDiff, Nat.reduceLT, Nat.reduceLeDiff, reduceCtorEq, eq_self, FIX, forall_const, endE_n, endE_r, CHT, disj, Nat.reduceBEq, beq_self_eq_true, APT, APX, forall_eq, ALT, UPk_1.d, e2, eH2, e3, eH3, n1']
      refine callC (find_ok d.files w.name (by omega)) rfl rfl rfl rfl ?_
      simp only [RUX, Nat.reduceAdd, reduceIte, Nat.reduceEqDiff, Nat.reduceLT, Nat.reduceLeDiff, reduceCtorEq, eq_self, FIX, forall_const, endE_n, endE_r, CHT, disj, Nat.reduceBEq, beq_self_eq_true, APT, APX, forall_eq, ALT, UPk_1.d, e2, eH2, e3, eH3, e4, eH4, e6, eH6, h1, h2, h3, ge_iff_le, n2, n4, n5, q1, q2, q3, q4, en_snoc, en_take1, eF, eM]
  have b1 : (w.kind == 1) = false := by simp [k1]
  by_cases k5 : w.kind = 5
  · have b5 : (w.kind == 5) = true := by simp [k5]
    have hal := aft_len d.moves d.names
    refine pre (keepD d (aft d.names d.moves), 0) (by have h51 : ¬ (5 : Int) = 1 := (by omega); simp only [doS, k5, h51, if_true, if_false]) ?_
    rintro X t1 H c v u2 u3 u4 u6 e2 eH2 e3 eH3 e4 eH4 e6 eH6 h1 h2 h3 e5
    simp only [T.c, T.i] at e2 eH2 e3 eH3 e4 eH4 e6 eH6 h1 h2 h3 e5
    simp only [RUX, Nat.reduceAdd, reduceIte, Nat.reduceEqDiff, Nat.reduceLT, Nat.reduceLeDiff, reduceCtorEq, eq_self, FIX, forall_const, endE_n, endE_r, CHT, disj, Nat.reduceBEq, beq_self_eq_true, APT, APX, forall_eq, ALT, UPk_1.d, e2, eH2, e3, eH3, b1, b5]
    refine callA1 (m := 1005) (ws := []) (ns := []) (hN 1005) rfl rfl rfl (en_flat eS eS_flat _) ⟨?_, ?_⟩
    · simp only [RUX, Nat.reduceAdd, reduceIte, Nat.reduceEqDiff, Nat.reduceLT, Nat.reduceLeDiff, reduceCtorEq, eq_self, FIX, forall_const, endE_n, endE_r, CHT, disj, Nat.reduceBEq, beq_self_eq_true, APT, APX, forall_eq, ALT, UPk_1.d]
    simp only [RUX, Nat.reduceAdd, reduceIte, Nat.reduceEqDiff, Nat.reduceLT, Nat.reduceLeDiff, reduceCtorEq, eq_self, FIX, forall_const, endE_n, endE_r, CHT, disj, Nat.reduceBEq, beq_self_eq_true, APT, APX, forall_eq, ALT, UPk_1.d, e2, eH2]
    refine callL (ws := [(1005, .arr (c + 3 + 3 + 2) false 1 9 (en eS (aft d.names d.moves)))]) (ns := [1005]) (keep_ok d hd hD (aft d.names d.moves) (by omega) (fun x hx => DOk.aft_made (n := d.moves.length) (by rw [List.take_length]; exact hx))) rfl ?_ rfl rfl ⟨?_, ?_⟩
    · simp only [RUX, Nat.reduceAdd, reduceIte, Nat.reduceEqDiff, Nat.reduceLT, Nat.reduceLeDiff, reduceCtorEq, eq_self, FIX, forall_const, endE_n, endE_r, CHT, disj, Nat.reduceBEq, beq_self_eq_true, APT, APX, forall_eq, ALT, UPk_1.d, lendTs, lendT]
    · simp only [RUX, Nat.reduceAdd, reduceIte, Nat.reduceEqDiff, Nat.reduceLT, Nat.reduceLeDiff, reduceCtorEq, eq_self, FIX, forall_const, endE_n, endE_r, CHT, disj, Nat.reduceBEq, beq_self_eq_true, APT, APX, forall_eq, ALT, UPk_1.d]
    simp only [RUX, Nat.reduceAdd, reduceIte, Nat.reduceEqDiff, Nat.reduceLT, Nat.reduceLeDiff, reduceCtorEq, eq_self, FIX, forall_const, endE_n, endE_r, CHT, disj, Nat.reduceBEq, beq_self_eq_true, APT, APX, forall_eq, ALT, UPk_1.d, scalarT, scalarP, scalarC, List.all_cons, Bool.false_and, e4, eH4, keepD]
  have b5 : (w.kind == 5) = false := by simp [k5]
  by_cases kr : 1 ≤ w.kind ∧ w.kind ≤ 5
  rotate_left
  · refine pre (d, 5) (by simp only [doS, k1, k5, kr, if_true, if_false, not_false_eq_true]) ?_
    rintro X t1 H c v u2 u3 u4 u6 e2 eH2 e3 eH3 e4 eH4 e6 eH6 h1 h2 h3 e5
    simp only [T.c, T.i] at e2 eH2 e3 eH3 e4 eH4 e6 eH6 h1 h2 h3 e5
    have hx : (decide ((1 : Int) ≤ w.kind) && decide (w.kind ≤ 5)) = false := by
      rw [← Bool.decide_and]; exact decide_eq_false kr
    have hin := l6In_ok w.kind 1 5
    rw [hx] at hin
    simp only [RUX, Nat.reduceAdd, reduceIte, Nat.reduceEqDiff, Nat.reduceLT, Nat.reduceLeDiff, reduceCtorEq, eq_self, FIX, forall_const, endE_n, endE_r, CHT, disj, Nat.reduceBEq, beq_self_eq_true, APT, APX, forall_eq, ALT, UPk_1.d, e3, eH3, b1, b5]
    refine callC hin rfl rfl rfl rfl ?_
    simp only [RUX, Nat.reduceAdd, reduceIte, Nat.reduceEqDiff, Nat.reduceLT, Nat.reduceLeDiff, reduceCtorEq, eq_self, FIX, forall_const, endE_n, endE_r, CHT, disj, Nat.reduceBEq, beq_self_eq_true, APT, APX, forall_eq, ALT, UPk_1.d, e4, eH4, e6, eH6, h1, h2, h3]
  have hin := l6In_ok w.kind 1 5
  have hx : (decide ((1 : Int) ≤ w.kind) && decide (w.kind ≤ 5)) = true := by
    rw [← Bool.decide_and]; exact decide_eq_true kr
  rw [hx] at hin
  have hal := aft_len d.moves d.names
  cases hh : has (aft d.names d.moves) w.name with
  | false =>
    have hhas := has_ok (aft d.names d.moves) w.name (by omega)
    rw [hh] at hhas
    refine pre (d, 2) (by simp only [doS, k1, k5, kr, hh, if_true, if_false, not_true_eq_false, and_self]) ?_
    rintro X t1 H c v u2 u3 u4 u6 e2 eH2 e3 eH3 e4 eH4 e6 eH6 h1 h2 h3 e5
    simp only [T.c, T.i] at e2 eH2 e3 eH3 e4 eH4 e6 eH6 h1 h2 h3 e5
    simp only [RUX, Nat.reduceAdd, reduceIte, Nat.reduceEqDiff, Nat.reduceLT, Nat.reduceLeDiff, reduceCtorEq, eq_self, FIX, forall_const, endE_n, endE_r, CHT, disj, Nat.reduceBEq, beq_self_eq_true, APT, APX, forall_eq, ALT, UPk_1.d, e3, eH3, b1, b5]
    refine callC hin rfl rfl rfl rfl ?_
    simp only [RUX, Nat.reduceAdd, reduceIte, Nat.reduceEqDiff, Nat.reduceLT, Nat.reduceLeDiff, reduceCtorEq, eq_self, FIX, forall_const, endE_n, endE_r, CHT, disj, Nat.reduceBEq, beq_self_eq_true, APT, APX, forall_eq, ALT, UPk_1.d, e2, eH2, e3, eH3]
    refine callA1 (m := 1005) (ws := []) (ns := []) (hN 1005) rfl rfl rfl (en_flat eS eS_flat _) ⟨?_, ?_⟩
    · simp only [RUX, Nat.reduceAdd, reduceIte, Nat.reduceEqDiff, Nat.reduceLT, Nat.reduceLeDiff, reduceCtorEq, eq_self, FIX, forall_const, endE_n, endE_r, CHT, disj, Nat.reduceBEq, beq_self_eq_true, APT, APX, forall_eq, ALT, UPk_1.d]
    simp only [RUX, Nat.reduceAdd, reduceIte, Nat.reduceEqDiff, Nat.reduceLT, Nat.reduceLeDiff, reduceCtorEq, eq_self, FIX, forall_const, endE_n, endE_r, CHT, disj, Nat.reduceBEq, beq_self_eq_true, APT, APX, forall_eq, ALT, UPk_1.d, e3, eH3]
    refine callL (ws := [(1005, .arr (c + 3 + 3 + 4 + 1) false 1 9 (en eS (aft d.names d.moves)))]) (ns := [1005]) hhas rfl ?_ rfl rfl ⟨?_, ?_⟩
    · simp only [RUX, Nat.reduceAdd, reduceIte, Nat.reduceEqDiff, Nat.reduceLT, Nat.reduceLeDiff, reduceCtorEq, eq_self, FIX, forall_const, endE_n, endE_r, CHT, disj, Nat.reduceBEq, beq_self_eq_true, APT, APX, forall_eq, ALT, UPk_1.d, lendTs, lendT]
    · simp only [RUX, Nat.reduceAdd, reduceIte, Nat.reduceEqDiff, Nat.reduceLT, Nat.reduceLeDiff, reduceCtorEq, eq_self, FIX, forall_const, endE_n, endE_r, CHT, disj, Nat.reduceBEq, beq_self_eq_true, APT, APX, forall_eq, ALT, UPk_1.d, scalarT, scalarP, scalarC]
    simp only [RUX, Nat.reduceAdd, reduceIte, Nat.reduceEqDiff, Nat.reduceLT, Nat.reduceLeDiff, reduceCtorEq, eq_self, FIX, forall_const, endE_n, endE_r, CHT, disj, Nat.reduceBEq, beq_self_eq_true, APT, APX, forall_eq, ALT, UPk_1.d, scalarT, scalarP, scalarC, e4, eH4, e6, eH6, h1, h2, h3]
  | true =>
  have hhas := has_ok (aft d.names d.moves) w.name (by omega)
  rw [hh] at hhas
  obtain ⟨i, hi1, hi2, hi3⟩ := hD.find (DOk.aft_made (n := d.moves.length) (x := w.name) (by rw [List.take_length]; exact has_true.1 hh))
  generalize hf : fileOf d.files w.name = f at *
  have hF := hD.files i f hi2
  have hfs := hF.data
  have ei := en_at eF hi2
  have gi : (0 : Int) ≤ i := by omega
  have gil := (List.getElem?_eq_some_iff.1 hi2).1
  have gil2 : (i : Int) < d.files.length := by omega
  have hfo := find_ok d.files w.name (by omega)
  rw [hi1] at hfo
  have tailpre : ∀ r, doS d w = r → (∀ (X : Ctx) (t1 : Nat → T) (H : HMap) (c v u2 u3 u4 u6 : Nat), t1 2 = .c (.ptr 2 u2 0) → H 2 = some (.var u2 27 [.v (.sl (en eF d.files)), .v (.sl (en eS d.names)), .v (.sl (en eM d.moves))]) → t1 3 = .c (.ptr 3 u3 0) → H 3 = some (.var u3 29 [.v (.s (.int .i64 w.kind)), .v (.s (.string w.name)), .v (.s (.string w.data))]) →
      t1 4 = .c (.ptr 4 u4 0) → H 4 = some (.var u4 27 [.nil0, .nil0, .nil0]) → t1 6 = .c (.ptr 6 u6 0) → H 6 = some (.var u6 27 [.own 1001 v d.files.length, .own 1002 v d.names.length, .own 1003 v d.moves.length]) → H 1001 = some (.arr v true 3 58 (en eF d.files)) → H 1002 = some (.arr v true 1 9 (en eS d.names)) → H 1003 = some (.arr v true 2 60 (en eM d.moves)) → t1 5 = .i 0 → t1 7 = .i i →
      wpa Try.prog X c6_64 (thenW Try.prog X (.seq (.reg r6_65) .ret) (endA (FinC s6 (tDkI r) []))) ⟨t1, H, c⟩) → ACallsF Try.prog 6 [tDk d, tDW w] [] (tDkI (doS d w)) := by
    intro r hr hrest
    refine pre r hr ?_
    rintro X t1 H c v u2 u3 u4 u6 e2 eH2 e3 eH3 e4 eH4 e6 eH6 h1 h2 h3 e5
    simp only [T.c, T.i] at e2 eH2 e3 eH3 e4 eH4 e6 eH6 h1 h2 h3 e5
    simp only [RUX, Nat.reduceAdd, reduceIte, Nat.reduceEqDiff, Nat.reduceLT, Nat.reduceLeDiff, reduceCtorEq, eq_self, FIX, forall_const, endE_n, endE_r, CHT, disj, Nat.reduceBEq, beq_self_eq_true, APT, APX, forall_eq, ALT, UPk_3.d, e3, eH3, b1, b5]
    refine callC hin rfl rfl rfl rfl ?_
    simp only [RUX, Nat.reduceAdd, reduceIte, Nat.reduceEqDiff, Nat.reduceLT, Nat.reduceLeDiff, reduceCtorEq, eq_self, FIX, forall_const, endE_n, endE_r, CHT, disj, Nat.reduceBEq, beq_self_eq_true, APT, APX, forall_eq, ALT, UPk_3.d, e2, eH2, e3, eH3]
    refine callA1 (m := 1005) (ws := []) (ns := []) (hN 1005) rfl rfl rfl (en_flat eS eS_flat _) ⟨?_, ?_⟩
    · simp only [RUX, Nat.reduceAdd, reduceIte, Nat.reduceEqDiff, Nat.reduceLT, Nat.reduceLeDiff, reduceCtorEq, eq_self, FIX, forall_const, endE_n, endE_r, CHT, disj, Nat.reduceBEq, beq_self_eq_true, APT, APX, forall_eq, ALT, UPk_3.d]
    simp only [RUX, Nat.reduceAdd, reduceIte, Nat.reduceEqDiff, Nat.reduceLT, Nat.reduceLeDiff, reduceCtorEq, eq_self, FIX, forall_const, endE_n, endE_r, CHT, disj, Nat.reduceBEq, beq_self_eq_true, APT, APX, forall_eq, ALT, UPk_3.d, e3, eH3]
    refine callL (ws := [(1005, .arr (c + 3 + 3 + 4 + 1) false 1 9 (en eS (aft d.names d.moves)))]) (ns := [1005]) hhas rfl ?_ rfl rfl ⟨?_, ?_⟩
    · simp only [RUX, Nat.reduceAdd, reduceIte, Nat.reduceEqDiff, Nat.reduceLT, Nat.reduceLeDiff, reduceCtorEq, eq_self, FIX, forall_const, endE_n, endE_r, CHT, disj, Nat.reduceBEq, beq_self_eq_true, APT, APX, forall_eq, ALT, UPk_3.d, lendTs, lendT]
    · simp only [RUX, Nat.reduceAdd, reduceIte, Nat.reduceEqDiff, Nat.reduceLT, Nat.reduceLeDiff, reduceCtorEq, eq_self, FIX, forall_const, endE_n, endE_r, CHT, disj, Nat.reduceBEq, beq_self_eq_true, APT, APX, forall_eq, ALT, UPk_3.d, scalarT, scalarP, scalarC]
    simp only [RUX, Nat.reduceAdd, reduceIte, Nat.reduceEqDiff, Nat.reduceLT, Nat.reduceLeDiff, reduceCtorEq, eq_self, FIX, forall_const, endE_n, endE_r, CHT, disj, Nat.reduceBEq, beq_self_eq_true, APT, APX, forall_eq, ALT, UPk_3.d, scalarT, scalarP, scalarC, e2, eH2, e3, eH3]
    refine callC hfo rfl rfl rfl rfl ?_
    simp only [RUX, Nat.reduceAdd, reduceIte, Nat.reduceEqDiff, Nat.reduceLT, Nat.reduceLeDiff, reduceCtorEq, eq_self, FIX, forall_const, endE_n, endE_r, CHT, disj, Nat.reduceBEq, beq_self_eq_true, APT, APX, forall_eq, ALT, UPk_3.d]
    exact hrest X _ _ _ v u2 u3 u4 u6 e2 eH2 e3 eH3 e4 eH4 e6 eH6 h1 h2 h3 e5 rfl
  by_cases k2 : w.kind = 2
  · have b2 : (w.kind == 2) = true := by simp [k2]
    have gw : IntKind.i64.wrap (20000 - (f.data.size : Int)) = 20000 - (f.data.size : Int) := wrap64 ⟨by omega, by omega⟩
    by_cases p : 20000 < f.data.size + w.data.size
    · refine tailpre (d, 4) (by have h21 : ¬ (2 : Int) = 1 := (by omega); have h25 : ¬ (2 : Int) = 5 := (by omega); have hr2 : (1 : Int) ≤ 2 ∧ (2 : Int) ≤ 5 := (by omega); simp only [doS, k2, h21, h25, hr2, hh, hf, p, if_true, if_false, not_true_eq_false, and_self, Bool.true_eq_false]) ?_
      rintro X t1 H c v u2 u3 u4 u6 e2 eH2 e3 eH3 e4 eH4 e6 eH6 h1 h2 h3 e5 e7
      simp only [T.c, T.i] at e2 eH2 e3 eH3 e4 eH4 e6 eH6 h1 h2 h3 e5 e7
      have p' : (w.data.size : Int) > 20000 - (f.data.size : Int) := by omega
      simp only [RUX, Nat.reduceAdd, reduceIte, Nat.reduceEqDiff, Nat.reduceLT, Nat.reduceLeDiff, reduceCtorEq, eq_self, FIX, forall_const, endE_n, endE_r, CHT, disj, Nat.reduceBEq, beq_self_eq_true, APT, APX, forall_eq, ALT, UPk_1.d, e2, eH2, e3, eH3, e4, eH4, e6, eH6, e7, h1, h2, h3, b2, gi, ei, eF, gw, p']
    · refine tailpre (⟨d.files.set i ⟨f.name, f.data ++ w.data, f.kept⟩, d.names, d.moves⟩, 0) (by have h21 : ¬ (2 : Int) = 1 := (by omega); have h25 : ¬ (2 : Int) = 5 := (by omega); have hr2 : (1 : Int) ≤ 2 ∧ (2 : Int) ≤ 5 := (by omega); simp only [doS, k2, h21, h25, hr2, hh, hf, p, hi1, Int.toNat_natCast, if_true, if_false, not_true_eq_false, and_self, Bool.true_eq_false]) ?_
      rintro X t1 H c v u2 u3 u4 u6 e2 eH2 e3 eH3 e4 eH4 e6 eH6 h1 h2 h3 e5 e7
      simp only [T.c, T.i] at e2 eH2 e3 eH3 e4 eH4 e6 eH6 h1 h2 h3 e5 e7
      have p' : ¬ (w.data.size : Int) > 20000 - (f.data.size : Int) := by omega
      have hsz : f.data.size + w.data.size ≤ 9223372036854775807 := by omega
      have hn : (en eF d.files).set i [.s (.string f.name), .s (.string (f.data ++ w.data)), .s (.int .i64 f.kept)] = en eF (d.files.set i ⟨f.name, f.data ++ w.data, f.kept⟩) := en_set eF d.files i ⟨f.name, f.data ++ w.data, f.kept⟩
      have hts : List.take d.files.length (en eF (d.files.set i ⟨f.name, f.data ++ w.data, f.kept⟩)) = en eF (d.files.set i ⟨f.name, f.data ++ w.data, f.kept⟩) := List.take_of_length_le (by rw [en_len, List.length_set]; exact Nat.le_refl _)
      simp only [RUX, Nat.reduceAdd, reduceIte, Nat.reduceEqDiff, Nat.reduceLT, Nat.reduceLeDiff, reduceCtorEq, eq_self, FIX, forall_const, endE_n, endE_r, CHT, disj, Nat.reduceBEq, beq_self_eq_true, APT, APX, forall_eq, ALT, UPk_1.d, e2, eH2, e3, eH3, e4, eH4, e6, eH6, e7, h1, h2, h3, b2, gi, gil2, ei, eF, gw, p', sStr, hsz, hn, hts, List.length_set]
  have b2 : (w.kind == 2) = false := by simp [k2]
  by_cases k3 : w.kind = 3
  · have b3 : (w.kind == 3) = true := by simp [k3]
    refine tailpre (⟨d.files.set i ⟨f.name, f.data, f.data.size⟩, d.names, d.moves⟩, 0) (by have h21 : ¬ (3 : Int) = 1 := (by omega); have h25 : ¬ (3 : Int) = 5 := (by omega); have h32 : ¬ (3 : Int) = 2 := (by omega); have hr2 : (1 : Int) ≤ 3 ∧ (3 : Int) ≤ 5 := (by omega); simp only [doS, k3, h21, h25, h32, hr2, hh, hf, hi1, Int.toNat_natCast, if_true, if_false, not_true_eq_false, and_self, Bool.true_eq_false]) ?_
    rintro X t1 H c v u2 u3 u4 u6 e2 eH2 e3 eH3 e4 eH4 e6 eH6 h1 h2 h3 e5 e7
    simp only [T.c, T.i] at e2 eH2 e3 eH3 e4 eH4 e6 eH6 h1 h2 h3 e5 e7
    have hn : (en eF d.files).set i [.s (.string f.name), .s (.string f.data), .s (.int .i64 (f.data.size : Int))] = en eF (d.files.set i ⟨f.name, f.data, f.data.size⟩) := en_set eF d.files i ⟨f.name, f.data, f.data.size⟩
    have hts : List.take d.files.length (en eF (d.files.set i ⟨f.name, f.data, f.data.size⟩)) = en eF (d.files.set i ⟨f.name, f.data, f.data.size⟩) := List.take_of_length_le (by rw [en_len, List.length_set]; exact Nat.le_refl _)
    simp only [RUX, Nat.reduceAdd, reduceIte, Nat.reduceEqDiff, Nat.reduceLT, Nat.reduceLeDiff, reduceCtorEq, eq_self, FIX, forall_const, endE_n, endE_r, CHT, disj, Nat.reduceBEq, beq_self_eq_true, APT, APX, forall_eq, ALT, UPk_1.d, e2, eH2, e3, eH3, e4, eH4, e6, eH6, e7, h1, h2, h3, b2, b3, gi, gil2, ei, eF, hn, hts, List.length_set]
  have b3 : (w.kind == 3) = false := by simp [k3]
  by_cases p : 128 ≤ d.moves.length
  · refine tailpre (d, 4) (by simp only [doS, k1, k5, k2, k3, kr, hh, p, if_true, if_false, not_true_eq_false, and_self, Bool.true_eq_false]) ?_
    rintro X t1 H c v u2 u3 u4 u6 e2 eH2 e3 eH3 e4 eH4 e6 eH6 h1 h2 h3 e5 e7
    simp only [T.c, T.i] at e2 eH2 e3 eH3 e4 eH4 e6 eH6 h1 h2 h3 e5 e7
    have p' : (128 : Int) ≤ d.moves.length := by omega
    simp only [RUX, Nat.reduceAdd, reduceIte, Nat.reduceEqDiff, Nat.reduceLT, Nat.reduceLeDiff, reduceCtorEq, eq_self, FIX, forall_const, endE_n, endE_r, CHT, disj, Nat.reduceBEq, beq_self_eq_true, APT, APX, forall_eq, ALT, UPk_1.d, e2, eH2, e3, eH3, e4, eH4, e6, eH6, e7, h1, h2, h3, b2, b3, ge_iff_le, p']
  · refine tailpre (⟨d.files, d.names, d.moves ++ [⟨true, w.name⟩]⟩, 0) (by simp only [doS, k1, k5, k2, k3, kr, hh, p, if_true, if_false, not_true_eq_false, and_self, Bool.true_eq_false]) ?_
    rintro X t1 H c v u2 u3 u4 u6 e2 eH2 e3 eH3 e4 eH4 e6 eH6 h1 h2 h3 e5 e7
    simp only [T.c, T.i] at e2 eH2 e3 eH3 e4 eH4 e6 eH6 h1 h2 h3 e5 e7
    have p' : ¬ (128 : Int) ≤ d.moves.length := by omega
    have q3 : (d.moves.length + 1) * 24 ≤ 140737488355328 := by omega
    have q4 : d.moves.length + 1 ≤ 9223372036854775807 := by omega
    simp only [RUX, Nat.reduceAdd, reduceIte, Nat.reduceEqDiff, Nat.reduceLT, Nat.reduceLeDiff, reduceCtorEq, eq_self, FIX, forall_const, endE_n, endE_r, CHT, disj, Nat.reduceBEq, beq_self_eq_true, APT, APX, forall_eq, ALT, UPk_1.d, e2, eH2, e3, eH3, e4, eH4, e6, eH6, e7, h1, h2, h3, b2, b3, ge_iff_le, p', q3, q4, en_snoc, en_take1, eM]
end Go.V

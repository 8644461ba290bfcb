/- It is proved that the law FnExactCrewCancel returns true for every input and leaves its input as it was; no condition. -/
import Derived.Test.YtlajnafcfngkaaaKC5
import Derived.WalkKit
import Derived.ProofKit
import Derived.OpenShut
import Derived.ChangeSlices
import Derived.ChangeArms
import Derived.ChangeReads
import Derived.WideShapes
set_option linter.unusedSimpArgs false
namespace Go.V
open Go.Proofs
/- loop.example/teagle/laws.szIntS -/
def r17_0 : List AOper := [ao 0 4 (.mv (.k (.i 0)))]
def r17_1 : List AOper := [ao 0 5 (.mv (.t 1)),
  ao 1 6 (.mv (.t 0)),
  ao 2 7 (.len (.t 6)),
  ao 3 8 (.bin .sub (.t 5) (.t 7)),
  ao 4 1 (.mv (.t 8))]
def r17_2 : List AOper := [ao 0 9 (.mv (.t 1)),
  ao 1 10 (.bin .lss (.t 9) (.k (.i 0)))]
def r17_3 : List AOper := [ao 0 4 (.mv (.k (.i (-1))))]
def c17_4 : ACode := .seq (.reg r17_3) .ret
def c17_5 : ACode := .cond (.t 10) c17_4 .skip
def c17_6 : ACode := .seq (.reg r17_2) c17_5
def r17_7 : List AOper := [ao 0 11 (.mv (.t 1)),
  ao 1 4 (.mv (.t 11))]
def c17 : ACode := .seq (.reg r17_0) (.seq (.reg r17_1) (.seq c17_6 (.seq (.reg r17_7) .ret)))
def s17 : List ARes := [.tmp 4]
theorem ok17 : okF Try.prog 17 12 c17 s17 := ⟨Try.f17, Try.func17, Try.ntmps17, by kernel_rfl, by kernel_rfl, by kernel_rfl⟩
def UCy_1 := Bx.mk <|
  aN (uA c17.eq_1) <| aN (uR r17_0.eq_1) <| aN (uR r17_1.eq_1) <| aN (uA c17_6.eq_1) <| aN (uR r17_2.eq_1) <| aN (uA c17_5.eq_1) <| aN (uA c17_4.eq_1) <| aN (uR r17_3.eq_1) <| aN (uR r17_7.eq_1) <| s17.eq_1
theorem szIs_ok (xs : List Int) (left : Int) (h0 : 0 ≤ left ∧ left ≤ 1048576) (hl : xs.length ≤ 9223372036854775807) : ACallsF Try.prog 17 [tL (en eI xs), .i left] [] (.i (sub1 left xs.length)) := by
  refine ACallsF.intro ok17 follows fun X c0 => ?_
  have gw0 : IntKind.i64.wrap (left - xs.length) = left - xs.length := wrap64 ⟨by omega, by omega⟩
  by_cases hA : (xs.length : Int) ≤ left
  · have k0 : ¬ left - (xs.length : Int) < 0 := by omega
    have k3 : sub1 left xs.length = left - (xs.length : Int) := by rw [sub1, if_pos (by omega)]
    simp only [RUX, Nat.reduceAdd, reduceIte, Nat.reduceEqDiff, Nat.reduceLT, Nat.reduceLeDiff, reduceCtorEq, eq_self, FIX, forall_const, endE_n, endE_r, CHT, disj, Nat.reduceBEq, beq_self_eq_true, APT, APX, forall_eq, ALT, KI, UCy_1.d, en_len, gw0, k0, k3]
  · have k0 : left - (xs.length : Int) < 0 := by omega
    have k3 : sub1 left xs.length = -1 := by rw [sub1, if_neg (by omega)]
    simp only [RUX, Nat.reduceAdd, reduceIte, Nat.reduceEqDiff, Nat.reduceLT, Nat.reduceLeDiff, reduceCtorEq, eq_self, FIX, forall_const, endE_n, endE_r, CHT, disj, Nat.reduceBEq, beq_self_eq_true, APT, APX, forall_eq, ALT, KI, UCy_1.d, en_len, gw0, k0, k3]
/- loop.example/teagle/laws.szCrewHandS -/
def r18_0 : List AOper := [ao 0 4 (.mv (.k (.i 0)))]
def r18_1 : List AOper := [ao 0 5 (.mv (.t 1)),
  ao 1 6 (.mv (.t 0)),
  ao 2 7 (.len (.t 6)),
  ao 3 8 (.bin .sub (.t 5) (.t 7)),
  ao 4 1 (.mv (.t 8))]
def r18_2 : List AOper := [ao 0 9 (.mv (.t 1)),
  ao 1 10 (.bin .lss (.t 9) (.k (.i 0)))]
def r18_3 : List AOper := [ao 0 4 (.mv (.k (.i (-1))))]
def c18_4 : ACode := .seq (.reg r18_3) .ret
def c18_5 : ACode := .cond (.t 10) c18_4 .skip
def c18_6 : ACode := .seq (.reg r18_2) c18_5
def r18_7 : List AOper := [ao 0 11 (.mv (.t 1)),
  ao 1 4 (.mv (.t 11))]
def c18 : ACode := .seq (.reg r18_0) (.seq (.reg r18_1) (.seq c18_6 (.seq (.reg r18_7) .ret)))
def s18 : List ARes := [.tmp 4]
theorem ok18 : okF Try.prog 18 12 c18 s18 := ⟨Try.f18, Try.func18, Try.ntmps18, by kernel_rfl, by kernel_rfl, by kernel_rfl⟩
def UCy_2 := Bx.mk <|
  aN (uA c18.eq_1) <| aN (uR r18_0.eq_1) <| aN (uR r18_1.eq_1) <| aN (uA c18_6.eq_1) <| aN (uR r18_2.eq_1) <| aN (uA c18_5.eq_1) <| aN (uA c18_4.eq_1) <| aN (uR r18_3.eq_1) <| aN (uR r18_7.eq_1) <| s18.eq_1
theorem szHs_ok (xs : List Hd) (left : Int) (h0 : 0 ≤ left ∧ left ≤ 1048576) (hl : xs.length ≤ 9223372036854775807) : ACallsF Try.prog 18 [tL (en eH xs), .i left] [] (.i (sub1 left xs.length)) := by
  refine ACallsF.intro ok18 follows fun X c0 => ?_
  have gw0 : IntKind.i64.wrap (left - xs.length) = left - xs.length := wrap64 ⟨by omega, by omega⟩
  by_cases hA : (xs.length : Int) ≤ left
  · have k0 : ¬ left - (xs.length : Int) < 0 := by omega
    have k3 : sub1 left xs.length = left - (xs.length : Int) := by rw [sub1, if_pos (by omega)]
    simp only [RUX, Nat.reduceAdd, reduceIte, Nat.reduceEqDiff, Nat.reduceLT, Nat.reduceLeDiff, reduceCtorEq, eq_self, FIX, forall_const, endE_n, endE_r, CHT, disj, Nat.reduceBEq, beq_self_eq_true, APT, APX, forall_eq, ALT, KI, UCy_2.d, en_len, gw0, k0, k3]
  · have k0 : left - (xs.length : Int) < 0 := by omega
    have k3 : sub1 left xs.length = -1 := by rw [sub1, if_neg (by omega)]
    simp only [RUX, Nat.reduceAdd, reduceIte, Nat.reduceEqDiff, Nat.reduceLT, Nat.reduceLeDiff, reduceCtorEq, eq_self, FIX, forall_const, endE_n, endE_r, CHT, disj, Nat.reduceBEq, beq_self_eq_true, APT, APX, forall_eq, ALT, KI, UCy_2.d, en_len, gw0, k0, k3]
/-- The rows of a world as an argument may have them. -/
structure ArgW (w : CW) : Prop where
  queue : w.queue.length ≤ 9223372036854775807
  hands : w.hands.length ≤ 9223372036854775807
  results : w.results.length ≤ 9223372036854775807
  ring : w.ring.length ≤ 9223372036854775807
  out : w.out.length ≤ 9223372036854775807
  got : w.got.length ≤ 9223372036854775807
  shut : w.shut.length ≤ 9223372036854775807
structure Sml (w : CW) : Prop where
  queue : w.queue.length ≤ 1048576
  hands : w.hands.length ≤ 1048576
  results : w.results.length ≤ 1048576
  ring : w.ring.length ≤ 1048576
  out : w.out.length ≤ 1048576
  got : w.got.length ≤ 1048576
  shut : w.shut.length ≤ 1048576
  all : w.queue.length + w.hands.length + w.results.length + w.ring.length + w.out.length + w.got.length + w.shut.length ≤ 1048576
theorem Sml.small {w : CW} (h : Sml w) : Small w := ⟨by have := h.queue; omega, by have := h.hands; omega, by have := h.results; omega, by have := h.ring; omega, by have := h.out; omega, by have := h.got; omega, by have := h.shut; omega⟩
/- loop.example/teagle/laws.szCrewWorld -/
def r5_0 : List AOper := [ao 0 2 (.box 25 (.t 0)),
  ao 1 4 (.mv (.k (.i 0)))]
def r5_1 : List AOper := [ao 0 5 (.fa 5 (.t 2)),
  ao 1 6 (.ld 1 false (.t 5)),
  ao 2 7 (.mv (.t 1)),
  ao 3 8 (.call (.k (.c (.fn 17 []))) [(.t 6), (.t 7)]),
  ao 4 1 (.mv (.t 8))]
def r5_2 : List AOper := [ao 0 9 (.mv (.t 1)),
  ao 1 10 (.bin .lss (.t 9) (.k (.i 0)))]
def r5_3 : List AOper := [ao 0 4 (.mv (.k (.i (-1))))]
def c5_4 : ACode := .seq (.reg r5_3) .ret
def c5_5 : ACode := .cond (.t 10) c5_4 .skip
def c5_6 : ACode := .seq (.reg r5_2) c5_5
def r5_7 : List AOper := [ao 0 11 (.fa 6 (.t 2)),
  ao 1 12 (.ld 1 false (.t 11)),
  ao 2 13 (.mv (.t 1)),
  ao 3 14 (.call (.k (.c (.fn 18 []))) [(.t 12), (.t 13)]),
  ao 4 1 (.mv (.t 14))]
def r5_8 : List AOper := [ao 0 15 (.mv (.t 1)),
  ao 1 16 (.bin .lss (.t 15) (.k (.i 0)))]
def r5_9 : List AOper := [ao 0 4 (.mv (.k (.i (-1))))]
def c5_10 : ACode := .seq (.reg r5_9) .ret
def c5_11 : ACode := .cond (.t 16) c5_10 .skip
def c5_12 : ACode := .seq (.reg r5_8) c5_11
def r5_13 : List AOper := [ao 0 17 (.fa 8 (.t 2)),
  ao 1 18 (.ld 1 false (.t 17)),
  ao 2 19 (.mv (.t 1)),
  ao 3 20 (.call (.k (.c (.fn 17 []))) [(.t 18), (.t 19)]),
  ao 4 1 (.mv (.t 20))]
def r5_14 : List AOper := [ao 0 21 (.mv (.t 1)),
  ao 1 22 (.bin .lss (.t 21) (.k (.i 0)))]
def r5_15 : List AOper := [ao 0 4 (.mv (.k (.i (-1))))]
def c5_16 : ACode := .seq (.reg r5_15) .ret
def c5_17 : ACode := .cond (.t 22) c5_16 .skip
def c5_18 : ACode := .seq (.reg r5_14) c5_17
def r5_19 : List AOper := [ao 0 23 (.fa 10 (.t 2)),
  ao 1 24 (.ld 1 false (.t 23)),
  ao 2 25 (.mv (.t 1)),
  ao 3 26 (.call (.k (.c (.fn 17 []))) [(.t 24), (.t 25)]),
  ao 4 1 (.mv (.t 26))]
def r5_20 : List AOper := [ao 0 27 (.mv (.t 1)),
  ao 1 28 (.bin .lss (.t 27) (.k (.i 0)))]
def r5_21 : List AOper := [ao 0 4 (.mv (.k (.i (-1))))]
def c5_22 : ACode := .seq (.reg r5_21) .ret
def c5_23 : ACode := .cond (.t 28) c5_22 .skip
def c5_24 : ACode := .seq (.reg r5_20) c5_23
def r5_25 : List AOper := [ao 0 29 (.fa 12 (.t 2)),
  ao 1 30 (.ld 1 false (.t 29)),
  ao 2 31 (.mv (.t 1)),
  ao 3 32 (.call (.k (.c (.fn 17 []))) [(.t 30), (.t 31)]),
  ao 4 1 (.mv (.t 32))]
def r5_26 : List AOper := [ao 0 33 (.mv (.t 1)),
  ao 1 34 (.bin .lss (.t 33) (.k (.i 0)))]
def r5_27 : List AOper := [ao 0 4 (.mv (.k (.i (-1))))]
def c5_28 : ACode := .seq (.reg r5_27) .ret
def c5_29 : ACode := .cond (.t 34) c5_28 .skip
def c5_30 : ACode := .seq (.reg r5_26) c5_29
def r5_31 : List AOper := [ao 0 35 (.fa 14 (.t 2)),
  ao 1 36 (.ld 1 false (.t 35)),
  ao 2 37 (.mv (.t 1)),
  ao 3 38 (.call (.k (.c (.fn 17 []))) [(.t 36), (.t 37)]),
  ao 4 1 (.mv (.t 38))]
def r5_32 : List AOper := [ao 0 39 (.mv (.t 1)),
  ao 1 40 (.bin .lss (.t 39) (.k (.i 0)))]
def r5_33 : List AOper := [ao 0 4 (.mv (.k (.i (-1))))]
def c5_34 : ACode := .seq (.reg r5_33) .ret
def c5_35 : ACode := .cond (.t 40) c5_34 .skip
def c5_36 : ACode := .seq (.reg r5_32) c5_35
def r5_37 : List AOper := [ao 0 41 (.fa 16 (.t 2)),
  ao 1 42 (.ld 1 false (.t 41)),
  ao 2 43 (.mv (.t 1)),
  ao 3 44 (.call (.k (.c (.fn 17 []))) [(.t 42), (.t 43)]),
  ao 4 1 (.mv (.t 44))]
def r5_38 : List AOper := [ao 0 45 (.mv (.t 1)),
  ao 1 46 (.bin .lss (.t 45) (.k (.i 0)))]
def r5_39 : List AOper := [ao 0 4 (.mv (.k (.i (-1))))]
def c5_40 : ACode := .seq (.reg r5_39) .ret
def c5_41 : ACode := .cond (.t 46) c5_40 .skip
def c5_42 : ACode := .seq (.reg r5_38) c5_41
def r5_43 : List AOper := [ao 0 47 (.mv (.t 1)),
  ao 1 4 (.mv (.t 47))]
def c5 : ACode := .seq (.reg r5_0) (.seq (.reg r5_1) (.seq c5_6 (.seq (.reg r5_7) (.seq c5_12 (.seq (.reg r5_13) (.seq c5_18 (.seq (.reg r5_19) (.seq c5_24 (.seq (.reg r5_25) (.seq c5_30 (.seq (.reg r5_31) (.seq c5_36 (.seq (.reg r5_37) (.seq c5_42 (.seq (.reg r5_43) .ret)))))))))))))))
def s5 : List ARes := [.tmp 4]
theorem ok5 : okF Try.prog 5 48 c5 s5 := ⟨Try.f5, Try.func5, Try.ntmps5, by kernel_rfl, by kernel_rfl, by kernel_rfl⟩
def UCy_3 := Bx.mk <|
  aN (uA c5.eq_1) <| aN (uR r5_0.eq_1) <| aN (uR r5_1.eq_1) <| aN (uA c5_6.eq_1) <| aN (uR r5_2.eq_1) <| aN (uA c5_5.eq_1) <| aN (uA c5_4.eq_1) <| aN (uR r5_3.eq_1) <| aN (uR r5_7.eq_1) <| aN (uA c5_12.eq_1) <| aN (uR r5_8.eq_1) <| aN (uA c5_11.eq_1) <| aN (uA c5_10.eq_1) <| aN (uR r5_9.eq_1) <| aN (uR r5_13.eq_1) <| aN (uA c5_18.eq_1) <| aN (uR r5_14.eq_1) <| aN (uA c5_17.eq_1) <| aN (uA c5_16.eq_1) <| aN (uR r5_15.eq_1) <| aN (uR r5_19.eq_1) <| aN (uA c5_24.eq_1) <| aN (uR r5_20.eq_1) <| aN (uA c5_23.eq_1) <| aN (uA c5_22.eq_1) <| aN (uR r5_21.eq_1) <| aN (uR r5_25.eq_1) <| aN (uA c5_30.eq_1) <| aN (uR r5_26.eq_1) <| aN (uA c5_29.eq_1) <| aN (uA c5_28.eq_1) <| aN (uR r5_27.eq_1) <| aN (uR r5_31.eq_1) <| aN (uA c5_36.eq_1) <| aN (uR r5_32.eq_1) <| aN (uA c5_35.eq_1) <| aN (uA c5_34.eq_1) <| aN (uR r5_33.eq_1) <| aN (uR r5_37.eq_1) <| aN (uA c5_42.eq_1) <| aN (uR r5_38.eq_1) <| aN (uA c5_41.eq_1) <| aN (uA c5_40.eq_1) <| aN (uR r5_39.eq_1) <| aN (uR r5_43.eq_1) <| s5.eq_1
set_option maxHeartbeats 1000000 in
theorem szCW_ok {w : CW} (h : ArgW w) : PC 5 [tCW w, .i 1048576] (fun q : Int => q = -1 ∨ (0 ≤ q ∧ Sml w)) T.i := by
  refine PC.intro ok5 rfl (fun _ => rfl) fun X => ?_
  have l0 : (0 : Int) ≤ 1048576 ∧ (1048576 : Int) ≤ 1048576 := by omega
  simp only [RUX, Nat.reduceAdd, reduceIte, Nat.reduceEqDiff, Nat.reduceLT, Nat.reduceLeDiff, reduceCtorEq, eq_self, FIX, forall_const, endE_n, endE_r, CHT, disj, Nat.reduceBEq, beq_self_eq_true, APT, APX, forall_eq, ALT, KI, UCy_3.d]
  refine callC (szIs_ok w.queue 1048576 l0 h.queue) rfl rfl rfl rfl ?_
  by_cases p1 : (w.queue.length : Int) ≤ 1048576
  rotate_left
  · have e : sub1 1048576 w.queue.length = -1 := by rw [sub1, if_neg p1]
    have e2 : (-1 : Int) < 0 := by decide
    simp only [RUX, Nat.reduceAdd, reduceIte, Nat.reduceEqDiff, Nat.reduceLT, Nat.reduceLeDiff, reduceCtorEq, eq_self, FIX, forall_const, endE_n, endE_r, CHT, disj, Nat.reduceBEq, beq_self_eq_true, APT, APX, forall_eq, ALT, KI, UCy_3.d, e, e2]
    refine ES.mk (-1) (.inl rfl) ?_
    simp only [RUX, Nat.reduceAdd, reduceIte, Nat.reduceEqDiff, Nat.reduceLT, Nat.reduceLeDiff, reduceCtorEq, eq_self, FIX, forall_const, endE_n, endE_r, CHT, disj, Nat.reduceBEq, beq_self_eq_true, APT, APX, forall_eq, ALT, KI, UCy_3.d, e, e2]
  obtain ⟨x1, y1⟩ : ∃ x : Int, sub1 1048576 w.queue.length = x := ⟨_, rfl⟩
  have z1 : x1 = 1048576 - (w.queue.length : Int) := by rw [← y1, sub1, if_pos p1]
  have l1 : 0 ≤ x1 ∧ x1 ≤ 1048576 := by omega
  have n1 : ¬ x1 < 0 := by omega
  simp only [RUX, Nat.reduceAdd, reduceIte, Nat.reduceEqDiff, Nat.reduceLT, Nat.reduceLeDiff, reduceCtorEq, eq_self, FIX, forall_const, endE_n, endE_r, CHT, disj, Nat.reduceBEq, beq_self_eq_true, APT, APX, forall_eq, ALT, KI, UCy_3.d, y1, n1]
  refine callC (szHs_ok w.hands x1 l1 h.hands) rfl rfl rfl rfl ?_
  by_cases p2 : (w.hands.length : Int) ≤ x1
  rotate_left
  · have e : sub1 x1 w.hands.length = -1 := by rw [sub1, if_neg p2]
    have e2 : (-1 : Int) < 0 := by decide
    simp only [RUX, Nat.reduceAdd, reduceIte, Nat.reduceEqDiff, Nat.reduceLT, Nat.reduceLeDiff, reduceCtorEq, eq_self, FIX, forall_const, endE_n, endE_r, CHT, disj, Nat.reduceBEq, beq_self_eq_true, APT, APX, forall_eq, ALT, KI, UCy_3.d, y1, n1, e, e2]
    refine ES.mk (-1) (.inl rfl) ?_
    simp only [RUX, Nat.reduceAdd, reduceIte, Nat.reduceEqDiff, Nat.reduceLT, Nat.reduceLeDiff, reduceCtorEq, eq_self, FIX, forall_const, endE_n, endE_r, CHT, disj, Nat.reduceBEq, beq_self_eq_true, APT, APX, forall_eq, ALT, KI, UCy_3.d, y1, n1, e, e2]
  obtain ⟨x2, y2⟩ : ∃ x : Int, sub1 x1 w.hands.length = x := ⟨_, rfl⟩
  have z2 : x2 = x1 - (w.hands.length : Int) := by rw [← y2, sub1, if_pos p2]
  have l2 : 0 ≤ x2 ∧ x2 ≤ 1048576 := by omega
  have n2 : ¬ x2 < 0 := by omega
  simp only [RUX, Nat.reduceAdd, reduceIte, Nat.reduceEqDiff, Nat.reduceLT, Nat.reduceLeDiff, reduceCtorEq, eq_self, FIX, forall_const, endE_n, endE_r, CHT, disj, Nat.reduceBEq, beq_self_eq_true, APT, APX, forall_eq, ALT, KI, UCy_3.d, y1, n1, y2, n2]
  refine callC (szIs_ok w.results x2 l2 h.results) rfl rfl rfl rfl ?_
  by_cases p3 : (w.results.length : Int) ≤ x2
  rotate_left
  · have e : sub1 x2 w.results.length = -1 := by rw [sub1, if_neg p3]
    have e2 : (-1 : Int) < 0 := by decide
    simp only [RUX, Nat.reduceAdd, reduceIte, Nat.reduceEqDiff, Nat.reduceLT, Nat.reduceLeDiff, reduceCtorEq, eq_self, FIX, forall_const, endE_n, endE_r, CHT, disj, Nat.reduceBEq, beq_self_eq_true, APT, APX, forall_eq, ALT, KI, UCy_3.d, y1, n1, y2, n2, e, e2]
    refine ES.mk (-1) (.inl rfl) ?_
    simp only [RUX, Nat.reduceAdd, reduceIte, Nat.reduceEqDiff, Nat.reduceLT, Nat.reduceLeDiff, reduceCtorEq, eq_self, FIX, forall_const, endE_n, endE_r, CHT, disj, Nat.reduceBEq, beq_self_eq_true, APT, APX, forall_eq, ALT, KI, UCy_3.d, y1, n1, y2, n2, e, e2]
  obtain ⟨x3, y3⟩ : ∃ x : Int, sub1 x2 w.results.length = x := ⟨_, rfl⟩
  have z3 : x3 = x2 - (w.results.length : Int) := by rw [← y3, sub1, if_pos p3]
  have l3 : 0 ≤ x3 ∧ x3 ≤ 1048576 := by omega
  have n3 : ¬ x3 < 0 := by omega
  simp only [RUX, Nat.reduceAdd, reduceIte, Nat.reduceEqDiff, Nat.reduceLT, Nat.reduceLeDiff, reduceCtorEq, eq_self, FIX, forall_const, endE_n, endE_r, CHT, disj, Nat.reduceBEq, beq_self_eq_true, APT, APX, forall_eq, ALT, KI, UCy_3.d, y1, n1, y2, n2, y3, n3]
  refine callC (szIs_ok w.ring x3 l3 h.ring) rfl rfl rfl rfl ?_
  by_cases p4 : (w.ring.length : Int) ≤ x3
  rotate_left
  · have e : sub1 x3 w.ring.length = -1 := by rw [sub1, if_neg p4]
    have e2 : (-1 : Int) < 0 := by decide
    simp only [RUX, Nat.reduceAdd, reduceIte, Nat.reduceEqDiff, Nat.reduceLT, Nat.reduceLeDiff, reduceCtorEq, eq_self, FIX, forall_const, endE_n, endE_r, CHT, disj, Nat.reduceBEq, beq_self_eq_true, APT, APX, forall_eq, ALT, KI, UCy_3.d, y1, n1, y2, n2, y3, n3, e, e2]
    refine ES.mk (-1) (.inl rfl) ?_
    simp only [RUX, Nat.reduceAdd, reduceIte, Nat.reduceEqDiff, Nat.reduceLT, Nat.reduceLeDiff, reduceCtorEq, eq_self, FIX, forall_const, endE_n, endE_r, CHT, disj, Nat.reduceBEq, beq_self_eq_true, APT, APX, forall_eq, ALT, KI, UCy_3.d, y1, n1, y2, n2, y3, n3, e, e2]
  obtain ⟨x4, y4⟩ : ∃ x : Int, sub1 x3 w.ring.length = x := ⟨_, rfl⟩
  have z4 : x4 = x3 - (w.ring.length : Int) := by rw [← y4, sub1, if_pos p4]
  have l4 : 0 ≤ x4 ∧ x4 ≤ 1048576 := by omega
  have n4 : ¬ x4 < 0 := by omega
  simp only [RUX, Nat.reduceAdd, reduceIte, Nat.reduceEqDiff, Nat.reduceLT, Nat.reduceLeDiff, reduceCtorEq, eq_self, FIX, forall_const, endE_n, endE_r, CHT, disj, Nat.reduceBEq, beq_self_eq_true, APT, APX, forall_eq, ALT, KI, UCy_3.d, y1, n1, y2, n2, y3, n3, y4, n4]
  refine callC (szIs_ok w.out x4 l4 h.out) rfl rfl rfl rfl ?_
  by_cases p5 : (w.out.length : Int) ≤ x4
  rotate_left
  · have e : sub1 x4 w.out.length = -1 := by rw [sub1, if_neg p5]
    have e2 : (-1 : Int) < 0 := by decide
    simp only [RUX, Nat.reduceAdd, reduceIte, Nat.reduceEqDiff, Nat.reduceLT, Nat.reduceLeDiff, reduceCtorEq, eq_self, FIX, forall_const, endE_n, endE_r, CHT, disj, Nat.reduceBEq, beq_self_eq_true, APT, APX, forall_eq, ALT, KI, UCy_3.d, y1, n1, y2, n2, y3, n3, y4, n4, e, e2]
    refine ES.mk (-1) (.inl rfl) ?_
    simp only [RUX, Nat.reduceAdd, reduceIte, Nat.reduceEqDiff, Nat.reduceLT, Nat.reduceLeDiff, reduceCtorEq, eq_self, FIX, forall_const, endE_n, endE_r, CHT, disj, Nat.reduceBEq, beq_self_eq_true, APT, APX, forall_eq, ALT, KI, UCy_3.d, y1, n1, y2, n2, y3, n3, y4, n4, e, e2]
  obtain ⟨x5, y5⟩ : ∃ x : Int, sub1 x4 w.out.length = x := ⟨_, rfl⟩
  have z5 : x5 = x4 - (w.out.length : Int) := by rw [← y5, sub1, if_pos p5]
  have l5 : 0 ≤ x5 ∧ x5 ≤ 1048576 := by omega
  have n5 : ¬ x5 < 0 := by omega
  simp only [RUX, Nat.reduceAdd, reduceIte, Nat.reduceEqDiff, Nat.reduceLT, Nat.reduceLeDiff, reduceCtorEq, eq_self, FIX, forall_const, endE_n, endE_r, CHT, disj, Nat.reduceBEq, beq_self_eq_true, APT, APX, forall_eq, ALT, KI, UCy_3.d, y1, n1, y2, n2, y3, n3, y4, n4, y5, n5]
  refine callC (szIs_ok w.got x5 l5 h.got) rfl rfl rfl rfl ?_
  by_cases p6 : (w.got.length : Int) ≤ x5
  rotate_left
  · have e : sub1 x5 w.got.length = -1 := by rw [sub1, if_neg p6]
    have e2 : (-1 : Int) < 0 := by decide
    simp only [RUX, Nat.reduceAdd, reduceIte, Nat.reduceEqDiff, Nat.reduceLT, Nat.reduceLeDiff, reduceCtorEq, eq_self, FIX, forall_const, endE_n, endE_r, CHT, disj, Nat.reduceBEq, beq_self_eq_true, APT, APX, forall_eq, ALT, KI, UCy_3.d, y1, n1, y2, n2, y3, n3, y4, n4, y5, n5, e, e2]
    refine ES.mk (-1) (.inl rfl) ?_
    simp only [RUX, Nat.reduceAdd, reduceIte, Nat.reduceEqDiff, Nat.reduceLT, Nat.reduceLeDiff, reduceCtorEq, eq_self, FIX, forall_const, endE_n, endE_r, CHT, disj, Nat.reduceBEq, beq_self_eq_true, APT, APX, forall_eq, ALT, KI, UCy_3.d, y1, n1, y2, n2, y3, n3, y4, n4, y5, n5, e, e2]
  obtain ⟨x6, y6⟩ : ∃ x : Int, sub1 x5 w.got.length = x := ⟨_, rfl⟩
  have z6 : x6 = x5 - (w.got.length : Int) := by rw [← y6, sub1, if_pos p6]
  have l6 : 0 ≤ x6 ∧ x6 ≤ 1048576 := by omega
  have n6 : ¬ x6 < 0 := by omega
  simp only [RUX, Nat.reduceAdd, reduceIte, Nat.reduceEqDiff, Nat.reduceLT, Nat.reduceLeDiff, reduceCtorEq, eq_self, FIX, forall_const, endE_n, endE_r, CHT, disj, Nat.reduceBEq, beq_self_eq_true, APT, APX, forall_eq, ALT, KI, UCy_3.d, y1, n1, y2, n2, y3, n3, y4, n4, y5, n5, y6, n6]
  refine callC (szIs_ok w.shut x6 l6 h.shut) rfl rfl rfl rfl ?_
  by_cases p7 : (w.shut.length : Int) ≤ x6
  rotate_left
  · have e : sub1 x6 w.shut.length = -1 := by rw [sub1, if_neg p7]
    have e2 : (-1 : Int) < 0 := by decide
    simp only [RUX, Nat.reduceAdd, reduceIte, Nat.reduceEqDiff, Nat.reduceLT, Nat.reduceLeDiff, reduceCtorEq, eq_self, FIX, forall_const, endE_n, endE_r, CHT, disj, Nat.reduceBEq, beq_self_eq_true, APT, APX, forall_eq, ALT, KI, UCy_3.d, y1, n1, y2, n2, y3, n3, y4, n4, y5, n5, y6, n6, e, e2]
    refine ES.mk (-1) (.inl rfl) ?_
    simp only [RUX, Nat.reduceAdd, reduceIte, Nat.reduceEqDiff, Nat.reduceLT, Nat.reduceLeDiff, reduceCtorEq, eq_self, FIX, forall_const, endE_n, endE_r, CHT, disj, Nat.reduceBEq, beq_self_eq_true, APT, APX, forall_eq, ALT, KI, UCy_3.d, y1, n1, y2, n2, y3, n3, y4, n4, y5, n5, y6, n6, e, e2]
  obtain ⟨x7, y7⟩ : ∃ x : Int, sub1 x6 w.shut.length = x := ⟨_, rfl⟩
  have z7 : x7 = x6 - (w.shut.length : Int) := by rw [← y7, sub1, if_pos p7]
  have l7 : 0 ≤ x7 ∧ x7 ≤ 1048576 := by omega
  have n7 : ¬ x7 < 0 := by omega
  simp only [RUX, Nat.reduceAdd, reduceIte, Nat.reduceEqDiff, Nat.reduceLT, Nat.reduceLeDiff, reduceCtorEq, eq_self, FIX, forall_const, endE_n, endE_r, CHT, disj, Nat.reduceBEq, beq_self_eq_true, APT, APX, forall_eq, ALT, KI, UCy_3.d, y1, n1, y2, n2, y3, n3, y4, n4, y5, n5, y6, n6, y7, n7]
  refine ES.mk x7 (.inr ⟨l7.1, ⟨by omega, by omega, by omega, by omega, by omega, by omega, by omega, by omega⟩⟩) ?_
  simp only [RUX, Nat.reduceAdd, reduceIte, Nat.reduceEqDiff, Nat.reduceLT, Nat.reduceLeDiff, reduceCtorEq, eq_self, FIX, forall_const, endE_n, endE_r, CHT, disj, Nat.reduceBEq, beq_self_eq_true, APT, APX, forall_eq, ALT, KI, UCy_3.d, y1, n1, y2, n2, y3, n3, y4, n4, y5, n5, y6, n6, y7, n7]
theorem ne0 (x : Int) : (x != x) = false := by simp
/- loop.example/teagle/laws.eqCrewHand -/
def r58_0 : List AOper := [ao 0 2 (.box 70 (.t 0)),
  ao 1 3 (.box 70 (.t 1)),
  ao 2 4 (.mv (.k (.b false)))]
def r58_1 : List AOper := [ao 0 5 (.fa 0 (.t 2)),
  ao 1 6 (.ld 1 false (.t 5)),
  ao 2 7 (.fa 0 (.t 3)),
  ao 3 8 (.ld 1 false (.t 7)),
  ao 4 9 (.bin .neq (.t 6) (.t 8))]
def r58_2 : List AOper := [ao 0 4 (.mv (.k (.b false)))]
def c58_3 : ACode := .seq (.reg r58_2) .ret
def c58_4 : ACode := .cond (.t 9) c58_3 .skip
def c58_5 : ACode := .seq (.reg r58_1) c58_4
def r58_6 : List AOper := [ao 0 10 (.fa 1 (.t 2)),
  ao 1 11 (.ld 1 false (.t 10)),
  ao 2 12 (.fa 1 (.t 3)),
  ao 3 13 (.ld 1 false (.t 12)),
  ao 4 14 (.bin .neq (.t 11) (.t 13))]
def r58_7 : List AOper := [ao 0 4 (.mv (.k (.b false)))]
def c58_8 : ACode := .seq (.reg r58_7) .ret
def c58_9 : ACode := .cond (.t 14) c58_8 .skip
def c58_10 : ACode := .seq (.reg r58_6) c58_9
def r58_11 : List AOper := [ao 0 4 (.mv (.k (.b true)))]
def c58 : ACode := .seq (.reg r58_0) (.seq c58_5 (.seq c58_10 (.seq (.reg r58_11) .ret)))
def s58 : List ARes := [.tmp 4]
theorem ok58 : okF Try.prog 58 15 c58 s58 := ⟨Try.f58, Try.func58, Try.ntmps58, by kernel_rfl, by kernel_rfl, by kernel_rfl⟩
def UCy_4 := Bx.mk <|
  aN (uA c58.eq_1) <| aN (uR r58_0.eq_1) <| aN (uA c58_5.eq_1) <| aN (uR r58_1.eq_1) <| aN (uA c58_4.eq_1) <| aN (uA c58_3.eq_1) <| aN (uR r58_2.eq_1) <| aN (uA c58_10.eq_1) <| aN (uR r58_6.eq_1) <| aN (uA c58_9.eq_1) <| aN (uA c58_8.eq_1) <| aN (uR r58_7.eq_1) <| aN (uR r58_11.eq_1) <| s58.eq_1
theorem eqHd_ok (x : Hd) : ACallsF Try.prog 58 [tH x, tH x] [] (.b true) := by
  refine ACallsF.intro ok58 follows fun X c0 => ?_
  simp only [RUX, Nat.reduceAdd, reduceIte, Nat.reduceEqDiff, Nat.reduceLT, Nat.reduceLeDiff, reduceCtorEq, eq_self, FIX, forall_const, endE_n, endE_r, CHT, disj, Nat.reduceBEq, beq_self_eq_true, APT, APX, forall_eq, ALT, KI, UCy_4.d, ne0]
/- loop.example/teagle/laws.eqIntS -/
def r26_0 : List AOper := [ao 0 4 (.mv (.k (.b false)))]
def r26_1 : List AOper := [ao 0 6 (.mv (.t 0)),
  ao 1 7 (.len (.t 6)),
  ao 2 8 (.mv (.t 1)),
  ao 3 9 (.len (.t 8)),
  ao 4 10 (.bin .neq (.t 7) (.t 9))]
def r26_2 : List AOper := [ao 0 4 (.mv (.k (.b false)))]
def c26_3 : ACode := .seq (.reg r26_2) .ret
def c26_4 : ACode := .cond (.t 10) c26_3 .skip
def c26_5 : ACode := .seq (.reg r26_1) c26_4
def r26_6 : List AOper := [ao 0 5 (.mv (.k (.i 0)))]
def r26_7 : List AOper := [ao 0 11 (.mv (.t 5)),
  ao 1 12 (.mv (.t 0)),
  ao 2 13 (.len (.t 12)),
  ao 3 14 (.bin .lss (.t 11) (.t 13))]
def c26_8 : ACode := .cond (.t 14) .skip (.exit 0)
def c26_9 : ACode := .seq (.reg r26_7) c26_8
def r26_10 : List AOper := [ao 0 17 (.mv (.t 0)),
  au 1 18 [0] (.mv (.t 5)),
  ao 2 19 (.ia 1 (.t 17) (.t 18)),
  ao 3 20 (.ld 1 false (.t 19)),
  au 4 21 (ru 4) (.mv (.t 1)),
  au 5 22 (ru 5) (.mv (.t 5)),
  au 6 23 (ru 4) (.ia 1 (.t 21) (.t 22)),
  au 7 24 (ru 4) (.ld 1 false (.t 23)),
  ao 8 25 (.bin .neq (.t 20) (.t 24))]
def r26_11 : List AOper := [ao 0 4 (.mv (.k (.b false)))]
def c26_12 : ACode := .seq (.reg r26_11) .ret
def c26_13 : ACode := .cond (.t 25) c26_12 .skip
def c26_14 : ACode := .seq (.reg r26_10) c26_13
def c26_15 : ACode := .block 1 c26_14
def r26_16 : List AOper := [ao 0 15 (.mv (.t 5)),
  ao 1 16 (.bin .add (.t 15) (.k (.i 1))),
  ao 2 5 (.mv (.t 16))]
def c26_17 : ACode := .seq c26_9 (.seq c26_15 (.reg r26_16))
def c26_18 : ACode := .loop c26_17
def c26_19 : ACode := .block 0 c26_18
def c26_20 : ACode := .seq (.reg r26_6) c26_19
def r26_21 : List AOper := [ao 0 4 (.mv (.k (.b true)))]
def c26 : ACode := .seq (.reg r26_0) (.seq c26_5 (.seq c26_20 (.seq (.reg r26_21) .ret)))
def s26 : List ARes := [.tmp 4]
theorem ok26 : okF Try.prog 26 26 c26 s26 := ⟨Try.f26, Try.func26, Try.ntmps26, by kernel_rfl, by kernel_rfl, by kernel_rfl⟩
def inv26 (xs : List Int) (i : Nat) (σ : St) : Prop := σ.t 0 = tL (en eI xs) ∧ σ.t 1 = tL (en eI xs) ∧ σ.t 5 = .i i
def UCy_5 := Bx.mk <|
  aN (uA c26.eq_1) <| aN (uR r26_0.eq_1) <| aN (uA c26_5.eq_1) <| aN (uR r26_1.eq_1) <| aN (uA c26_4.eq_1) <| aN (uA c26_3.eq_1) <| aN (uR r26_2.eq_1) <| aN (uA c26_20.eq_1) <| aN (uR r26_6.eq_1) <| aN (uA c26_19.eq_1) <| aN (uA c26_18.eq_1) <| aN (uR r26_21.eq_1) <| s26.eq_1
def UCy_8 := Bx.mk <|
  aN (uA c26_17.eq_1) <| aN (uA c26_9.eq_1) <| aN (uR r26_7.eq_1) <| aN (uA c26_8.eq_1) <| aN (uA c26_15.eq_1) <| aN (uA c26_14.eq_1) <| aN (uR r26_10.eq_1) <| aN (uA c26_13.eq_1) <| aN (uA c26_12.eq_1) <| aN (uR r26_11.eq_1) <| aN (uR r26_16.eq_1) <| aN (uA c26.eq_1) <| aN (uR r26_0.eq_1) <| aN (uA c26_5.eq_1) <| aN (uR r26_1.eq_1) <| aN (uA c26_4.eq_1) <| aN (uA c26_3.eq_1) <| aN (uR r26_2.eq_1) <| aN (uA c26_20.eq_1) <| aN (uR r26_6.eq_1) <| aN (uA c26_19.eq_1) <| aN (uA c26_18.eq_1) <| aN (uR r26_21.eq_1) <| s26.eq_1
theorem eqIs_ok (xs : List Int) (hl : xs.length ≤ 2000000) : ACallsF Try.prog 26 [tL (en eI xs), tL (en eI xs)] [] (.b true) := by
  have n0 : ((xs.length : Int) != xs.length) = false := by simp
  refine ACallsF.intro ok26 follows fun X c0 => ?_
  simp only [RUX, Nat.reduceAdd, reduceIte, Nat.reduceEqDiff, Nat.reduceLT, Nat.reduceLeDiff, reduceCtorEq, eq_self, FIX, forall_const, endE_n, endE_r, CHT, disj, Nat.reduceBEq, beq_self_eq_true, APT, APX, forall_eq, ALT, KI, UCy_5.d, n0]
  refine AW.upto xs.length (inv26 xs) ⟨rfl, rfl, rfl⟩ fun i t H c hi h => ?_
  obtain ⟨e0, e1, e5⟩ := h
  simp only [T.c, T.i, tL] at e0 e1 e5
  by_cases k1 : (i : Int) < xs.length
  · obtain ⟨x, hx⟩ : ∃ x, xs[i]? = some x := ⟨_, List.getElem?_eq_getElem (by omega)⟩
    have ex := en_at eI hx
    have gz : (0 : Int) ≤ i := by omega
    have gw := w1_ok (i := i) (by omega)
    simp only [RUX, Nat.reduceAdd, reduceIte, Nat.reduceEqDiff, Nat.reduceLT, Nat.reduceLeDiff, reduceCtorEq, eq_self, FIX, forall_const, endE_n, endE_r, CHT, disj, Nat.reduceBEq, beq_self_eq_true, APT, APX, forall_eq, ALT, KI, UCy_8.d, e0, e1, e5, en_len, k1, gz, ex, eI, ne0, gw]
    exact ⟨by omega, e0, e1, rfl⟩
  · simp only [RUX, Nat.reduceAdd, reduceIte, Nat.reduceEqDiff, Nat.reduceLT, Nat.reduceLeDiff, reduceCtorEq, eq_self, FIX, forall_const, endE_n, endE_r, CHT, disj, Nat.reduceBEq, beq_self_eq_true, APT, APX, forall_eq, ALT, KI, UCy_8.d, UCy_5.d, e0, e1, e5, en_len, k1]
/- loop.example/teagle/laws.eqCrewHandS -/
def r27_0 : List AOper := [ao 0 4 (.mv (.k (.b false)))]
def r27_1 : List AOper := [ao 0 6 (.mv (.t 0)),
  ao 1 7 (.len (.t 6)),
  ao 2 8 (.mv (.t 1)),
  ao 3 9 (.len (.t 8)),
  ao 4 10 (.bin .neq (.t 7) (.t 9))]
def r27_2 : List AOper := [ao 0 4 (.mv (.k (.b false)))]
def c27_3 : ACode := .seq (.reg r27_2) .ret
def c27_4 : ACode := .cond (.t 10) c27_3 .skip
def c27_5 : ACode := .seq (.reg r27_1) c27_4
def r27_6 : List AOper := [ao 0 5 (.mv (.k (.i 0)))]
def r27_7 : List AOper := [ao 0 11 (.mv (.t 5)),
  ao 1 12 (.mv (.t 0)),
  ao 2 13 (.len (.t 12)),
  ao 3 14 (.bin .lss (.t 11) (.t 13))]
def c27_8 : ACode := .cond (.t 14) .skip (.exit 0)
def c27_9 : ACode := .seq (.reg r27_7) c27_8
def r27_10 : List AOper := [ao 0 17 (.mv (.t 0)),
  au 1 18 [0] (.mv (.t 5)),
  ao 2 19 (.ia 2 (.t 17) (.t 18)),
  ao 3 20 (.ld 2 true (.t 19)),
  au 4 21 (ru 4) (.mv (.t 1)),
  au 5 22 (ru 5) (.mv (.t 5)),
  au 6 23 (ru 4) (.ia 2 (.t 21) (.t 22)),
  au 7 24 (ru 4) (.ld 2 true (.t 23)),
  ao 8 25 (.call (.k (.c (.fn 58 []))) [(.t 20), (.t 24)]),
  ao 9 26 (.un .not (.t 25))]
def r27_11 : List AOper := [ao 0 4 (.mv (.k (.b false)))]
def c27_12 : ACode := .seq (.reg r27_11) .ret
def c27_13 : ACode := .cond (.t 26) c27_12 .skip
def c27_14 : ACode := .seq (.reg r27_10) c27_13
def c27_15 : ACode := .block 1 c27_14
def r27_16 : List AOper := [ao 0 15 (.mv (.t 5)),
  ao 1 16 (.bin .add (.t 15) (.k (.i 1))),
  ao 2 5 (.mv (.t 16))]
def c27_17 : ACode := .seq c27_9 (.seq c27_15 (.reg r27_16))
def c27_18 : ACode := .loop c27_17
def c27_19 : ACode := .block 0 c27_18
def c27_20 : ACode := .seq (.reg r27_6) c27_19
def r27_21 : List AOper := [ao 0 4 (.mv (.k (.b true)))]
def c27 : ACode := .seq (.reg r27_0) (.seq c27_5 (.seq c27_20 (.seq (.reg r27_21) .ret)))
def s27 : List ARes := [.tmp 4]
theorem ok27 : okF Try.prog 27 27 c27 s27 := ⟨Try.f27, Try.func27, Try.ntmps27, by kernel_rfl, by kernel_rfl, by kernel_rfl⟩
def inv27 (xs : List Hd) (i : Nat) (σ : St) : Prop := σ.t 0 = tL (en eH xs) ∧ σ.t 1 = tL (en eH xs) ∧ σ.t 5 = .i i
def UCy_6 := Bx.mk <|
  aN (uA c27.eq_1) <| aN (uR r27_0.eq_1) <| aN (uA c27_5.eq_1) <| aN (uR r27_1.eq_1) <| aN (uA c27_4.eq_1) <| aN (uA c27_3.eq_1) <| aN (uR r27_2.eq_1) <| aN (uA c27_20.eq_1) <| aN (uR r27_6.eq_1) <| aN (uA c27_19.eq_1) <| aN (uA c27_18.eq_1) <| aN (uR r27_21.eq_1) <| s27.eq_1
def UCy_9 := Bx.mk <|
  aN (uA c27_17.eq_1) <| aN (uA c27_9.eq_1) <| aN (uR r27_7.eq_1) <| aN (uA c27_8.eq_1) <| aN (uA c27_15.eq_1) <| aN (uA c27_14.eq_1) <| aN (uR r27_10.eq_1) <| aN (uA c27_13.eq_1) <| aN (uA c27_12.eq_1) <| aN (uR r27_11.eq_1) <| aN (uR r27_16.eq_1) <| aN (uA c27.eq_1) <| aN (uR r27_0.eq_1) <| aN (uA c27_5.eq_1) <| aN (uR r27_1.eq_1) <| aN (uA c27_4.eq_1) <| aN (uA c27_3.eq_1) <| aN (uR r27_2.eq_1) <| aN (uA c27_20.eq_1) <| aN (uR r27_6.eq_1) <| aN (uA c27_19.eq_1) <| aN (uA c27_18.eq_1) <| aN (uR r27_21.eq_1) <| s27.eq_1
theorem eqHs_ok (xs : List Hd) (hl : xs.length ≤ 2000000) : ACallsF Try.prog 27 [tL (en eH xs), tL (en eH xs)] [] (.b true) := by
  have n0 : ((xs.length : Int) != xs.length) = false := by simp
  refine ACallsF.intro ok27 follows fun X c0 => ?_
  simp only [RUX, Nat.reduceAdd, reduceIte, Nat.reduceEqDiff, Nat.reduceLT, Nat.reduceLeDiff, reduceCtorEq, eq_self, FIX, forall_const, endE_n, endE_r, CHT, disj, Nat.reduceBEq, beq_self_eq_true, APT, APX, forall_eq, ALT, KI, UCy_6.d, n0]
  refine AW.upto xs.length (inv27 xs) ⟨rfl, rfl, rfl⟩ fun i t H c hi h => ?_
  obtain ⟨e0, e1, e5⟩ := h
  simp only [T.c, T.i, tL] at e0 e1 e5
  by_cases k1 : (i : Int) < xs.length
  · obtain ⟨x, hx⟩ : ∃ x, xs[i]? = some x := ⟨_, List.getElem?_eq_getElem (by omega)⟩
    have ex := en_at eH hx
    have gz : (0 : Int) ≤ i := by omega
    have gw := w1_ok (i := i) (by omega)
    simp only [RUX, Nat.reduceAdd, reduceIte, Nat.reduceEqDiff, Nat.reduceLT, Nat.reduceLeDiff, reduceCtorEq, eq_self, FIX, forall_const, endE_n, endE_r, CHT, disj, Nat.reduceBEq, beq_self_eq_true, APT, APX, forall_eq, ALT, KI, UCy_9.d, e0, e1, e5, en_len, k1, gz, ex, eH, ne0, gw]
    refine callC (eqHd_ok x) rfl rfl rfl rfl ?_
    simp only [RUX, Nat.reduceAdd, reduceIte, Nat.reduceEqDiff, Nat.reduceLT, Nat.reduceLeDiff, reduceCtorEq, eq_self, FIX, forall_const, endE_n, endE_r, CHT, disj, Nat.reduceBEq, beq_self_eq_true, APT, APX, forall_eq, ALT, KI, UCy_9.d, e0, e1, e5, en_len, k1, gz, ex, eH, gw]
    exact ⟨by omega, e0, e1, rfl⟩
  · simp only [RUX, Nat.reduceAdd, reduceIte, Nat.reduceEqDiff, Nat.reduceLT, Nat.reduceLeDiff, reduceCtorEq, eq_self, FIX, forall_const, endE_n, endE_r, CHT, disj, Nat.reduceBEq, beq_self_eq_true, APT, APX, forall_eq, ALT, KI, UCy_9.d, UCy_6.d, e0, e1, e5, en_len, k1]
/- loop.example/teagle/laws.eqCrewWorld -/
def r9_0 : List AOper := [ao 0 2 (.box 29 (.t 0)),
  ao 1 3 (.box 29 (.t 1)),
  ao 2 4 (.mv (.k (.b false)))]
def r9_1 : List AOper := [ao 0 5 (.fa 0 (.t 2)),
  ao 1 6 (.ld 1 false (.t 5)),
  ao 2 7 (.fa 0 (.t 3)),
  ao 3 8 (.ld 1 false (.t 7)),
  ao 4 9 (.bin .neq (.t 6) (.t 8))]
def r9_2 : List AOper := [ao 0 4 (.mv (.k (.b false)))]
def c9_3 : ACode := .seq (.reg r9_2) .ret
def c9_4 : ACode := .cond (.t 9) c9_3 .skip
def c9_5 : ACode := .seq (.reg r9_1) c9_4
def r9_6 : List AOper := [ao 0 10 (.fa 1 (.t 2)),
  ao 1 11 (.ld 1 false (.t 10)),
  ao 2 12 (.fa 1 (.t 3)),
  ao 3 13 (.ld 1 false (.t 12)),
  ao 4 14 (.bin .neq (.t 11) (.t 13))]
def r9_7 : List AOper := [ao 0 4 (.mv (.k (.b false)))]
def c9_8 : ACode := .seq (.reg r9_7) .ret
def c9_9 : ACode := .cond (.t 14) c9_8 .skip
def c9_10 : ACode := .seq (.reg r9_6) c9_9
def r9_11 : List AOper := [ao 0 15 (.fa 2 (.t 2)),
  ao 1 16 (.ld 1 false (.t 15)),
  ao 2 17 (.fa 2 (.t 3)),
  ao 3 18 (.ld 1 false (.t 17)),
  ao 4 19 (.bin .neq (.t 16) (.t 18))]
def r9_12 : List AOper := [ao 0 4 (.mv (.k (.b false)))]
def c9_13 : ACode := .seq (.reg r9_12) .ret
def c9_14 : ACode := .cond (.t 19) c9_13 .skip
def c9_15 : ACode := .seq (.reg r9_11) c9_14
def r9_16 : List AOper := [ao 0 20 (.fa 3 (.t 2)),
  ao 1 21 (.ld 1 false (.t 20)),
  ao 2 22 (.fa 3 (.t 3)),
  ao 3 23 (.ld 1 false (.t 22)),
  ao 4 24 (.bin .neq (.t 21) (.t 23))]
def r9_17 : List AOper := [ao 0 4 (.mv (.k (.b false)))]
def c9_18 : ACode := .seq (.reg r9_17) .ret
def c9_19 : ACode := .cond (.t 24) c9_18 .skip
def c9_20 : ACode := .seq (.reg r9_16) c9_19
def r9_21 : List AOper := [ao 0 25 (.fa 4 (.t 2)),
  ao 1 26 (.ld 1 false (.t 25)),
  ao 2 27 (.fa 4 (.t 3)),
  ao 3 28 (.ld 1 false (.t 27)),
  ao 4 29 (.bin .neq (.t 26) (.t 28))]
def r9_22 : List AOper := [ao 0 4 (.mv (.k (.b false)))]
def c9_23 : ACode := .seq (.reg r9_22) .ret
def c9_24 : ACode := .cond (.t 29) c9_23 .skip
def c9_25 : ACode := .seq (.reg r9_21) c9_24
def r9_26 : List AOper := [ao 0 30 (.fa 5 (.t 2)),
  ao 1 31 (.ld 1 false (.t 30)),
  ao 2 32 (.fa 5 (.t 3)),
  ao 3 33 (.ld 1 false (.t 32)),
  ao 4 34 (.call (.k (.c (.fn 26 []))) [(.t 31), (.t 33)]),
  ao 5 35 (.un .not (.t 34))]
def r9_27 : List AOper := [ao 0 4 (.mv (.k (.b false)))]
def c9_28 : ACode := .seq (.reg r9_27) .ret
def c9_29 : ACode := .cond (.t 35) c9_28 .skip
def c9_30 : ACode := .seq (.reg r9_26) c9_29
def r9_31 : List AOper := [ao 0 36 (.fa 6 (.t 2)),
  ao 1 37 (.ld 1 false (.t 36)),
  ao 2 38 (.fa 6 (.t 3)),
  ao 3 39 (.ld 1 false (.t 38)),
  ao 4 40 (.call (.k (.c (.fn 27 []))) [(.t 37), (.t 39)]),
  ao 5 41 (.un .not (.t 40))]
def r9_32 : List AOper := [ao 0 4 (.mv (.k (.b false)))]
def c9_33 : ACode := .seq (.reg r9_32) .ret
def c9_34 : ACode := .cond (.t 41) c9_33 .skip
def c9_35 : ACode := .seq (.reg r9_31) c9_34
def r9_36 : List AOper := [ao 0 42 (.fa 7 (.t 2)),
  ao 1 43 (.ld 1 false (.t 42)),
  ao 2 44 (.fa 7 (.t 3)),
  ao 3 45 (.ld 1 false (.t 44)),
  ao 4 46 (.bin .neq (.t 43) (.t 45))]
def r9_37 : List AOper := [ao 0 4 (.mv (.k (.b false)))]
def c9_38 : ACode := .seq (.reg r9_37) .ret
def c9_39 : ACode := .cond (.t 46) c9_38 .skip
def c9_40 : ACode := .seq (.reg r9_36) c9_39
def r9_41 : List AOper := [ao 0 47 (.fa 8 (.t 2)),
  ao 1 48 (.ld 1 false (.t 47)),
  ao 2 49 (.fa 8 (.t 3)),
  ao 3 50 (.ld 1 false (.t 49)),
  ao 4 51 (.call (.k (.c (.fn 26 []))) [(.t 48), (.t 50)]),
  ao 5 52 (.un .not (.t 51))]
def r9_42 : List AOper := [ao 0 4 (.mv (.k (.b false)))]
def c9_43 : ACode := .seq (.reg r9_42) .ret
def c9_44 : ACode := .cond (.t 52) c9_43 .skip
def c9_45 : ACode := .seq (.reg r9_41) c9_44
def r9_46 : List AOper := [ao 0 53 (.fa 9 (.t 2)),
  ao 1 54 (.ld 1 false (.t 53)),
  ao 2 55 (.fa 9 (.t 3)),
  ao 3 56 (.ld 1 false (.t 55)),
  ao 4 57 (.bin .neq (.t 54) (.t 56))]
def r9_47 : List AOper := [ao 0 4 (.mv (.k (.b false)))]
def c9_48 : ACode := .seq (.reg r9_47) .ret
def c9_49 : ACode := .cond (.t 57) c9_48 .skip
def c9_50 : ACode := .seq (.reg r9_46) c9_49
def r9_51 : List AOper := [ao 0 58 (.fa 10 (.t 2)),
  ao 1 59 (.ld 1 false (.t 58)),
  ao 2 60 (.fa 10 (.t 3)),
  ao 3 61 (.ld 1 false (.t 60)),
  ao 4 62 (.call (.k (.c (.fn 26 []))) [(.t 59), (.t 61)]),
  ao 5 63 (.un .not (.t 62))]
def r9_52 : List AOper := [ao 0 4 (.mv (.k (.b false)))]
def c9_53 : ACode := .seq (.reg r9_52) .ret
def c9_54 : ACode := .cond (.t 63) c9_53 .skip
def c9_55 : ACode := .seq (.reg r9_51) c9_54
def r9_56 : List AOper := [ao 0 64 (.fa 11 (.t 2)),
  ao 1 65 (.ld 1 false (.t 64)),
  ao 2 66 (.fa 11 (.t 3)),
  ao 3 67 (.ld 1 false (.t 66)),
  ao 4 68 (.bin .neq (.t 65) (.t 67))]
def r9_57 : List AOper := [ao 0 4 (.mv (.k (.b false)))]
def c9_58 : ACode := .seq (.reg r9_57) .ret
def c9_59 : ACode := .cond (.t 68) c9_58 .skip
def c9_60 : ACode := .seq (.reg r9_56) c9_59
def r9_61 : List AOper := [ao 0 69 (.fa 12 (.t 2)),
  ao 1 70 (.ld 1 false (.t 69)),
  ao 2 71 (.fa 12 (.t 3)),
  ao 3 72 (.ld 1 false (.t 71)),
  ao 4 73 (.call (.k (.c (.fn 26 []))) [(.t 70), (.t 72)]),
  ao 5 74 (.un .not (.t 73))]
def r9_62 : List AOper := [ao 0 4 (.mv (.k (.b false)))]
def c9_63 : ACode := .seq (.reg r9_62) .ret
def c9_64 : ACode := .cond (.t 74) c9_63 .skip
def c9_65 : ACode := .seq (.reg r9_61) c9_64
def r9_66 : List AOper := [ao 0 75 (.fa 13 (.t 2)),
  ao 1 76 (.ld 1 false (.t 75)),
  ao 2 77 (.fa 13 (.t 3)),
  ao 3 78 (.ld 1 false (.t 77)),
  ao 4 79 (.bin .neq (.t 76) (.t 78))]
def r9_67 : List AOper := [ao 0 4 (.mv (.k (.b false)))]
def c9_68 : ACode := .seq (.reg r9_67) .ret
def c9_69 : ACode := .cond (.t 79) c9_68 .skip
def c9_70 : ACode := .seq (.reg r9_66) c9_69
def r9_71 : List AOper := [ao 0 80 (.fa 14 (.t 2)),
  ao 1 81 (.ld 1 false (.t 80)),
  ao 2 82 (.fa 14 (.t 3)),
  ao 3 83 (.ld 1 false (.t 82)),
  ao 4 84 (.call (.k (.c (.fn 26 []))) [(.t 81), (.t 83)]),
  ao 5 85 (.un .not (.t 84))]
def r9_72 : List AOper := [ao 0 4 (.mv (.k (.b false)))]
def c9_73 : ACode := .seq (.reg r9_72) .ret
def c9_74 : ACode := .cond (.t 85) c9_73 .skip
def c9_75 : ACode := .seq (.reg r9_71) c9_74
def r9_76 : List AOper := [ao 0 86 (.fa 15 (.t 2)),
  ao 1 87 (.ld 1 false (.t 86)),
  ao 2 88 (.fa 15 (.t 3)),
  ao 3 89 (.ld 1 false (.t 88)),
  ao 4 90 (.bin .neq (.t 87) (.t 89))]
def r9_77 : List AOper := [ao 0 4 (.mv (.k (.b false)))]
def c9_78 : ACode := .seq (.reg r9_77) .ret
def c9_79 : ACode := .cond (.t 90) c9_78 .skip
def c9_80 : ACode := .seq (.reg r9_76) c9_79
def r9_81 : List AOper := [ao 0 91 (.fa 16 (.t 2)),
  ao 1 92 (.ld 1 false (.t 91)),
  ao 2 93 (.fa 16 (.t 3)),
  ao 3 94 (.ld 1 false (.t 93)),
  ao 4 95 (.call (.k (.c (.fn 26 []))) [(.t 92), (.t 94)]),
  ao 5 96 (.un .not (.t 95))]
def r9_82 : List AOper := [ao 0 4 (.mv (.k (.b false)))]
def c9_83 : ACode := .seq (.reg r9_82) .ret
def c9_84 : ACode := .cond (.t 96) c9_83 .skip
def c9_85 : ACode := .seq (.reg r9_81) c9_84
def r9_86 : List AOper := [ao 0 97 (.fa 17 (.t 2)),
  ao 1 98 (.ld 1 false (.t 97)),
  ao 2 99 (.fa 17 (.t 3)),
  ao 3 100 (.ld 1 false (.t 99)),
  ao 4 101 (.bin .neq (.t 98) (.t 100))]
def r9_87 : List AOper := [ao 0 4 (.mv (.k (.b false)))]
def c9_88 : ACode := .seq (.reg r9_87) .ret
def c9_89 : ACode := .cond (.t 101) c9_88 .skip
def c9_90 : ACode := .seq (.reg r9_86) c9_89
def r9_91 : List AOper := [ao 0 4 (.mv (.k (.b true)))]
def c9 : ACode := .seq (.reg r9_0) (.seq c9_5 (.seq c9_10 (.seq c9_15 (.seq c9_20 (.seq c9_25 (.seq c9_30 (.seq c9_35 (.seq c9_40 (.seq c9_45 (.seq c9_50 (.seq c9_55 (.seq c9_60 (.seq c9_65 (.seq c9_70 (.seq c9_75 (.seq c9_80 (.seq c9_85 (.seq c9_90 (.seq (.reg r9_91) .ret)))))))))))))))))))
def s9 : List ARes := [.tmp 4]
theorem ok9 : okF Try.prog 9 102 c9 s9 := ⟨Try.f9, Try.func9, Try.ntmps9, by kernel_rfl, by kernel_rfl, by kernel_rfl⟩
def UCy_7 := Bx.mk <|
  aN (uA c9.eq_1) <| aN (uR r9_0.eq_1) <| aN (uA c9_5.eq_1) <| aN (uR r9_1.eq_1) <| aN (uA c9_4.eq_1) <| aN (uA c9_3.eq_1) <| aN (uR r9_2.eq_1) <| aN (uA c9_10.eq_1) <| aN (uR r9_6.eq_1) <| aN (uA c9_9.eq_1) <| aN (uA c9_8.eq_1) <| aN (uR r9_7.eq_1) <| aN (uA c9_15.eq_1) <| aN (uR r9_11.eq_1) <| aN (uA c9_14.eq_1) <| aN (uA c9_13.eq_1) <| aN (uR r9_12.eq_1) <| aN (uA c9_20.eq_1) <| aN (uR r9_16.eq_1) <| aN (uA c9_19.eq_1) <| aN (uA c9_18.eq_1) <| aN (uR r9_17.eq_1) <| aN (uA c9_25.eq_1) <| aN (uR r9_21.eq_1) <| aN (uA c9_24.eq_1) <| aN (uA c9_23.eq_1) <| aN (uR r9_22.eq_1) <| aN (uA c9_30.eq_1) <| aN (uR r9_26.eq_1) <| aN (uA c9_29.eq_1) <| aN (uA c9_28.eq_1) <| aN (uR r9_27.eq_1) <| aN (uA c9_35.eq_1) <| aN (uR r9_31.eq_1) <| aN (uA c9_34.eq_1) <| aN (uA c9_33.eq_1) <| aN (uR r9_32.eq_1) <| aN (uA c9_40.eq_1) <| aN (uR r9_36.eq_1) <| aN (uA c9_39.eq_1) <| aN (uA c9_38.eq_1) <| aN (uR r9_37.eq_1) <| aN (uA c9_45.eq_1) <| aN (uR r9_41.eq_1) <| aN (uA c9_44.eq_1) <| aN (uA c9_43.eq_1) <| aN (uR r9_42.eq_1) <| aN (uA c9_50.eq_1) <| aN (uR r9_46.eq_1) <| aN (uA c9_49.eq_1) <| aN (uA c9_48.eq_1) <| aN (uR r9_47.eq_1) <| aN (uA c9_55.eq_1) <| aN (uR r9_51.eq_1) <| aN (uA c9_54.eq_1) <| aN (uA c9_53.eq_1) <| aN (uR r9_52.eq_1) <| aN (uA c9_60.eq_1) <| aN (uR r9_56.eq_1) <| aN (uA c9_59.eq_1) <| aN (uA c9_58.eq_1) <| aN (uR r9_57.eq_1) <| aN (uA c9_65.eq_1) <| aN (uR r9_61.eq_1) <| aN (uA c9_64.eq_1) <| aN (uA c9_63.eq_1) <| aN (uR r9_62.eq_1) <| aN (uA c9_70.eq_1) <| aN (uR r9_66.eq_1) <| aN (uA c9_69.eq_1) <| aN (uA c9_68.eq_1) <| aN (uR r9_67.eq_1) <| aN (uA c9_75.eq_1) <| aN (uR r9_71.eq_1) <| aN (uA c9_74.eq_1) <| aN (uA c9_73.eq_1) <| aN (uR r9_72.eq_1) <| aN (uA c9_80.eq_1) <| aN (uR r9_76.eq_1) <| aN (uA c9_79.eq_1) <| aN (uA c9_78.eq_1) <| aN (uR r9_77.eq_1) <| aN (uA c9_85.eq_1) <| aN (uR r9_81.eq_1) <| aN (uA c9_84.eq_1) <| aN (uA c9_83.eq_1) <| aN (uR r9_82.eq_1) <| aN (uA c9_90.eq_1) <| aN (uR r9_86.eq_1) <| aN (uA c9_89.eq_1) <| aN (uA c9_88.eq_1) <| aN (uR r9_87.eq_1) <| aN (uR r9_91.eq_1) <| s9.eq_1
set_option maxHeartbeats 1000000 in
theorem eqCW_ok {w : CW} (h : Small w) : ACallsF Try.prog 9 [tCW w, tCW w] [] (.b true) := by
  refine ACallsF.intro ok9 follows fun X c0 => ?_
  simp only [RUX, Nat.reduceAdd, reduceIte, Nat.reduceEqDiff, Nat.reduceLT, Nat.reduceLeDiff, reduceCtorEq, eq_self, FIX, forall_const, endE_n, endE_r, CHT, disj, Nat.reduceBEq, beq_self_eq_true, APT, APX, forall_eq, ALT, KI, UCy_7.d, ne0]
  refine callC (eqIs_ok w.queue h.q) rfl rfl rfl rfl ?_
  simp only [RUX, Nat.reduceAdd, reduceIte, Nat.reduceEqDiff, Nat.reduceLT, Nat.reduceLeDiff, reduceCtorEq, eq_self, FIX, forall_const, endE_n, endE_r, CHT, disj, Nat.reduceBEq, beq_self_eq_true, APT, APX, forall_eq, ALT, KI, UCy_7.d, ne0]
  refine callC (eqHs_ok w.hands h.h) rfl rfl rfl rfl ?_
  simp only [RUX, Nat.reduceAdd, reduceIte, Nat.reduceEqDiff, Nat.reduceLT, Nat.reduceLeDiff, reduceCtorEq, eq_self, FIX, forall_const, endE_n, endE_r, CHT, disj, Nat.reduceBEq, beq_self_eq_true, APT, APX, forall_eq, ALT, KI, UCy_7.d, ne0]
  refine callC (eqIs_ok w.results h.r) rfl rfl rfl rfl ?_
  simp only [RUX, Nat.reduceAdd, reduceIte, Nat.reduceEqDiff, Nat.reduceLT, Nat.reduceLeDiff, reduceCtorEq, eq_self, FIX, forall_const, endE_n, endE_r, CHT, disj, Nat.reduceBEq, beq_self_eq_true, APT, APX, forall_eq, ALT, KI, UCy_7.d, ne0]
  refine callC (eqIs_ok w.ring h.g) rfl rfl rfl rfl ?_
  simp only [RUX, Nat.reduceAdd, reduceIte, Nat.reduceEqDiff, Nat.reduceLT, Nat.reduceLeDiff, reduceCtorEq, eq_self, FIX, forall_const, endE_n, endE_r, CHT, disj, Nat.reduceBEq, beq_self_eq_true, APT, APX, forall_eq, ALT, KI, UCy_7.d, ne0]
  refine callC (eqIs_ok w.out h.o) rfl rfl rfl rfl ?_
  simp only [RUX, Nat.reduceAdd, reduceIte, Nat.reduceEqDiff, Nat.reduceLT, Nat.reduceLeDiff, reduceCtorEq, eq_self, FIX, forall_const, endE_n, endE_r, CHT, disj, Nat.reduceBEq, beq_self_eq_true, APT, APX, forall_eq, ALT, KI, UCy_7.d, ne0]
  refine callC (eqIs_ok w.got h.t) rfl rfl rfl rfl ?_
  simp only [RUX, Nat.reduceAdd, reduceIte, Nat.reduceEqDiff, Nat.reduceLT, Nat.reduceLeDiff, reduceCtorEq, eq_self, FIX, forall_const, endE_n, endE_r, CHT, disj, Nat.reduceBEq, beq_self_eq_true, APT, APX, forall_eq, ALT, KI, UCy_7.d, ne0]
  refine callC (eqIs_ok w.shut h.s) rfl rfl rfl rfl ?_
  simp only [RUX, Nat.reduceAdd, reduceIte, Nat.reduceEqDiff, Nat.reduceLT, Nat.reduceLeDiff, reduceCtorEq, eq_self, FIX, forall_const, endE_n, endE_r, CHT, disj, Nat.reduceBEq, beq_self_eq_true, APT, APX, forall_eq, ALT, KI, UCy_7.d, ne0]
end Go.V
set_option linter.unusedSimpArgs false
namespace Go.V
open Go.Proofs
/-- What stands in a list that is marked. -/
def marks {α : Type} (m : Nat → α) (s k n : Nat) : List α := (List.range n).map fun j => m (k + s * j)
theorem marks_len {α : Type} (m : Nat → α) (s k n : Nat) : (marks m s k n).length = n := by simp [marks]
theorem marks_at {α : Type} (m : Nat → α) (s k : Nat) {n i : Nat} (h : i < n) : (marks m s k n)[i]? = some (m (k + s * i)) := by simp [marks, h]
def mrk {α : Type} (m : Nat → α) (s : Nat) (xs : List α) (k i : Nat) : List α := marks m s k i ++ xs.drop i
theorem mrk_len {α : Type} (m : Nat → α) (s : Nat) (xs : List α) (k : Nat) {i : Nat} (h : i ≤ xs.length) : (mrk m s xs k i).length = xs.length := by simp [mrk, marks_len]; omega
theorem mrk_zero {α : Type} (m : Nat → α) (s : Nat) (xs : List α) (k : Nat) : mrk m s xs k 0 = xs := by simp [mrk, marks]
theorem mrk_end {α : Type} (m : Nat → α) (s : Nat) (xs : List α) (k : Nat) : mrk m s xs k xs.length = marks m s k xs.length := by simp [mrk]
theorem mrk_at {α : Type} (m : Nat → α) (s : Nat) (xs : List α) (k : Nat) {i : Nat} {x : α} (h : xs[i]? = some x) : (mrk m s xs k i)[i]? = some x := by
  rw [mrk, List.getElem?_append_right (by rw [marks_len]; omega), marks_len, Nat.sub_self, List.getElem?_drop]; simpa using h
theorem mrk_set {α : Type} (m : Nat → α) (s : Nat) (xs : List α) (k : Nat) {i : Nat} {x : α} (h : xs[i]? = some x) : (mrk m s xs k i).set i (m (k + s * i)) = mrk m s xs k (i + 1) := by
  have hi := (List.getElem?_eq_some_iff.1 h).1
  rw [mrk, List.set_append, if_neg (by rw [marks_len]; omega), marks_len, Nat.sub_self, List.drop_eq_getElem_cons hi, List.set_cons_zero, mrk]
  simp [marks, List.range_succ]
def mI (k : Nat) : Int := k
def mH (k : Nat) : Hd := ⟨k, ((k + 1 : Nat) : Int)⟩
theorem SET : (type_of% @List.getElem?_set_self.{0}) ∧ (type_of% @List.set_set.{0}) ∧ (type_of% @List.length_set.{0}) := ⟨@List.getElem?_set_self.{0}, @List.set_set.{0}, @List.length_set.{0}⟩
/-- An array that is handed on. -/
abbrev arH (c m v st : Nat) (ty : TypeId) (es es' : List (List V)) : Hand := ⟨c, m, some (.arr v true st ty es), .arr v true st ty es', true⟩
theorem callM1 {P : Program} {t : Nat → T} {H : HMap} {c : Nat} {f : Opd} {args : List Opd} {fid : FuncId} {n m v N st : Nat} {ty : TypeId} {es es' : List (List V)} {x r : T} {k : Nat} {d : Option Nat} {un : List Nat} {l : List AOper} {prev : List (Nat × List Nat × List Nat)} {K : St → Prop}
    (hC : ACallsF P fid [.c (.own n v N), x] [arH n m v st ty es es'] r) (hf : ev t f = .pt (.one (.fn fid []))) (hl : args.map (ev t) = [.c (.own m v N), x]) (hH : H m = some (.arr v true st ty es)) (hx : closedA x = true) (hr : closedT r = true)
    (hk : chk prev un ⟨r, [(m, .arr v true st ty es')], [m], [m]⟩ = true ∧ DRun P l ((k, [m], [m]) :: prev) K ⟨updD t d r, upd H m (some (.arr v true st ty es')), c⟩) :
    step P k d un (.call f args) l prev K t H c := by
  have hN : renN [arH n m v st ty es es'] n = some (arH n m v st ty es es') := by simp [renN]
  obtain ⟨x1, x2⟩ := closed_A [arH n m v st ty es es'] H x hx
  refine callW (caps := []) («as» := [.c (.own m v N), x]) (ws := []) (ns := []) (r' := r) (ob := [(m, .arr v true st ty es')]) [arH n m v st ty es es'] hC hf ?_ ?_ ⟨?_, trivial⟩ (by simp) (by simp) (closed_T _ r hr _) ?_ ?_
  · rw [hl]
    have a1 : lendT H (T.c (.own n v N)) (T.c (.own m v N)) = some (T.c (.own m v N), [], []) := rfl
    simp only [List.map_nil, List.append_nil, lendTs, a1, x1]
  · have a1 : renIT [arH n m v st ty es es'] (T.c (.own n v N)) = some (T.c (.own m v N)) := by simp only [T.c, renIT, renI, inN, hN, Option.bind_some, Option.map_some]
    simp only [renITs, a1, x2]
  · show (match renIB [arH n m v st ty es es'] (.arr v true st ty es) with | some B => (updH H []) m = some B | none => False)
    simp only [renIB, updH]
    exact hH
  · simp only [renOBs, renOB, verOf, if_true, Blk.ver]
  · have hq : quiet r [arH n m v st ty es es'] = false := by simp [quiet]
    simpa [hq, updH] using hk
/- loop.example/teagle/laws.markIntS -/
def r28_0 : List AOper := [ao 0 4 (.mv (.k (.i 0)))]
def r28_1 : List AOper := [ao 0 5 (.mv (.k (.i 0)))]
def r28_2 : List AOper := [ao 0 6 (.mv (.t 5)),
  ao 1 7 (.mv (.t 0)),
  ao 2 8 (.len (.t 7)),
  ao 3 9 (.bin .lss (.t 6) (.t 8))]
def c28_3 : ACode := .cond (.t 9) .skip (.exit 0)
def c28_4 : ACode := .seq (.reg r28_2) c28_3
def r28_5 : List AOper := [ao 0 12 (.mv (.t 0)),
  ao 1 13 (.mv (.t 5)),
  ao 2 14 (.mv (.t 1)),
  ao 3 15 (.ia 1 (.t 12) (.t 13)),
  an 4 (.st 1 (.t 15) (.t 14))]
def r28_6 : List AOper := [ao 0 16 (.mv (.t 1)),
  ao 1 17 (.bin .add (.t 16) (.k (.i 1))),
  ao 2 1 (.mv (.t 17))]
def c28_7 : ACode := .seq (.reg r28_5) (.reg r28_6)
def c28_8 : ACode := .block 1 c28_7
def r28_9 : List AOper := [ao 0 10 (.mv (.t 5)),
  ao 1 11 (.bin .add (.t 10) (.k (.i 1))),
  ao 2 5 (.mv (.t 11))]
def c28_10 : ACode := .seq c28_4 (.seq c28_8 (.reg r28_9))
def c28_11 : ACode := .loop c28_10
def c28_12 : ACode := .block 0 c28_11
def c28_13 : ACode := .seq (.reg r28_1) c28_12
def r28_14 : List AOper := [ao 0 18 (.mv (.t 1)),
  ao 1 4 (.mv (.t 18))]
def c28 : ACode := .seq (.reg r28_0) (.seq c28_13 (.seq (.reg r28_14) .ret))
def s28 : List ARes := [.tmp 4]
theorem ok28 : okF Try.prog 28 19 c28 s28 := ⟨Try.f28, Try.func28, Try.ntmps28, by kernel_rfl, by kernel_rfl, by kernel_rfl⟩
def inv28 (xs : List Int) (k v : Nat) (i : Nat) (σ : St) : Prop := σ.t 0 = .c (.own 2001 v xs.length) ∧ σ.H 2001 = some (.arr v true 1 3 (en eI (mrk mI 1 xs k i))) ∧ σ.t 1 = .i ((k + 1 * i : Nat) : Int) ∧ σ.t 5 = .i i
def UCz_1 := Bx.mk <|
  aN (uA c28.eq_1) <| aN (uR r28_0.eq_1) <| aN (uA c28_13.eq_1) <| aN (uR r28_1.eq_1) <| aN (uA c28_12.eq_1) <| aN (uA c28_11.eq_1) <| aN (uR r28_14.eq_1) <| s28.eq_1
def UCz_7 := Bx.mk <|
  aN (uA c28_10.eq_1) <| aN (uA c28_4.eq_1) <| aN (uR r28_2.eq_1) <| aN (uA c28_3.eq_1) <| aN (uA c28_8.eq_1) <| aN (uA c28_7.eq_1) <| aN (uR r28_5.eq_1) <| aN (uR r28_6.eq_1) <| aN (uR r28_9.eq_1) <| aN (uA c28.eq_1) <| aN (uR r28_0.eq_1) <| aN (uA c28_13.eq_1) <| aN (uR r28_1.eq_1) <| aN (uA c28_12.eq_1) <| aN (uA c28_11.eq_1) <| aN (uR r28_14.eq_1) <| s28.eq_1
theorem markIs_ok (xs : List Int) (k : Nat) (h1 : 1 ≤ k) (hk : k + 1 * xs.length ≤ 100000000) (m v : Nat) : ACallsF Try.prog 28 [.c (.own 2001 v xs.length), .i k] [arH 2001 m v 1 3 (en eI xs) (en eI (marks mI 1 k xs.length))] (.i ((k + 1 * xs.length : Nat) : Int)) := by
  refine ACallsF.intro ok28 follows fun X c0 => ?_
  simp only [RUX, Nat.reduceAdd, reduceIte, Nat.reduceEqDiff, Nat.reduceLT, Nat.reduceLeDiff, reduceCtorEq, eq_self, FIX, forall_const, endE_n, endE_r, CHT, disj, Nat.reduceBEq, beq_self_eq_true, APT, APX, forall_eq, ALT, KI, UCz_1.d]
  refine AW.upto xs.length (inv28 xs k v) ?_ fun i t H c hi h => ?_
  · unfold inv28
    rw [mrk_zero]
    exact ⟨rfl, rfl, rfl, rfl⟩
  obtain ⟨e0, hB, e1, e5⟩ := h
  simp only [T.c, T.i] at e0 hB e1 e5
  have hpl : (mrk mI 1 xs k i).length = xs.length := mrk_len mI 1 xs k hi
  by_cases hlt : i < xs.length
  · obtain ⟨x, hx⟩ : ∃ x, xs[i]? = some x := ⟨_, List.getElem?_eq_getElem hlt⟩
    have ex := en_at eI (mrk_at mI 1 xs k hx)
    have k1 : (i : Int) < xs.length := by omega
    have gz : (0 : Int) ≤ i := by omega
    have gm : i < xs.length := hlt
    have gw := w1_ok (i := i) (by omega)
    have g0 : IntKind.i64.wrap (((k + 1 * i : Nat) : Int) + 1) = ((k + 1 * (i + 1) : Nat) : Int) := (wrap64 (x := ((k + 1 * i : Nat) : Int) + 1) ⟨by omega, by omega⟩).trans (by omega)
    have hn : (en eI (mrk mI 1 xs k i)).set i (eI (mI (k + 1 * i))) = en eI (mrk mI 1 xs k (i + 1)) := by rw [en_set, mrk_set mI 1 xs k hx]
    simp only [RUX, Nat.reduceAdd, reduceIte, Nat.reduceEqDiff, Nat.reduceLT, Nat.reduceLeDiff, reduceCtorEq, eq_self, FIX, forall_const, endE_n, endE_r, CHT, disj, Nat.reduceBEq, beq_self_eq_true, APT, APX, forall_eq, ALT, KI, UCz_7.d, SET, e0, hB, e1, e5, en_len, hpl, k1, gz, gm, ex, eI, g0, gw]
    exact ⟨e0, congrArg (fun q => some (Blk.arr v true 1 3 q)) hn, rfl, rfl⟩
  · have k1 : ¬ (i : Int) < xs.length := by omega
    have hi2 : i = xs.length := by omega
    subst hi2
    rw [mrk_end] at hB
    simp only [RUX, Nat.reduceAdd, reduceIte, Nat.reduceEqDiff, Nat.reduceLT, Nat.reduceLeDiff, reduceCtorEq, eq_self, FIX, forall_const, endE_n, endE_r, CHT, disj, Nat.reduceBEq, beq_self_eq_true, APT, APX, forall_eq, ALT, KI, UCz_7.d, UCz_1.d, e0, hB, e1, e5, en_len, k1, imp_self]
def inv28z (k : Nat) (i : Nat) (σ : St) : Prop := σ.t 0 = tL [] ∧ σ.t 1 = .i k ∧ σ.t 5 = .i i
theorem markIs_okz (k : Nat) : ACallsF Try.prog 28 [tL [], .i k] [] (.i k) := by
  refine ACallsF.intro ok28 follows fun X c0 => ?_
  simp only [RUX, Nat.reduceAdd, reduceIte, Nat.reduceEqDiff, Nat.reduceLT, Nat.reduceLeDiff, reduceCtorEq, eq_self, FIX, forall_const, endE_n, endE_r, CHT, disj, Nat.reduceBEq, beq_self_eq_true, APT, APX, forall_eq, ALT, KI, UCz_1.d]
  refine AW.upto 0 (inv28z k) ⟨rfl, rfl, rfl⟩ fun i t H c hi h => ?_
  obtain ⟨e0, e1, e5⟩ := h
  simp only [T.c, T.i] at e0 e1 e5
  have hi2 : i = 0 := by omega
  subst hi2
  have k1 : ¬ ((0 : Nat) : Int) < ((0 : Nat) : Int) := by omega
  simp only [RUX, Nat.reduceAdd, reduceIte, Nat.reduceEqDiff, Nat.reduceLT, Nat.reduceLeDiff, reduceCtorEq, eq_self, FIX, forall_const, endE_n, endE_r, CHT, disj, Nat.reduceBEq, beq_self_eq_true, APT, APX, forall_eq, ALT, KI, UCz_7.d, UCz_1.d, e0, e1, e5, List.length_nil, k1]
/- loop.example/teagle/laws.markCrewHandS -/
def r29_0 : List AOper := [ao 0 4 (.mv (.k (.i 0)))]
def r29_1 : List AOper := [ao 0 5 (.mv (.k (.i 0)))]
def r29_2 : List AOper := [ao 0 6 (.mv (.t 5)),
  ao 1 7 (.mv (.t 0)),
  ao 2 8 (.len (.t 7)),
  ao 3 9 (.bin .lss (.t 6) (.t 8))]
def c29_3 : ACode := .cond (.t 9) .skip (.exit 0)
def c29_4 : ACode := .seq (.reg r29_2) c29_3
def r29_5 : List AOper := [ao 0 12 (.mv (.t 0)),
  ao 1 13 (.mv (.t 5)),
  ao 2 14 (.mv (.t 1)),
  ao 3 15 (.ia 2 (.t 12) (.t 13)),
  ao 4 16 (.fa 0 (.t 15)),
  an 5 (.st 1 (.t 16) (.t 14))]
def r29_6 : List AOper := [ao 0 17 (.mv (.t 1)),
  ao 1 18 (.bin .add (.t 17) (.k (.i 1))),
  ao 2 1 (.mv (.t 18))]
def r29_7 : List AOper := [ao 0 19 (.mv (.t 0)),
  ao 1 20 (.mv (.t 5)),
  ao 2 21 (.mv (.t 1)),
  ao 3 22 (.ia 2 (.t 19) (.t 20)),
  ao 4 23 (.fa 1 (.t 22)),
  an 5 (.st 1 (.t 23) (.t 21))]
def r29_8 : List AOper := [ao 0 24 (.mv (.t 1)),
  ao 1 25 (.bin .add (.t 24) (.k (.i 1))),
  ao 2 1 (.mv (.t 25))]
def c29_9 : ACode := .seq (.reg r29_5) (.seq (.reg r29_6) (.seq (.reg r29_7) (.reg r29_8)))
def c29_10 : ACode := .block 1 c29_9
def r29_11 : List AOper := [ao 0 10 (.mv (.t 5)),
  ao 1 11 (.bin .add (.t 10) (.k (.i 1))),
  ao 2 5 (.mv (.t 11))]
def c29_12 : ACode := .seq c29_4 (.seq c29_10 (.reg r29_11))
def c29_13 : ACode := .loop c29_12
def c29_14 : ACode := .block 0 c29_13
def c29_15 : ACode := .seq (.reg r29_1) c29_14
def r29_16 : List AOper := [ao 0 26 (.mv (.t 1)),
  ao 1 4 (.mv (.t 26))]
def c29 : ACode := .seq (.reg r29_0) (.seq c29_15 (.seq (.reg r29_16) .ret))
def s29 : List ARes := [.tmp 4]
theorem ok29 : okF Try.prog 29 27 c29 s29 := ⟨Try.f29, Try.func29, Try.ntmps29, by kernel_rfl, by kernel_rfl, by kernel_rfl⟩
def inv29 (xs : List Hd) (k v : Nat) (i : Nat) (σ : St) : Prop := σ.t 0 = .c (.own 2001 v xs.length) ∧ σ.H 2001 = some (.arr v true 2 70 (en eH (mrk mH 2 xs k i))) ∧ σ.t 1 = .i ((k + 2 * i : Nat) : Int) ∧ σ.t 5 = .i i
def UCz_2 := Bx.mk <|
  aN (uA c29.eq_1) <| aN (uR r29_0.eq_1) <| aN (uA c29_15.eq_1) <| aN (uR r29_1.eq_1) <| aN (uA c29_14.eq_1) <| aN (uA c29_13.eq_1) <| aN (uR r29_16.eq_1) <| s29.eq_1
def UCz_8 := Bx.mk <|
  aN (uA c29_12.eq_1) <| aN (uA c29_4.eq_1) <| aN (uR r29_2.eq_1) <| aN (uA c29_3.eq_1) <| aN (uA c29_10.eq_1) <| aN (uA c29_9.eq_1) <| aN (uR r29_5.eq_1) <| aN (uR r29_6.eq_1) <| aN (uR r29_7.eq_1) <| aN (uR r29_8.eq_1) <| aN (uR r29_11.eq_1) <| aN (uA c29.eq_1) <| aN (uR r29_0.eq_1) <| aN (uA c29_15.eq_1) <| aN (uR r29_1.eq_1) <| aN (uA c29_14.eq_1) <| aN (uA c29_13.eq_1) <| aN (uR r29_16.eq_1) <| s29.eq_1
theorem markHs_ok (xs : List Hd) (k : Nat) (h1 : 1 ≤ k) (hk : k + 2 * xs.length ≤ 100000000) (m v : Nat) : ACallsF Try.prog 29 [.c (.own 2001 v xs.length), .i k] [arH 2001 m v 2 70 (en eH xs) (en eH (marks mH 2 k xs.length))] (.i ((k + 2 * xs.length : Nat) : Int)) := by
  refine ACallsF.intro ok29 follows fun X c0 => ?_
  simp only [RUX, Nat.reduceAdd, reduceIte, Nat.reduceEqDiff, Nat.reduceLT, Nat.reduceLeDiff, reduceCtorEq, eq_self, FIX, forall_const, endE_n, endE_r, CHT, disj, Nat.reduceBEq, beq_self_eq_true, APT, APX, forall_eq, ALT, KI, UCz_2.d]
  refine AW.upto xs.length (inv29 xs k v) ?_ fun i t H c hi h => ?_
  · unfold inv29
    rw [mrk_zero]
    exact ⟨rfl, rfl, rfl, rfl⟩
  obtain ⟨e0, hB, e1, e5⟩ := h
  simp only [T.c, T.i] at e0 hB e1 e5
  have hpl : (mrk mH 2 xs k i).length = xs.length := mrk_len mH 2 xs k hi
  by_cases hlt : i < xs.length
  · obtain ⟨x, hx⟩ : ∃ x, xs[i]? = some x := ⟨_, List.getElem?_eq_getElem hlt⟩
    have ex := en_at eH (mrk_at mH 2 xs k hx)
    have k1 : (i : Int) < xs.length := by omega
    have gz : (0 : Int) ≤ i := by omega
    have gm : i < xs.length := hlt
    have gw := w1_ok (i := i) (by omega)
    have g0 : IntKind.i64.wrap (((k + 2 * i : Nat) : Int) + 1) = ((k + 2 * i + 1 : Nat) : Int) := (wrap64 (x := ((k + 2 * i : Nat) : Int) + 1) ⟨by omega, by omega⟩).trans (by omega)
    have g1 : IntKind.i64.wrap (((k + 2 * i + 1 : Nat) : Int) + 1) = ((k + 2 * (i + 1) : Nat) : Int) := (wrap64 (x := ((k + 2 * i + 1 : Nat) : Int) + 1) ⟨by omega, by omega⟩).trans (by omega)
    have hn : (en eH (mrk mH 2 xs k i)).set i (eH (mH (k + 2 * i))) = en eH (mrk mH 2 xs k (i + 1)) := by rw [en_set, mrk_set mH 2 xs k hx]
    simp only [RUX, Nat.reduceAdd, reduceIte, Nat.reduceEqDiff, Nat.reduceLT, Nat.reduceLeDiff, reduceCtorEq, eq_self, FIX, forall_const, endE_n, endE_r, CHT, disj, Nat.reduceBEq, beq_self_eq_true, APT, APX, forall_eq, ALT, KI, UCz_8.d, SET, e0, hB, e1, e5, en_len, hpl, k1, gz, gm, ex, eH, g0, g1, gw]
    exact ⟨e0, congrArg (fun q => some (Blk.arr v true 2 70 q)) hn, rfl, rfl⟩
  · have k1 : ¬ (i : Int) < xs.length := by omega
    have hi2 : i = xs.length := by omega
    subst hi2
    rw [mrk_end] at hB
    simp only [RUX, Nat.reduceAdd, reduceIte, Nat.reduceEqDiff, Nat.reduceLT, Nat.reduceLeDiff, reduceCtorEq, eq_self, FIX, forall_const, endE_n, endE_r, CHT, disj, Nat.reduceBEq, beq_self_eq_true, APT, APX, forall_eq, ALT, KI, UCz_8.d, UCz_2.d, e0, hB, e1, e5, en_len, k1, imp_self]
def inv29z (k : Nat) (i : Nat) (σ : St) : Prop := σ.t 0 = tL [] ∧ σ.t 1 = .i k ∧ σ.t 5 = .i i
theorem markHs_okz (k : Nat) : ACallsF Try.prog 29 [tL [], .i k] [] (.i k) := by
  refine ACallsF.intro ok29 follows fun X c0 => ?_
  simp only [RUX, Nat.reduceAdd, reduceIte, Nat.reduceEqDiff, Nat.reduceLT, Nat.reduceLeDiff, reduceCtorEq, eq_self, FIX, forall_const, endE_n, endE_r, CHT, disj, Nat.reduceBEq, beq_self_eq_true, APT, APX, forall_eq, ALT, KI, UCz_2.d]
  refine AW.upto 0 (inv29z k) ⟨rfl, rfl, rfl⟩ fun i t H c hi h => ?_
  obtain ⟨e0, e1, e5⟩ := h
  simp only [T.c, T.i] at e0 e1 e5
  have hi2 : i = 0 := by omega
  subst hi2
  have k1 : ¬ ((0 : Nat) : Int) < ((0 : Nat) : Int) := by omega
  simp only [RUX, Nat.reduceAdd, reduceIte, Nat.reduceEqDiff, Nat.reduceLT, Nat.reduceLeDiff, reduceCtorEq, eq_self, FIX, forall_const, endE_n, endE_r, CHT, disj, Nat.reduceBEq, beq_self_eq_true, APT, APX, forall_eq, ALT, KI, UCz_8.d, UCz_2.d, e0, e1, e5, List.length_nil, k1]
/- loop.example/teagle/laws.heldIntS -/
def r30_0 : List AOper := [ao 0 4 (.mv (.k (.i 0)))]
def r30_1 : List AOper := [ao 0 5 (.mv (.k (.i 0)))]
def r30_2 : List AOper := [ao 0 6 (.mv (.t 5)),
  ao 1 7 (.mv (.t 0)),
  ao 2 8 (.len (.t 7)),
  ao 3 9 (.bin .lss (.t 6) (.t 8))]
def c30_3 : ACode := .cond (.t 9) .skip (.exit 0)
def c30_4 : ACode := .seq (.reg r30_2) c30_3
def r30_5 : List AOper := [ao 0 12 (.mv (.t 0)),
  ao 1 13 (.mv (.t 5)),
  ao 2 14 (.ia 1 (.t 12) (.t 13)),
  ao 3 15 (.ld 1 false (.t 14)),
  ao 4 16 (.mv (.t 1)),
  ao 5 17 (.bin .neq (.t 15) (.t 16))]
def r30_6 : List AOper := [ao 0 4 (.mv (.k (.i (-1))))]
def c30_7 : ACode := .seq (.reg r30_6) .ret
def c30_8 : ACode := .cond (.t 17) c30_7 .skip
def c30_9 : ACode := .seq (.reg r30_5) c30_8
def r30_10 : List AOper := [ao 0 18 (.mv (.t 1)),
  ao 1 19 (.bin .add (.t 18) (.k (.i 1))),
  ao 2 1 (.mv (.t 19))]
def c30_11 : ACode := .seq c30_9 (.reg r30_10)
def c30_12 : ACode := .block 1 c30_11
def r30_13 : List AOper := [ao 0 10 (.mv (.t 5)),
  ao 1 11 (.bin .add (.t 10) (.k (.i 1))),
  ao 2 5 (.mv (.t 11))]
def c30_14 : ACode := .seq c30_4 (.seq c30_12 (.reg r30_13))
def c30_15 : ACode := .loop c30_14
def c30_16 : ACode := .block 0 c30_15
def c30_17 : ACode := .seq (.reg r30_1) c30_16
def r30_18 : List AOper := [ao 0 20 (.mv (.t 1)),
  ao 1 4 (.mv (.t 20))]
def c30 : ACode := .seq (.reg r30_0) (.seq c30_17 (.seq (.reg r30_18) .ret))
def s30 : List ARes := [.tmp 4]
theorem ok30 : okF Try.prog 30 21 c30 s30 := ⟨Try.f30, Try.func30, Try.ntmps30, by kernel_rfl, by kernel_rfl, by kernel_rfl⟩
def inv30 (N0 k : Nat) (i : Nat) (σ : St) : Prop := σ.t 0 = tL (en eI (marks mI 1 k N0)) ∧ σ.t 1 = .i ((k + 1 * i : Nat) : Int) ∧ σ.t 5 = .i i
def UCz_3 := Bx.mk <|
  aN (uA c30.eq_1) <| aN (uR r30_0.eq_1) <| aN (uA c30_17.eq_1) <| aN (uR r30_1.eq_1) <| aN (uA c30_16.eq_1) <| aN (uA c30_15.eq_1) <| aN (uR r30_18.eq_1) <| s30.eq_1
def UCz_9 := Bx.mk <|
  aN (uA c30_14.eq_1) <| aN (uA c30_4.eq_1) <| aN (uR r30_2.eq_1) <| aN (uA c30_3.eq_1) <| aN (uA c30_12.eq_1) <| aN (uA c30_11.eq_1) <| aN (uA c30_9.eq_1) <| aN (uR r30_5.eq_1) <| aN (uA c30_8.eq_1) <| aN (uA c30_7.eq_1) <| aN (uR r30_6.eq_1) <| aN (uR r30_10.eq_1) <| aN (uR r30_13.eq_1) <| aN (uA c30.eq_1) <| aN (uR r30_0.eq_1) <| aN (uA c30_17.eq_1) <| aN (uR r30_1.eq_1) <| aN (uA c30_16.eq_1) <| aN (uA c30_15.eq_1) <| aN (uR r30_18.eq_1) <| s30.eq_1
theorem heldIs_ok (N0 : Nat) (k : Nat) (h1 : 1 ≤ k) (hk : k + 1 * N0 ≤ 100000000) : ACallsF Try.prog 30 [tL (en eI (marks mI 1 k N0)), .i k] [] (.i ((k + 1 * N0 : Nat) : Int)) := by
  refine ACallsF.intro ok30 follows fun X c0 => ?_
  simp only [RUX, Nat.reduceAdd, reduceIte, Nat.reduceEqDiff, Nat.reduceLT, Nat.reduceLeDiff, reduceCtorEq, eq_self, FIX, forall_const, endE_n, endE_r, CHT, disj, Nat.reduceBEq, beq_self_eq_true, APT, APX, forall_eq, ALT, KI, UCz_3.d]
  refine AW.upto N0 (inv30 N0 k) ⟨rfl, rfl, rfl⟩ fun i t H c hi h => ?_
  obtain ⟨e0, e1, e5⟩ := h
  simp only [T.c, T.i, tL] at e0 e1 e5
  have hpl : (marks mI 1 k N0).length = N0 := marks_len mI 1 k N0
  by_cases hlt : i < N0
  · have ex := en_at eI (marks_at mI 1 k hlt)
    have k1 : (i : Int) < N0 := by omega
    have gz : (0 : Int) ≤ i := by omega
    have gw := w1_ok (i := i) (by omega)
    have g0 : IntKind.i64.wrap (((k + 1 * i : Nat) : Int) + 1) = ((k + 1 * (i + 1) : Nat) : Int) := (wrap64 (x := ((k + 1 * i : Nat) : Int) + 1) ⟨by omega, by omega⟩).trans (by omega)
    simp only [RUX, Nat.reduceAdd, reduceIte, Nat.reduceEqDiff, Nat.reduceLT, Nat.reduceLeDiff, reduceCtorEq, eq_self, FIX, forall_const, endE_n, endE_r, CHT, disj, Nat.reduceBEq, beq_self_eq_true, APT, APX, forall_eq, ALT, KI, UCz_9.d, e0, e1, e5, en_len, hpl, k1, gz, ex, eI, mI, g0, gw, ne0]
    exact ⟨hlt, e0, rfl, rfl⟩
  · have k1 : ¬ (i : Int) < N0 := by omega
    have hi2 : i = N0 := by omega
    subst hi2
    simp only [RUX, Nat.reduceAdd, reduceIte, Nat.reduceEqDiff, Nat.reduceLT, Nat.reduceLeDiff, reduceCtorEq, eq_self, FIX, forall_const, endE_n, endE_r, CHT, disj, Nat.reduceBEq, beq_self_eq_true, APT, APX, forall_eq, ALT, KI, UCz_9.d, UCz_3.d, e0, e1, e5, en_len, hpl, k1]
/- loop.example/teagle/laws.heldCrewHandS -/
def r31_0 : List AOper := [ao 0 4 (.mv (.k (.i 0)))]
def r31_1 : List AOper := [ao 0 5 (.mv (.k (.i 0)))]
def r31_2 : List AOper := [ao 0 6 (.mv (.t 5)),
  ao 1 7 (.mv (.t 0)),
  ao 2 8 (.len (.t 7)),
  ao 3 9 (.bin .lss (.t 6) (.t 8))]
def c31_3 : ACode := .cond (.t 9) .skip (.exit 0)
def c31_4 : ACode := .seq (.reg r31_2) c31_3
def r31_5 : List AOper := [ao 0 12 (.mv (.t 0)),
  ao 1 13 (.mv (.t 5)),
  ao 2 14 (.ia 2 (.t 12) (.t 13)),
  ao 3 15 (.fa 0 (.t 14)),
  ao 4 16 (.ld 1 false (.t 15)),
  ao 5 17 (.mv (.t 1)),
  ao 6 18 (.bin .neq (.t 16) (.t 17))]
def r31_6 : List AOper := [ao 0 4 (.mv (.k (.i (-1))))]
def c31_7 : ACode := .seq (.reg r31_6) .ret
def c31_8 : ACode := .cond (.t 18) c31_7 .skip
def c31_9 : ACode := .seq (.reg r31_5) c31_8
def r31_10 : List AOper := [ao 0 19 (.mv (.t 1)),
  ao 1 20 (.bin .add (.t 19) (.k (.i 1))),
  ao 2 1 (.mv (.t 20))]
def r31_11 : List AOper := [ao 0 21 (.mv (.t 0)),
  ao 1 22 (.mv (.t 5)),
  ao 2 23 (.ia 2 (.t 21) (.t 22)),
  ao 3 24 (.fa 1 (.t 23)),
  ao 4 25 (.ld 1 false (.t 24)),
  ao 5 26 (.mv (.t 1)),
  ao 6 27 (.bin .neq (.t 25) (.t 26))]
def r31_12 : List AOper := [ao 0 4 (.mv (.k (.i (-1))))]
def c31_13 : ACode := .seq (.reg r31_12) .ret
def c31_14 : ACode := .cond (.t 27) c31_13 .skip
def c31_15 : ACode := .seq (.reg r31_11) c31_14
def r31_16 : List AOper := [ao 0 28 (.mv (.t 1)),
  ao 1 29 (.bin .add (.t 28) (.k (.i 1))),
  ao 2 1 (.mv (.t 29))]
def c31_17 : ACode := .seq c31_9 (.seq (.reg r31_10) (.seq c31_15 (.reg r31_16)))
def c31_18 : ACode := .block 1 c31_17
def r31_19 : List AOper := [ao 0 10 (.mv (.t 5)),
  ao 1 11 (.bin .add (.t 10) (.k (.i 1))),
  ao 2 5 (.mv (.t 11))]
def c31_20 : ACode := .seq c31_4 (.seq c31_18 (.reg r31_19))
def c31_21 : ACode := .loop c31_20
def c31_22 : ACode := .block 0 c31_21
def c31_23 : ACode := .seq (.reg r31_1) c31_22
def r31_24 : List AOper := [ao 0 30 (.mv (.t 1)),
  ao 1 4 (.mv (.t 30))]
def c31 : ACode := .seq (.reg r31_0) (.seq c31_23 (.seq (.reg r31_24) .ret))
def s31 : List ARes := [.tmp 4]
theorem ok31 : okF Try.prog 31 31 c31 s31 := ⟨Try.f31, Try.func31, Try.ntmps31, by kernel_rfl, by kernel_rfl, by kernel_rfl⟩
def inv31 (N0 k : Nat) (i : Nat) (σ : St) : Prop := σ.t 0 = tL (en eH (marks mH 2 k N0)) ∧ σ.t 1 = .i ((k + 2 * i : Nat) : Int) ∧ σ.t 5 = .i i
def UCz_4 := Bx.mk <|
  aN (uA c31.eq_1) <| aN (uR r31_0.eq_1) <| aN (uA c31_23.eq_1) <| aN (uR r31_1.eq_1) <| aN (uA c31_22.eq_1) <| aN (uA c31_21.eq_1) <| aN (uR r31_24.eq_1) <| s31.eq_1
def UCz_10 := Bx.mk <|
  aN (uA c31_20.eq_1) <| aN (uA c31_4.eq_1) <| aN (uR r31_2.eq_1) <| aN (uA c31_3.eq_1) <| aN (uA c31_18.eq_1) <| aN (uA c31_17.eq_1) <| aN (uA c31_9.eq_1) <| aN (uR r31_5.eq_1) <| aN (uA c31_8.eq_1) <| aN (uA c31_7.eq_1) <| aN (uR r31_6.eq_1) <| aN (uR r31_10.eq_1) <| aN (uA c31_15.eq_1) <| aN (uR r31_11.eq_1) <| aN (uA c31_14.eq_1) <| aN (uA c31_13.eq_1) <| aN (uR r31_12.eq_1) <| aN (uR r31_16.eq_1) <| aN (uR r31_19.eq_1) <| aN (uA c31.eq_1) <| aN (uR r31_0.eq_1) <| aN (uA c31_23.eq_1) <| aN (uR r31_1.eq_1) <| aN (uA c31_22.eq_1) <| aN (uA c31_21.eq_1) <| aN (uR r31_24.eq_1) <| s31.eq_1
theorem heldHs_ok (N0 : Nat) (k : Nat) (h1 : 1 ≤ k) (hk : k + 2 * N0 ≤ 100000000) : ACallsF Try.prog 31 [tL (en eH (marks mH 2 k N0)), .i k] [] (.i ((k + 2 * N0 : Nat) : Int)) := by
  refine ACallsF.intro ok31 follows fun X c0 => ?_
  simp only [RUX, Nat.reduceAdd, reduceIte, Nat.reduceEqDiff, Nat.reduceLT, Nat.reduceLeDiff, reduceCtorEq, eq_self, FIX, forall_const, endE_n, endE_r, CHT, disj, Nat.reduceBEq, beq_self_eq_true, APT, APX, forall_eq, ALT, KI, UCz_4.d]
  refine AW.upto N0 (inv31 N0 k) ⟨rfl, rfl, rfl⟩ fun i t H c hi h => ?_
  obtain ⟨e0, e1, e5⟩ := h
  simp only [T.c, T.i, tL] at e0 e1 e5
  have hpl : (marks mH 2 k N0).length = N0 := marks_len mH 2 k N0
  by_cases hlt : i < N0
  · have ex := en_at eH (marks_at mH 2 k hlt)
    have k1 : (i : Int) < N0 := by omega
    have gz : (0 : Int) ≤ i := by omega
    have gw := w1_ok (i := i) (by omega)
    have g0 : IntKind.i64.wrap (((k + 2 * i : Nat) : Int) + 1) = ((k + 2 * i + 1 : Nat) : Int) := (wrap64 (x := ((k + 2 * i : Nat) : Int) + 1) ⟨by omega, by omega⟩).trans (by omega)
    have g1 : IntKind.i64.wrap (((k + 2 * i + 1 : Nat) : Int) + 1) = ((k + 2 * (i + 1) : Nat) : Int) := (wrap64 (x := ((k + 2 * i + 1 : Nat) : Int) + 1) ⟨by omega, by omega⟩).trans (by omega)
    simp only [RUX, Nat.reduceAdd, reduceIte, Nat.reduceEqDiff, Nat.reduceLT, Nat.reduceLeDiff, reduceCtorEq, eq_self, FIX, forall_const, endE_n, endE_r, CHT, disj, Nat.reduceBEq, beq_self_eq_true, APT, APX, forall_eq, ALT, KI, UCz_10.d, e0, e1, e5, en_len, hpl, k1, gz, ex, eH, mH, g0, g1, gw, ne0]
    exact ⟨hlt, e0, rfl, rfl⟩
  · have k1 : ¬ (i : Int) < N0 := by omega
    have hi2 : i = N0 := by omega
    subst hi2
    simp only [RUX, Nat.reduceAdd, reduceIte, Nat.reduceEqDiff, Nat.reduceLT, Nat.reduceLeDiff, reduceCtorEq, eq_self, FIX, forall_const, endE_n, endE_r, CHT, disj, Nat.reduceBEq, beq_self_eq_true, APT, APX, forall_eq, ALT, KI, UCz_10.d, UCz_4.d, e0, e1, e5, en_len, hpl, k1]
/-- A world that is marked. -/
def mkCW (k : Nat) (w : CW) : CW := { w with queue := marks mI 1 (k) w.queue.length, hands := marks mH 2 (k + 1 * w.queue.length) w.hands.length, results := marks mI 1 (k + 1 * w.queue.length + 2 * w.hands.length) w.results.length, ring := marks mI 1 (k + 1 * w.queue.length + 2 * w.hands.length + 1 * w.results.length) w.ring.length, out := marks mI 1 (k + 1 * w.queue.length + 2 * w.hands.length + 1 * w.results.length + 1 * w.ring.length) w.out.length, got := marks mI 1 (k + 1 * w.queue.length + 2 * w.hands.length + 1 * w.results.length + 1 * w.ring.length + 1 * w.out.length) w.got.length, shut := marks mI 1 (k + 1 * w.queue.length + 2 * w.hands.length + 1 * w.results.length + 1 * w.ring.length + 1 * w.out.length + 1 * w.got.length) w.shut.length }
def mkN (k : Nat) (w : CW) : Nat := k + 1 * w.queue.length + 2 * w.hands.length + 1 * w.results.length + 1 * w.ring.length + 1 * w.out.length + 1 * w.got.length + 1 * w.shut.length
/-- A world's seven arrays, that are written to. -/
abbrev wM (m a1 a2 a3 a4 a5 a6 a7 : Nat) (w w' : CW) : List Hand := [arH 2001 (m + 1) a1 1 3 (en eI w.queue) (en eI w'.queue), arH 2002 (m + 2) a2 2 70 (en eH w.hands) (en eH w'.hands), arH 2003 (m + 3) a3 1 3 (en eI w.results) (en eI w'.results), arH 2004 (m + 4) a4 1 3 (en eI w.ring) (en eI w'.ring), arH 2005 (m + 5) a5 1 3 (en eI w.out) (en eI w'.out), arH 2006 (m + 6) a6 1 3 (en eI w.got) (en eI w'.got), arH 2007 (m + 7) a7 1 3 (en eI w.shut) (en eI w'.shut)]
abbrev wMO (m a1 a2 a3 a4 a5 a6 a7 : Nat) (w : CW) : List (Nat × Blk) := [(m + 1, bI a1 w.queue), (m + 2, bH a2 w.hands), (m + 3, bI a3 w.results), (m + 4, bI a4 w.ring), (m + 5, bI a5 w.out), (m + 6, bI a6 w.got), (m + 7, bI a7 w.shut)]
theorem callMk {P : Program} {t : Nat → T} {H : HMap} {c : Nat} {f : Opd} {args : List Opd} {fid : FuncId} {m a1 a2 a3 a4 a5 a6 a7 : Nat} {w w' : CW} {x r : T} {k : Nat} {d : Option Nat} {un : List Nat} {l : List AOper} {prev : List (Nat × List Nat × List Nat)} {K : St → Prop}
    (hC : ∀ m a1 a2 a3 a4 a5 a6 a7, ACallsF P fid [.pt (.agg (oC 2001 2002 2003 2004 2005 2006 2007 a1 a2 a3 a4 a5 a6 a7 w)), x] (wM m a1 a2 a3 a4 a5 a6 a7 w w') r) (hf : ev t f = .pt (.one (.fn fid []))) (hl : args.map (ev t) = [.pt (.agg (oC (m + 1) (m + 2) (m + 3) (m + 4) (m + 5) (m + 6) (m + 7) a1 a2 a3 a4 a5 a6 a7 w)), x]) (h1 : H (m + 1) = some (bI a1 w.queue)) (h2 : H (m + 2) = some (bH a2 w.hands)) (h3 : H (m + 3) = some (bI a3 w.results)) (h4 : H (m + 4) = some (bI a4 w.ring)) (h5 : H (m + 5) = some (bI a5 w.out)) (h6 : H (m + 6) = some (bI a6 w.got)) (h7 : H (m + 7) = some (bI a7 w.shut)) (hx : closedA x = true) (hr : closedT r = true)
    (hk : chk prev un ⟨r, wMO m a1 a2 a3 a4 a5 a6 a7 w', wN m, wN m⟩ = true ∧ DRun P l ((k, wN m, wN m) :: prev) K ⟨updD t d r, updH H (wMO m a1 a2 a3 a4 a5 a6 a7 w'), c⟩) :
    step P k d un (.call f args) l prev K t H c := by
  obtain ⟨hs, hhs⟩ : ∃ hs, wM m a1 a2 a3 a4 a5 a6 a7 w w' = hs := ⟨_, rfl⟩
  have N1 : renN hs 2001 = some (arH 2001 (m + 1) a1 1 3 (en eI w.queue) (en eI w'.queue)) := by rw [← hhs]; simp [renN]
  have N2 : renN hs 2002 = some (arH 2002 (m + 2) a2 2 70 (en eH w.hands) (en eH w'.hands)) := by rw [← hhs]; simp [renN]
  have N3 : renN hs 2003 = some (arH 2003 (m + 3) a3 1 3 (en eI w.results) (en eI w'.results)) := by rw [← hhs]; simp [renN]
  have N4 : renN hs 2004 = some (arH 2004 (m + 4) a4 1 3 (en eI w.ring) (en eI w'.ring)) := by rw [← hhs]; simp [renN]
  have N5 : renN hs 2005 = some (arH 2005 (m + 5) a5 1 3 (en eI w.out) (en eI w'.out)) := by rw [← hhs]; simp [renN]
  have N6 : renN hs 2006 = some (arH 2006 (m + 6) a6 1 3 (en eI w.got) (en eI w'.got)) := by rw [← hhs]; simp [renN]
  have N7 : renN hs 2007 = some (arH 2007 (m + 7) a7 1 3 (en eI w.shut) (en eI w'.shut)) := by rw [← hhs]; simp [renN]
  have hnd : (hs.map (·.m)).Nodup := by rw [← hhs]; simp
  have hcd : (hs.map (·.c)).Nodup := by rw [← hhs]; simp
  obtain ⟨x1, x2⟩ := closed_A hs H x hx
  refine callW (caps := []) («as» := [.pt (.agg (oC (m + 1) (m + 2) (m + 3) (m + 4) (m + 5) (m + 6) (m + 7) a1 a2 a3 a4 a5 a6 a7 w)), x]) (ws := []) (ns := []) (r' := r) (ob := wMO m a1 a2 a3 a4 a5 a6 a7 w') hs (by rw [← hhs]; exact hC m a1 a2 a3 a4 a5 a6 a7) hf ?_ ?_ ?_ hnd hcd (closed_T _ r hr _) ?_ ?_
  · have a1 : lendT H (.pt (.agg (oC 2001 2002 2003 2004 2005 2006 2007 a1 a2 a3 a4 a5 a6 a7 w))) (.pt (.agg (oC (m + 1) (m + 2) (m + 3) (m + 4) (m + 5) (m + 6) (m + 7) a1 a2 a3 a4 a5 a6 a7 w))) = some (.pt (.agg (oC (m + 1) (m + 2) (m + 3) (m + 4) (m + 5) (m + 6) (m + 7) a1 a2 a3 a4 a5 a6 a7 w)), [], []) := rfl
    rw [hl]
    simp only [List.map_nil, List.append_nil, lendTs, a1, x1]
  · have a1 : renIT hs (.pt (.agg (oC 2001 2002 2003 2004 2005 2006 2007 a1 a2 a3 a4 a5 a6 a7 w))) = some (.pt (.agg (oC (m + 1) (m + 2) (m + 3) (m + 4) (m + 5) (m + 6) (m + 7) a1 a2 a3 a4 a5 a6 a7 w))) := by simp only [renIT, renIs, renI, inN, N1, N2, N3, N4, N5, N6, N7, Option.bind_some, Option.map_some]
    simp only [renITs, a1, x2]
  · show handsIn H hs hs
    conv => arg 3; rw [← hhs]
    exact ⟨h1, h2, h3, h4, h5, h6, h7, trivial⟩
  · conv => lhs; arg 3; rw [← hhs]
    simp only [renOBs, renOB, verOf, Blk.ver, if_true]
  · have hq : quiet r hs = false := by rw [← hhs]; simp [quiet]
    have e4 : hs.map (·.m) = wN m := by rw [← hhs]; rfl
    rw [hq, e4]
    exact hk
/- loop.example/teagle/laws.markCrewWorld -/
def r10_0 : List AOper := [ao 0 2 (.box 29 (.t 0)),
  ao 1 4 (.mv (.k (.i 0)))]
def r10_1 : List AOper := [ao 0 5 (.fa 5 (.t 2)),
  ao 1 6 (.ld 1 false (.t 5)),
  ao 2 7 (.mv (.t 1)),
  ao 3 8 (.call (.k (.c (.fn 28 []))) [(.t 6), (.t 7)]),
  ao 4 1 (.mv (.t 8))]
def r10_2 : List AOper := [ao 0 9 (.fa 6 (.t 2)),
  ao 1 10 (.ld 1 false (.t 9)),
  ao 2 11 (.mv (.t 1)),
  ao 3 12 (.call (.k (.c (.fn 29 []))) [(.t 10), (.t 11)]),
  ao 4 1 (.mv (.t 12))]
def r10_3 : List AOper := [ao 0 13 (.fa 8 (.t 2)),
  ao 1 14 (.ld 1 false (.t 13)),
  ao 2 15 (.mv (.t 1)),
  ao 3 16 (.call (.k (.c (.fn 28 []))) [(.t 14), (.t 15)]),
  ao 4 1 (.mv (.t 16))]
def r10_4 : List AOper := [ao 0 17 (.fa 10 (.t 2)),
  ao 1 18 (.ld 1 false (.t 17)),
  ao 2 19 (.mv (.t 1)),
  ao 3 20 (.call (.k (.c (.fn 28 []))) [(.t 18), (.t 19)]),
  ao 4 1 (.mv (.t 20))]
def r10_5 : List AOper := [ao 0 21 (.fa 12 (.t 2)),
  ao 1 22 (.ld 1 false (.t 21)),
  ao 2 23 (.mv (.t 1)),
  ao 3 24 (.call (.k (.c (.fn 28 []))) [(.t 22), (.t 23)]),
  ao 4 1 (.mv (.t 24))]
def r10_6 : List AOper := [ao 0 25 (.fa 14 (.t 2)),
  ao 1 26 (.ld 1 false (.t 25)),
  ao 2 27 (.mv (.t 1)),
  ao 3 28 (.call (.k (.c (.fn 28 []))) [(.t 26), (.t 27)]),
  ao 4 1 (.mv (.t 28))]
def r10_7 : List AOper := [ao 0 29 (.fa 16 (.t 2)),
  ao 1 30 (.ld 1 false (.t 29)),
  ao 2 31 (.mv (.t 1)),
  ao 3 32 (.call (.k (.c (.fn 28 []))) [(.t 30), (.t 31)]),
  ao 4 1 (.mv (.t 32))]
def r10_8 : List AOper := [ao 0 33 (.mv (.t 1)),
  ao 1 4 (.mv (.t 33))]
def c10 : ACode := .seq (.reg r10_0) (.seq (.reg r10_1) (.seq (.reg r10_2) (.seq (.reg r10_3) (.seq (.reg r10_4) (.seq (.reg r10_5) (.seq (.reg r10_6) (.seq (.reg r10_7) (.seq (.reg r10_8) .ret))))))))
def s10 : List ARes := [.tmp 4]
theorem ok10 : okF Try.prog 10 34 c10 s10 := ⟨Try.f10, Try.func10, Try.ntmps10, by kernel_rfl, by kernel_rfl, by kernel_rfl⟩
def UCz_5 := Bx.mk <|
  aN (uA c10.eq_1) <| aN (uR r10_0.eq_1) <| aN (uR r10_1.eq_1) <| aN (uR r10_2.eq_1) <| aN (uR r10_3.eq_1) <| aN (uR r10_4.eq_1) <| aN (uR r10_5.eq_1) <| aN (uR r10_6.eq_1) <| aN (uR r10_7.eq_1) <| aN (uR r10_8.eq_1) <| s10.eq_1
set_option maxHeartbeats 1000000 in
theorem markCW_ok {w : CW} (k : Nat) (h1 : 1 ≤ k) (hk : mkN k w ≤ 100000000) (m a1 a2 a3 a4 a5 a6 a7 : Nat) : ACallsF Try.prog 10 [.pt (.agg (oC 2001 2002 2003 2004 2005 2006 2007 a1 a2 a3 a4 a5 a6 a7 w)), .i k] (wM m a1 a2 a3 a4 a5 a6 a7 w (mkCW k w)) (.i (mkN k w)) := by
  unfold mkN at hk
  refine ACallsF.intro ok10 follows fun X c0 => ?_
  simp only [RUX, Nat.reduceAdd, reduceIte, Nat.reduceEqDiff, Nat.reduceLT, Nat.reduceLeDiff, reduceCtorEq, eq_self, wM, FIX, forall_const, endE_n, endE_r, CHT, disj, Nat.reduceBEq, beq_self_eq_true, APT, APX, forall_eq, ALT, KI, UCz_5.d]
  refine callM1 (m := 2001) (markIs_ok w.queue (k) (by omega) (by omega) 2001 a1) rfl rfl rfl rfl rfl ⟨rfl, ?_⟩
  simp only [RUX, Nat.reduceAdd, reduceIte, Nat.reduceEqDiff, Nat.reduceLT, Nat.reduceLeDiff, reduceCtorEq, eq_self, wM, FIX, forall_const, endE_n, endE_r, CHT, disj, Nat.reduceBEq, beq_self_eq_true, APT, APX, forall_eq, ALT, KI, UCz_5.d]
  refine callM1 (m := 2002) (markHs_ok w.hands (k + 1 * w.queue.length) (by omega) (by omega) 2002 a2) rfl rfl rfl rfl rfl ⟨rfl, ?_⟩
  simp only [RUX, Nat.reduceAdd, reduceIte, Nat.reduceEqDiff, Nat.reduceLT, Nat.reduceLeDiff, reduceCtorEq, eq_self, wM, FIX, forall_const, endE_n, endE_r, CHT, disj, Nat.reduceBEq, beq_self_eq_true, APT, APX, forall_eq, ALT, KI, UCz_5.d]
  refine callM1 (m := 2003) (markIs_ok w.results (k + 1 * w.queue.length + 2 * w.hands.length) (by omega) (by omega) 2003 a3) rfl rfl rfl rfl rfl ⟨rfl, ?_⟩
  simp only [RUX, Nat.reduceAdd, reduceIte, Nat.reduceEqDiff, Nat.reduceLT, Nat.reduceLeDiff, reduceCtorEq, eq_self, wM, FIX, forall_const, endE_n, endE_r, CHT, disj, Nat.reduceBEq, beq_self_eq_true, APT, APX, forall_eq, ALT, KI, UCz_5.d]
  refine callM1 (m := 2004) (markIs_ok w.ring (k + 1 * w.queue.length + 2 * w.hands.length + 1 * w.results.length) (by omega) (by omega) 2004 a4) rfl rfl rfl rfl rfl ⟨rfl, ?_⟩
  simp only [RUX, Nat.reduceAdd, reduceIte, Nat.reduceEqDiff, Nat.reduceLT, Nat.reduceLeDiff, reduceCtorEq, eq_self, wM, FIX, forall_const, endE_n, endE_r, CHT, disj, Nat.reduceBEq, beq_self_eq_true, APT, APX, forall_eq, ALT, KI, UCz_5.d]
  refine callM1 (m := 2005) (markIs_ok w.out (k + 1 * w.queue.length + 2 * w.hands.length + 1 * w.results.length + 1 * w.ring.length) (by omega) (by omega) 2005 a5) rfl rfl rfl rfl rfl ⟨rfl, ?_⟩
  simp only [RUX, Nat.reduceAdd, reduceIte, Nat.reduceEqDiff, Nat.reduceLT, Nat.reduceLeDiff, reduceCtorEq, eq_self, wM, FIX, forall_const, endE_n, endE_r, CHT, disj, Nat.reduceBEq, beq_self_eq_true, APT, APX, forall_eq, ALT, KI, UCz_5.d]
  refine callM1 (m := 2006) (markIs_ok w.got (k + 1 * w.queue.length + 2 * w.hands.length + 1 * w.results.length + 1 * w.ring.length + 1 * w.out.length) (by omega) (by omega) 2006 a6) rfl rfl rfl rfl rfl ⟨rfl, ?_⟩
  simp only [RUX, Nat.reduceAdd, reduceIte, Nat.reduceEqDiff, Nat.reduceLT, Nat.reduceLeDiff, reduceCtorEq, eq_self, wM, FIX, forall_const, endE_n, endE_r, CHT, disj, Nat.reduceBEq, beq_self_eq_true, APT, APX, forall_eq, ALT, KI, UCz_5.d]
  refine callM1 (m := 2007) (markIs_ok w.shut (k + 1 * w.queue.length + 2 * w.hands.length + 1 * w.results.length + 1 * w.ring.length + 1 * w.out.length + 1 * w.got.length) (by omega) (by omega) 2007 a7) rfl rfl rfl rfl rfl ⟨rfl, ?_⟩
  simp only [RUX, Nat.reduceAdd, reduceIte, Nat.reduceEqDiff, Nat.reduceLT, Nat.reduceLeDiff, reduceCtorEq, eq_self, wM, FIX, forall_const, endE_n, endE_r, CHT, disj, Nat.reduceBEq, beq_self_eq_true, APT, APX, forall_eq, ALT, KI, UCz_5.d, mkCW, mkN, imp_self, Nat.reduceEqDiff]
theorem markCWz_ok (k : Nat) : ACallsF Try.prog 10 [tCW cw0, .i k] [] (.i k) := by
  refine ACallsF.intro ok10 follows fun X c0 => ?_
  simp only [RUX, Nat.reduceAdd, reduceIte, Nat.reduceEqDiff, Nat.reduceLT, Nat.reduceLeDiff, reduceCtorEq, eq_self, FIX, forall_const, endE_n, endE_r, CHT, disj, Nat.reduceBEq, beq_self_eq_true, APT, APX, forall_eq, ALT, KI, UCz_5.d]
  refine callC (markIs_okz k) rfl rfl rfl rfl ?_
  simp only [RUX, Nat.reduceAdd, reduceIte, Nat.reduceEqDiff, Nat.reduceLT, Nat.reduceLeDiff, reduceCtorEq, eq_self, FIX, forall_const, endE_n, endE_r, CHT, disj, Nat.reduceBEq, beq_self_eq_true, APT, APX, forall_eq, ALT, KI, UCz_5.d]
  refine callC (markHs_okz k) rfl rfl rfl rfl ?_
  simp only [RUX, Nat.reduceAdd, reduceIte, Nat.reduceEqDiff, Nat.reduceLT, Nat.reduceLeDiff, reduceCtorEq, eq_self, FIX, forall_const, endE_n, endE_r, CHT, disj, Nat.reduceBEq, beq_self_eq_true, APT, APX, forall_eq, ALT, KI, UCz_5.d]
  refine callC (markIs_okz k) rfl rfl rfl rfl ?_
  simp only [RUX, Nat.reduceAdd, reduceIte, Nat.reduceEqDiff, Nat.reduceLT, Nat.reduceLeDiff, reduceCtorEq, eq_self, FIX, forall_const, endE_n, endE_r, CHT, disj, Nat.reduceBEq, beq_self_eq_true, APT, APX, forall_eq, ALT, KI, UCz_5.d]
  refine callC (markIs_okz k) rfl rfl rfl rfl ?_
  simp only [RUX, Nat.reduceAdd, reduceIte, Nat.reduceEqDiff, Nat.reduceLT, Nat.reduceLeDiff, reduceCtorEq, eq_self, FIX, forall_const, endE_n, endE_r, CHT, disj, Nat.reduceBEq, beq_self_eq_true, APT, APX, forall_eq, ALT, KI, UCz_5.d]
  refine callC (markIs_okz k) rfl rfl rfl rfl ?_
  simp only [RUX, Nat.reduceAdd, reduceIte, Nat.reduceEqDiff, Nat.reduceLT, Nat.reduceLeDiff, reduceCtorEq, eq_self, FIX, forall_const, endE_n, endE_r, CHT, disj, Nat.reduceBEq, beq_self_eq_true, APT, APX, forall_eq, ALT, KI, UCz_5.d]
  refine callC (markIs_okz k) rfl rfl rfl rfl ?_
  simp only [RUX, Nat.reduceAdd, reduceIte, Nat.reduceEqDiff, Nat.reduceLT, Nat.reduceLeDiff, reduceCtorEq, eq_self, FIX, forall_const, endE_n, endE_r, CHT, disj, Nat.reduceBEq, beq_self_eq_true, APT, APX, forall_eq, ALT, KI, UCz_5.d]
  refine callC (markIs_okz k) rfl rfl rfl rfl ?_
  simp only [RUX, Nat.reduceAdd, reduceIte, Nat.reduceEqDiff, Nat.reduceLT, Nat.reduceLeDiff, reduceCtorEq, eq_self, FIX, forall_const, endE_n, endE_r, CHT, disj, Nat.reduceBEq, beq_self_eq_true, APT, APX, forall_eq, ALT, KI, UCz_5.d]
/- loop.example/teagle/laws.heldCrewWorld -/
def r11_0 : List AOper := [ao 0 2 (.box 29 (.t 0)),
  ao 1 4 (.mv (.k (.i 0)))]
def r11_1 : List AOper := [ao 0 5 (.fa 5 (.t 2)),
  ao 1 6 (.ld 1 false (.t 5)),
  ao 2 7 (.mv (.t 1)),
  ao 3 8 (.call (.k (.c (.fn 30 []))) [(.t 6), (.t 7)]),
  ao 4 1 (.mv (.t 8))]
def r11_2 : List AOper := [ao 0 9 (.mv (.t 1)),
  ao 1 10 (.bin .lss (.t 9) (.k (.i 0)))]
def r11_3 : List AOper := [ao 0 4 (.mv (.k (.i (-1))))]
def c11_4 : ACode := .seq (.reg r11_3) .ret
def c11_5 : ACode := .cond (.t 10) c11_4 .skip
def c11_6 : ACode := .seq (.reg r11_2) c11_5
def r11_7 : List AOper := [ao 0 11 (.fa 6 (.t 2)),
  ao 1 12 (.ld 1 false (.t 11)),
  ao 2 13 (.mv (.t 1)),
  ao 3 14 (.call (.k (.c (.fn 31 []))) [(.t 12), (.t 13)]),
  ao 4 1 (.mv (.t 14))]
def r11_8 : List AOper := [ao 0 15 (.mv (.t 1)),
  ao 1 16 (.bin .lss (.t 15) (.k (.i 0)))]
def r11_9 : List AOper := [ao 0 4 (.mv (.k (.i (-1))))]
def c11_10 : ACode := .seq (.reg r11_9) .ret
def c11_11 : ACode := .cond (.t 16) c11_10 .skip
def c11_12 : ACode := .seq (.reg r11_8) c11_11
def r11_13 : List AOper := [ao 0 17 (.fa 8 (.t 2)),
  ao 1 18 (.ld 1 false (.t 17)),
  ao 2 19 (.mv (.t 1)),
  ao 3 20 (.call (.k (.c (.fn 30 []))) [(.t 18), (.t 19)]),
  ao 4 1 (.mv (.t 20))]
def r11_14 : List AOper := [ao 0 21 (.mv (.t 1)),
  ao 1 22 (.bin .lss (.t 21) (.k (.i 0)))]
def r11_15 : List AOper := [ao 0 4 (.mv (.k (.i (-1))))]
def c11_16 : ACode := .seq (.reg r11_15) .ret
def c11_17 : ACode := .cond (.t 22) c11_16 .skip
def c11_18 : ACode := .seq (.reg r11_14) c11_17
def r11_19 : List AOper := [ao 0 23 (.fa 10 (.t 2)),
  ao 1 24 (.ld 1 false (.t 23)),
  ao 2 25 (.mv (.t 1)),
  ao 3 26 (.call (.k (.c (.fn 30 []))) [(.t 24), (.t 25)]),
  ao 4 1 (.mv (.t 26))]
def r11_20 : List AOper := [ao 0 27 (.mv (.t 1)),
  ao 1 28 (.bin .lss (.t 27) (.k (.i 0)))]
def r11_21 : List AOper := [ao 0 4 (.mv (.k (.i (-1))))]
def c11_22 : ACode := .seq (.reg r11_21) .ret
def c11_23 : ACode := .cond (.t 28) c11_22 .skip
def c11_24 : ACode := .seq (.reg r11_20) c11_23
def r11_25 : List AOper := [ao 0 29 (.fa 12 (.t 2)),
  ao 1 30 (.ld 1 false (.t 29)),
  ao 2 31 (.mv (.t 1)),
  ao 3 32 (.call (.k (.c (.fn 30 []))) [(.t 30), (.t 31)]),
  ao 4 1 (.mv (.t 32))]
def r11_26 : List AOper := [ao 0 33 (.mv (.t 1)),
  ao 1 34 (.bin .lss (.t 33) (.k (.i 0)))]
def r11_27 : List AOper := [ao 0 4 (.mv (.k (.i (-1))))]
def c11_28 : ACode := .seq (.reg r11_27) .ret
def c11_29 : ACode := .cond (.t 34) c11_28 .skip
def c11_30 : ACode := .seq (.reg r11_26) c11_29
def r11_31 : List AOper := [ao 0 35 (.fa 14 (.t 2)),
  ao 1 36 (.ld 1 false (.t 35)),
  ao 2 37 (.mv (.t 1)),
  ao 3 38 (.call (.k (.c (.fn 30 []))) [(.t 36), (.t 37)]),
  ao 4 1 (.mv (.t 38))]
def r11_32 : List AOper := [ao 0 39 (.mv (.t 1)),
  ao 1 40 (.bin .lss (.t 39) (.k (.i 0)))]
def r11_33 : List AOper := [ao 0 4 (.mv (.k (.i (-1))))]
def c11_34 : ACode := .seq (.reg r11_33) .ret
def c11_35 : ACode := .cond (.t 40) c11_34 .skip
def c11_36 : ACode := .seq (.reg r11_32) c11_35
def r11_37 : List AOper := [ao 0 41 (.fa 16 (.t 2)),
  ao 1 42 (.ld 1 false (.t 41)),
  ao 2 43 (.mv (.t 1)),
  ao 3 44 (.call (.k (.c (.fn 30 []))) [(.t 42), (.t 43)]),
  ao 4 1 (.mv (.t 44))]
def r11_38 : List AOper := [ao 0 45 (.mv (.t 1)),
  ao 1 46 (.bin .lss (.t 45) (.k (.i 0)))]
def r11_39 : List AOper := [ao 0 4 (.mv (.k (.i (-1))))]
def c11_40 : ACode := .seq (.reg r11_39) .ret
def c11_41 : ACode := .cond (.t 46) c11_40 .skip
def c11_42 : ACode := .seq (.reg r11_38) c11_41
def r11_43 : List AOper := [ao 0 47 (.mv (.t 1)),
  ao 1 4 (.mv (.t 47))]
def c11 : ACode := .seq (.reg r11_0) (.seq (.reg r11_1) (.seq c11_6 (.seq (.reg r11_7) (.seq c11_12 (.seq (.reg r11_13) (.seq c11_18 (.seq (.reg r11_19) (.seq c11_24 (.seq (.reg r11_25) (.seq c11_30 (.seq (.reg r11_31) (.seq c11_36 (.seq (.reg r11_37) (.seq c11_42 (.seq (.reg r11_43) .ret)))))))))))))))
def s11 : List ARes := [.tmp 4]
theorem ok11 : okF Try.prog 11 48 c11 s11 := ⟨Try.f11, Try.func11, Try.ntmps11, by kernel_rfl, by kernel_rfl, by kernel_rfl⟩
def UCz_6 := Bx.mk <|
  aN (uA c11.eq_1) <| aN (uR r11_0.eq_1) <| aN (uR r11_1.eq_1) <| aN (uA c11_6.eq_1) <| aN (uR r11_2.eq_1) <| aN (uA c11_5.eq_1) <| aN (uA c11_4.eq_1) <| aN (uR r11_3.eq_1) <| aN (uR r11_7.eq_1) <| aN (uA c11_12.eq_1) <| aN (uR r11_8.eq_1) <| aN (uA c11_11.eq_1) <| aN (uA c11_10.eq_1) <| aN (uR r11_9.eq_1) <| aN (uR r11_13.eq_1) <| aN (uA c11_18.eq_1) <| aN (uR r11_14.eq_1) <| aN (uA c11_17.eq_1) <| aN (uA c11_16.eq_1) <| aN (uR r11_15.eq_1) <| aN (uR r11_19.eq_1) <| aN (uA c11_24.eq_1) <| aN (uR r11_20.eq_1) <| aN (uA c11_23.eq_1) <| aN (uA c11_22.eq_1) <| aN (uR r11_21.eq_1) <| aN (uR r11_25.eq_1) <| aN (uA c11_30.eq_1) <| aN (uR r11_26.eq_1) <| aN (uA c11_29.eq_1) <| aN (uA c11_28.eq_1) <| aN (uR r11_27.eq_1) <| aN (uR r11_31.eq_1) <| aN (uA c11_36.eq_1) <| aN (uR r11_32.eq_1) <| aN (uA c11_35.eq_1) <| aN (uA c11_34.eq_1) <| aN (uR r11_33.eq_1) <| aN (uR r11_37.eq_1) <| aN (uA c11_42.eq_1) <| aN (uR r11_38.eq_1) <| aN (uA c11_41.eq_1) <| aN (uA c11_40.eq_1) <| aN (uR r11_39.eq_1) <| aN (uR r11_43.eq_1) <| s11.eq_1
set_option maxHeartbeats 1000000 in
theorem heldCW_ok (w : CW) (k : Nat) (h1 : 1 ≤ k) (hk : mkN k w ≤ 100000000) : ACallsF Try.prog 11 [tCW (mkCW k w), .i k] [] (.i (mkN k w)) := by
  unfold mkN at hk
  have n1 : ¬ ((k + 1 * w.queue.length : Nat) : Int) < 0 := by omega
  have n2 : ¬ ((k + 1 * w.queue.length + 2 * w.hands.length : Nat) : Int) < 0 := by omega
  have n3 : ¬ ((k + 1 * w.queue.length + 2 * w.hands.length + 1 * w.results.length : Nat) : Int) < 0 := by omega
  have n4 : ¬ ((k + 1 * w.queue.length + 2 * w.hands.length + 1 * w.results.length + 1 * w.ring.length : Nat) : Int) < 0 := by omega
  have n5 : ¬ ((k + 1 * w.queue.length + 2 * w.hands.length + 1 * w.results.length + 1 * w.ring.length + 1 * w.out.length : Nat) : Int) < 0 := by omega
  have n6 : ¬ ((k + 1 * w.queue.length + 2 * w.hands.length + 1 * w.results.length + 1 * w.ring.length + 1 * w.out.length + 1 * w.got.length : Nat) : Int) < 0 := by omega
  have n7 : ¬ ((k + 1 * w.queue.length + 2 * w.hands.length + 1 * w.results.length + 1 * w.ring.length + 1 * w.out.length + 1 * w.got.length + 1 * w.shut.length : Nat) : Int) < 0 := by omega
  refine ACallsF.intro ok11 follows fun X c0 => ?_
  simp only [RUX, Nat.reduceAdd, reduceIte, Nat.reduceEqDiff, Nat.reduceLT, Nat.reduceLeDiff, reduceCtorEq, eq_self, FIX, forall_const, endE_n, endE_r, CHT, disj, Nat.reduceBEq, beq_self_eq_true, APT, APX, forall_eq, ALT, KI, UCz_6.d, mkCW]
  refine callC (heldIs_ok w.queue.length (k) (by omega) (by omega)) rfl rfl rfl rfl ?_
  simp only [RUX, Nat.reduceAdd, reduceIte, Nat.reduceEqDiff, Nat.reduceLT, Nat.reduceLeDiff, reduceCtorEq, eq_self, FIX, forall_const, endE_n, endE_r, CHT, disj, Nat.reduceBEq, beq_self_eq_true, APT, APX, forall_eq, ALT, KI, UCz_6.d, mkCW, n1]
  refine callC (heldHs_ok w.hands.length (k + 1 * w.queue.length) (by omega) (by omega)) rfl rfl rfl rfl ?_
  simp only [RUX, Nat.reduceAdd, reduceIte, Nat.reduceEqDiff, Nat.reduceLT, Nat.reduceLeDiff, reduceCtorEq, eq_self, FIX, forall_const, endE_n, endE_r, CHT, disj, Nat.reduceBEq, beq_self_eq_true, APT, APX, forall_eq, ALT, KI, UCz_6.d, mkCW, n2]
  refine callC (heldIs_ok w.results.length (k + 1 * w.queue.length + 2 * w.hands.length) (by omega) (by omega)) rfl rfl rfl rfl ?_
  simp only [RUX, Nat.reduceAdd, reduceIte, Nat.reduceEqDiff, Nat.reduceLT, Nat.reduceLeDiff, reduceCtorEq, eq_self, FIX, forall_const, endE_n, endE_r, CHT, disj, Nat.reduceBEq, beq_self_eq_true, APT, APX, forall_eq, ALT, KI, UCz_6.d, mkCW, n3]
  refine callC (heldIs_ok w.ring.length (k + 1 * w.queue.length + 2 * w.hands.length + 1 * w.results.length) (by omega) (by omega)) rfl rfl rfl rfl ?_
  simp only [RUX, Nat.reduceAdd, reduceIte, Nat.reduceEqDiff, Nat.reduceLT, Nat.reduceLeDiff, reduceCtorEq, eq_self, FIX, forall_const, endE_n, endE_r, CHT, disj, Nat.reduceBEq, beq_self_eq_true, APT, APX, forall_eq, ALT, KI, UCz_6.d, mkCW, n4]
  refine callC (heldIs_ok w.out.length (k + 1 * w.queue.length + 2 * w.hands.length + 1 * w.results.length + 1 * w.ring.length) (by omega) (by omega)) rfl rfl rfl rfl ?_
  simp only [RUX, Nat.reduceAdd, reduceIte, Nat.reduceEqDiff, Nat.reduceLT, Nat.reduceLeDiff, reduceCtorEq, eq_self, FIX, forall_const, endE_n, endE_r, CHT, disj, Nat.reduceBEq, beq_self_eq_true, APT, APX, forall_eq, ALT, KI, UCz_6.d, mkCW, n5]
  refine callC (heldIs_ok w.got.length (k + 1 * w.queue.length + 2 * w.hands.length + 1 * w.results.length + 1 * w.ring.length + 1 * w.out.length) (by omega) (by omega)) rfl rfl rfl rfl ?_
  simp only [RUX, Nat.reduceAdd, reduceIte, Nat.reduceEqDiff, Nat.reduceLT, Nat.reduceLeDiff, reduceCtorEq, eq_self, FIX, forall_const, endE_n, endE_r, CHT, disj, Nat.reduceBEq, beq_self_eq_true, APT, APX, forall_eq, ALT, KI, UCz_6.d, mkCW, n6]
  refine callC (heldIs_ok w.shut.length (k + 1 * w.queue.length + 2 * w.hands.length + 1 * w.results.length + 1 * w.ring.length + 1 * w.out.length + 1 * w.got.length) (by omega) (by omega)) rfl rfl rfl rfl ?_
  simp only [RUX, Nat.reduceAdd, reduceIte, Nat.reduceEqDiff, Nat.reduceLT, Nat.reduceLeDiff, reduceCtorEq, eq_self, FIX, forall_const, endE_n, endE_r, CHT, disj, Nat.reduceBEq, beq_self_eq_true, APT, APX, forall_eq, ALT, KI, UCz_6.d, mkCW, mkN, n7]
end Go.V
set_option linter.unusedSimpArgs false
namespace Go.V
open Go.Proofs
abbrev wL (m a1 a2 a3 a4 a5 a6 a7 : Nat) (w : CW) : List (Nat × Blk) := [(m + 1, .arr a1 false 1 3 (en eI w.queue)), (m + 2, .arr a2 false 2 70 (en eH w.hands)), (m + 3, .arr a3 false 1 3 (en eI w.results)), (m + 4, .arr a4 false 1 3 (en eI w.ring)), (m + 5, .arr a5 false 1 3 (en eI w.out)), (m + 6, .arr a6 false 1 3 (en eI w.got)), (m + 7, .arr a7 false 1 3 (en eI w.shut))]
section
variable {H : HMap} {m a1 a2 a3 a4 a5 a6 a7 m' b1 b2 b3 b4 b5 b6 b7 : Nat} {x1 x2 x3 x4 x5 x6 x7 y1 y2 y3 y4 y5 y6 y7 : Bool} {w w' : CW} {x : T}
theorem lendW7 (h1 : H (m + 1) = some (.arr a1 x1 1 3 (en eI w.queue))) (h2 : H (m + 2) = some (.arr a2 x2 2 70 (en eH w.hands))) (h3 : H (m + 3) = some (.arr a3 x3 1 3 (en eI w.results))) (h4 : H (m + 4) = some (.arr a4 x4 1 3 (en eI w.ring))) (h5 : H (m + 5) = some (.arr a5 x5 1 3 (en eI w.out))) (h6 : H (m + 6) = some (.arr a6 x6 1 3 (en eI w.got))) (h7 : H (m + 7) = some (.arr a7 x7 1 3 (en eI w.shut))) : lendT H (tCW w) (.pt (.agg (oC (m + 1) (m + 2) (m + 3) (m + 4) (m + 5) (m + 6) (m + 7) a1 a2 a3 a4 a5 a6 a7 w))) = some (tCW w, wL m a1 a2 a3 a4 a5 a6 a7 w, wN m) := by
  simp only [lendT, lendCs, lendC, sealC, h1, h2, h3, h4, h5, h6, h7, en_len, en_take, Nat.le_refl, and_self, if_true, Option.map_some, List.cons_append, List.nil_append]
theorem lendW1 (h1 : H (m + 1) = some (.arr a1 x1 1 3 (en eI w.queue))) (h2 : H (m + 2) = some (.arr a2 x2 2 70 (en eH w.hands))) (h3 : H (m + 3) = some (.arr a3 x3 1 3 (en eI w.results))) (h4 : H (m + 4) = some (.arr a4 x4 1 3 (en eI w.ring))) (h5 : H (m + 5) = some (.arr a5 x5 1 3 (en eI w.out))) (h6 : H (m + 6) = some (.arr a6 x6 1 3 (en eI w.got))) (h7 : H (m + 7) = some (.arr a7 x7 1 3 (en eI w.shut))) : lendTs H [tCW w] [.pt (.agg (oC (m + 1) (m + 2) (m + 3) (m + 4) (m + 5) (m + 6) (m + 7) a1 a2 a3 a4 a5 a6 a7 w))] = some ([tCW w], wL m a1 a2 a3 a4 a5 a6 a7 w, wN m) := by
  simp only [lendTs, lendW7 h1 h2 h3 h4 h5 h6 h7, List.append_nil]
theorem lendWx (h1 : H (m + 1) = some (.arr a1 x1 1 3 (en eI w.queue))) (h2 : H (m + 2) = some (.arr a2 x2 2 70 (en eH w.hands))) (h3 : H (m + 3) = some (.arr a3 x3 1 3 (en eI w.results))) (h4 : H (m + 4) = some (.arr a4 x4 1 3 (en eI w.ring))) (h5 : H (m + 5) = some (.arr a5 x5 1 3 (en eI w.out))) (h6 : H (m + 6) = some (.arr a6 x6 1 3 (en eI w.got))) (h7 : H (m + 7) = some (.arr a7 x7 1 3 (en eI w.shut))) (hx : closedA x = true) : lendTs H [tCW w, x] [.pt (.agg (oC (m + 1) (m + 2) (m + 3) (m + 4) (m + 5) (m + 6) (m + 7) a1 a2 a3 a4 a5 a6 a7 w)), x] = some ([tCW w, x], wL m a1 a2 a3 a4 a5 a6 a7 w, wN m) := by
  simp only [lendTs, lendW7 h1 h2 h3 h4 h5 h6 h7, (closed_A [] H x hx).1, List.append_nil]
theorem lendWW (h1 : H (m + 1) = some (.arr a1 x1 1 3 (en eI w.queue))) (h2 : H (m + 2) = some (.arr a2 x2 2 70 (en eH w.hands))) (h3 : H (m + 3) = some (.arr a3 x3 1 3 (en eI w.results))) (h4 : H (m + 4) = some (.arr a4 x4 1 3 (en eI w.ring))) (h5 : H (m + 5) = some (.arr a5 x5 1 3 (en eI w.out))) (h6 : H (m + 6) = some (.arr a6 x6 1 3 (en eI w.got))) (h7 : H (m + 7) = some (.arr a7 x7 1 3 (en eI w.shut))) (g1 : H (m' + 1) = some (.arr b1 y1 1 3 (en eI w'.queue))) (g2 : H (m' + 2) = some (.arr b2 y2 2 70 (en eH w'.hands))) (g3 : H (m' + 3) = some (.arr b3 y3 1 3 (en eI w'.results))) (g4 : H (m' + 4) = some (.arr b4 y4 1 3 (en eI w'.ring))) (g5 : H (m' + 5) = some (.arr b5 y5 1 3 (en eI w'.out))) (g6 : H (m' + 6) = some (.arr b6 y6 1 3 (en eI w'.got))) (g7 : H (m' + 7) = some (.arr b7 y7 1 3 (en eI w'.shut))) : lendTs H [tCW w, tCW w'] [.pt (.agg (oC (m + 1) (m + 2) (m + 3) (m + 4) (m + 5) (m + 6) (m + 7) a1 a2 a3 a4 a5 a6 a7 w)), .pt (.agg (oC (m' + 1) (m' + 2) (m' + 3) (m' + 4) (m' + 5) (m' + 6) (m' + 7) b1 b2 b3 b4 b5 b6 b7 w'))] = some ([tCW w, tCW w'], wL m a1 a2 a3 a4 a5 a6 a7 w ++ wL m' b1 b2 b3 b4 b5 b6 b7 w', wN m ++ wN m') := by
  simp only [lendTs, lendW7 h1 h2 h3 h4 h5 h6 h7, lendW7 g1 g2 g3 g4 g5 g6 g7, List.append_nil]
end
theorem callLf {P : Program} {t : Nat → T} {H : HMap} {c : Nat} {f : Opd} {args : List Opd} {fid : FuncId} {argsC : List T} {ws : List (Nat × Blk)} {ns : List Nat} {r : T} {k : Nat} {d : Option Nat} {un : List Nat} {l : List AOper} {prev : List (Nat × List Nat × List Nat)} {K : St → Prop}
    (hC : ACallsF P fid argsC [] r) (hf : ev t f = .pt (.one (.fn fid []))) (hl : lendTs H argsC (args.map (ev t)) = some (argsC, ws, ns)) (ha : renITs [] argsC = some argsC) (hr : closedT r = true)
    (hk : chk prev un ⟨r, (if scalarT r then [] else ws), ns, (if scalarT r then [] else ns)⟩ = true ∧ DRun P l ((k, ns, if scalarT r then [] else ns) :: prev) K ⟨updD t d r, updH H (if scalarT r then [] else ws), c⟩) :
    step P k d un (.call f args) l prev K t H c := by
  refine callW (caps := []) [] hC hf (by simpa using hl) ha trivial (by simp) (by simp) (closed_T [] r hr _) rfl ?_
  simpa [quiet, closed_flat r hr] using hk
/-- A call that is lent slices, and gives back nothing that may be of them. -/
theorem callZ {P : Program} {t : Nat → T} {H : HMap} {c : Nat} {f : Opd} {args : List Opd} {fid : FuncId} {argsC : List T} {ws : List (Nat × Blk)} {ns : List Nat} {r : T} {k : Nat} {d : Option Nat} {un : List Nat} {l : List AOper} {prev : List (Nat × List Nat × List Nat)} {K : St → Prop}
    (hC : ACallsF P fid argsC [] r) (hf : ev t f = .pt (.one (.fn fid []))) (hl : lendTs H argsC (args.map (ev t)) = some (argsC, ws, ns)) (ha : renITs [] argsC = some argsC) (hr : ∀ nv, renOT [] nv r = some r) (hq : flatT r = true)
    (hk : chk prev un ⟨r, [], ns, []⟩ = true ∧ DRun P l ((k, ns, []) :: prev) K ⟨updD t d r, H, c⟩) :
    step P k d un (.call f args) l prev K t H c := by
  refine callW (caps := []) [] hC hf (by simpa using hl) ha trivial (by simp) (by simp) (hr _) rfl ?_
  simpa [quiet, hq, updH] using hk
theorem cancel_sml {w : CW} (h : Sml w) : Sml (cancelW w) := by
  have e : (cancelW w).shut.length = w.shut.length := List.length_set
  have h0 := h.all
  exact ⟨h.queue, h.hands, h.results, h.ring, h.out, h.got, by rw [e]; exact h.shut, by rw [e]; exact h0⟩
theorem mkN_le {w : CW} (h : Sml w) : mkN 1 w ≤ 100000000 := by
  have := h.all
  unfold mkN
  omega
theorem SCT : (∀ b, scalarT (T.b b) = true) ∧ (∀ n, scalarT (T.i n) = true) ∧ (∀ (w : CW) (b : Bool), scalarT (.tup [.agg (cwC w), .one (.v (.s (.bool b)))]) = false) ∧ (type_of% @Bool.xor_self) ∧ (type_of% @bne_self_eq_false.{0}) := ⟨fun _ => rfl, fun _ => rfl, fun _ _ => rfl, @Bool.xor_self, @bne_self_eq_false.{0}⟩
theorem mkN_pos (w : CW) : ¬ ((mkN 1 w : Nat) : Int) < 0 := by omega
theorem mk_same (w : CW) : (mkCW 1 w).queue.length = w.queue.length ∧ (mkCW 1 w).hands.length = w.hands.length ∧ (mkCW 1 w).results.length = w.results.length ∧ (mkCW 1 w).ring.length = w.ring.length ∧ (mkCW 1 w).out.length = w.out.length ∧ (mkCW 1 w).got.length = w.got.length ∧ (mkCW 1 w).shut.length = w.shut.length := ⟨marks_len _ _ _ _, marks_len _ _ _ _, marks_len _ _ _ _, marks_len _ _ _ _, marks_len _ _ _ _, marks_len _ _ _ _, marks_len _ _ _ _⟩
theorem heldCWz_ok (k : Nat) (h1 : 1 ≤ k) (hk : k ≤ 1000) : ACallsF Try.prog 11 [tCW cw0, .i k] [] (.i k) := heldCW_ok cw0 k h1 (show k + 1 * 0 + 2 * 0 + 1 * 0 + 1 * 0 + 1 * 0 + 1 * 0 + 1 * 0 ≤ _ by omega)
theorem oC_mk (c1 c2 c3 c4 c5 c6 c7 a1 a2 a3 a4 a5 a6 a7 : Nat) (w : CW) : oC c1 c2 c3 c4 c5 c6 c7 a1 a2 a3 a4 a5 a6 a7 w = oC c1 c2 c3 c4 c5 c6 c7 a1 a2 a3 a4 a5 a6 a7 (mkCW 1 w) := by
  simp only [oC, mkCW, marks_len]
theorem lendHx {H : HMap} {m a1 a2 a3 a4 a5 a6 a7 : Nat} {x1 x2 x3 x4 x5 x6 x7 : Bool} {x : T} (w : CW) (h1 : H (m + 1) = some (.arr a1 x1 1 3 (en eI (mkCW 1 w).queue))) (h2 : H (m + 2) = some (.arr a2 x2 2 70 (en eH (mkCW 1 w).hands))) (h3 : H (m + 3) = some (.arr a3 x3 1 3 (en eI (mkCW 1 w).results))) (h4 : H (m + 4) = some (.arr a4 x4 1 3 (en eI (mkCW 1 w).ring))) (h5 : H (m + 5) = some (.arr a5 x5 1 3 (en eI (mkCW 1 w).out))) (h6 : H (m + 6) = some (.arr a6 x6 1 3 (en eI (mkCW 1 w).got))) (h7 : H (m + 7) = some (.arr a7 x7 1 3 (en eI (mkCW 1 w).shut))) (hx : closedA x = true) : lendTs H [tCW (mkCW 1 w), x] [.pt (.agg (oC (m + 1) (m + 2) (m + 3) (m + 4) (m + 5) (m + 6) (m + 7) a1 a2 a3 a4 a5 a6 a7 w)), x] = some ([tCW (mkCW 1 w), x], wL m a1 a2 a3 a4 a5 a6 a7 (mkCW 1 w), wN m) := by
  rw [oC_mk]
  exact lendWx h1 h2 h3 h4 h5 h6 h7 hx
/- loop.example/teagle/laws.FnExactCrewCancel -/
def r3_0 : List AOper := [ao 0 1 (.box 25 (.t 0)),
  ao 1 2 (.mv (.k (.b false)))]
def r3_1 : List AOper := [ao 0 3 (.mv (.k (.i 1048576)))]
def r3_2 : List AOper := [ao 0 14 (.ld 18 true (.t 1)),
  ao 1 15 (.mv (.t 3)),
  ao 2 16 (.call (.k (.c (.fn 5 []))) [(.t 14), (.t 15)]),
  ao 3 3 (.mv (.t 16))]
def r3_3 : List AOper := [ao 0 17 (.mv (.t 3)),
  ao 1 18 (.bin .lss (.t 17) (.k (.i 0)))]
def r3_4 : List AOper := [ao 0 2 (.mv (.k (.b true)))]
def c3_5 : ACode := .seq (.reg r3_4) .ret
def c3_6 : ACode := .cond (.t 18) c3_5 .skip
def c3_7 : ACode := .seq (.reg r3_3) c3_6
def r3_8 : List AOper := [ao 0 20 (.ld 18 true (.t 1)),
  ao 1 21 (.call (.k (.c (.fn 7 []))) [(.t 20)]),
  ao 2 22 (.call (.k (.c (.fn 6 []))) [(.t 21)]),
  ao 3 19 (.mv (.t 22)),
  ao 4 23 (.ext 0 (.t 19)),
  ao 5 24 (.ext 1 (.t 19)),
  ao 6 4 (.alloc 29 [(.v (.s (.int .i64 0))), (.v (.s (.int .i64 0))), (.v (.s (.int .i64 0))), (.v (.s (.int .i64 0))), (.v (.s (.int .i64 0))), .nil0, .nil0, (.v (.s (.int .i64 0))), .nil0, (.v (.s (.int .i64 0))), .nil0, (.v (.s (.int .i64 0))), .nil0, (.v (.s (.int .i64 0))), .nil0, (.v (.s (.int .i64 0))), .nil0, (.v (.s (.int .i64 0)))]),
  an 7 (.st 18 (.t 4) (.t 23)),
  ao 8 5 (.mv (.t 24))]
def r3_9 : List AOper := [ao 0 25 (.ld 18 true (.t 1)),
  ao 1 26 (.call (.k (.c (.fn 7 []))) [(.t 25)]),
  ao 2 6 (.alloc 29 [(.v (.s (.int .i64 0))), (.v (.s (.int .i64 0))), (.v (.s (.int .i64 0))), (.v (.s (.int .i64 0))), (.v (.s (.int .i64 0))), .nil0, .nil0, (.v (.s (.int .i64 0))), .nil0, (.v (.s (.int .i64 0))), .nil0, (.v (.s (.int .i64 0))), .nil0, (.v (.s (.int .i64 0))), .nil0, (.v (.s (.int .i64 0))), .nil0, (.v (.s (.int .i64 0)))]),
  an 3 (.st 18 (.t 6) (.t 26))]
def r3_10 : List AOper := [ao 0 28 (.ld 18 true (.t 6)),
  ao 1 29 (.call (.k (.c (.fn 8 []))) [(.t 28)]),
  ao 2 27 (.mv (.t 29)),
  ao 3 30 (.ext 0 (.t 27)),
  ao 4 31 (.ext 1 (.t 27)),
  ao 5 7 (.alloc 29 [(.v (.s (.int .i64 0))), (.v (.s (.int .i64 0))), (.v (.s (.int .i64 0))), (.v (.s (.int .i64 0))), (.v (.s (.int .i64 0))), .nil0, .nil0, (.v (.s (.int .i64 0))), .nil0, (.v (.s (.int .i64 0))), .nil0, (.v (.s (.int .i64 0))), .nil0, (.v (.s (.int .i64 0))), .nil0, (.v (.s (.int .i64 0))), .nil0, (.v (.s (.int .i64 0)))]),
  an 6 (.st 18 (.t 7) (.t 30)),
  ao 7 8 (.mv (.t 31))]
def r3_11 : List AOper := [ao 0 32 (.ld 18 true (.t 7)),
  ao 1 33 (.ld 18 true (.t 4)),
  ao 2 34 (.call (.k (.c (.fn 9 []))) [(.t 32), (.t 33)]),
  ao 3 35 (.un .not (.t 34)),
  ao 4 36 (.mv (.t 35)),
  ag 5 37 36 false [] (.mv (.t 8)),
  ag 6 38 36 false [] (.mv (.t 5)),
  ag 7 39 36 false [] (.binB .neq (.t 37) (.t 38)),
  ao 8 40 (.pick (.t 36) (.k (.b true)) (.t 39))]
def r3_12 : List AOper := [ao 0 2 (.mv (.k (.b false)))]
def c3_13 : ACode := .seq (.reg r3_12) .ret
def c3_14 : ACode := .cond (.t 40) c3_13 .skip
def c3_15 : ACode := .seq (.reg r3_11) c3_14
def r3_16 : List AOper := [ao 0 41 (.ld 18 true (.t 6)),
  au 1 42 [0] (.ld 18 true (.t 1)),
  au 2 43 [0] (.call (.k (.c (.fn 7 []))) [(.t 42)]),
  ao 3 44 (.call (.k (.c (.fn 9 []))) [(.t 41), (.t 43)]),
  ao 4 45 (.un .not (.t 44))]
def r3_17 : List AOper := [ao 0 2 (.mv (.k (.b false)))]
def c3_18 : ACode := .seq (.reg r3_17) .ret
def c3_19 : ACode := .cond (.t 45) c3_18 .skip
def c3_20 : ACode := .seq (.reg r3_16) c3_19
def r3_21 : List AOper := [ao 0 9 (.mv (.k (.i 1)))]
def r3_22 : List AOper := [ao 0 46 (.ld 18 true (.t 6)),
  ao 1 47 (.mv (.t 9)),
  ao 2 48 (.call (.k (.c (.fn 10 []))) [(.t 46), (.t 47)]),
  ao 3 9 (.mv (.t 48))]
def r3_23 : List AOper := [ao 0 49 (.mv (.t 9)),
  ao 1 50 (.bin .lss (.t 49) (.k (.i 0))),
  ao 2 51 (.mv (.t 50)),
  ag 3 52 51 false [] (.ld 18 true (.t 7)),
  ag 4 53 51 false [] (.ld 18 true (.t 4)),
  ag 5 54 51 false [] (.call (.k (.c (.fn 9 []))) [(.t 52), (.t 53)]),
  ag 6 55 51 false [] (.un .not (.t 54)),
  ao 7 56 (.pick (.t 51) (.k (.b true)) (.t 55)),
  ao 8 57 (.mv (.t 56)),
  ag 9 58 57 false [] (.mv (.t 8)),
  ag 10 59 57 false [] (.mv (.t 5)),
  ag 11 60 57 false [] (.binB .neq (.t 58) (.t 59)),
  ao 12 61 (.pick (.t 57) (.k (.b true)) (.t 60))]
def r3_24 : List AOper := [ao 0 2 (.mv (.k (.b false)))]
def c3_25 : ACode := .seq (.reg r3_24) .ret
def c3_26 : ACode := .cond (.t 61) c3_25 .skip
def c3_27 : ACode := .seq (.reg r3_23) c3_26
def r3_28 : List AOper := [ao 0 10 (.mv (.k (.i 1)))]
def r3_29 : List AOper := [ao 0 62 (.ld 18 true (.t 7)),
  ao 1 63 (.mv (.t 10)),
  ao 2 64 (.call (.k (.c (.fn 10 []))) [(.t 62), (.t 63)]),
  ao 3 10 (.mv (.t 64))]
def r3_30 : List AOper := [ao 0 11 (.mv (.k (.i 1)))]
def r3_31 : List AOper := [ao 0 65 (.ld 18 true (.t 7)),
  ao 1 66 (.mv (.t 11)),
  ao 2 67 (.call (.k (.c (.fn 11 []))) [(.t 65), (.t 66)]),
  ao 3 11 (.mv (.t 67))]
def r3_32 : List AOper := [ao 0 68 (.mv (.t 11)),
  ao 1 69 (.bin .lss (.t 68) (.k (.i 0)))]
def r3_33 : List AOper := [ao 0 2 (.mv (.k (.b false)))]
def c3_34 : ACode := .seq (.reg r3_33) .ret
def c3_35 : ACode := .cond (.t 69) c3_34 .skip
def c3_36 : ACode := .seq (.reg r3_32) c3_35
def r3_37 : List AOper := [ao 0 70 (.mv (.t 11)),
  ao 1 71 (.mv (.t 10)),
  ao 2 72 (.bin .neq (.t 70) (.t 71))]
def r3_38 : List AOper := [ao 0 2 (.mv (.k (.b false)))]
def c3_39 : ACode := .seq (.reg r3_38) .ret
def c3_40 : ACode := .cond (.t 72) c3_39 .skip
def c3_41 : ACode := .seq (.reg r3_37) c3_40
def r3_42 : List AOper := [ao 0 74 (.ld 18 true (.t 1)),
  ao 1 75 (.call (.k (.c (.fn 7 []))) [(.t 74)]),
  ao 2 76 (.call (.k (.c (.fn 8 []))) [(.t 75)]),
  ao 3 73 (.mv (.t 76)),
  ao 4 77 (.ext 0 (.t 73)),
  ao 5 78 (.ext 1 (.t 73)),
  ao 6 12 (.alloc 29 [(.v (.s (.int .i64 0))), (.v (.s (.int .i64 0))), (.v (.s (.int .i64 0))), (.v (.s (.int .i64 0))), (.v (.s (.int .i64 0))), .nil0, .nil0, (.v (.s (.int .i64 0))), .nil0, (.v (.s (.int .i64 0))), .nil0, (.v (.s (.int .i64 0))), .nil0, (.v (.s (.int .i64 0))), .nil0, (.v (.s (.int .i64 0))), .nil0, (.v (.s (.int .i64 0)))]),
  an 7 (.st 18 (.t 12) (.t 77)),
  ao 8 13 (.mv (.t 78))]
def r3_43 : List AOper := [ao 0 79 (.ld 18 true (.t 12)),
  ao 1 80 (.ld 18 true (.t 4)),
  ao 2 81 (.call (.k (.c (.fn 9 []))) [(.t 79), (.t 80)]),
  ao 3 82 (.un .not (.t 81)),
  ao 4 83 (.mv (.t 82)),
  ag 5 84 83 false [] (.mv (.t 13)),
  ag 6 85 83 false [] (.mv (.t 5)),
  ag 7 86 83 false [] (.binB .neq (.t 84) (.t 85)),
  ao 8 87 (.pick (.t 83) (.k (.b true)) (.t 86))]
def r3_44 : List AOper := [ao 0 2 (.mv (.k (.b false)))]
def c3_45 : ACode := .seq (.reg r3_44) .ret
def c3_46 : ACode := .cond (.t 87) c3_45 .skip
def c3_47 : ACode := .seq (.reg r3_43) c3_46
def r3_48 : List AOper := [ao 0 11 (.mv (.k (.i 1)))]
def r3_49 : List AOper := [ao 0 88 (.ld 18 true (.t 7)),
  ao 1 89 (.mv (.t 11)),
  ao 2 90 (.call (.k (.c (.fn 11 []))) [(.t 88), (.t 89)]),
  ao 3 11 (.mv (.t 90))]
def r3_50 : List AOper := [ao 0 91 (.mv (.t 11)),
  ao 1 92 (.bin .lss (.t 91) (.k (.i 0)))]
def r3_51 : List AOper := [ao 0 2 (.mv (.k (.b false)))]
def c3_52 : ACode := .seq (.reg r3_51) .ret
def c3_53 : ACode := .cond (.t 92) c3_52 .skip
def c3_54 : ACode := .seq (.reg r3_50) c3_53
def r3_55 : List AOper := [ao 0 93 (.mv (.t 11)),
  ao 1 94 (.mv (.t 10)),
  ao 2 95 (.bin .neq (.t 93) (.t 94))]
def r3_56 : List AOper := [ao 0 2 (.mv (.k (.b false)))]
def c3_57 : ACode := .seq (.reg r3_56) .ret
def c3_58 : ACode := .cond (.t 95) c3_57 .skip
def c3_59 : ACode := .seq (.reg r3_55) c3_58
def r3_60 : List AOper := [ao 0 2 (.mv (.k (.b true)))]
def c3 : ACode := .seq (.reg r3_0) (.seq (.reg r3_1) (.seq (.reg r3_2) (.seq c3_7 (.seq (.reg r3_8) (.seq (.reg r3_9) (.seq (.reg r3_10) (.seq c3_15 (.seq c3_20 (.seq (.reg r3_21) (.seq (.reg r3_22) (.seq c3_27 (.seq (.reg r3_28) (.seq (.reg r3_29) (.seq (.reg r3_30) (.seq (.reg r3_31) (.seq c3_36 (.seq c3_41 (.seq (.reg r3_42) (.seq c3_47 (.seq (.reg r3_48) (.seq (.reg r3_49) (.seq c3_54 (.seq c3_59 (.seq (.reg r3_60) .ret))))))))))))))))))))))))
def s3 : List ARes := [.tmp 2]
theorem ok3 : okF Try.prog 3 96 c3 s3 := ⟨Try.f3, Try.func3, Try.ntmps3, by kernel_rfl, by kernel_rfl, by kernel_rfl⟩
def UDa_1 := Bx.mk <|
  aN (uA c3.eq_1) <| aN (uR r3_0.eq_1) <| aN (uR r3_1.eq_1) <| aN (uR r3_2.eq_1) <| aN (uA c3_7.eq_1) <| aN (uR r3_3.eq_1) <| aN (uA c3_6.eq_1) <| aN (uA c3_5.eq_1) <| aN (uR r3_4.eq_1) <| aN (uR r3_8.eq_1) <| aN (uR r3_9.eq_1) <| aN (uR r3_10.eq_1) <| aN (uA c3_15.eq_1) <| aN (uR r3_11.eq_1) <| aN (uA c3_14.eq_1) <| aN (uA c3_13.eq_1) <| aN (uR r3_12.eq_1) <| aN (uA c3_20.eq_1) <| aN (uR r3_16.eq_1) <| aN (uA c3_19.eq_1) <| aN (uA c3_18.eq_1) <| aN (uR r3_17.eq_1) <| aN (uR r3_21.eq_1) <| aN (uR r3_22.eq_1) <| aN (uA c3_27.eq_1) <| aN (uR r3_23.eq_1) <| aN (uA c3_26.eq_1) <| aN (uA c3_25.eq_1) <| aN (uR r3_24.eq_1) <| aN (uR r3_28.eq_1) <| aN (uR r3_29.eq_1) <| aN (uR r3_30.eq_1) <| aN (uR r3_31.eq_1) <| aN (uA c3_36.eq_1) <| aN (uR r3_32.eq_1) <| aN (uA c3_35.eq_1) <| aN (uA c3_34.eq_1) <| aN (uR r3_33.eq_1) <| aN (uA c3_41.eq_1) <| aN (uR r3_37.eq_1) <| aN (uA c3_40.eq_1) <| aN (uA c3_39.eq_1) <| aN (uR r3_38.eq_1) <| aN (uR r3_42.eq_1) <| aN (uA c3_47.eq_1) <| aN (uR r3_43.eq_1) <| aN (uA c3_46.eq_1) <| aN (uA c3_45.eq_1) <| aN (uR r3_44.eq_1) <| aN (uR r3_48.eq_1) <| aN (uR r3_49.eq_1) <| aN (uA c3_54.eq_1) <| aN (uR r3_50.eq_1) <| aN (uA c3_53.eq_1) <| aN (uA c3_52.eq_1) <| aN (uR r3_51.eq_1) <| aN (uA c3_59.eq_1) <| aN (uR r3_55.eq_1) <| aN (uA c3_58.eq_1) <| aN (uA c3_57.eq_1) <| aN (uR r3_56.eq_1) <| aN (uR r3_60.eq_1) <| s3.eq_1
set_option maxRecDepth 8000 in
set_option maxHeartbeats 4000000 in
theorem lawCC_no {w : CW} (ha : ArgW w) (hn : ¬ (WOk w ∧ w.user ≠ 1)) : ACallsF Try.prog 3 [tCW w] [] (.b true) := by
  obtain ⟨q, hq, Cq⟩ := szCW_ok ha
  refine ACallsF.intro ok3 follows fun X c0 => ?_
  simp only [RUX, Nat.reduceAdd, reduceIte, Nat.reduceEqDiff, Nat.reduceLT, Nat.reduceLeDiff, reduceCtorEq, eq_self, FIX, forall_const, endE_n, endE_r, CHT, disj, Nat.reduceBEq, beq_self_eq_true, APT, APX, forall_eq, ALT, KI, SCT, UDa_1.d]
  refine callC Cq rfl rfl rfl rfl ?_
  rcases hq with rfl | ⟨q0, hs⟩
  · simp only [RUX, Nat.reduceAdd, reduceIte, Nat.reduceEqDiff, Nat.reduceLT, Nat.reduceLeDiff, reduceCtorEq, eq_self, FIX, forall_const, endE_n, endE_r, CHT, disj, Nat.reduceBEq, beq_self_eq_true, APT, APX, forall_eq, ALT, KI, SCT, UDa_1.d, Int.reduceLT]
  have k0 : ¬ q < 0 := by omega
  have hsm := hs.small
  have CS := cancelS_no hn
  have CI := cancelI_no hsm hn
  have n1 : ¬ ((1 : Nat) : Int) < 0 := by decide
  have E0 := eqCW_ok (w := cw0) ⟨by decide, by decide, by decide, by decide, by decide, by decide, by decide⟩
  simp only [RUX, Nat.reduceAdd, reduceIte, Nat.reduceEqDiff, Nat.reduceLT, Nat.reduceLeDiff, reduceCtorEq, eq_self, FIX, forall_const, endE_n, endE_r, CHT, disj, Nat.reduceBEq, beq_self_eq_true, APT, APX, forall_eq, ALT, KI, SCT, UDa_1.d, k0]
  refine callW7 (m := 10000) (ws := []) (ns := []) (toCW_ok w hsm 10000) rfl rfl rfl (by decide) ⟨rfl, ?_⟩
  simp only [RUX, Nat.reduceAdd, reduceIte, Nat.reduceEqDiff, Nat.reduceLT, Nat.reduceLeDiff, reduceCtorEq, eq_self, FIX, forall_const, endE_n, endE_r, CHT, disj, Nat.reduceBEq, beq_self_eq_true, APT, APX, forall_eq, ALT, KI, SCT, UDa_1.d]
  refine callL (ws := wL 10000 _ _ _ _ _ _ _ w) (ns := wN 10000) CS rfl (lendW1 (x1 := true) (x2 := true) (x3 := true) (x4 := true) (x5 := true) (x6 := true) (x7 := true) rfl rfl rfl rfl rfl rfl rfl) rfl rfl ⟨?_, ?_⟩
  · rfl
  simp only [RUX, Nat.reduceAdd, reduceIte, Nat.reduceEqDiff, Nat.reduceLT, Nat.reduceLeDiff, reduceCtorEq, eq_self, FIX, forall_const, endE_n, endE_r, CHT, disj, Nat.reduceBEq, beq_self_eq_true, APT, APX, forall_eq, ALT, KI, SCT, UDa_1.d]
  refine callW7 (m := 11000) (ws := []) (ns := []) (toCW_ok w hsm 11000) rfl rfl rfl (by decide) ⟨rfl, ?_⟩
  simp only [RUX, Nat.reduceAdd, reduceIte, Nat.reduceEqDiff, Nat.reduceLT, Nat.reduceLeDiff, reduceCtorEq, eq_self, FIX, forall_const, endE_n, endE_r, CHT, disj, Nat.reduceBEq, beq_self_eq_true, APT, APX, forall_eq, ALT, KI, SCT, UDa_1.d]
  refine callZ (ws := wL 11000 _ _ _ _ _ _ _ w) (ns := wN 11000) CI rfl (lendW1 (x1 := true) (x2 := true) (x3 := true) (x4 := true) (x5 := true) (x6 := true) (x7 := true) rfl rfl rfl rfl rfl rfl rfl) rfl (fun _ => rfl) rfl ⟨?_, ?_⟩
  · rfl
  simp only [RUX, Nat.reduceAdd, reduceIte, Nat.reduceEqDiff, Nat.reduceLT, Nat.reduceLeDiff, reduceCtorEq, eq_self, FIX, forall_const, endE_n, endE_r, CHT, disj, Nat.reduceBEq, beq_self_eq_true, APT, APX, forall_eq, ALT, KI, SCT, UDa_1.d]
  refine callLf (ws := []) (ns := []) E0 rfl rfl rfl rfl ⟨rfl, ?_⟩
  simp only [RUX, Nat.reduceAdd, reduceIte, Nat.reduceEqDiff, Nat.reduceLT, Nat.reduceLeDiff, reduceCtorEq, eq_self, FIX, forall_const, endE_n, endE_r, CHT, disj, Nat.reduceBEq, beq_self_eq_true, APT, APX, forall_eq, ALT, KI, SCT, UDa_1.d]
  refine callW7 (m := 13000) (ws := []) (ns := []) (toCW_ok w hsm 13000) rfl rfl rfl (by decide) ⟨rfl, ?_⟩
  simp only [RUX, Nat.reduceAdd, reduceIte, Nat.reduceEqDiff, Nat.reduceLT, Nat.reduceLeDiff, reduceCtorEq, eq_self, FIX, forall_const, endE_n, endE_r, CHT, disj, Nat.reduceBEq, beq_self_eq_true, APT, APX, forall_eq, ALT, KI, SCT, UDa_1.d]
  refine callLf (ws := wL 11000 _ _ _ _ _ _ _ w ++ wL 13000 _ _ _ _ _ _ _ w) (ns := wN 11000 ++ wN 13000) (eqCW_ok hsm) rfl (lendWW (x1 := true) (x2 := true) (x3 := true) (x4 := true) (x5 := true) (x6 := true) (x7 := true) (y1 := true) (y2 := true) (y3 := true) (y4 := true) (y5 := true) (y6 := true) (y7 := true) rfl rfl rfl rfl rfl rfl rfl rfl rfl rfl rfl rfl rfl rfl) rfl rfl ⟨?_, ?_⟩
  · rfl
  simp only [RUX, Nat.reduceAdd, reduceIte, Nat.reduceEqDiff, Nat.reduceLT, Nat.reduceLeDiff, reduceCtorEq, eq_self, FIX, forall_const, endE_n, endE_r, CHT, disj, Nat.reduceBEq, beq_self_eq_true, APT, APX, forall_eq, ALT, KI, SCT, UDa_1.d]
  refine callMk (m := 11000) (w' := mkCW 1 w) (fun m a1 a2 a3 a4 a5 a6 a7 => markCW_ok (w := w) 1 (by omega) (mkN_le hs) m a1 a2 a3 a4 a5 a6 a7) rfl rfl rfl rfl rfl rfl rfl rfl rfl rfl rfl ⟨rfl, ?_⟩
  simp only [RUX, Nat.reduceAdd, reduceIte, Nat.reduceEqDiff, Nat.reduceLT, Nat.reduceLeDiff, reduceCtorEq, eq_self, FIX, forall_const, endE_n, endE_r, CHT, disj, Nat.reduceBEq, beq_self_eq_true, APT, APX, forall_eq, ALT, KI, SCT, UDa_1.d, mkN_pos]
  refine callLf (ws := []) (ns := []) E0 rfl rfl rfl rfl ⟨rfl, ?_⟩
  simp only [RUX, Nat.reduceAdd, reduceIte, Nat.reduceEqDiff, Nat.reduceLT, Nat.reduceLeDiff, reduceCtorEq, eq_self, FIX, forall_const, endE_n, endE_r, CHT, disj, Nat.reduceBEq, beq_self_eq_true, APT, APX, forall_eq, ALT, KI, SCT, UDa_1.d, mkN_pos]
  refine callLf (ws := []) (ns := []) (markCWz_ok 1) rfl rfl rfl rfl ⟨rfl, ?_⟩
  simp only [RUX, Nat.reduceAdd, reduceIte, Nat.reduceEqDiff, Nat.reduceLT, Nat.reduceLeDiff, reduceCtorEq, eq_self, FIX, forall_const, endE_n, endE_r, CHT, disj, Nat.reduceBEq, beq_self_eq_true, APT, APX, forall_eq, ALT, KI, SCT, UDa_1.d]
  refine callLf (ws := []) (ns := []) (heldCWz_ok 1 (by omega) (by omega)) rfl rfl rfl rfl ⟨rfl, ?_⟩
  simp only [RUX, Nat.reduceAdd, reduceIte, Nat.reduceEqDiff, Nat.reduceLT, Nat.reduceLeDiff, reduceCtorEq, eq_self, FIX, forall_const, endE_n, endE_r, CHT, disj, Nat.reduceBEq, beq_self_eq_true, APT, APX, forall_eq, ALT, KI, SCT, UDa_1.d, n1, ne0]
  refine callW7 (m := 14000) (ws := []) (ns := []) (toCW_ok w hsm 14000) rfl rfl rfl (by decide) ⟨rfl, ?_⟩
  simp only [RUX, Nat.reduceAdd, reduceIte, Nat.reduceEqDiff, Nat.reduceLT, Nat.reduceLeDiff, reduceCtorEq, eq_self, FIX, forall_const, endE_n, endE_r, CHT, disj, Nat.reduceBEq, beq_self_eq_true, APT, APX, forall_eq, ALT, KI, SCT, UDa_1.d]
  refine callZ (ws := wL 14000 _ _ _ _ _ _ _ w) (ns := wN 14000) CI rfl (lendW1 (x1 := true) (x2 := true) (x3 := true) (x4 := true) (x5 := true) (x6 := true) (x7 := true) rfl rfl rfl rfl rfl rfl rfl) rfl (fun _ => rfl) rfl ⟨?_, ?_⟩
  · rfl
  simp only [RUX, Nat.reduceAdd, reduceIte, Nat.reduceEqDiff, Nat.reduceLT, Nat.reduceLeDiff, reduceCtorEq, eq_self, FIX, forall_const, endE_n, endE_r, CHT, disj, Nat.reduceBEq, beq_self_eq_true, APT, APX, forall_eq, ALT, KI, SCT, UDa_1.d]
  refine callLf (ws := []) (ns := []) E0 rfl rfl rfl rfl ⟨rfl, ?_⟩
  simp only [RUX, Nat.reduceAdd, reduceIte, Nat.reduceEqDiff, Nat.reduceLT, Nat.reduceLeDiff, reduceCtorEq, eq_self, FIX, forall_const, endE_n, endE_r, CHT, disj, Nat.reduceBEq, beq_self_eq_true, APT, APX, forall_eq, ALT, KI, SCT, UDa_1.d]
  refine callLf (ws := []) (ns := []) (heldCWz_ok 1 (by omega) (by omega)) rfl rfl rfl rfl ⟨rfl, ?_⟩
  simp only [RUX, Nat.reduceAdd, reduceIte, Nat.reduceEqDiff, Nat.reduceLT, Nat.reduceLeDiff, reduceCtorEq, eq_self, FIX, forall_const, endE_n, endE_r, CHT, disj, Nat.reduceBEq, beq_self_eq_true, APT, APX, forall_eq, ALT, KI, SCT, UDa_1.d, n1, ne0]
set_option maxRecDepth 8000 in
set_option maxHeartbeats 4000000 in
theorem lawCC_yes {w : CW} (ha : ArgW w) (h : WOk w) (hu : w.user ≠ 1) : ACallsF Try.prog 3 [tCW w] [] (.b true) := by
  obtain ⟨q, hq, Cq⟩ := szCW_ok ha
  refine ACallsF.intro ok3 follows fun X c0 => ?_
  simp only [RUX, Nat.reduceAdd, reduceIte, Nat.reduceEqDiff, Nat.reduceLT, Nat.reduceLeDiff, reduceCtorEq, eq_self, FIX, forall_const, endE_n, endE_r, CHT, disj, Nat.reduceBEq, beq_self_eq_true, APT, APX, forall_eq, ALT, KI, SCT, UDa_1.d]
  refine callC Cq rfl rfl rfl rfl ?_
  rcases hq with rfl | ⟨q0, hs⟩
  · simp only [RUX, Nat.reduceAdd, reduceIte, Nat.reduceEqDiff, Nat.reduceLT, Nat.reduceLeDiff, reduceCtorEq, eq_self, FIX, forall_const, endE_n, endE_r, CHT, disj, Nat.reduceBEq, beq_self_eq_true, APT, APX, forall_eq, ALT, KI, SCT, UDa_1.d, Int.reduceLT]
  have k0 : ¬ q < 0 := by omega
  have hsm := hs.small
  have hs' := cancel_sml hs
  have CS := cancelS_yes h hu
  have CI := cancelI_yes h hu
  have E0 := eqCW_ok hs'.small
  have M0 := heldCW_ok (cancelW w) 1 (by omega) (mkN_le hs')
  obtain ⟨w', hw⟩ : ∃ w', cancelW w = w' := ⟨_, rfl⟩
  rw [hw] at hs' CS CI E0 M0
  have hp := mkN_pos w'
  simp only [RUX, Nat.reduceAdd, reduceIte, Nat.reduceEqDiff, Nat.reduceLT, Nat.reduceLeDiff, reduceCtorEq, eq_self, FIX, forall_const, endE_n, endE_r, CHT, disj, Nat.reduceBEq, beq_self_eq_true, APT, APX, forall_eq, ALT, KI, SCT, UDa_1.d, k0]
  refine callW7 (m := 10000) (ws := []) (ns := []) (toCW_ok w hsm 10000) rfl rfl rfl (by decide) ⟨rfl, ?_⟩
  simp only [RUX, Nat.reduceAdd, reduceIte, Nat.reduceEqDiff, Nat.reduceLT, Nat.reduceLeDiff, reduceCtorEq, eq_self, FIX, forall_const, endE_n, endE_r, CHT, disj, Nat.reduceBEq, beq_self_eq_true, APT, APX, forall_eq, ALT, KI, SCT, UDa_1.d]
  refine callL (ws := wL 10000 _ _ _ _ _ _ _ w) (ns := wN 10000) CS rfl (lendW1 (x1 := true) (x2 := true) (x3 := true) (x4 := true) (x5 := true) (x6 := true) (x7 := true) rfl rfl rfl rfl rfl rfl rfl) rfl rfl ⟨?_, ?_⟩
  · rfl
  simp only [RUX, Nat.reduceAdd, reduceIte, Nat.reduceEqDiff, Nat.reduceLT, Nat.reduceLeDiff, reduceCtorEq, eq_self, FIX, forall_const, endE_n, endE_r, CHT, disj, Nat.reduceBEq, beq_self_eq_true, APT, APX, forall_eq, ALT, KI, SCT, UDa_1.d]
  refine callW7 (m := 11000) (ws := []) (ns := []) (toCW_ok w hsm 11000) rfl rfl rfl (by decide) ⟨rfl, ?_⟩
  simp only [RUX, Nat.reduceAdd, reduceIte, Nat.reduceEqDiff, Nat.reduceLT, Nat.reduceLeDiff, reduceCtorEq, eq_self, FIX, forall_const, endE_n, endE_r, CHT, disj, Nat.reduceBEq, beq_self_eq_true, APT, APX, forall_eq, ALT, KI, SCT, UDa_1.d]
  refine callW7b (m := 12000) (ws := wL 11000 _ _ _ _ _ _ _ w) (ns := wN 11000) (CI 12000) rfl (lendW1 (x1 := true) (x2 := true) (x3 := true) (x4 := true) (x5 := true) (x6 := true) (x7 := true) rfl rfl rfl rfl rfl rfl rfl) rfl (by decide) ⟨?_, ?_⟩
  · rfl
  simp only [RUX, Nat.reduceAdd, reduceIte, Nat.reduceEqDiff, Nat.reduceLT, Nat.reduceLeDiff, reduceCtorEq, eq_self, FIX, forall_const, endE_n, endE_r, CHT, disj, Nat.reduceBEq, beq_self_eq_true, APT, APX, forall_eq, ALT, KI, SCT, UDa_1.d]
  refine callLf (ws := wL 12000 _ _ _ _ _ _ _ w') (ns := wN 12000) E0 rfl (lendWx (x1 := true) (x2 := true) (x3 := true) (x4 := true) (x5 := true) (x6 := true) (x7 := true) rfl rfl rfl rfl rfl rfl rfl rfl) rfl rfl ⟨?_, ?_⟩
  · rfl
  simp only [RUX, Nat.reduceAdd, reduceIte, Nat.reduceEqDiff, Nat.reduceLT, Nat.reduceLeDiff, reduceCtorEq, eq_self, FIX, forall_const, endE_n, endE_r, CHT, disj, Nat.reduceBEq, beq_self_eq_true, APT, APX, forall_eq, ALT, KI, SCT, UDa_1.d]
  refine callW7 (m := 13000) (ws := []) (ns := []) (toCW_ok w hsm 13000) rfl rfl rfl (by decide) ⟨rfl, ?_⟩
  simp only [RUX, Nat.reduceAdd, reduceIte, Nat.reduceEqDiff, Nat.reduceLT, Nat.reduceLeDiff, reduceCtorEq, eq_self, FIX, forall_const, endE_n, endE_r, CHT, disj, Nat.reduceBEq, beq_self_eq_true, APT, APX, forall_eq, ALT, KI, SCT, UDa_1.d]
  refine callLf (ws := wL 11000 _ _ _ _ _ _ _ w ++ wL 13000 _ _ _ _ _ _ _ w) (ns := wN 11000 ++ wN 13000) (eqCW_ok hsm) rfl (lendWW (x1 := true) (x2 := true) (x3 := true) (x4 := true) (x5 := true) (x6 := true) (x7 := true) (y1 := true) (y2 := true) (y3 := true) (y4 := true) (y5 := true) (y6 := true) (y7 := true) rfl rfl rfl rfl rfl rfl rfl rfl rfl rfl rfl rfl rfl rfl) rfl rfl ⟨?_, ?_⟩
  · rfl
  simp only [RUX, Nat.reduceAdd, reduceIte, Nat.reduceEqDiff, Nat.reduceLT, Nat.reduceLeDiff, reduceCtorEq, eq_self, FIX, forall_const, endE_n, endE_r, CHT, disj, Nat.reduceBEq, beq_self_eq_true, APT, APX, forall_eq, ALT, KI, SCT, UDa_1.d]
  refine callMk (m := 11000) (w' := mkCW 1 w) (fun m a1 a2 a3 a4 a5 a6 a7 => markCW_ok (w := w) 1 (by omega) (mkN_le hs) m a1 a2 a3 a4 a5 a6 a7) rfl rfl rfl rfl rfl rfl rfl rfl rfl rfl rfl ⟨rfl, ?_⟩
  simp only [RUX, Nat.reduceAdd, reduceIte, Nat.reduceEqDiff, Nat.reduceLT, Nat.reduceLeDiff, reduceCtorEq, eq_self, FIX, forall_const, endE_n, endE_r, CHT, disj, Nat.reduceBEq, beq_self_eq_true, APT, APX, forall_eq, ALT, KI, SCT, UDa_1.d, mkN_pos]
  refine callLf (ws := wL 12000 _ _ _ _ _ _ _ w') (ns := wN 12000) E0 rfl (lendWx (x1 := true) (x2 := true) (x3 := true) (x4 := true) (x5 := true) (x6 := true) (x7 := true) rfl rfl rfl rfl rfl rfl rfl rfl) rfl rfl ⟨?_, ?_⟩
  · rfl
  simp only [RUX, Nat.reduceAdd, reduceIte, Nat.reduceEqDiff, Nat.reduceLT, Nat.reduceLeDiff, reduceCtorEq, eq_self, FIX, forall_const, endE_n, endE_r, CHT, disj, Nat.reduceBEq, beq_self_eq_true, APT, APX, forall_eq, ALT, KI, SCT, UDa_1.d, mkN_pos]
  refine callMk (m := 12000) (w' := mkCW 1 w') (fun m a1 a2 a3 a4 a5 a6 a7 => markCW_ok (w := w') 1 (by omega) (mkN_le hs') m a1 a2 a3 a4 a5 a6 a7) rfl rfl rfl rfl rfl rfl rfl rfl rfl rfl rfl ⟨rfl, ?_⟩
  simp only [RUX, Nat.reduceAdd, reduceIte, Nat.reduceEqDiff, Nat.reduceLT, Nat.reduceLeDiff, reduceCtorEq, eq_self, FIX, forall_const, endE_n, endE_r, CHT, disj, Nat.reduceBEq, beq_self_eq_true, APT, APX, forall_eq, ALT, KI, SCT, UDa_1.d]
  refine callLf (ws := wL 12000 _ _ _ _ _ _ _ (mkCW 1 w')) (ns := wN 12000) M0 rfl (lendHx (x1 := true) (x2 := true) (x3 := true) (x4 := true) (x5 := true) (x6 := true) (x7 := true) w' rfl rfl rfl rfl rfl rfl rfl rfl) rfl rfl ⟨?_, ?_⟩
  · rfl
  simp only [RUX, Nat.reduceAdd, reduceIte, Nat.reduceEqDiff, Nat.reduceLT, Nat.reduceLeDiff, reduceCtorEq, eq_self, FIX, forall_const, endE_n, endE_r, CHT, disj, Nat.reduceBEq, beq_self_eq_true, APT, APX, forall_eq, ALT, KI, SCT, UDa_1.d, hp, ne0]
  refine callW7 (m := 14000) (ws := []) (ns := []) (toCW_ok w hsm 14000) rfl rfl rfl (by decide) ⟨rfl, ?_⟩
  simp only [RUX, Nat.reduceAdd, reduceIte, Nat.reduceEqDiff, Nat.reduceLT, Nat.reduceLeDiff, reduceCtorEq, eq_self, FIX, forall_const, endE_n, endE_r, CHT, disj, Nat.reduceBEq, beq_self_eq_true, APT, APX, forall_eq, ALT, KI, SCT, UDa_1.d]
  refine callW7b (m := 15000) (ws := wL 14000 _ _ _ _ _ _ _ w) (ns := wN 14000) (CI 15000) rfl (lendW1 (x1 := true) (x2 := true) (x3 := true) (x4 := true) (x5 := true) (x6 := true) (x7 := true) rfl rfl rfl rfl rfl rfl rfl) rfl (by decide) ⟨?_, ?_⟩
  · rfl
  simp only [RUX, Nat.reduceAdd, reduceIte, Nat.reduceEqDiff, Nat.reduceLT, Nat.reduceLeDiff, reduceCtorEq, eq_self, FIX, forall_const, endE_n, endE_r, CHT, disj, Nat.reduceBEq, beq_self_eq_true, APT, APX, forall_eq, ALT, KI, SCT, UDa_1.d]
  refine callLf (ws := wL 15000 _ _ _ _ _ _ _ w') (ns := wN 15000) E0 rfl (lendWx (x1 := true) (x2 := true) (x3 := true) (x4 := true) (x5 := true) (x6 := true) (x7 := true) rfl rfl rfl rfl rfl rfl rfl rfl) rfl rfl ⟨?_, ?_⟩
  · rfl
  simp only [RUX, Nat.reduceAdd, reduceIte, Nat.reduceEqDiff, Nat.reduceLT, Nat.reduceLeDiff, reduceCtorEq, eq_self, FIX, forall_const, endE_n, endE_r, CHT, disj, Nat.reduceBEq, beq_self_eq_true, APT, APX, forall_eq, ALT, KI, SCT, UDa_1.d]
  refine callLf (ws := wL 12000 _ _ _ _ _ _ _ (mkCW 1 w')) (ns := wN 12000) M0 rfl (lendHx (x1 := true) (x2 := true) (x3 := true) (x4 := true) (x5 := true) (x6 := true) (x7 := true) w' rfl rfl rfl rfl rfl rfl rfl rfl) rfl rfl ⟨?_, ?_⟩
  · rfl
  simp only [RUX, Nat.reduceAdd, reduceIte, Nat.reduceEqDiff, Nat.reduceLT, Nat.reduceLeDiff, reduceCtorEq, eq_self, FIX, forall_const, endE_n, endE_r, CHT, disj, Nat.reduceBEq, beq_self_eq_true, APT, APX, forall_eq, ALT, KI, SCT, UDa_1.d, hp, ne0]
end Go.V
set_option linter.unusedSimpArgs false
namespace Go.V
open Go.Proofs Go.ChangeShapes Go.WideShapes Go.ChangeAt Go.RowKit
/-- All that is there at the start stays. -/
def Stays (W W' : World) : Prop := W'.os = W.os ∧ W'.output = W.output ∧ ∀ b, b < W.heap.size → W'.heap[b]? = W.heap[b]?
theorem Stays.kept {W W' : World} (h : Stays W W') (may : MemPlace → Prop) : W.keptBut W' may := by
  refine ⟨h.1, h.2.1, fun i hi => ?_⟩
  rw [h.2.2 i hi]
  cases W.heap[i]? with
  | none => trivial
  | some o => cases o <;> simp
abbrev oldImm (W : World) : Imm := fun b _ => b < W.heap.size
/-- A law whose arguments are only read. -/
theorem calls_true {P : Program} {f : FuncId} {args : List T} {W : World} {vs : List Value} (hC : ACallsF P f args [] (.b true)) (hT : TsRep W (oldImm W) (hinOf []) (fun _ => none) (· < 0) vs args) :
    Calls P f vs.toArray W fun e W' => e = .returned (.bool true) ∧ Stays W W' := by
  have hH : HOk W (oldImm W) (hinOf []) (fun _ => none) (· < 0) := ⟨fun n B h => by simp [hinOf, renN] at h, fun n m g h => by simp [hinOf, renN] at h, fun b o h => h⟩
  refine (hC.2 W (oldImm W) (fun _ => none) 0 vs hH hT).mono fun e W' ⟨x, r, h, imm', L', c', he, ⟨ν, hr, _⟩, hx, _, hS, _, _⟩ => ?_
  subst hr
  have hx : x = .bool true := rep_s (y := .bool true) hx
  subst hx
  exact ⟨he, hS.os, hS.output, fun b hb => hS.frame b hb fun ⟨n, h1, _⟩ => h1 (by simp [hinOf, renN])⟩
theorem post_same {P : Program} {H : Type} {enc : TypeId × Value → H} {f : Func} {s : ChangeSpec} {apart fresh handsOn : Bool} {W W' : World} {args : Array Value} {v : Value} {ds gs : List (DataW H)} {before pa pv : List MemPlace}
    (hW : DataW.Whole enc P f.params.toList s.vars apart W args.toList ds gs before)
    (hres : ∀ (b : Nat) (sp : Nat → Bool) (hd : Bool), DataW.TrodAll enc P W' b sp hd f.resultTypes.toList (v.resultList f.resultTypes.size) (s.fn H (ds ++ gs)).results [])
    (hargs : ∀ sp : Nat → Bool, (∀ p ∈ before, sp p.block = true) → DataW.TrodAll enc P W' 0 sp true f.params.toList args.toList (s.fn H (ds ++ gs)).args pa)
    (hvars : ∀ sp : Nat → Bool, (∀ p ∈ before, sp p.block = true) → DataW.TrodVars enc P W' sp s.vars (s.fn H (ds ++ gs)).vars pv)
    (hps : before = pa ++ pv) (hk : Stays W W') : s.post enc P f apart fresh handsOn false W args v W' := by
  have hold : ∀ p ∈ before, (fun b => decide (b < W.heap.size)) p.block = true := fun p hp => by simpa using hW.lt p hp
  refine ⟨ds, gs, before, [], pa, pv, hW, hres _ _ _, hargs _ hold, hvars _ hold, World.keptBut_mono (fun p hp => ⟨hp, ?_⟩) (hk.kept (· ∈ before)), fun h => by cases h⟩
  rw [hps, List.mem_append] at hp
  exact Or.inr hp
/-- The fields lie one behind the other. -/
def Tiled (P : Program) : Nat → List Field → Nat → Prop
  | o, [], n => o = n
  | o, f :: fs, n => f.offset = o ∧ Tiled P (o + P.cellsOf f.type) fs n
theorem Tiled.le {P : Program} : ∀ (fs : List Field) (o n : Nat), Tiled P o fs n → o ≤ n ∧ ∀ f ∈ fs, o ≤ f.offset
  | [], o, n, h => ⟨by simp [Tiled] at h; omega, by simp⟩
  | f :: fs, o, n, ⟨h1, h2⟩ => by
    obtain ⟨g1, g2⟩ := Tiled.le fs _ _ h2
    refine ⟨by omega, fun x hx => ?_⟩
    rcases List.mem_cons.1 hx with rfl | hx
    · omega
    · have := g2 x hx; omega
/-- What is had of each field is had of the whole. -/
theorem tile_list {P : Program} (R : Value → V → Prop) (Q : TypeId → List V → Prop) {cs : List Value} : ∀ (fs : List Field) (o n : Nat), Tiled P o fs n → cs.length = n →
    (∀ f ∈ fs, ∃ vs, vs.length = ((cs.drop f.offset).take (P.cellsOf f.type)).length ∧ Q f.type vs ∧ ∀ (k : Nat) u y, ((cs.drop f.offset).take (P.cellsOf f.type))[k]? = some u → vs[k]? = some y → R u y) →
    ∃ vs : List V, vs.length + o = n ∧ (∀ (k : Nat) u y, cs[o + k]? = some u → vs[k]? = some y → R u y) ∧ ∀ f ∈ fs, Q f.type ((vs.drop (f.offset - o)).take (P.cellsOf f.type))
  | [], o, n, h, hl, _ => ⟨[], by simp [Tiled] at h; simp [h], fun k u y _ hy => by simp at hy, by simp⟩
  | f :: fs, o, n, ⟨h1, h2⟩, hl, hf => by
    obtain ⟨vs, g1, g2, g3⟩ := hf f (by simp)
    obtain ⟨ws, r1, r2, r3⟩ := tile_list R Q fs (o + P.cellsOf f.type) n h2 hl fun x hx => hf x (by simp [hx])
    have hle := (Tiled.le fs _ _ h2).1
    have hvl : vs.length = P.cellsOf f.type := by rw [g1, List.length_take, List.length_drop, h1, hl]; omega
    refine ⟨vs ++ ws, by simp; omega, fun k u y hu hy => ?_, fun x hx => ?_⟩
    · by_cases hk : k < vs.length
      · rw [List.getElem?_append_left hk] at hy
        refine g3 k u y ?_ hy
        rw [List.getElem?_take, if_pos (by omega), List.getElem?_drop, h1]; exact hu
      · rw [List.getElem?_append_right (by omega)] at hy
        refine r2 (k - vs.length) u y ?_ hy
        rw [← hu]; congr 1; omega
    · rcases List.mem_cons.1 hx with rfl | hx
      · rw [h1, Nat.sub_self, List.drop_zero, ← hvl, List.take_left]; exact g2
      · have hx2 := (Tiled.le fs _ _ h2).2 x hx
        have := r3 x hx
        rw [List.drop_append, List.drop_of_length_le (by omega), List.nil_append, hvl]
        rw [show x.offset - o - P.cellsOf f.type = x.offset - (o + P.cellsOf f.type) by omega]; exact this
/-- The types of plain data: numbers, texts, flags, rows and structs of them. -/
structure Plain (P : Program) (S : TypeId → Prop) : Prop where
  kind : ∀ t, S t → P.underlying t = some .bool ∨ (∃ k, P.underlying t = some (.int k)) ∨ P.underlying t = some .string ∨ (∃ e, P.underlying t = some (.slice e) ∧ S e ∧ 0 < P.cellsOf e) ∨ ∃ fs, P.underlying t = some (.struct fs) ∧ (∀ f ∈ fs.toList, S f.type) ∧ Tiled P 0 fs.toList (P.cellsOf t)
/-- Closed cells that are of a type. -/
inductive VT (P : Program) : TypeId → List V → Prop
  | bool (t : TypeId) (b : Bool) (h : P.underlying t = some .bool) : VT P t [.s (.bool b)]
  | int (t : TypeId) (k : IntKind) (n : Int) (h : P.underlying t = some (.int k)) (hw : (Lit.int k n).wf = true) : VT P t [.s (.int k n)]
  | str (t : TypeId) (s : ByteArray) (h : P.underlying t = some .string) (hs : s.size ≤ maxLen) : VT P t [.s (.string s)]
  | sl (t e : TypeId) (es : List (List V)) (h : P.underlying t = some (.slice e)) (hl : es.length ≤ maxLen) (he : ∀ x ∈ es, VT P e x) : VT P t [.sl es]
  | st (t : TypeId) (fs : Array Field) (cs : List V) (h : P.underlying t = some (.struct fs)) (hl : cs.length = P.cellsOf t) (hf : ∀ f ∈ fs.toList, VT P f.type ((cs.drop f.offset).take (P.cellsOf f.type))) : VT P t cs
theorem cells_at {w : World} {base : Nat} {a : Addr} {n : Nat} {cs : List Value} (h : w.cells? base a n = some cs) : cs.length = n ∧ ∀ i, i < n → ∃ u, cs[i]? = some u ∧ w.cell? (a.add i) = some u := by
  unfold World.cells? at h
  split at h
  · have hl : cs.length = n := by simpa using mapM_some_length h
    refine ⟨hl, fun i hi => ?_⟩
    obtain ⟨u, hu⟩ : ∃ u, cs[i]? = some u := ⟨_, List.getElem?_eq_getElem (by omega)⟩
    have := mapM_some_get h i i (by simp [hi])
    exact ⟨u, hu, by rw [this, hu]⟩
  · cases h
theorem cell_plain {w : World} {a : Addr} {u : Value} (h : w.cell? a = some u) : a = ⟨a.block, a.off, none⟩ ∧ a.block < w.heap.size := by
  unfold World.cell? at h
  split at h
  · rename_i c ty fr hh
    split at h
    · cases h
    · rename_i hs
      refine ⟨?_, heap_lt hh⟩
      obtain ⟨b, o, s⟩ := a
      simp at hs
      subst hs; rfl
  · cases h
theorem pick_list {α : Type} (P : Nat → α → Prop) : ∀ n, (∀ i, i < n → ∃ o, P i o) → ∃ outs : List α, outs.length = n ∧ ∀ (i : Nat) o, outs[i]? = some o → P i o
  | 0, _ => ⟨[], rfl, fun i o h => by simp at h⟩
  | n + 1, h => by
    obtain ⟨outs, h1, h2⟩ := pick_list P n fun i hi => h i (by omega)
    obtain ⟨o, ho⟩ := h n (by omega)
    refine ⟨outs ++ [o], by simp [h1], fun i o' hi => ?_⟩
    rcases Nat.lt_or_ge i n with hin | hin
    · rw [List.getElem?_append_left (by omega)] at hi; exact h2 i o' hi
    · rw [List.getElem?_append_right (by omega)] at hi
      have : i - outs.length = 0 := by
        have := (List.getElem?_eq_some_iff.1 hi).1
        simp at this; omega
      rw [this] at hi
      simp at hi
      have e : i = n := by omega
      rw [e, ← hi]; exact ho
section
variable {H : Type} {enc : TypeId × Value → H} {P : Program} {w : World} {held : Bool} {S : TypeId → Prop}
/-- What is read of plain data is closed values. -/
theorem open_plain (hP : Plain P S) : ∀ (n : Nat) (t : TypeId) (cs : List Value) (x : DataW H × List MemPlace), S t → DataW.trod enc P w 0 (fun _ => true) held n t cs = some x →
    ∃ vs : List V, vs.length = cs.length ∧ VT P t vs ∧ ∀ (k : Nat) u y, cs[k]? = some u → vs[k]? = some y → VRep w (oldImm w) u y := by
  intro n
  induction n with
  | zero => intro t cs x _ h; simp [DataW.trod] at h
  | succ n ih =>
    intro t cs x hS h
    have one : ∀ {u : Value} {y : V}, VRep w (oldImm w) u y → ∀ (k : Nat) u' y', [u][k]? = some u' → [y][k]? = some y' → VRep w (oldImm w) u' y' := fun hv k u' y' h1 h2 => by
      cases k with
      | zero => simp at h1 h2; subst h1 h2; exact hv
      | succ k => simp at h1
    rcases hP.kind t hS with ht | ⟨k, ht⟩ | ht | ⟨e, ht, hSe, hpos⟩ | ⟨fs, ht, hSf⟩
    · obtain ⟨b, rfl, -⟩ := DataW.trod_bool ht h
      exact ⟨[.s (.bool b)], rfl, .bool t b ht, one (.s _ rfl)⟩
    · obtain ⟨m, rfl, -, hw⟩ := DataW.trod_int ht h
      exact ⟨[.s (.int k m)], rfl, .int t k m ht hw, one (.s _ rfl)⟩
    · obtain ⟨s, rfl, -, hs⟩ := DataW.trod_string ht h
      exact ⟨[.s (.string s)], rfl, .str t s ht hs, one (.s _ rfl)⟩
    · rcases DataW.trod_slice ht h with ⟨rfl, -⟩ | ⟨a, len, cap, elems, rest, n', hn, rfl, -, -, hlc, hcm, hel, hget, -, -⟩
      · exact ⟨[.sl []], rfl, .sl t e [] ht (Nat.zero_le _) (fun x hx => by cases hx), one (.nil _ _)⟩
      · cases hn
        obtain ⟨es, hesl, hes⟩ := pick_list (fun i vs => ∃ cs', w.cells? 0 (a.add (i * P.cellsOf e)) (P.cellsOf e) = some cs' ∧ vs.length = cs'.length ∧ VT P e vs ∧ ∀ (k : Nat) u y, cs'[k]? = some u → vs[k]? = some y → VRep w (oldImm w) u y) len (fun i hi => by
          have h1 := hget i hi
          obtain ⟨z, hz⟩ : ∃ z, elems[i]? = some z := ⟨_, List.getElem?_eq_getElem (by omega)⟩
          rw [hz, Option.bind_eq_some_iff] at h1
          obtain ⟨cs', h2, h3⟩ := h1
          obtain ⟨vs, g1, g2, g3⟩ := ih e cs' z hSe h3
          exact ⟨vs, cs', h2, g1, g2, g3⟩)
        refine ⟨[.sl es], rfl, .sl t e es ht (by omega) (fun x hx => ?_), one ?_⟩
        · obtain ⟨i, hi⟩ := List.mem_iff_getElem?.1 hx
          obtain ⟨_, _, _, h4, _⟩ := hes i x hi
          exact h4
        · by_cases h0 : len = 0
          · have : es = [] := List.length_eq_zero_iff.1 (by omega)
            subst this h0
            exact .nil _ _
          · have hadd : ∀ i j : Nat, i < len → j < P.cellsOf e → ∃ u, w.cell? ((a.add (i * P.cellsOf e)).add j) = some u := fun i j hi hj => by
              obtain ⟨v, hv⟩ : ∃ v, es[i]? = some v := ⟨_, List.getElem?_eq_getElem (by omega)⟩
              obtain ⟨cs', h2, _⟩ := hes i v hv
              obtain ⟨u, _, h5⟩ := (cells_at h2).2 j hj
              exact ⟨u, h5⟩
            have ha : a = ⟨a.block, a.off, none⟩ ∧ a.block < w.heap.size := by
              obtain ⟨u, hu⟩ := hadd 0 0 (by omega) hpos
              have e0 : (a.add (0 * P.cellsOf e)).add 0 = a := by simp [Addr.add]
              rw [e0] at hu
              exact cell_plain hu
            obtain ⟨ha1, ha2⟩ := ha
            have hst : ∀ v ∈ es, v.length = P.cellsOf e := fun v hv => by
              obtain ⟨i, hi⟩ := List.mem_iff_getElem?.1 hv
              obtain ⟨cs', h2, h3, _⟩ := hes i v hi
              rw [h3, (cells_at h2).1]
            have hcell : ∀ i j y, at2 es i j = some y → ∃ u, w.cell? ⟨a.block, a.off + i * P.cellsOf e + j, none⟩ = some u ∧ VRep w (oldImm w) u y := fun i j y hy => by
              rw [at2, Option.bind_eq_some_iff] at hy
              obtain ⟨v, hv, hj⟩ := hy
              obtain ⟨cs', h2, h3, _, h5⟩ := hes i v hv
              have hjl : j < P.cellsOf e := by rw [← hst v (List.mem_of_getElem? hv)]; exact (List.getElem?_eq_some_iff.1 hj).1
              obtain ⟨u, h6, h7⟩ := (cells_at h2).2 j hjl
              have eadd : (a.add (i * P.cellsOf e)).add j = ⟨a.block, a.off + i * P.cellsOf e + j, none⟩ := by
                rw [ha1, add_eq, add_eq]
              rw [eadd] at h7
              exact ⟨u, h7, h5 j u y h6 hj⟩
            rw [ha1, ← hesl]
            refine .sl es (P.cellsOf e) a.block a.off cap (fun i j => (w.cell? ⟨a.block, a.off + i * P.cellsOf e + j, none⟩).getD .nilIface) hpos (fun hq => h0 (by rw [← hesl, hq]; rfl)) (by omega) hst (fun i j y hy => ?_) fun i j y hy => ?_
            · obtain ⟨u, h1, _⟩ := hcell i j y hy
              rw [h1]; exact ⟨rfl, ha2⟩
            · obtain ⟨u, h1, h2⟩ := hcell i j y hy
              simp only [h1, Option.getD_some]; exact h2
    · obtain ⟨xs, m, hm, rfl, hl, hxl, hf⟩ := DataW.trod_struct ht h
      cases hm
      obtain ⟨hSf, hT⟩ := hSf
      obtain ⟨vs, h1, h2, h3⟩ := tile_list (fun u y => VRep w (oldImm w) u y) (VT P) fs.toList 0 _ hT hl fun f hfm => by
        obtain ⟨i, hi⟩ := List.mem_iff_getElem?.1 hfm
        have hil := (List.getElem?_eq_some_iff.1 hi).1
        obtain ⟨z, hz⟩ : ∃ z, xs[i]? = some z := ⟨_, List.getElem?_eq_getElem (by simpa [hxl] using hil)⟩
        have := hf i f (by simpa using hi)
        rw [hz] at this
        obtain ⟨vs, q1, q2, q3⟩ := ih f.type _ z (hSf f hfm) this
        exact ⟨vs, q1, q2, q3⟩
      exact ⟨vs, by omega, .st t fs vs ht (by omega) (by simpa using h3), fun k u y hu hy => h2 k u y (by simpa using hu) hy⟩
/-- It is read again where all that was there stayed. -/
theorem trod_sp (hP : Plain P S) {sp : Nat → Bool} : ∀ (n : Nat) (t : TypeId) (cs : List Value) (x : DataW H × List MemPlace), S t → DataW.trod enc P w 0 (fun _ => true) held n t cs = some x → (∀ p ∈ x.2, sp p.block = true) → DataW.trod enc P w 0 sp held n t cs = some x := by
  intro n
  induction n with
  | zero => intro t cs x _ h; simp [DataW.trod] at h
  | succ n ih =>
    intro t cs x hS h hs
    rcases hP.kind t hS with ht | ⟨k, ht⟩ | ht | ⟨e, ht, hSe, hpos⟩ | ⟨fs, ht, hSf⟩
    · obtain ⟨b, rfl, rfl⟩ := DataW.trod_bool ht h
      simp [DataW.trod, ht]
    · obtain ⟨m, rfl, rfl, hw⟩ := DataW.trod_int ht h
      simp [DataW.trod, ht, hw]
    · obtain ⟨s, rfl, rfl, hw⟩ := DataW.trod_string ht h
      simp [DataW.trod, ht, hw]
    · rw [DataW.trod_step] at h ⊢
      unfold DataW.trodStep at h ⊢
      rw [ht] at h ⊢
      split at h <;> try (exfalso; simp_all; done)
      · exact h
      · rename_i e' a len cap he
        cases he
        simp only at h ⊢
        split at h
        · rename_i hc
          rw [if_pos hc]
          simp only [if_true, Option.map_eq_some_iff, Option.bind_eq_some_iff] at h ⊢
          obtain ⟨elems, he, rest, hrest, rfl⟩ := h
          refine ⟨elems, mapM_carry he (fun i y _ hy hv => ?_), ?_⟩
          · rw [Option.bind_eq_some_iff] at hv ⊢
            obtain ⟨cs', h1, h2⟩ := hv
            exact ⟨cs', h1, ih e cs' y hSe h2 fun p hp => hs p (by simp only [List.mem_append, List.mem_flatMap]; exact Or.inr ⟨y, Or.inl hy, hp⟩)⟩
          · have hel : elems.length = len := by simpa using mapM_some_length he
            have hrl : rest.length = cap - len := by simpa using mapM_some_length hrest
            by_cases h0 : cap = 0
            · have : rest = [] := List.length_eq_zero_iff.1 (by omega)
              subst this
              refine ⟨[], ?_, rfl⟩
              have e0 : cap - len = 0 := by omega
              rw [e0]; cases sp a.block <;> rfl
            · have hsp : sp a.block = true := hs (.cell a.block (a.off + 0)) (by
                simp only [List.mem_append]
                refine Or.inl (MemPlace.mem_row.2 ⟨0, Nat.mul_pos (by omega) hpos, rfl⟩))
              rw [hsp, if_pos rfl]
              refine ⟨rest, mapM_carry hrest (fun i y _ hy hv => ?_), rfl⟩
              rw [Option.bind_eq_some_iff] at hv ⊢
              obtain ⟨cs', h1, h2⟩ := hv
              exact ⟨cs', h1, ih e cs' y hSe h2 fun p hp => hs p (by simp only [List.mem_append, List.mem_flatMap]; exact Or.inr ⟨y, Or.inr hy, hp⟩)⟩
        · cases h
    · rw [DataW.trod_step] at h ⊢
      unfold DataW.trodStep at h ⊢
      rw [ht] at h ⊢
      simp only at h ⊢
      split at h
      · rename_i hc
        rw [if_pos hc]
        simp only [Option.map_eq_some_iff] at h ⊢
        obtain ⟨xs, h1, rfl⟩ := h
        exact ⟨xs, mapM_carry h1 (fun f y hf hy hv => ih f.type _ y (hSf.1 f hf) hv fun p hp => hs p (by simp only [List.mem_flatMap]; exact ⟨y, hy, hp⟩)), rfl⟩
      · cases h
theorem Stays.same {w w' : World} (h : Stays w w') : ∀ p : MemPlace, p.block < w.heap.size → w.sameAt w' p := by
  intro p hp
  cases p with
  | cell b i =>
    show w'.cell? _ = w.cell? _
    unfold World.cell?
    rw [h.2.2 b hp]
  | map b => exact h.2.2 b hp
theorem reread (hP : Plain P S) {sp : Nat → Bool} {w' : World} {n : Nat} {t : TypeId} {cs : List Value} {x : DataW H × List MemPlace} (hS : S t) (h : DataW.trod enc P w 0 (fun _ => true) held n t cs = some x) (hw : ∀ p ∈ x.2, p.block < w.heap.size) (hst : Stays w w') (hs : ∀ p ∈ x.2, sp p.block = true) :
    DataW.trod enc P w' 0 sp held n t cs = some x :=
  trod_sp hP n t cs x hS (DataW.trod_carry n t cs x h fun p hp => hst.same p (hw p hp)) hs
end
end Go.V
set_option linter.unusedSimpArgs false
namespace Go.V
open Go.Proofs Go.ChangeShapes Go.WideShapes Go.ChangeAt Go.RowKit
section
variable {H : Type} {enc : TypeId × Value → H} {P : Program} {w : World} {S : TypeId → Prop}
/-- A struct of plain data, as an argument. -/
theorem open_st (hP : Plain P S) {t : TypeId} {fs : Array Field} {v : Value} {d : DataW H} {p : List MemPlace} {base : Nat} (hS : S t) (ht : P.underlying t = some (.struct fs)) (hv : Value.okWide P w .any base t v)
    (h : DataW.Trod enc P w 0 (fun _ => true) true t v d p) (hlt : ∀ q ∈ p, q.block < w.heap.size) :
    ∃ vs, VT P t vs ∧ (∀ H L U, TRep w (oldImm w) H L U v (.pt (.agg (vs.map C.v)))) ∧ ∀ W', Stays w W' → ∀ sp : Nat → Bool, (∀ q ∈ p, sp q.block = true) → DataW.Trod enc P W' 0 sp true t v d p := by
  obtain ⟨cs, rfl, hcs⟩ := okWide_struct ht hv
  obtain ⟨n, hn⟩ := h
  obtain ⟨vs, h1, h2, h3⟩ := open_plain hP n t _ _ hS hn
  have h1 : vs.length = cs.toList.length := h1
  refine ⟨vs, h2, fun H L U => ⟨cs.toList, rfl, by simp [h1], fun k u y hu hy => ?_⟩, fun W' hst sp hsp => ⟨n, reread hP hS hn hlt hst hsp⟩⟩
  rw [List.getElem?_map, Option.map_eq_some_iff] at hy
  obtain ⟨z, hz, rfl⟩ := hy
  exact h3 k u z hu hz
/-- A single cell of plain data, as an argument. -/
theorem open_one (hP : Plain P S) {t : TypeId} {v : Value} {d : DataW H} {p : List MemPlace} (hS : S t) (hv : v.cells = #[v])
    (h : DataW.Trod enc P w 0 (fun _ => true) true t v d p) (hlt : ∀ q ∈ p, q.block < w.heap.size) :
    ∃ y, VT P t [y] ∧ (∀ H L U, TRep w (oldImm w) H L U v (.c (.v y))) ∧ ∀ W', Stays w W' → ∀ sp : Nat → Bool, (∀ q ∈ p, sp q.block = true) → DataW.Trod enc P W' 0 sp true t v d p := by
  obtain ⟨n, hn⟩ := h
  have hn' := hn
  rw [hv] at hn'
  obtain ⟨vs, h1, h2, h3⟩ := open_plain hP n t _ _ hS hn'
  match vs, h1 with
  | [y], _ => exact ⟨y, h2, fun H L U => h3 0 v y rfl rfl, fun W' hst sp hsp => ⟨n, reread hP hS hn hlt hst hsp⟩⟩
end
section
variable {P : Program} {t : TypeId} {cs : List V}
theorem VT.int_inv {k : IntKind} (ht : P.underlying t = some (.int k)) (h : VT P t cs) : ∃ n, cs = [.s (.int k n)] ∧ (Lit.int k n).wf = true := by
  cases h <;> simp_all
theorem VT.bool_inv (ht : P.underlying t = some .bool) (h : VT P t cs) : ∃ b, cs = [.s (.bool b)] := by
  cases h <;> simp_all
theorem VT.str_inv (ht : P.underlying t = some .string) (h : VT P t cs) : ∃ s, cs = [.s (.string s)] ∧ s.size ≤ 9223372036854775807 := by
  cases h <;> simp_all [maxLen]
theorem VT.sl_inv {e : TypeId} (ht : P.underlying t = some (.slice e)) (h : VT P t cs) : ∃ es, cs = [.sl es] ∧ es.length ≤ 9223372036854775807 ∧ ∀ x ∈ es, VT P e x := by
  cases h <;> simp_all [maxLen]
theorem VT.st_inv {fs : Array Field} (ht : P.underlying t = some (.struct fs)) (h : VT P t cs) : cs.length = P.cellsOf t ∧ ∀ f ∈ fs.toList, VT P f.type ((cs.drop f.offset).take (P.cellsOf f.type)) := by
  cases h <;> simp_all
end
/-- Rows of elements are read as rows of what they tell. -/
theorem en_of {α : Type} (e : α → List V) (Q : α → Prop) : ∀ es : List (List V), (∀ x ∈ es, ∃ y, x = e y ∧ Q y) → ∃ ys : List α, es = en e ys ∧ ∀ y ∈ ys, Q y
  | [], _ => ⟨[], rfl, by simp⟩
  | x :: es, h => by
    obtain ⟨y, rfl, hy⟩ := h x (by simp)
    obtain ⟨ys, rfl, hys⟩ := en_of e Q es fun z hz => h z (by simp [hz])
    refine ⟨y :: ys, rfl, fun z hz => ?_⟩
    rcases List.mem_cons.1 hz with rfl | hz
    · exact hy
    · exact hys z hz
theorem cl25 : Try.prog.cellsOf 25 = 18 := by kernel_rfl
theorem cl73 : Try.prog.cellsOf 73 = 2 := by kernel_rfl
theorem cl22 : Try.prog.cellsOf 22 = 1 := by kernel_rfl
theorem cl23 : Try.prog.cellsOf 23 = 1 := by kernel_rfl
theorem cl3 : Try.prog.cellsOf 3 = 1 := by kernel_rfl
theorem cells_len2 {α : Type} {cs : List α} (h : cs.length = 2) : ∃ a b, cs = [a, b] := by
  match cs, h with
  | [a, b], _ => exact ⟨a, b, rfl⟩
theorem cells_len18 {α : Type} {cs : List α} (h : cs.length = 18) : ∃ a0 a1 a2 a3 a4 a5 a6 a7 a8 a9 a10 a11 a12 a13 a14 a15 a16 a17, cs = [a0, a1, a2, a3, a4, a5, a6, a7, a8, a9, a10, a11, a12, a13, a14, a15, a16, a17] := by
  match cs, h with
  | [a0, a1, a2, a3, a4, a5, a6, a7, a8, a9, a10, a11, a12, a13, a14, a15, a16, a17], _ => exact ⟨a0, a1, a2, a3, a4, a5, a6, a7, a8, a9, a10, a11, a12, a13, a14, a15, a16, a17, rfl⟩
theorem takeI {cs : List V} (h : VT Try.prog 3 cs) : ∃ n, cs = eI n := by
  obtain ⟨n, h, _⟩ := VT.int_inv Try.underlying3 h
  exact ⟨n, h⟩
theorem takeH {cs : List V} (h : VT Try.prog 73 cs) : ∃ f, cs = eH f := by
  obtain ⟨hl, hf⟩ := VT.st_inv Try.underlying73 h
  rw [cl73] at hl
  obtain ⟨a, b, rfl⟩ := cells_len2 hl
  have h1 := hf _ (List.mem_cons_self ..)
  have h2 := hf _ (List.mem_cons_of_mem _ (List.mem_cons_self ..))
  simp only [cl3] at h1 h2
  obtain ⟨n, e1⟩ := takeI h1
  obtain ⟨k, e2⟩ := takeI h2
  simp [eI] at e1 e2
  subst e1 e2
  exact ⟨⟨n, k⟩, rfl⟩
theorem takeIs {cs : List V} (h : VT Try.prog 22 cs) : ∃ xs : List Int, cs = [.sl (en eI xs)] ∧ xs.length ≤ 9223372036854775807 := by
  obtain ⟨x, e, l, k⟩ := VT.sl_inv Try.underlying22 h
  obtain ⟨y, rfl, q⟩ := en_of eI (fun _ => True) x fun x hx => by
    obtain ⟨n, hn⟩ := takeI (k x hx)
    exact ⟨n, hn, trivial⟩
  rw [en_len] at l
  exact ⟨y, e, l⟩
theorem takeHs {cs : List V} (h : VT Try.prog 23 cs) : ∃ xs : List Hd, cs = [.sl (en eH xs)] ∧ xs.length ≤ 9223372036854775807 := by
  obtain ⟨x, e, l, k⟩ := VT.sl_inv Try.underlying23 h
  obtain ⟨y, rfl, q⟩ := en_of eH (fun _ => True) x fun x hx => by
    obtain ⟨n, hn⟩ := takeH (k x hx)
    exact ⟨n, hn, trivial⟩
  rw [en_len] at l
  exact ⟨y, e, l⟩
theorem takeW {cs : List V} (h : VT Try.prog 25 cs) : ∃ w : CW, cs.map C.v = cwC w ∧ ArgW w := by
  obtain ⟨hl, hf⟩ := VT.st_inv Try.underlying25 h
  rw [cl25] at hl
  obtain ⟨a0, a1, a2, a3, a4, a5, a6, a7, a8, a9, a10, a11, a12, a13, a14, a15, a16, a17, rfl⟩ := cells_len18 hl
  have h0 := hf _ (List.mem_cons_self ..)
  have h1 := hf _ (List.mem_cons_of_mem _ (List.mem_cons_self ..))
  have h2 := hf _ (List.mem_cons_of_mem _ (List.mem_cons_of_mem _ (List.mem_cons_self ..)))
  have h3 := hf _ (List.mem_cons_of_mem _ (List.mem_cons_of_mem _ (List.mem_cons_of_mem _ (List.mem_cons_self ..))))
  have h4 := hf _ (List.mem_cons_of_mem _ (List.mem_cons_of_mem _ (List.mem_cons_of_mem _ (List.mem_cons_of_mem _ (List.mem_cons_self ..)))))
  have h5 := hf _ (List.mem_cons_of_mem _ (List.mem_cons_of_mem _ (List.mem_cons_of_mem _ (List.mem_cons_of_mem _ (List.mem_cons_of_mem _ (List.mem_cons_self ..))))))
  have h6 := hf _ (List.mem_cons_of_mem _ (List.mem_cons_of_mem _ (List.mem_cons_of_mem _ (List.mem_cons_of_mem _ (List.mem_cons_of_mem _ (List.mem_cons_of_mem _ (List.mem_cons_self ..)))))))
  have h7 := hf _ (List.mem_cons_of_mem _ (List.mem_cons_of_mem _ (List.mem_cons_of_mem _ (List.mem_cons_of_mem _ (List.mem_cons_of_mem _ (List.mem_cons_of_mem _ (List.mem_cons_of_mem _ (List.mem_cons_self ..))))))))
  have h8 := hf _ (List.mem_cons_of_mem _ (List.mem_cons_of_mem _ (List.mem_cons_of_mem _ (List.mem_cons_of_mem _ (List.mem_cons_of_mem _ (List.mem_cons_of_mem _ (List.mem_cons_of_mem _ (List.mem_cons_of_mem _ (List.mem_cons_self ..)))))))))
  have h9 := hf _ (List.mem_cons_of_mem _ (List.mem_cons_of_mem _ (List.mem_cons_of_mem _ (List.mem_cons_of_mem _ (List.mem_cons_of_mem _ (List.mem_cons_of_mem _ (List.mem_cons_of_mem _ (List.mem_cons_of_mem _ (List.mem_cons_of_mem _ (List.mem_cons_self ..))))))))))
  have h10 := hf _ (List.mem_cons_of_mem _ (List.mem_cons_of_mem _ (List.mem_cons_of_mem _ (List.mem_cons_of_mem _ (List.mem_cons_of_mem _ (List.mem_cons_of_mem _ (List.mem_cons_of_mem _ (List.mem_cons_of_mem _ (List.mem_cons_of_mem _ (List.mem_cons_of_mem _ (List.mem_cons_self ..)))))))))))
  have h11 := hf _ (List.mem_cons_of_mem _ (List.mem_cons_of_mem _ (List.mem_cons_of_mem _ (List.mem_cons_of_mem _ (List.mem_cons_of_mem _ (List.mem_cons_of_mem _ (List.mem_cons_of_mem _ (List.mem_cons_of_mem _ (List.mem_cons_of_mem _ (List.mem_cons_of_mem _ (List.mem_cons_of_mem _ (List.mem_cons_self ..))))))))))))
  have h12 := hf _ (List.mem_cons_of_mem _ (List.mem_cons_of_mem _ (List.mem_cons_of_mem _ (List.mem_cons_of_mem _ (List.mem_cons_of_mem _ (List.mem_cons_of_mem _ (List.mem_cons_of_mem _ (List.mem_cons_of_mem _ (List.mem_cons_of_mem _ (List.mem_cons_of_mem _ (List.mem_cons_of_mem _ (List.mem_cons_of_mem _ (List.mem_cons_self ..)))))))))))))
  have h13 := hf _ (List.mem_cons_of_mem _ (List.mem_cons_of_mem _ (List.mem_cons_of_mem _ (List.mem_cons_of_mem _ (List.mem_cons_of_mem _ (List.mem_cons_of_mem _ (List.mem_cons_of_mem _ (List.mem_cons_of_mem _ (List.mem_cons_of_mem _ (List.mem_cons_of_mem _ (List.mem_cons_of_mem _ (List.mem_cons_of_mem _ (List.mem_cons_of_mem _ (List.mem_cons_self ..))))))))))))))
  have h14 := hf _ (List.mem_cons_of_mem _ (List.mem_cons_of_mem _ (List.mem_cons_of_mem _ (List.mem_cons_of_mem _ (List.mem_cons_of_mem _ (List.mem_cons_of_mem _ (List.mem_cons_of_mem _ (List.mem_cons_of_mem _ (List.mem_cons_of_mem _ (List.mem_cons_of_mem _ (List.mem_cons_of_mem _ (List.mem_cons_of_mem _ (List.mem_cons_of_mem _ (List.mem_cons_of_mem _ (List.mem_cons_self ..)))))))))))))))
  have h15 := hf _ (List.mem_cons_of_mem _ (List.mem_cons_of_mem _ (List.mem_cons_of_mem _ (List.mem_cons_of_mem _ (List.mem_cons_of_mem _ (List.mem_cons_of_mem _ (List.mem_cons_of_mem _ (List.mem_cons_of_mem _ (List.mem_cons_of_mem _ (List.mem_cons_of_mem _ (List.mem_cons_of_mem _ (List.mem_cons_of_mem _ (List.mem_cons_of_mem _ (List.mem_cons_of_mem _ (List.mem_cons_of_mem _ (List.mem_cons_self ..))))))))))))))))
  have h16 := hf _ (List.mem_cons_of_mem _ (List.mem_cons_of_mem _ (List.mem_cons_of_mem _ (List.mem_cons_of_mem _ (List.mem_cons_of_mem _ (List.mem_cons_of_mem _ (List.mem_cons_of_mem _ (List.mem_cons_of_mem _ (List.mem_cons_of_mem _ (List.mem_cons_of_mem _ (List.mem_cons_of_mem _ (List.mem_cons_of_mem _ (List.mem_cons_of_mem _ (List.mem_cons_of_mem _ (List.mem_cons_of_mem _ (List.mem_cons_of_mem _ (List.mem_cons_self ..)))))))))))))))))
  have h17 := hf _ (List.mem_cons_of_mem _ (List.mem_cons_of_mem _ (List.mem_cons_of_mem _ (List.mem_cons_of_mem _ (List.mem_cons_of_mem _ (List.mem_cons_of_mem _ (List.mem_cons_of_mem _ (List.mem_cons_of_mem _ (List.mem_cons_of_mem _ (List.mem_cons_of_mem _ (List.mem_cons_of_mem _ (List.mem_cons_of_mem _ (List.mem_cons_of_mem _ (List.mem_cons_of_mem _ (List.mem_cons_of_mem _ (List.mem_cons_of_mem _ (List.mem_cons_of_mem _ (List.mem_cons_self ..))))))))))))))))))
  simp only [cl3, cl22, cl23] at h0 h1 h2 h3 h4 h5 h6 h7 h8 h9 h10 h11 h12 h13 h14 h15 h16 h17
  obtain ⟨x0, e0⟩ := takeI h0
  obtain ⟨x1, e1⟩ := takeI h1
  obtain ⟨x2, e2⟩ := takeI h2
  obtain ⟨x3, e3⟩ := takeI h3
  obtain ⟨x4, e4⟩ := takeI h4
  obtain ⟨x5, e5, l5⟩ := takeIs h5
  obtain ⟨x6, e6, l6⟩ := takeHs h6
  obtain ⟨x7, e7⟩ := takeI h7
  obtain ⟨x8, e8, l8⟩ := takeIs h8
  obtain ⟨x9, e9⟩ := takeI h9
  obtain ⟨x10, e10, l10⟩ := takeIs h10
  obtain ⟨x11, e11⟩ := takeI h11
  obtain ⟨x12, e12, l12⟩ := takeIs h12
  obtain ⟨x13, e13⟩ := takeI h13
  obtain ⟨x14, e14, l14⟩ := takeIs h14
  obtain ⟨x15, e15⟩ := takeI h15
  obtain ⟨x16, e16, l16⟩ := takeIs h16
  obtain ⟨x17, e17⟩ := takeI h17
  simp [eI] at e0 e1 e2 e3 e4 e5 e6 e7 e8 e9 e10 e11 e12 e13 e14 e15 e16 e17
  subst e0 e1 e2 e3 e4 e5 e6 e7 e8 e9 e10 e11 e12 e13 e14 e15 e16 e17
  exact ⟨⟨x0, x1, x2, x3, x4, x5, x6, x7, x8, x9, x10, x11, x12, x13, x14, x15, x16, x17⟩, rfl, l5, l6, l8, l10, l12, l14, l16⟩
/-- The types of worlds. -/
def SD (t : TypeId) : Prop := t = 25 ∨ t = 73 ∨ t = 22 ∨ t = 23 ∨ t = 3
theorem plainD : Plain Try.prog SD := ⟨fun t h => by
  rcases h with rfl | rfl | rfl | rfl | rfl
  · exact .inr (.inr (.inr (.inr ⟨_, Try.underlying25, by simp [SD], by simp [Tiled, cl3, cl22, cl23, cl25]⟩)))
  · exact .inr (.inr (.inr (.inr ⟨_, Try.underlying73, by simp [SD], by simp [Tiled, cl3, cl73]⟩)))
  · exact .inr (.inr (.inr (.inl ⟨_, Try.underlying22, by simp [SD], by rw [cl3]; decide⟩)))
  · exact .inr (.inr (.inr (.inl ⟨_, Try.underlying23, by simp [SD], by rw [cl73]; decide⟩)))
  · exact .inr (.inl ⟨_, Try.underlying3⟩)⟩
end Go.V

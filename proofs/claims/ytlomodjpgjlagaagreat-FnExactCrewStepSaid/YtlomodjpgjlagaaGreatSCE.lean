/- It is proved that the law FnExactCrewStep returns true for all arguments and leaves its arguments as they were; no condition. -/
import Derived.Test.YtlomodjpgjlagaaGreatSC5
set_option linter.unusedVariables false
set_option linter.unusedSimpArgs false
namespace Go.V
open Go.Proofs
open Nat (reduceAdd reduceEqDiff reduceLT reduceLeDiff)
def UEr_1 := Bx.mk <|
  aN (uA c15.eq_1) <| aN (uR r15_0.eq_1) <| aN (uA c15_5.eq_1) <| aN (uR r15_1.eq_1) <| aN (uA c15_4.eq_1) <| aN (uA c15_3.eq_1) <| aN (uR r15_2.eq_1) <| aN (uR r15_6.eq_1) <| aN (uR r15_7.eq_1) <| aN (uR r15_8.eq_1) <| s15.eq_1
set_option maxHeartbeats 2000000 in
theorem stepI_yes {w : CW} {m : Mv} (h : Can w m) (hsm : Small (stepW w m)) (m0 : Nat) : ACallsF Tryz.prog 15 [tCW w, tM m] (wnH 5001 5002 5003 5004 5005 5006 5007 m0 (stepW w m)) (.tup [.agg (oC 5001 5002 5003 5004 5005 5006 5007 0 0 0 0 0 0 0 (stepW w m)), .one (.v (.s (.bool true)))]) := by
  have ok := h.ok
  have f := ok.form
  have hk := f.st.k
  have h1 := h.who
  obtain ⟨b, hb, C⟩ := isOk_ok w f.small.t
  have w3 : IntKind.i64.wrap (w.workers + 4) = w.workers + 4 := wrap64 ⟨by omega, by omega⟩
  have e : (decide (0 ≤ m.who) && decide (m.who ≤ w.workers + 4 - 1)) = true := by
    rw [← Bool.decide_and]; exact decide_eq_true ⟨h1.1, by omega⟩
  have e2 : ((opn (ways w m.who)).any fun x => x == m.way) = true := (opn_has m.who m.way).2 ⟨h.way, h.open'⟩
  obtain ⟨ks, rfl, Ck⟩ := cases_ok f m.who h1.1 h1.2
  have M := move_all h
  generalize stepW w m = w' at *
  generalize blkW w m = w'' at *
  refine ACallsF.intro ok15 follows fun X c0 => ?_
  simp only [RZ, reduceAdd, reduceIte, reduceEqDiff, reduceLT, reduceLeDiff, reduceCtorEq, Nat.reduceBEq, wnH, UEr_1.d]
  refine callP (m := 2) (w := w) C rfl rfl rfl rfl rfl ⟨rfl, ?_⟩
  cases b with
  | false => cases hb.2 ok
  | true =>
  simp only [RZ, reduceAdd, reduceIte, reduceEqDiff, reduceLT, reduceLeDiff, reduceCtorEq, Nat.reduceBEq, wnH, UEr_1.d, w3]
  refine callC (isPlace_ok m.who (w.workers + 4) (by omega)) rfl rfl rfl rfl ?_
  simp only [RZ, reduceAdd, reduceIte, reduceEqDiff, reduceLT, reduceLeDiff, reduceCtorEq, Nat.reduceBEq, wnH, UEr_1.d, w3, e]
  refine callP (m := 2) (w := w) Ck rfl rfl rfl rfl rfl ⟨rfl, ?_⟩
  simp only [RZ, reduceAdd, reduceIte, reduceEqDiff, reduceLT, reduceLeDiff, reduceCtorEq, Nat.reduceBEq, wnH, UEr_1.d, w3, e]
  refine callC (contains_int _ m.way (by have := opnN_len (ways w m.who) 3; rw [opn]; omega)) rfl rfl rfl rfl ?_
  simp only [RZ, reduceAdd, reduceIte, reduceEqDiff, reduceLT, reduceLeDiff, reduceCtorEq, Nat.reduceBEq, wnH, UEr_1.d, w3, e, e2]
  refine callP7 (m0 := 2) (m := 2000) (fun m0 v m => clone_ok f.small m0 v m) rfl rfl rfl (by decide) (by decide) (by decide) ⟨rfl, ?_⟩
  simp only [RZ, reduceAdd, reduceIte, reduceEqDiff, reduceLT, reduceLeDiff, reduceCtorEq, Nat.reduceBEq, wnH, UEr_1.d, w3, e]
  refine callB (hs := iZ _ _ _ _ _ _ _ _ 6 2000 w w' w'') («as» := [wP 6 _, tM m]) (ob := iZo _ 6 2000 _ w' w'') (M _ _ _ _ _ _ _ _ 6 2000) rfl rfl rfl ⟨rfl, rfl, rfl, rfl, rfl, rfl, rfl, rfl, trivial⟩ nd6 nd8 rfl rfl ⟨rfl, ?_⟩
  simp only [RZ, reduceAdd, reduceIte, reduceEqDiff, reduceLT, reduceLeDiff, reduceCtorEq, Nat.reduceBEq, wnH, UEr_1.d, w3, e, iZ, inH]
  refine callP7 (m0 := 6) (m := 5000) (fun m0 v m => clone_ok hsm m0 v m) rfl rfl rfl (by decide) (by decide) (by decide) ⟨rfl, ?_⟩
  simp only [RZ, reduceAdd, reduceIte, reduceEqDiff, reduceLT, reduceLeDiff, reduceCtorEq, Nat.reduceBEq, wnH, UEr_1.d, w3, e, imp_self, false_implies, and_self]
end Go.V
set_option linter.unusedSimpArgs false
namespace Go.V
open Go.Proofs
open Nat (reduceAdd reduceEqDiff reduceLT reduceLeDiff)
/- loop.example/teagle/laws.szIntS -/
def r50_0 : List AOper := [ao 0 4 (.mv (.k (.i 0)))]
def r50_1 : List AOper := [ao 0 5 (.mv (.t 1)),
  ao 1 6 (.mv (.t 0)),
  ao 2 7 (.len (.t 6)),
  ao 3 8 (.bin .sub (.t 5) (.t 7)),
  ao 4 1 (.mv (.t 8))]
def r50_2 : List AOper := [ao 0 9 (.mv (.t 1)),
  ao 1 10 (.bin .lss (.t 9) (.k (.i 0)))]
def r50_3 : List AOper := [ao 0 4 (.mv (.k (.i (-1))))]
def c50_4 : ACode := .seq (.reg r50_3) .ret
def c50_5 : ACode := .cond (.t 10) c50_4 .skip
def c50_6 : ACode := .seq (.reg r50_2) c50_5
def r50_7 : List AOper := [ao 0 11 (.mv (.t 1)),
  ao 1 4 (.mv (.t 11))]
def c50 : ACode := .seq (.reg r50_0) (.seq (.reg r50_1) (.seq c50_6 (.seq (.reg r50_7) .ret)))
def s50 : List ARes := [.tmp 4]
theorem ok50 : okF Tryz.prog 50 12 c50 s50 := ⟨Tryz.f50, Tryz.func50, Tryz.ntmps50, by kernel_rfl, by kernel_rfl, by kernel_rfl⟩
def UCy_1 := Bx.mk <|
  aN (uA c50.eq_1) <| aN (uR r50_0.eq_1) <| aN (uR r50_1.eq_1) <| aN (uA c50_6.eq_1) <| aN (uR r50_2.eq_1) <| aN (uA c50_5.eq_1) <| aN (uA c50_4.eq_1) <| aN (uR r50_3.eq_1) <| aN (uR r50_7.eq_1) <| s50.eq_1
theorem szIs_ok (xs : List Int) (left : Int) (h0 : 0 ≤ left ∧ left ≤ 1048576) (hl : xs.length ≤ 9223372036854775807) : ACallsF Tryz.prog 50 [tL (en eI xs), .i left] [] (.i (sub1 left xs.length)) := by
  refine ACallsF.intro ok50 follows fun X c0 => ?_
  have gw0 : IntKind.i64.wrap (left - xs.length) = left - xs.length := wrap64 ⟨by omega, by omega⟩
  by_cases hA : (xs.length : Int) ≤ left
  · have k0 : ¬ left - (xs.length : Int) < 0 := by omega
    have k3 : sub1 left xs.length = left - (xs.length : Int) := by rw [sub1, if_pos (by omega)]
    simp only [RZ, reduceAdd, reduceIte, reduceEqDiff, reduceLT, reduceLeDiff, reduceCtorEq, Nat.reduceBEq, UCy_1.d, en_len, gw0, k0, k3]
  · have k0 : left - (xs.length : Int) < 0 := by omega
    have k3 : sub1 left xs.length = -1 := by rw [sub1, if_neg (by omega)]
    simp only [RZ, reduceAdd, reduceIte, reduceEqDiff, reduceLT, reduceLeDiff, reduceCtorEq, Nat.reduceBEq, UCy_1.d, en_len, gw0, k0, k3]
/- loop.example/teagle/laws.szCrewHandS -/
def r51_0 : List AOper := [ao 0 4 (.mv (.k (.i 0)))]
def r51_1 : List AOper := [ao 0 5 (.mv (.t 1)),
  ao 1 6 (.mv (.t 0)),
  ao 2 7 (.len (.t 6)),
  ao 3 8 (.bin .sub (.t 5) (.t 7)),
  ao 4 1 (.mv (.t 8))]
def r51_2 : List AOper := [ao 0 9 (.mv (.t 1)),
  ao 1 10 (.bin .lss (.t 9) (.k (.i 0)))]
def r51_3 : List AOper := [ao 0 4 (.mv (.k (.i (-1))))]
def c51_4 : ACode := .seq (.reg r51_3) .ret
def c51_5 : ACode := .cond (.t 10) c51_4 .skip
def c51_6 : ACode := .seq (.reg r51_2) c51_5
def r51_7 : List AOper := [ao 0 11 (.mv (.t 1)),
  ao 1 4 (.mv (.t 11))]
def c51 : ACode := .seq (.reg r51_0) (.seq (.reg r51_1) (.seq c51_6 (.seq (.reg r51_7) .ret)))
def s51 : List ARes := [.tmp 4]
theorem ok51 : okF Tryz.prog 51 12 c51 s51 := ⟨Tryz.f51, Tryz.func51, Tryz.ntmps51, by kernel_rfl, by kernel_rfl, by kernel_rfl⟩
def UCy_2 := Bx.mk <|
  aN (uA c51.eq_1) <| aN (uR r51_0.eq_1) <| aN (uR r51_1.eq_1) <| aN (uA c51_6.eq_1) <| aN (uR r51_2.eq_1) <| aN (uA c51_5.eq_1) <| aN (uA c51_4.eq_1) <| aN (uR r51_3.eq_1) <| aN (uR r51_7.eq_1) <| s51.eq_1
theorem szHs_ok (xs : List Hd) (left : Int) (h0 : 0 ≤ left ∧ left ≤ 1048576) (hl : xs.length ≤ 9223372036854775807) : ACallsF Tryz.prog 51 [tL (en eH xs), .i left] [] (.i (sub1 left xs.length)) := by
  refine ACallsF.intro ok51 follows fun X c0 => ?_
  have gw0 : IntKind.i64.wrap (left - xs.length) = left - xs.length := wrap64 ⟨by omega, by omega⟩
  by_cases hA : (xs.length : Int) ≤ left
  · have k0 : ¬ left - (xs.length : Int) < 0 := by omega
    have k3 : sub1 left xs.length = left - (xs.length : Int) := by rw [sub1, if_pos (by omega)]
    simp only [RZ, reduceAdd, reduceIte, reduceEqDiff, reduceLT, reduceLeDiff, reduceCtorEq, Nat.reduceBEq, UCy_2.d, en_len, gw0, k0, k3]
  · have k0 : left - (xs.length : Int) < 0 := by omega
    have k3 : sub1 left xs.length = -1 := by rw [sub1, if_neg (by omega)]
    simp only [RZ, reduceAdd, reduceIte, reduceEqDiff, reduceLT, reduceLeDiff, reduceCtorEq, Nat.reduceBEq, UCy_2.d, en_len, gw0, k0, k3]
/-- The rows of a world as an argument may have them. -/
structure ArgW (w : CW) : Prop where
  queue : w.queue.length ≤ 9223372036854775807
  hands : w.hands.length ≤ 9223372036854775807
  results : w.results.length ≤ 9223372036854775807
  ring : w.ring.length ≤ 9223372036854775807
  out : w.out.length ≤ 9223372036854775807
  got : w.got.length ≤ 9223372036854775807
  shut : w.shut.length ≤ 9223372036854775807
structure Sml (w : CW) : Prop where
  queue : w.queue.length ≤ 1048576
  hands : w.hands.length ≤ 1048576
  results : w.results.length ≤ 1048576
  ring : w.ring.length ≤ 1048576
  out : w.out.length ≤ 1048576
  got : w.got.length ≤ 1048576
  shut : w.shut.length ≤ 1048576
  all : w.queue.length + w.hands.length + w.results.length + w.ring.length + w.out.length + w.got.length + w.shut.length ≤ 1048576
theorem Sml.small {w : CW} (h : Sml w) : Small w := ⟨by have := h.queue; omega, by have := h.hands; omega, by have := h.results; omega, by have := h.ring; omega, by have := h.out; omega, by have := h.got; omega, by have := h.shut; omega⟩
/- loop.example/teagle/laws.szCrewWorld -/
def r24_0 : List AOper := [ao 0 2 (.box 45 (.t 0)),
  ao 1 4 (.mv (.k (.i 0)))]
def r24_1 : List AOper := [ao 0 5 (.fa 5 (.t 2)),
  ao 1 6 (.ld 1 false (.t 5)),
  ao 2 7 (.mv (.t 1)),
  ao 3 8 (.call (.k (.c (.fn 50 []))) [(.t 6), (.t 7)]),
  ao 4 1 (.mv (.t 8))]
def r24_2 : List AOper := [ao 0 9 (.mv (.t 1)),
  ao 1 10 (.bin .lss (.t 9) (.k (.i 0)))]
def r24_3 : List AOper := [ao 0 4 (.mv (.k (.i (-1))))]
def c24_4 : ACode := .seq (.reg r24_3) .ret
def c24_5 : ACode := .cond (.t 10) c24_4 .skip
def c24_6 : ACode := .seq (.reg r24_2) c24_5
def r24_7 : List AOper := [ao 0 11 (.fa 6 (.t 2)),
  ao 1 12 (.ld 1 false (.t 11)),
  ao 2 13 (.mv (.t 1)),
  ao 3 14 (.call (.k (.c (.fn 51 []))) [(.t 12), (.t 13)]),
  ao 4 1 (.mv (.t 14))]
def r24_8 : List AOper := [ao 0 15 (.mv (.t 1)),
  ao 1 16 (.bin .lss (.t 15) (.k (.i 0)))]
def r24_9 : List AOper := [ao 0 4 (.mv (.k (.i (-1))))]
def c24_10 : ACode := .seq (.reg r24_9) .ret
def c24_11 : ACode := .cond (.t 16) c24_10 .skip
def c24_12 : ACode := .seq (.reg r24_8) c24_11
def r24_13 : List AOper := [ao 0 17 (.fa 8 (.t 2)),
  ao 1 18 (.ld 1 false (.t 17)),
  ao 2 19 (.mv (.t 1)),
  ao 3 20 (.call (.k (.c (.fn 50 []))) [(.t 18), (.t 19)]),
  ao 4 1 (.mv (.t 20))]
def r24_14 : List AOper := [ao 0 21 (.mv (.t 1)),
  ao 1 22 (.bin .lss (.t 21) (.k (.i 0)))]
def r24_15 : List AOper := [ao 0 4 (.mv (.k (.i (-1))))]
def c24_16 : ACode := .seq (.reg r24_15) .ret
def c24_17 : ACode := .cond (.t 22) c24_16 .skip
def c24_18 : ACode := .seq (.reg r24_14) c24_17
def r24_19 : List AOper := [ao 0 23 (.fa 10 (.t 2)),
  ao 1 24 (.ld 1 false (.t 23)),
  ao 2 25 (.mv (.t 1)),
  ao 3 26 (.call (.k (.c (.fn 50 []))) [(.t 24), (.t 25)]),
  ao 4 1 (.mv (.t 26))]
def r24_20 : List AOper := [ao 0 27 (.mv (.t 1)),
  ao 1 28 (.bin .lss (.t 27) (.k (.i 0)))]
def r24_21 : List AOper := [ao 0 4 (.mv (.k (.i (-1))))]
def c24_22 : ACode := .seq (.reg r24_21) .ret
def c24_23 : ACode := .cond (.t 28) c24_22 .skip
def c24_24 : ACode := .seq (.reg r24_20) c24_23
def r24_25 : List AOper := [ao 0 29 (.fa 12 (.t 2)),
  ao 1 30 (.ld 1 false (.t 29)),
  ao 2 31 (.mv (.t 1)),
  ao 3 32 (.call (.k (.c (.fn 50 []))) [(.t 30), (.t 31)]),
  ao 4 1 (.mv (.t 32))]
def r24_26 : List AOper := [ao 0 33 (.mv (.t 1)),
  ao 1 34 (.bin .lss (.t 33) (.k (.i 0)))]
def r24_27 : List AOper := [ao 0 4 (.mv (.k (.i (-1))))]
def c24_28 : ACode := .seq (.reg r24_27) .ret
def c24_29 : ACode := .cond (.t 34) c24_28 .skip
def c24_30 : ACode := .seq (.reg r24_26) c24_29
def r24_31 : List AOper := [ao 0 35 (.fa 14 (.t 2)),
  ao 1 36 (.ld 1 false (.t 35)),
  ao 2 37 (.mv (.t 1)),
  ao 3 38 (.call (.k (.c (.fn 50 []))) [(.t 36), (.t 37)]),
  ao 4 1 (.mv (.t 38))]
def r24_32 : List AOper := [ao 0 39 (.mv (.t 1)),
  ao 1 40 (.bin .lss (.t 39) (.k (.i 0)))]
def r24_33 : List AOper := [ao 0 4 (.mv (.k (.i (-1))))]
def c24_34 : ACode := .seq (.reg r24_33) .ret
def c24_35 : ACode := .cond (.t 40) c24_34 .skip
def c24_36 : ACode := .seq (.reg r24_32) c24_35
def r24_37 : List AOper := [ao 0 41 (.fa 16 (.t 2)),
  ao 1 42 (.ld 1 false (.t 41)),
  ao 2 43 (.mv (.t 1)),
  ao 3 44 (.call (.k (.c (.fn 50 []))) [(.t 42), (.t 43)]),
  ao 4 1 (.mv (.t 44))]
def r24_38 : List AOper := [ao 0 45 (.mv (.t 1)),
  ao 1 46 (.bin .lss (.t 45) (.k (.i 0)))]
def r24_39 : List AOper := [ao 0 4 (.mv (.k (.i (-1))))]
def c24_40 : ACode := .seq (.reg r24_39) .ret
def c24_41 : ACode := .cond (.t 46) c24_40 .skip
def c24_42 : ACode := .seq (.reg r24_38) c24_41
def r24_43 : List AOper := [ao 0 47 (.mv (.t 1)),
  ao 1 4 (.mv (.t 47))]
def c24 : ACode := .seq (.reg r24_0) (.seq (.reg r24_1) (.seq c24_6 (.seq (.reg r24_7) (.seq c24_12 (.seq (.reg r24_13) (.seq c24_18 (.seq (.reg r24_19) (.seq c24_24 (.seq (.reg r24_25) (.seq c24_30 (.seq (.reg r24_31) (.seq c24_36 (.seq (.reg r24_37) (.seq c24_42 (.seq (.reg r24_43) .ret)))))))))))))))
def s24 : List ARes := [.tmp 4]
theorem ok24 : okF Tryz.prog 24 48 c24 s24 := ⟨Tryz.f24, Tryz.func24, Tryz.ntmps24, by kernel_rfl, by kernel_rfl, by kernel_rfl⟩
def UCy_3 := Bx.mk <|
  aN (uA c24.eq_1) <| aN (uR r24_0.eq_1) <| aN (uR r24_1.eq_1) <| aN (uA c24_6.eq_1) <| aN (uR r24_2.eq_1) <| aN (uA c24_5.eq_1) <| aN (uA c24_4.eq_1) <| aN (uR r24_3.eq_1) <| aN (uR r24_7.eq_1) <| aN (uA c24_12.eq_1) <| aN (uR r24_8.eq_1) <| aN (uA c24_11.eq_1) <| aN (uA c24_10.eq_1) <| aN (uR r24_9.eq_1) <| aN (uR r24_13.eq_1) <| aN (uA c24_18.eq_1) <| aN (uR r24_14.eq_1) <| aN (uA c24_17.eq_1) <| aN (uA c24_16.eq_1) <| aN (uR r24_15.eq_1) <| aN (uR r24_19.eq_1) <| aN (uA c24_24.eq_1) <| aN (uR r24_20.eq_1) <| aN (uA c24_23.eq_1) <| aN (uA c24_22.eq_1) <| aN (uR r24_21.eq_1) <| aN (uR r24_25.eq_1) <| aN (uA c24_30.eq_1) <| aN (uR r24_26.eq_1) <| aN (uA c24_29.eq_1) <| aN (uA c24_28.eq_1) <| aN (uR r24_27.eq_1) <| aN (uR r24_31.eq_1) <| aN (uA c24_36.eq_1) <| aN (uR r24_32.eq_1) <| aN (uA c24_35.eq_1) <| aN (uA c24_34.eq_1) <| aN (uR r24_33.eq_1) <| aN (uR r24_37.eq_1) <| aN (uA c24_42.eq_1) <| aN (uR r24_38.eq_1) <| aN (uA c24_41.eq_1) <| aN (uA c24_40.eq_1) <| aN (uR r24_39.eq_1) <| aN (uR r24_43.eq_1) <| s24.eq_1
set_option maxHeartbeats 1000000 in
theorem szCW_ok {w : CW} (h : ArgW w) : PC 24 [tCW w, .i 1048576] (fun q : Int => q = -1 ∨ (0 ≤ q ∧ Sml w)) T.i := by
  refine PC.intro ok24 rfl (fun _ => rfl) fun X => ?_
  have l0 : (0 : Int) ≤ 1048576 ∧ (1048576 : Int) ≤ 1048576 := by omega
  simp only [RZ, reduceAdd, reduceIte, reduceEqDiff, reduceLT, reduceLeDiff, reduceCtorEq, Nat.reduceBEq, UCy_3.d]
  refine callC (szIs_ok w.queue 1048576 l0 h.queue) rfl rfl rfl rfl ?_
  by_cases p1 : (w.queue.length : Int) ≤ 1048576
  rotate_left
  · have e : sub1 1048576 w.queue.length = -1 := by rw [sub1, if_neg p1]
    have e2 : (-1 : Int) < 0 := by decide
    simp only [RZ, reduceAdd, reduceIte, reduceEqDiff, reduceLT, reduceLeDiff, reduceCtorEq, Nat.reduceBEq, UCy_3.d, e, e2]
    refine ES.mk (-1) (.inl rfl) ?_
    simp only [RZ, reduceAdd, reduceIte, reduceEqDiff, reduceLT, reduceLeDiff, reduceCtorEq, Nat.reduceBEq, UCy_3.d, e, e2]
  obtain ⟨x1, y1⟩ : ∃ x : Int, sub1 1048576 w.queue.length = x := ⟨_, rfl⟩
  have z1 : x1 = 1048576 - (w.queue.length : Int) := by rw [← y1, sub1, if_pos p1]
  have l1 : 0 ≤ x1 ∧ x1 ≤ 1048576 := by omega
  have n1 : ¬ x1 < 0 := by omega
  simp only [RZ, reduceAdd, reduceIte, reduceEqDiff, reduceLT, reduceLeDiff, reduceCtorEq, Nat.reduceBEq, UCy_3.d, y1, n1]
  refine callC (szHs_ok w.hands x1 l1 h.hands) rfl rfl rfl rfl ?_
  by_cases p2 : (w.hands.length : Int) ≤ x1
  rotate_left
  · have e : sub1 x1 w.hands.length = -1 := by rw [sub1, if_neg p2]
    have e2 : (-1 : Int) < 0 := by decide
    simp only [RZ, reduceAdd, reduceIte, reduceEqDiff, reduceLT, reduceLeDiff, reduceCtorEq, Nat.reduceBEq, UCy_3.d, y1, n1, e, e2]
    refine ES.mk (-1) (.inl rfl) ?_
    simp only [RZ, reduceAdd, reduceIte, reduceEqDiff, reduceLT, reduceLeDiff, reduceCtorEq, Nat.reduceBEq, UCy_3.d, y1, n1, e, e2]
  obtain ⟨x2, y2⟩ : ∃ x : Int, sub1 x1 w.hands.length = x := ⟨_, rfl⟩
  have z2 : x2 = x1 - (w.hands.length : Int) := by rw [← y2, sub1, if_pos p2]
  have l2 : 0 ≤ x2 ∧ x2 ≤ 1048576 := by omega
  have n2 : ¬ x2 < 0 := by omega
  simp only [RZ, reduceAdd, reduceIte, reduceEqDiff, reduceLT, reduceLeDiff, reduceCtorEq, Nat.reduceBEq, UCy_3.d, y1, n1, y2, n2]
  refine callC (szIs_ok w.results x2 l2 h.results) rfl rfl rfl rfl ?_
  by_cases p3 : (w.results.length : Int) ≤ x2
  rotate_left
  · have e : sub1 x2 w.results.length = -1 := by rw [sub1, if_neg p3]
    have e2 : (-1 : Int) < 0 := by decide
    simp only [RZ, reduceAdd, reduceIte, reduceEqDiff, reduceLT, reduceLeDiff, reduceCtorEq, Nat.reduceBEq, UCy_3.d, y1, n1, y2, n2, e, e2]
    refine ES.mk (-1) (.inl rfl) ?_
    simp only [RZ, reduceAdd, reduceIte, reduceEqDiff, reduceLT, reduceLeDiff, reduceCtorEq, Nat.reduceBEq, UCy_3.d, y1, n1, y2, n2, e, e2]
  obtain ⟨x3, y3⟩ : ∃ x : Int, sub1 x2 w.results.length = x := ⟨_, rfl⟩
  have z3 : x3 = x2 - (w.results.length : Int) := by rw [← y3, sub1, if_pos p3]
  have l3 : 0 ≤ x3 ∧ x3 ≤ 1048576 := by omega
  have n3 : ¬ x3 < 0 := by omega
  simp only [RZ, reduceAdd, reduceIte, reduceEqDiff, reduceLT, reduceLeDiff, reduceCtorEq, Nat.reduceBEq, UCy_3.d, y1, n1, y2, n2, y3, n3]
  refine callC (szIs_ok w.ring x3 l3 h.ring) rfl rfl rfl rfl ?_
  by_cases p4 : (w.ring.length : Int) ≤ x3
  rotate_left
  · have e : sub1 x3 w.ring.length = -1 := by rw [sub1, if_neg p4]
    have e2 : (-1 : Int) < 0 := by decide
    simp only [RZ, reduceAdd, reduceIte, reduceEqDiff, reduceLT, reduceLeDiff, reduceCtorEq, Nat.reduceBEq, UCy_3.d, y1, n1, y2, n2, y3, n3, e, e2]
    refine ES.mk (-1) (.inl rfl) ?_
    simp only [RZ, reduceAdd, reduceIte, reduceEqDiff, reduceLT, reduceLeDiff, reduceCtorEq, Nat.reduceBEq, UCy_3.d, y1, n1, y2, n2, y3, n3, e, e2]
  obtain ⟨x4, y4⟩ : ∃ x : Int, sub1 x3 w.ring.length = x := ⟨_, rfl⟩
  have z4 : x4 = x3 - (w.ring.length : Int) := by rw [← y4, sub1, if_pos p4]
  have l4 : 0 ≤ x4 ∧ x4 ≤ 1048576 := by omega
  have n4 : ¬ x4 < 0 := by omega
  simp only [RZ, reduceAdd, reduceIte, reduceEqDiff, reduceLT, reduceLeDiff, reduceCtorEq, Nat.reduceBEq, UCy_3.d, y1, n1, y2, n2, y3, n3, y4, n4]
  refine callC (szIs_ok w.out x4 l4 h.out) rfl rfl rfl rfl ?_
  by_cases p5 : (w.out.length : Int) ≤ x4
  rotate_left
  · have e : sub1 x4 w.out.length = -1 := by rw [sub1, if_neg p5]
    have e2 : (-1 : Int) < 0 := by decide
    simp only [RZ, reduceAdd, reduceIte, reduceEqDiff, reduceLT, reduceLeDiff, reduceCtorEq, Nat.reduceBEq, UCy_3.d, y1, n1, y2, n2, y3, n3, y4, n4, e, e2]
    refine ES.mk (-1) (.inl rfl) ?_
    simp only [RZ, reduceAdd, reduceIte, reduceEqDiff, reduceLT, reduceLeDiff, reduceCtorEq, Nat.reduceBEq, UCy_3.d, y1, n1, y2, n2, y3, n3, y4, n4, e, e2]
  obtain ⟨x5, y5⟩ : ∃ x : Int, sub1 x4 w.out.length = x := ⟨_, rfl⟩
  have z5 : x5 = x4 - (w.out.length : Int) := by rw [← y5, sub1, if_pos p5]
  have l5 : 0 ≤ x5 ∧ x5 ≤ 1048576 := by omega
  have n5 : ¬ x5 < 0 := by omega
  simp only [RZ, reduceAdd, reduceIte, reduceEqDiff, reduceLT, reduceLeDiff, reduceCtorEq, Nat.reduceBEq, UCy_3.d, y1, n1, y2, n2, y3, n3, y4, n4, y5, n5]
  refine callC (szIs_ok w.got x5 l5 h.got) rfl rfl rfl rfl ?_
  by_cases p6 : (w.got.length : Int) ≤ x5
  rotate_left
  · have e : sub1 x5 w.got.length = -1 := by rw [sub1, if_neg p6]
    have e2 : (-1 : Int) < 0 := by decide
    simp only [RZ, reduceAdd, reduceIte, reduceEqDiff, reduceLT, reduceLeDiff, reduceCtorEq, Nat.reduceBEq, UCy_3.d, y1, n1, y2, n2, y3, n3, y4, n4, y5, n5, e, e2]
    refine ES.mk (-1) (.inl rfl) ?_
    simp only [RZ, reduceAdd, reduceIte, reduceEqDiff, reduceLT, reduceLeDiff, reduceCtorEq, Nat.reduceBEq, UCy_3.d, y1, n1, y2, n2, y3, n3, y4, n4, y5, n5, e, e2]
  obtain ⟨x6, y6⟩ : ∃ x : Int, sub1 x5 w.got.length = x := ⟨_, rfl⟩
  have z6 : x6 = x5 - (w.got.length : Int) := by rw [← y6, sub1, if_pos p6]
  have l6 : 0 ≤ x6 ∧ x6 ≤ 1048576 := by omega
  have n6 : ¬ x6 < 0 := by omega
  simp only [RZ, reduceAdd, reduceIte, reduceEqDiff, reduceLT, reduceLeDiff, reduceCtorEq, Nat.reduceBEq, UCy_3.d, y1, n1, y2, n2, y3, n3, y4, n4, y5, n5, y6, n6]
  refine callC (szIs_ok w.shut x6 l6 h.shut) rfl rfl rfl rfl ?_
  by_cases p7 : (w.shut.length : Int) ≤ x6
  rotate_left
  · have e : sub1 x6 w.shut.length = -1 := by rw [sub1, if_neg p7]
    have e2 : (-1 : Int) < 0 := by decide
    simp only [RZ, reduceAdd, reduceIte, reduceEqDiff, reduceLT, reduceLeDiff, reduceCtorEq, Nat.reduceBEq, UCy_3.d, y1, n1, y2, n2, y3, n3, y4, n4, y5, n5, y6, n6, e, e2]
    refine ES.mk (-1) (.inl rfl) ?_
    simp only [RZ, reduceAdd, reduceIte, reduceEqDiff, reduceLT, reduceLeDiff, reduceCtorEq, Nat.reduceBEq, UCy_3.d, y1, n1, y2, n2, y3, n3, y4, n4, y5, n5, y6, n6, e, e2]
  obtain ⟨x7, y7⟩ : ∃ x : Int, sub1 x6 w.shut.length = x := ⟨_, rfl⟩
  have z7 : x7 = x6 - (w.shut.length : Int) := by rw [← y7, sub1, if_pos p7]
  have l7 : 0 ≤ x7 ∧ x7 ≤ 1048576 := by omega
  have n7 : ¬ x7 < 0 := by omega
  simp only [RZ, reduceAdd, reduceIte, reduceEqDiff, reduceLT, reduceLeDiff, reduceCtorEq, Nat.reduceBEq, UCy_3.d, y1, n1, y2, n2, y3, n3, y4, n4, y5, n5, y6, n6, y7, n7]
  refine ES.mk x7 (.inr ⟨l7.1, ⟨by omega, by omega, by omega, by omega, by omega, by omega, by omega, by omega⟩⟩) ?_
  simp only [RZ, reduceAdd, reduceIte, reduceEqDiff, reduceLT, reduceLeDiff, reduceCtorEq, Nat.reduceBEq, UCy_3.d, y1, n1, y2, n2, y3, n3, y4, n4, y5, n5, y6, n6, y7, n7]
theorem ne0 (x : Int) : (x != x) = false := by simp
/- loop.example/teagle/laws.eqCrewHand -/
def r98_0 : List AOper := [ao 0 2 (.box 68 (.t 0)),
  ao 1 3 (.box 68 (.t 1)),
  ao 2 4 (.mv (.k (.b false)))]
def r98_1 : List AOper := [ao 0 5 (.fa 0 (.t 2)),
  ao 1 6 (.ld 1 false (.t 5)),
  ao 2 7 (.fa 0 (.t 3)),
  ao 3 8 (.ld 1 false (.t 7)),
  ao 4 9 (.bin .neq (.t 6) (.t 8))]
def r98_2 : List AOper := [ao 0 4 (.mv (.k (.b false)))]
def c98_3 : ACode := .seq (.reg r98_2) .ret
def c98_4 : ACode := .cond (.t 9) c98_3 .skip
def c98_5 : ACode := .seq (.reg r98_1) c98_4
def r98_6 : List AOper := [ao 0 10 (.fa 1 (.t 2)),
  ao 1 11 (.ld 1 false (.t 10)),
  ao 2 12 (.fa 1 (.t 3)),
  ao 3 13 (.ld 1 false (.t 12)),
  ao 4 14 (.bin .neq (.t 11) (.t 13))]
def r98_7 : List AOper := [ao 0 4 (.mv (.k (.b false)))]
def c98_8 : ACode := .seq (.reg r98_7) .ret
def c98_9 : ACode := .cond (.t 14) c98_8 .skip
def c98_10 : ACode := .seq (.reg r98_6) c98_9
def r98_11 : List AOper := [ao 0 4 (.mv (.k (.b true)))]
def c98 : ACode := .seq (.reg r98_0) (.seq c98_5 (.seq c98_10 (.seq (.reg r98_11) .ret)))
def s98 : List ARes := [.tmp 4]
theorem ok98 : okF Tryz.prog 98 15 c98 s98 := ⟨Tryz.f98, Tryz.func98, Tryz.ntmps98, by kernel_rfl, by kernel_rfl, by kernel_rfl⟩
def UCy_4 := Bx.mk <|
  aN (uA c98.eq_1) <| aN (uR r98_0.eq_1) <| aN (uA c98_5.eq_1) <| aN (uR r98_1.eq_1) <| aN (uA c98_4.eq_1) <| aN (uA c98_3.eq_1) <| aN (uR r98_2.eq_1) <| aN (uA c98_10.eq_1) <| aN (uR r98_6.eq_1) <| aN (uA c98_9.eq_1) <| aN (uA c98_8.eq_1) <| aN (uR r98_7.eq_1) <| aN (uR r98_11.eq_1) <| s98.eq_1
theorem eqHd_ok (x : Hd) : ACallsF Tryz.prog 98 [tH x, tH x] [] (.b true) := by
  refine ACallsF.intro ok98 follows fun X c0 => ?_
  simp only [RZ, reduceAdd, reduceIte, reduceEqDiff, reduceLT, reduceLeDiff, reduceCtorEq, Nat.reduceBEq, UCy_4.d, ne0]
/- loop.example/teagle/laws.eqIntS -/
def r58_0 : List AOper := [ao 0 4 (.mv (.k (.b false)))]
def r58_1 : List AOper := [ao 0 6 (.mv (.t 0)),
  ao 1 7 (.len (.t 6)),
  ao 2 8 (.mv (.t 1)),
  ao 3 9 (.len (.t 8)),
  ao 4 10 (.bin .neq (.t 7) (.t 9))]
def r58_2 : List AOper := [ao 0 4 (.mv (.k (.b false)))]
def c58_3 : ACode := .seq (.reg r58_2) .ret
def c58_4 : ACode := .cond (.t 10) c58_3 .skip
def c58_5 : ACode := .seq (.reg r58_1) c58_4
def r58_6 : List AOper := [ao 0 5 (.mv (.k (.i 0)))]
def r58_7 : List AOper := [ao 0 11 (.mv (.t 5)),
  ao 1 12 (.mv (.t 0)),
  ao 2 13 (.len (.t 12)),
  ao 3 14 (.bin .lss (.t 11) (.t 13))]
def c58_8 : ACode := .cond (.t 14) .skip (.exit 0)
def c58_9 : ACode := .seq (.reg r58_7) c58_8
def r58_10 : List AOper := [ao 0 17 (.mv (.t 0)),
  au 1 18 [0] (.mv (.t 5)),
  ao 2 19 (.ia 1 (.t 17) (.t 18)),
  ao 3 20 (.ld 1 false (.t 19)),
  au 4 21 (ru 4) (.mv (.t 1)),
  au 5 22 (ru 5) (.mv (.t 5)),
  au 6 23 (ru 4) (.ia 1 (.t 21) (.t 22)),
  au 7 24 (ru 4) (.ld 1 false (.t 23)),
  ao 8 25 (.bin .neq (.t 20) (.t 24))]
def r58_11 : List AOper := [ao 0 4 (.mv (.k (.b false)))]
def c58_12 : ACode := .seq (.reg r58_11) .ret
def c58_13 : ACode := .cond (.t 25) c58_12 .skip
def c58_14 : ACode := .seq (.reg r58_10) c58_13
def c58_15 : ACode := .block 1 c58_14
def r58_16 : List AOper := [ao 0 15 (.mv (.t 5)),
  ao 1 16 (.bin .add (.t 15) (.k (.i 1))),
  ao 2 5 (.mv (.t 16))]
def c58_17 : ACode := .seq c58_9 (.seq c58_15 (.reg r58_16))
def c58_18 : ACode := .loop c58_17
def c58_19 : ACode := .block 0 c58_18
def c58_20 : ACode := .seq (.reg r58_6) c58_19
def r58_21 : List AOper := [ao 0 4 (.mv (.k (.b true)))]
def c58 : ACode := .seq (.reg r58_0) (.seq c58_5 (.seq c58_20 (.seq (.reg r58_21) .ret)))
def s58 : List ARes := [.tmp 4]
theorem ok58 : okF Tryz.prog 58 26 c58 s58 := ⟨Tryz.f58, Tryz.func58, Tryz.ntmps58, by kernel_rfl, by kernel_rfl, by kernel_rfl⟩
def inv58 (xs : List Int) (i : Nat) (σ : St) : Prop := σ.t 0 = tL (en eI xs) ∧ σ.t 1 = tL (en eI xs) ∧ σ.t 5 = .i i
def UCy_5 := Bx.mk <|
  aN (uA c58.eq_1) <| aN (uR r58_0.eq_1) <| aN (uA c58_5.eq_1) <| aN (uR r58_1.eq_1) <| aN (uA c58_4.eq_1) <| aN (uA c58_3.eq_1) <| aN (uR r58_2.eq_1) <| aN (uA c58_20.eq_1) <| aN (uR r58_6.eq_1) <| aN (uA c58_19.eq_1) <| aN (uA c58_18.eq_1) <| aN (uR r58_21.eq_1) <| s58.eq_1
def UCy_8 := Bx.mk <|
  aN (uA c58_17.eq_1) <| aN (uA c58_9.eq_1) <| aN (uR r58_7.eq_1) <| aN (uA c58_8.eq_1) <| aN (uA c58_15.eq_1) <| aN (uA c58_14.eq_1) <| aN (uR r58_10.eq_1) <| aN (uA c58_13.eq_1) <| aN (uA c58_12.eq_1) <| aN (uR r58_11.eq_1) <| aN (uR r58_16.eq_1) <| aN (uA c58.eq_1) <| aN (uR r58_0.eq_1) <| aN (uA c58_5.eq_1) <| aN (uR r58_1.eq_1) <| aN (uA c58_4.eq_1) <| aN (uA c58_3.eq_1) <| aN (uR r58_2.eq_1) <| aN (uA c58_20.eq_1) <| aN (uR r58_6.eq_1) <| aN (uA c58_19.eq_1) <| aN (uA c58_18.eq_1) <| aN (uR r58_21.eq_1) <| s58.eq_1
theorem eqIs_ok (xs : List Int) (hl : xs.length ≤ 2000000) : ACallsF Tryz.prog 58 [tL (en eI xs), tL (en eI xs)] [] (.b true) := by
  have n0 : ((xs.length : Int) != xs.length) = false := by simp
  refine ACallsF.intro ok58 follows fun X c0 => ?_
  simp only [RZ, reduceAdd, reduceIte, reduceEqDiff, reduceLT, reduceLeDiff, reduceCtorEq, Nat.reduceBEq, UCy_5.d, n0]
  refine AW.upto xs.length (inv58 xs) ⟨rfl, rfl, rfl⟩ fun i t H c hi h => ?_
  obtain ⟨e0, e1, e5⟩ := h
  simp only [T.c, T.i, tL] at e0 e1 e5
  by_cases k1 : (i : Int) < xs.length
  · obtain ⟨x, hx⟩ : ∃ x, xs[i]? = some x := ⟨_, List.getElem?_eq_getElem (by omega)⟩
    have ex := en_at eI hx
    have gz : (0 : Int) ≤ i := by omega
    have gw := w1_ok (i := i) (by omega)
    simp only [RZ, reduceAdd, reduceIte, reduceEqDiff, reduceLT, reduceLeDiff, reduceCtorEq, Nat.reduceBEq, UCy_8.d, e0, e1, e5, en_len, k1, gz, ex, eI, ne0, gw]
    exact ⟨by omega, e0, e1, rfl⟩
  · simp only [RZ, reduceAdd, reduceIte, reduceEqDiff, reduceLT, reduceLeDiff, reduceCtorEq, Nat.reduceBEq, UCy_8.d, UCy_5.d, e0, e1, e5, en_len, k1]
/- loop.example/teagle/laws.eqCrewHandS -/
def r59_0 : List AOper := [ao 0 4 (.mv (.k (.b false)))]
def r59_1 : List AOper := [ao 0 6 (.mv (.t 0)),
  ao 1 7 (.len (.t 6)),
  ao 2 8 (.mv (.t 1)),
  ao 3 9 (.len (.t 8)),
  ao 4 10 (.bin .neq (.t 7) (.t 9))]
def r59_2 : List AOper := [ao 0 4 (.mv (.k (.b false)))]
def c59_3 : ACode := .seq (.reg r59_2) .ret
def c59_4 : ACode := .cond (.t 10) c59_3 .skip
def c59_5 : ACode := .seq (.reg r59_1) c59_4
def r59_6 : List AOper := [ao 0 5 (.mv (.k (.i 0)))]
def r59_7 : List AOper := [ao 0 11 (.mv (.t 5)),
  ao 1 12 (.mv (.t 0)),
  ao 2 13 (.len (.t 12)),
  ao 3 14 (.bin .lss (.t 11) (.t 13))]
def c59_8 : ACode := .cond (.t 14) .skip (.exit 0)
def c59_9 : ACode := .seq (.reg r59_7) c59_8
def r59_10 : List AOper := [ao 0 17 (.mv (.t 0)),
  au 1 18 [0] (.mv (.t 5)),
  ao 2 19 (.ia 2 (.t 17) (.t 18)),
  ao 3 20 (.ld 2 true (.t 19)),
  au 4 21 (ru 4) (.mv (.t 1)),
  au 5 22 (ru 5) (.mv (.t 5)),
  au 6 23 (ru 4) (.ia 2 (.t 21) (.t 22)),
  au 7 24 (ru 4) (.ld 2 true (.t 23)),
  ao 8 25 (.call (.k (.c (.fn 98 []))) [(.t 20), (.t 24)]),
  ao 9 26 (.un .not (.t 25))]
def r59_11 : List AOper := [ao 0 4 (.mv (.k (.b false)))]
def c59_12 : ACode := .seq (.reg r59_11) .ret
def c59_13 : ACode := .cond (.t 26) c59_12 .skip
def c59_14 : ACode := .seq (.reg r59_10) c59_13
def c59_15 : ACode := .block 1 c59_14
def r59_16 : List AOper := [ao 0 15 (.mv (.t 5)),
  ao 1 16 (.bin .add (.t 15) (.k (.i 1))),
  ao 2 5 (.mv (.t 16))]
def c59_17 : ACode := .seq c59_9 (.seq c59_15 (.reg r59_16))
def c59_18 : ACode := .loop c59_17
def c59_19 : ACode := .block 0 c59_18
def c59_20 : ACode := .seq (.reg r59_6) c59_19
def r59_21 : List AOper := [ao 0 4 (.mv (.k (.b true)))]
def c59 : ACode := .seq (.reg r59_0) (.seq c59_5 (.seq c59_20 (.seq (.reg r59_21) .ret)))
def s59 : List ARes := [.tmp 4]
theorem ok59 : okF Tryz.prog 59 27 c59 s59 := ⟨Tryz.f59, Tryz.func59, Tryz.ntmps59, by kernel_rfl, by kernel_rfl, by kernel_rfl⟩
def inv59 (xs : List Hd) (i : Nat) (σ : St) : Prop := σ.t 0 = tL (en eH xs) ∧ σ.t 1 = tL (en eH xs) ∧ σ.t 5 = .i i
def UCy_6 := Bx.mk <|
  aN (uA c59.eq_1) <| aN (uR r59_0.eq_1) <| aN (uA c59_5.eq_1) <| aN (uR r59_1.eq_1) <| aN (uA c59_4.eq_1) <| aN (uA c59_3.eq_1) <| aN (uR r59_2.eq_1) <| aN (uA c59_20.eq_1) <| aN (uR r59_6.eq_1) <| aN (uA c59_19.eq_1) <| aN (uA c59_18.eq_1) <| aN (uR r59_21.eq_1) <| s59.eq_1
def UCy_9 := Bx.mk <|
  aN (uA c59_17.eq_1) <| aN (uA c59_9.eq_1) <| aN (uR r59_7.eq_1) <| aN (uA c59_8.eq_1) <| aN (uA c59_15.eq_1) <| aN (uA c59_14.eq_1) <| aN (uR r59_10.eq_1) <| aN (uA c59_13.eq_1) <| aN (uA c59_12.eq_1) <| aN (uR r59_11.eq_1) <| aN (uR r59_16.eq_1) <| aN (uA c59.eq_1) <| aN (uR r59_0.eq_1) <| aN (uA c59_5.eq_1) <| aN (uR r59_1.eq_1) <| aN (uA c59_4.eq_1) <| aN (uA c59_3.eq_1) <| aN (uR r59_2.eq_1) <| aN (uA c59_20.eq_1) <| aN (uR r59_6.eq_1) <| aN (uA c59_19.eq_1) <| aN (uA c59_18.eq_1) <| aN (uR r59_21.eq_1) <| s59.eq_1
theorem eqHs_ok (xs : List Hd) (hl : xs.length ≤ 2000000) : ACallsF Tryz.prog 59 [tL (en eH xs), tL (en eH xs)] [] (.b true) := by
  have n0 : ((xs.length : Int) != xs.length) = false := by simp
  refine ACallsF.intro ok59 follows fun X c0 => ?_
  simp only [RZ, reduceAdd, reduceIte, reduceEqDiff, reduceLT, reduceLeDiff, reduceCtorEq, Nat.reduceBEq, UCy_6.d, n0]
  refine AW.upto xs.length (inv59 xs) ⟨rfl, rfl, rfl⟩ fun i t H c hi h => ?_
  obtain ⟨e0, e1, e5⟩ := h
  simp only [T.c, T.i, tL] at e0 e1 e5
  by_cases k1 : (i : Int) < xs.length
  · obtain ⟨x, hx⟩ : ∃ x, xs[i]? = some x := ⟨_, List.getElem?_eq_getElem (by omega)⟩
    have ex := en_at eH hx
    have gz : (0 : Int) ≤ i := by omega
    have gw := w1_ok (i := i) (by omega)
    simp only [RZ, reduceAdd, reduceIte, reduceEqDiff, reduceLT, reduceLeDiff, reduceCtorEq, Nat.reduceBEq, UCy_9.d, e0, e1, e5, en_len, k1, gz, ex, eH, ne0, gw]
    refine callC (eqHd_ok x) rfl rfl rfl rfl ?_
    simp only [RZ, reduceAdd, reduceIte, reduceEqDiff, reduceLT, reduceLeDiff, reduceCtorEq, Nat.reduceBEq, UCy_9.d, e0, e1, e5, en_len, k1, gz, ex, eH, gw]
    exact ⟨by omega, e0, e1, rfl⟩
  · simp only [RZ, reduceAdd, reduceIte, reduceEqDiff, reduceLT, reduceLeDiff, reduceCtorEq, Nat.reduceBEq, UCy_9.d, UCy_6.d, e0, e1, e5, en_len, k1]
/- loop.example/teagle/laws.eqCrewWorld -/
def r28_0 : List AOper := [ao 0 2 (.box 26 (.t 0)),
  ao 1 3 (.box 26 (.t 1)),
  ao 2 4 (.mv (.k (.b false)))]
def r28_1 : List AOper := [ao 0 5 (.fa 0 (.t 2)),
  ao 1 6 (.ld 1 false (.t 5)),
  ao 2 7 (.fa 0 (.t 3)),
  ao 3 8 (.ld 1 false (.t 7)),
  ao 4 9 (.bin .neq (.t 6) (.t 8))]
def r28_2 : List AOper := [ao 0 4 (.mv (.k (.b false)))]
def c28_3 : ACode := .seq (.reg r28_2) .ret
def c28_4 : ACode := .cond (.t 9) c28_3 .skip
def c28_5 : ACode := .seq (.reg r28_1) c28_4
def r28_6 : List AOper := [ao 0 10 (.fa 1 (.t 2)),
  ao 1 11 (.ld 1 false (.t 10)),
  ao 2 12 (.fa 1 (.t 3)),
  ao 3 13 (.ld 1 false (.t 12)),
  ao 4 14 (.bin .neq (.t 11) (.t 13))]
def r28_7 : List AOper := [ao 0 4 (.mv (.k (.b false)))]
def c28_8 : ACode := .seq (.reg r28_7) .ret
def c28_9 : ACode := .cond (.t 14) c28_8 .skip
def c28_10 : ACode := .seq (.reg r28_6) c28_9
def r28_11 : List AOper := [ao 0 15 (.fa 2 (.t 2)),
  ao 1 16 (.ld 1 false (.t 15)),
  ao 2 17 (.fa 2 (.t 3)),
  ao 3 18 (.ld 1 false (.t 17)),
  ao 4 19 (.bin .neq (.t 16) (.t 18))]
def r28_12 : List AOper := [ao 0 4 (.mv (.k (.b false)))]
def c28_13 : ACode := .seq (.reg r28_12) .ret
def c28_14 : ACode := .cond (.t 19) c28_13 .skip
def c28_15 : ACode := .seq (.reg r28_11) c28_14
def r28_16 : List AOper := [ao 0 20 (.fa 3 (.t 2)),
  ao 1 21 (.ld 1 false (.t 20)),
  ao 2 22 (.fa 3 (.t 3)),
  ao 3 23 (.ld 1 false (.t 22)),
  ao 4 24 (.bin .neq (.t 21) (.t 23))]
def r28_17 : List AOper := [ao 0 4 (.mv (.k (.b false)))]
def c28_18 : ACode := .seq (.reg r28_17) .ret
def c28_19 : ACode := .cond (.t 24) c28_18 .skip
def c28_20 : ACode := .seq (.reg r28_16) c28_19
def r28_21 : List AOper := [ao 0 25 (.fa 4 (.t 2)),
  ao 1 26 (.ld 1 false (.t 25)),
  ao 2 27 (.fa 4 (.t 3)),
  ao 3 28 (.ld 1 false (.t 27)),
  ao 4 29 (.bin .neq (.t 26) (.t 28))]
def r28_22 : List AOper := [ao 0 4 (.mv (.k (.b false)))]
def c28_23 : ACode := .seq (.reg r28_22) .ret
def c28_24 : ACode := .cond (.t 29) c28_23 .skip
def c28_25 : ACode := .seq (.reg r28_21) c28_24
def r28_26 : List AOper := [ao 0 30 (.fa 5 (.t 2)),
  ao 1 31 (.ld 1 false (.t 30)),
  ao 2 32 (.fa 5 (.t 3)),
  ao 3 33 (.ld 1 false (.t 32)),
  ao 4 34 (.call (.k (.c (.fn 58 []))) [(.t 31), (.t 33)]),
  ao 5 35 (.un .not (.t 34))]
def r28_27 : List AOper := [ao 0 4 (.mv (.k (.b false)))]
def c28_28 : ACode := .seq (.reg r28_27) .ret
def c28_29 : ACode := .cond (.t 35) c28_28 .skip
def c28_30 : ACode := .seq (.reg r28_26) c28_29
def r28_31 : List AOper := [ao 0 36 (.fa 6 (.t 2)),
  ao 1 37 (.ld 1 false (.t 36)),
  ao 2 38 (.fa 6 (.t 3)),
  ao 3 39 (.ld 1 false (.t 38)),
  ao 4 40 (.call (.k (.c (.fn 59 []))) [(.t 37), (.t 39)]),
  ao 5 41 (.un .not (.t 40))]
def r28_32 : List AOper := [ao 0 4 (.mv (.k (.b false)))]
def c28_33 : ACode := .seq (.reg r28_32) .ret
def c28_34 : ACode := .cond (.t 41) c28_33 .skip
def c28_35 : ACode := .seq (.reg r28_31) c28_34
def r28_36 : List AOper := [ao 0 42 (.fa 7 (.t 2)),
  ao 1 43 (.ld 1 false (.t 42)),
  ao 2 44 (.fa 7 (.t 3)),
  ao 3 45 (.ld 1 false (.t 44)),
  ao 4 46 (.bin .neq (.t 43) (.t 45))]
def r28_37 : List AOper := [ao 0 4 (.mv (.k (.b false)))]
def c28_38 : ACode := .seq (.reg r28_37) .ret
def c28_39 : ACode := .cond (.t 46) c28_38 .skip
def c28_40 : ACode := .seq (.reg r28_36) c28_39
def r28_41 : List AOper := [ao 0 47 (.fa 8 (.t 2)),
  ao 1 48 (.ld 1 false (.t 47)),
  ao 2 49 (.fa 8 (.t 3)),
  ao 3 50 (.ld 1 false (.t 49)),
  ao 4 51 (.call (.k (.c (.fn 58 []))) [(.t 48), (.t 50)]),
  ao 5 52 (.un .not (.t 51))]
def r28_42 : List AOper := [ao 0 4 (.mv (.k (.b false)))]
def c28_43 : ACode := .seq (.reg r28_42) .ret
def c28_44 : ACode := .cond (.t 52) c28_43 .skip
def c28_45 : ACode := .seq (.reg r28_41) c28_44
def r28_46 : List AOper := [ao 0 53 (.fa 9 (.t 2)),
  ao 1 54 (.ld 1 false (.t 53)),
  ao 2 55 (.fa 9 (.t 3)),
  ao 3 56 (.ld 1 false (.t 55)),
  ao 4 57 (.bin .neq (.t 54) (.t 56))]
def r28_47 : List AOper := [ao 0 4 (.mv (.k (.b false)))]
def c28_48 : ACode := .seq (.reg r28_47) .ret
def c28_49 : ACode := .cond (.t 57) c28_48 .skip
def c28_50 : ACode := .seq (.reg r28_46) c28_49
def r28_51 : List AOper := [ao 0 58 (.fa 10 (.t 2)),
  ao 1 59 (.ld 1 false (.t 58)),
  ao 2 60 (.fa 10 (.t 3)),
  ao 3 61 (.ld 1 false (.t 60)),
  ao 4 62 (.call (.k (.c (.fn 58 []))) [(.t 59), (.t 61)]),
  ao 5 63 (.un .not (.t 62))]
def r28_52 : List AOper := [ao 0 4 (.mv (.k (.b false)))]
def c28_53 : ACode := .seq (.reg r28_52) .ret
def c28_54 : ACode := .cond (.t 63) c28_53 .skip
def c28_55 : ACode := .seq (.reg r28_51) c28_54
def r28_56 : List AOper := [ao 0 64 (.fa 11 (.t 2)),
  ao 1 65 (.ld 1 false (.t 64)),
  ao 2 66 (.fa 11 (.t 3)),
  ao 3 67 (.ld 1 false (.t 66)),
  ao 4 68 (.bin .neq (.t 65) (.t 67))]
def r28_57 : List AOper := [ao 0 4 (.mv (.k (.b false)))]
def c28_58 : ACode := .seq (.reg r28_57) .ret
def c28_59 : ACode := .cond (.t 68) c28_58 .skip
def c28_60 : ACode := .seq (.reg r28_56) c28_59
def r28_61 : List AOper := [ao 0 69 (.fa 12 (.t 2)),
  ao 1 70 (.ld 1 false (.t 69)),
  ao 2 71 (.fa 12 (.t 3)),
  ao 3 72 (.ld 1 false (.t 71)),
  ao 4 73 (.call (.k (.c (.fn 58 []))) [(.t 70), (.t 72)]),
  ao 5 74 (.un .not (.t 73))]
def r28_62 : List AOper := [ao 0 4 (.mv (.k (.b false)))]
def c28_63 : ACode := .seq (.reg r28_62) .ret
def c28_64 : ACode := .cond (.t 74) c28_63 .skip
def c28_65 : ACode := .seq (.reg r28_61) c28_64
def r28_66 : List AOper := [ao 0 75 (.fa 13 (.t 2)),
  ao 1 76 (.ld 1 false (.t 75)),
  ao 2 77 (.fa 13 (.t 3)),
  ao 3 78 (.ld 1 false (.t 77)),
  ao 4 79 (.bin .neq (.t 76) (.t 78))]
def r28_67 : List AOper := [ao 0 4 (.mv (.k (.b false)))]
def c28_68 : ACode := .seq (.reg r28_67) .ret
def c28_69 : ACode := .cond (.t 79) c28_68 .skip
def c28_70 : ACode := .seq (.reg r28_66) c28_69
def r28_71 : List AOper := [ao 0 80 (.fa 14 (.t 2)),
  ao 1 81 (.ld 1 false (.t 80)),
  ao 2 82 (.fa 14 (.t 3)),
  ao 3 83 (.ld 1 false (.t 82)),
  ao 4 84 (.call (.k (.c (.fn 58 []))) [(.t 81), (.t 83)]),
  ao 5 85 (.un .not (.t 84))]
def r28_72 : List AOper := [ao 0 4 (.mv (.k (.b false)))]
def c28_73 : ACode := .seq (.reg r28_72) .ret
def c28_74 : ACode := .cond (.t 85) c28_73 .skip
def c28_75 : ACode := .seq (.reg r28_71) c28_74
def r28_76 : List AOper := [ao 0 86 (.fa 15 (.t 2)),
  ao 1 87 (.ld 1 false (.t 86)),
  ao 2 88 (.fa 15 (.t 3)),
  ao 3 89 (.ld 1 false (.t 88)),
  ao 4 90 (.bin .neq (.t 87) (.t 89))]
def r28_77 : List AOper := [ao 0 4 (.mv (.k (.b false)))]
def c28_78 : ACode := .seq (.reg r28_77) .ret
def c28_79 : ACode := .cond (.t 90) c28_78 .skip
def c28_80 : ACode := .seq (.reg r28_76) c28_79
def r28_81 : List AOper := [ao 0 91 (.fa 16 (.t 2)),
  ao 1 92 (.ld 1 false (.t 91)),
  ao 2 93 (.fa 16 (.t 3)),
  ao 3 94 (.ld 1 false (.t 93)),
  ao 4 95 (.call (.k (.c (.fn 58 []))) [(.t 92), (.t 94)]),
  ao 5 96 (.un .not (.t 95))]
def r28_82 : List AOper := [ao 0 4 (.mv (.k (.b false)))]
def c28_83 : ACode := .seq (.reg r28_82) .ret
def c28_84 : ACode := .cond (.t 96) c28_83 .skip
def c28_85 : ACode := .seq (.reg r28_81) c28_84
def r28_86 : List AOper := [ao 0 97 (.fa 17 (.t 2)),
  ao 1 98 (.ld 1 false (.t 97)),
  ao 2 99 (.fa 17 (.t 3)),
  ao 3 100 (.ld 1 false (.t 99)),
  ao 4 101 (.bin .neq (.t 98) (.t 100))]
def r28_87 : List AOper := [ao 0 4 (.mv (.k (.b false)))]
def c28_88 : ACode := .seq (.reg r28_87) .ret
def c28_89 : ACode := .cond (.t 101) c28_88 .skip
def c28_90 : ACode := .seq (.reg r28_86) c28_89
def r28_91 : List AOper := [ao 0 4 (.mv (.k (.b true)))]
def c28 : ACode := .seq (.reg r28_0) (.seq c28_5 (.seq c28_10 (.seq c28_15 (.seq c28_20 (.seq c28_25 (.seq c28_30 (.seq c28_35 (.seq c28_40 (.seq c28_45 (.seq c28_50 (.seq c28_55 (.seq c28_60 (.seq c28_65 (.seq c28_70 (.seq c28_75 (.seq c28_80 (.seq c28_85 (.seq c28_90 (.seq (.reg r28_91) .ret)))))))))))))))))))
def s28 : List ARes := [.tmp 4]
theorem ok28 : okF Tryz.prog 28 102 c28 s28 := ⟨Tryz.f28, Tryz.func28, Tryz.ntmps28, by kernel_rfl, by kernel_rfl, by kernel_rfl⟩
def UCy_7 := Bx.mk <|
  aN (uA c28.eq_1) <| aN (uR r28_0.eq_1) <| aN (uA c28_5.eq_1) <| aN (uR r28_1.eq_1) <| aN (uA c28_4.eq_1) <| aN (uA c28_3.eq_1) <| aN (uR r28_2.eq_1) <| aN (uA c28_10.eq_1) <| aN (uR r28_6.eq_1) <| aN (uA c28_9.eq_1) <| aN (uA c28_8.eq_1) <| aN (uR r28_7.eq_1) <| aN (uA c28_15.eq_1) <| aN (uR r28_11.eq_1) <| aN (uA c28_14.eq_1) <| aN (uA c28_13.eq_1) <| aN (uR r28_12.eq_1) <| aN (uA c28_20.eq_1) <| aN (uR r28_16.eq_1) <| aN (uA c28_19.eq_1) <| aN (uA c28_18.eq_1) <| aN (uR r28_17.eq_1) <| aN (uA c28_25.eq_1) <| aN (uR r28_21.eq_1) <| aN (uA c28_24.eq_1) <| aN (uA c28_23.eq_1) <| aN (uR r28_22.eq_1) <| aN (uA c28_30.eq_1) <| aN (uR r28_26.eq_1) <| aN (uA c28_29.eq_1) <| aN (uA c28_28.eq_1) <| aN (uR r28_27.eq_1) <| aN (uA c28_35.eq_1) <| aN (uR r28_31.eq_1) <| aN (uA c28_34.eq_1) <| aN (uA c28_33.eq_1) <| aN (uR r28_32.eq_1) <| aN (uA c28_40.eq_1) <| aN (uR r28_36.eq_1) <| aN (uA c28_39.eq_1) <| aN (uA c28_38.eq_1) <| aN (uR r28_37.eq_1) <| aN (uA c28_45.eq_1) <| aN (uR r28_41.eq_1) <| aN (uA c28_44.eq_1) <| aN (uA c28_43.eq_1) <| aN (uR r28_42.eq_1) <| aN (uA c28_50.eq_1) <| aN (uR r28_46.eq_1) <| aN (uA c28_49.eq_1) <| aN (uA c28_48.eq_1) <| aN (uR r28_47.eq_1) <| aN (uA c28_55.eq_1) <| aN (uR r28_51.eq_1) <| aN (uA c28_54.eq_1) <| aN (uA c28_53.eq_1) <| aN (uR r28_52.eq_1) <| aN (uA c28_60.eq_1) <| aN (uR r28_56.eq_1) <| aN (uA c28_59.eq_1) <| aN (uA c28_58.eq_1) <| aN (uR r28_57.eq_1) <| aN (uA c28_65.eq_1) <| aN (uR r28_61.eq_1) <| aN (uA c28_64.eq_1) <| aN (uA c28_63.eq_1) <| aN (uR r28_62.eq_1) <| aN (uA c28_70.eq_1) <| aN (uR r28_66.eq_1) <| aN (uA c28_69.eq_1) <| aN (uA c28_68.eq_1) <| aN (uR r28_67.eq_1) <| aN (uA c28_75.eq_1) <| aN (uR r28_71.eq_1) <| aN (uA c28_74.eq_1) <| aN (uA c28_73.eq_1) <| aN (uR r28_72.eq_1) <| aN (uA c28_80.eq_1) <| aN (uR r28_76.eq_1) <| aN (uA c28_79.eq_1) <| aN (uA c28_78.eq_1) <| aN (uR r28_77.eq_1) <| aN (uA c28_85.eq_1) <| aN (uR r28_81.eq_1) <| aN (uA c28_84.eq_1) <| aN (uA c28_83.eq_1) <| aN (uR r28_82.eq_1) <| aN (uA c28_90.eq_1) <| aN (uR r28_86.eq_1) <| aN (uA c28_89.eq_1) <| aN (uA c28_88.eq_1) <| aN (uR r28_87.eq_1) <| aN (uR r28_91.eq_1) <| s28.eq_1
set_option maxHeartbeats 1000000 in
theorem eqCW_ok {w : CW} (h : Small w) : ACallsF Tryz.prog 28 [tCW w, tCW w] [] (.b true) := by
  refine ACallsF.intro ok28 follows fun X c0 => ?_
  simp only [RZ, reduceAdd, reduceIte, reduceEqDiff, reduceLT, reduceLeDiff, reduceCtorEq, Nat.reduceBEq, UCy_7.d, ne0]
  refine callC (eqIs_ok w.queue h.q) rfl rfl rfl rfl ?_
  simp only [RZ, reduceAdd, reduceIte, reduceEqDiff, reduceLT, reduceLeDiff, reduceCtorEq, Nat.reduceBEq, UCy_7.d, ne0]
  refine callC (eqHs_ok w.hands h.h) rfl rfl rfl rfl ?_
  simp only [RZ, reduceAdd, reduceIte, reduceEqDiff, reduceLT, reduceLeDiff, reduceCtorEq, Nat.reduceBEq, UCy_7.d, ne0]
  refine callC (eqIs_ok w.results h.r) rfl rfl rfl rfl ?_
  simp only [RZ, reduceAdd, reduceIte, reduceEqDiff, reduceLT, reduceLeDiff, reduceCtorEq, Nat.reduceBEq, UCy_7.d, ne0]
  refine callC (eqIs_ok w.ring h.g) rfl rfl rfl rfl ?_
  simp only [RZ, reduceAdd, reduceIte, reduceEqDiff, reduceLT, reduceLeDiff, reduceCtorEq, Nat.reduceBEq, UCy_7.d, ne0]
  refine callC (eqIs_ok w.out h.o) rfl rfl rfl rfl ?_
  simp only [RZ, reduceAdd, reduceIte, reduceEqDiff, reduceLT, reduceLeDiff, reduceCtorEq, Nat.reduceBEq, UCy_7.d, ne0]
  refine callC (eqIs_ok w.got h.t) rfl rfl rfl rfl ?_
  simp only [RZ, reduceAdd, reduceIte, reduceEqDiff, reduceLT, reduceLeDiff, reduceCtorEq, Nat.reduceBEq, UCy_7.d, ne0]
  refine callC (eqIs_ok w.shut h.s) rfl rfl rfl rfl ?_
  simp only [RZ, reduceAdd, reduceIte, reduceEqDiff, reduceLT, reduceLeDiff, reduceCtorEq, Nat.reduceBEq, UCy_7.d, ne0]
end Go.V
set_option linter.unusedSimpArgs false
namespace Go.V
open Go.Proofs
open Nat (reduceAdd reduceEqDiff reduceLT reduceLeDiff)
/-- What stands in a list that is marked. -/
def marks {α : Type} (m : Nat → α) (s k n : Nat) : List α := (List.range n).map fun j => m (k + s * j)
theorem marks_len {α : Type} (m : Nat → α) (s k n : Nat) : (marks m s k n).length = n := by simp [marks]
theorem marks_at {α : Type} (m : Nat → α) (s k : Nat) {n i : Nat} (h : i < n) : (marks m s k n)[i]? = some (m (k + s * i)) := by simp [marks, h]
def mrk {α : Type} (m : Nat → α) (s : Nat) (xs : List α) (k i : Nat) : List α := marks m s k i ++ xs.drop i
theorem mrk_len {α : Type} (m : Nat → α) (s : Nat) (xs : List α) (k : Nat) {i : Nat} (h : i ≤ xs.length) : (mrk m s xs k i).length = xs.length := by simp [mrk, marks_len]; omega
theorem mrk_zero {α : Type} (m : Nat → α) (s : Nat) (xs : List α) (k : Nat) : mrk m s xs k 0 = xs := by simp [mrk, marks]
theorem mrk_end {α : Type} (m : Nat → α) (s : Nat) (xs : List α) (k : Nat) : mrk m s xs k xs.length = marks m s k xs.length := by simp [mrk]
theorem mrk_at {α : Type} (m : Nat → α) (s : Nat) (xs : List α) (k : Nat) {i : Nat} {x : α} (h : xs[i]? = some x) : (mrk m s xs k i)[i]? = some x := by
  rw [mrk, List.getElem?_append_right (by rw [marks_len]; omega), marks_len, Nat.sub_self, List.getElem?_drop]; simpa using h
theorem mrk_set {α : Type} (m : Nat → α) (s : Nat) (xs : List α) (k : Nat) {i : Nat} {x : α} (h : xs[i]? = some x) : (mrk m s xs k i).set i (m (k + s * i)) = mrk m s xs k (i + 1) := by
  have hi := (List.getElem?_eq_some_iff.1 h).1
  rw [mrk, List.set_append, if_neg (by rw [marks_len]; omega), marks_len, Nat.sub_self, List.drop_eq_getElem_cons hi, List.set_cons_zero, mrk]
  simp [marks, List.range_succ]
def mI (k : Nat) : Int := k
def mH (k : Nat) : Hd := ⟨k, ((k + 1 : Nat) : Int)⟩
theorem SET : (type_of% @List.getElem?_set_self.{0}) ∧ (type_of% @List.set_set.{0}) ∧ (type_of% @List.length_set.{0}) := ⟨@List.getElem?_set_self.{0}, @List.set_set.{0}, @List.length_set.{0}⟩
/-- An array that is handed on. -/
abbrev arH (c m v st : Nat) (ty : TypeId) (es es' : List (List V)) : Hand := ⟨c, m, some (.arr v true st ty es), .arr v true st ty es', true⟩
theorem callM1 {P : Program} {t : Nat → T} {H : HMap} {c : Nat} {f : Opd} {args : List Opd} {fid : FuncId} {n m v N st : Nat} {ty : TypeId} {es es' : List (List V)} {x r : T} {k : Nat} {d : Option Nat} {un : List Nat} {l : List AOper} {prev : List (Nat × List Nat × List Nat)} {K : St → Prop}
    (hC : ACallsF P fid [.c (.own n v N), x] [arH n m v st ty es es'] r) (hf : ev t f = .pt (.one (.fn fid []))) (hl : args.map (ev t) = [.c (.own m v N), x]) (hH : H m = some (.arr v true st ty es)) (hx : closedA x = true) (hr : closedT r = true)
    (hk : chk prev un ⟨r, [(m, .arr v true st ty es')], [m], [m]⟩ = true ∧ DRun P l ((k, [m], [m]) :: prev) K ⟨updD t d r, upd H m (some (.arr v true st ty es')), c⟩) :
    step P k d un (.call f args) l prev K t H c := by
  have hN : renN [arH n m v st ty es es'] n = some (arH n m v st ty es es') := by simp [renN]
  obtain ⟨x1, x2⟩ := closed_A [arH n m v st ty es es'] H x hx
  refine callW (caps := []) («as» := [.c (.own m v N), x]) (ws := []) (ns := []) (r' := r) (ob := [(m, .arr v true st ty es')]) [arH n m v st ty es es'] hC hf ?_ ?_ ⟨?_, trivial⟩ (by simp) (by simp) (closed_T _ r hr _) ?_ ?_
  · rw [hl]
    have a1 : lendT H (T.c (.own n v N)) (T.c (.own m v N)) = some (T.c (.own m v N), [], []) := rfl
    simp only [List.map_nil, List.append_nil, lendTs, a1, x1]
  · have a1 : renIT [arH n m v st ty es es'] (T.c (.own n v N)) = some (T.c (.own m v N)) := by simp only [T.c, renIT, renI, inN, hN, Option.bind_some, Option.map_some]
    simp only [renITs, a1, x2]
  · show (match renIB [arH n m v st ty es es'] (.arr v true st ty es) with | some B => (updH H []) m = some B | none => False)
    simp only [renIB, updH]
    exact hH
  · simp only [renOBs, renOB, verOf, if_true, Blk.ver]
  · have hq : quiet r [arH n m v st ty es es'] = false := by simp [quiet]
    simpa [hq, updH] using hk
/- loop.example/teagle/laws.markIntS -/
def r60_0 : List AOper := [ao 0 4 (.mv (.k (.i 0)))]
def r60_1 : List AOper := [ao 0 5 (.mv (.k (.i 0)))]
def r60_2 : List AOper := [ao 0 6 (.mv (.t 5)),
  ao 1 7 (.mv (.t 0)),
  ao 2 8 (.len (.t 7)),
  ao 3 9 (.bin .lss (.t 6) (.t 8))]
def c60_3 : ACode := .cond (.t 9) .skip (.exit 0)
def c60_4 : ACode := .seq (.reg r60_2) c60_3
def r60_5 : List AOper := [ao 0 12 (.mv (.t 0)),
  ao 1 13 (.mv (.t 5)),
  ao 2 14 (.mv (.t 1)),
  ao 3 15 (.ia 1 (.t 12) (.t 13)),
  an 4 (.st 1 (.t 15) (.t 14))]
def r60_6 : List AOper := [ao 0 16 (.mv (.t 1)),
  ao 1 17 (.bin .add (.t 16) (.k (.i 1))),
  ao 2 1 (.mv (.t 17))]
def c60_7 : ACode := .seq (.reg r60_5) (.reg r60_6)
def c60_8 : ACode := .block 1 c60_7
def r60_9 : List AOper := [ao 0 10 (.mv (.t 5)),
  ao 1 11 (.bin .add (.t 10) (.k (.i 1))),
  ao 2 5 (.mv (.t 11))]
def c60_10 : ACode := .seq c60_4 (.seq c60_8 (.reg r60_9))
def c60_11 : ACode := .loop c60_10
def c60_12 : ACode := .block 0 c60_11
def c60_13 : ACode := .seq (.reg r60_1) c60_12
def r60_14 : List AOper := [ao 0 18 (.mv (.t 1)),
  ao 1 4 (.mv (.t 18))]
def c60 : ACode := .seq (.reg r60_0) (.seq c60_13 (.seq (.reg r60_14) .ret))
def s60 : List ARes := [.tmp 4]
theorem ok60 : okF Tryz.prog 60 19 c60 s60 := ⟨Tryz.f60, Tryz.func60, Tryz.ntmps60, by kernel_rfl, by kernel_rfl, by kernel_rfl⟩
def inv60 (xs : List Int) (k v : Nat) (i : Nat) (σ : St) : Prop := σ.t 0 = .c (.own 2001 v xs.length) ∧ σ.H 2001 = some (.arr v true 1 3 (en eI (mrk mI 1 xs k i))) ∧ σ.t 1 = .i ((k + 1 * i : Nat) : Int) ∧ σ.t 5 = .i i
def UCz_1 := Bx.mk <|
  aN (uA c60.eq_1) <| aN (uR r60_0.eq_1) <| aN (uA c60_13.eq_1) <| aN (uR r60_1.eq_1) <| aN (uA c60_12.eq_1) <| aN (uA c60_11.eq_1) <| aN (uR r60_14.eq_1) <| s60.eq_1
def UCz_7 := Bx.mk <|
  aN (uA c60_10.eq_1) <| aN (uA c60_4.eq_1) <| aN (uR r60_2.eq_1) <| aN (uA c60_3.eq_1) <| aN (uA c60_8.eq_1) <| aN (uA c60_7.eq_1) <| aN (uR r60_5.eq_1) <| aN (uR r60_6.eq_1) <| aN (uR r60_9.eq_1) <| aN (uA c60.eq_1) <| aN (uR r60_0.eq_1) <| aN (uA c60_13.eq_1) <| aN (uR r60_1.eq_1) <| aN (uA c60_12.eq_1) <| aN (uA c60_11.eq_1) <| aN (uR r60_14.eq_1) <| s60.eq_1
theorem markIs_ok (xs : List Int) (k : Nat) (h1 : 1 ≤ k) (hk : k + 1 * xs.length ≤ 100000000) (m v : Nat) : ACallsF Tryz.prog 60 [.c (.own 2001 v xs.length), .i k] [arH 2001 m v 1 3 (en eI xs) (en eI (marks mI 1 k xs.length))] (.i ((k + 1 * xs.length : Nat) : Int)) := by
  refine ACallsF.intro ok60 follows fun X c0 => ?_
  simp only [RZ, reduceAdd, reduceIte, reduceEqDiff, reduceLT, reduceLeDiff, reduceCtorEq, Nat.reduceBEq, UCz_1.d]
  refine AW.upto xs.length (inv60 xs k v) ?_ fun i t H c hi h => ?_
  · unfold inv60
    rw [mrk_zero]
    exact ⟨rfl, rfl, rfl, rfl⟩
  obtain ⟨e0, hB, e1, e5⟩ := h
  simp only [T.c, T.i] at e0 hB e1 e5
  have hpl : (mrk mI 1 xs k i).length = xs.length := mrk_len mI 1 xs k hi
  by_cases hlt : i < xs.length
  · obtain ⟨x, hx⟩ : ∃ x, xs[i]? = some x := ⟨_, List.getElem?_eq_getElem hlt⟩
    have ex := en_at eI (mrk_at mI 1 xs k hx)
    have k1 : (i : Int) < xs.length := by omega
    have gz : (0 : Int) ≤ i := by omega
    have gm : i < xs.length := hlt
    have gw := w1_ok (i := i) (by omega)
    have g0 : IntKind.i64.wrap (((k + 1 * i : Nat) : Int) + 1) = ((k + 1 * (i + 1) : Nat) : Int) := (wrap64 (x := ((k + 1 * i : Nat) : Int) + 1) ⟨by omega, by omega⟩).trans (by omega)
    have hn : (en eI (mrk mI 1 xs k i)).set i (eI (mI (k + 1 * i))) = en eI (mrk mI 1 xs k (i + 1)) := by rw [en_set, mrk_set mI 1 xs k hx]
    simp only [RZ, reduceAdd, reduceIte, reduceEqDiff, reduceLT, reduceLeDiff, reduceCtorEq, Nat.reduceBEq, UCz_7.d, SET, e0, hB, e1, e5, en_len, hpl, k1, gz, gm, ex, eI, g0, gw]
    exact ⟨e0, congrArg (fun q => some (Blk.arr v true 1 3 q)) hn, rfl, rfl⟩
  · have k1 : ¬ (i : Int) < xs.length := by omega
    have hi2 : i = xs.length := by omega
    subst hi2
    rw [mrk_end] at hB
    simp only [RZ, reduceAdd, reduceIte, reduceEqDiff, reduceLT, reduceLeDiff, reduceCtorEq, Nat.reduceBEq, UCz_7.d, UCz_1.d, e0, hB, e1, e5, en_len, k1, imp_self]
def inv60z (k : Nat) (i : Nat) (σ : St) : Prop := σ.t 0 = tL [] ∧ σ.t 1 = .i k ∧ σ.t 5 = .i i
theorem markIs_okz (k : Nat) : ACallsF Tryz.prog 60 [tL [], .i k] [] (.i k) := by
  refine ACallsF.intro ok60 follows fun X c0 => ?_
  simp only [RZ, reduceAdd, reduceIte, reduceEqDiff, reduceLT, reduceLeDiff, reduceCtorEq, Nat.reduceBEq, UCz_1.d]
  refine AW.upto 0 (inv60z k) ⟨rfl, rfl, rfl⟩ fun i t H c hi h => ?_
  obtain ⟨e0, e1, e5⟩ := h
  simp only [T.c, T.i] at e0 e1 e5
  have hi2 : i = 0 := by omega
  subst hi2
  have k1 : ¬ ((0 : Nat) : Int) < ((0 : Nat) : Int) := by omega
  simp only [RZ, reduceAdd, reduceIte, reduceEqDiff, reduceLT, reduceLeDiff, reduceCtorEq, Nat.reduceBEq, UCz_7.d, UCz_1.d, e0, e1, e5, List.length_nil, k1]
/- loop.example/teagle/laws.markCrewHandS -/
def r61_0 : List AOper := [ao 0 4 (.mv (.k (.i 0)))]
def r61_1 : List AOper := [ao 0 5 (.mv (.k (.i 0)))]
def r61_2 : List AOper := [ao 0 6 (.mv (.t 5)),
  ao 1 7 (.mv (.t 0)),
  ao 2 8 (.len (.t 7)),
  ao 3 9 (.bin .lss (.t 6) (.t 8))]
def c61_3 : ACode := .cond (.t 9) .skip (.exit 0)
def c61_4 : ACode := .seq (.reg r61_2) c61_3
def r61_5 : List AOper := [ao 0 12 (.mv (.t 0)),
  ao 1 13 (.mv (.t 5)),
  ao 2 14 (.mv (.t 1)),
  ao 3 15 (.ia 2 (.t 12) (.t 13)),
  ao 4 16 (.fa 0 (.t 15)),
  an 5 (.st 1 (.t 16) (.t 14))]
def r61_6 : List AOper := [ao 0 17 (.mv (.t 1)),
  ao 1 18 (.bin .add (.t 17) (.k (.i 1))),
  ao 2 1 (.mv (.t 18))]
def r61_7 : List AOper := [ao 0 19 (.mv (.t 0)),
  ao 1 20 (.mv (.t 5)),
  ao 2 21 (.mv (.t 1)),
  ao 3 22 (.ia 2 (.t 19) (.t 20)),
  ao 4 23 (.fa 1 (.t 22)),
  an 5 (.st 1 (.t 23) (.t 21))]
def r61_8 : List AOper := [ao 0 24 (.mv (.t 1)),
  ao 1 25 (.bin .add (.t 24) (.k (.i 1))),
  ao 2 1 (.mv (.t 25))]
def c61_9 : ACode := .seq (.reg r61_5) (.seq (.reg r61_6) (.seq (.reg r61_7) (.reg r61_8)))
def c61_10 : ACode := .block 1 c61_9
def r61_11 : List AOper := [ao 0 10 (.mv (.t 5)),
  ao 1 11 (.bin .add (.t 10) (.k (.i 1))),
  ao 2 5 (.mv (.t 11))]
def c61_12 : ACode := .seq c61_4 (.seq c61_10 (.reg r61_11))
def c61_13 : ACode := .loop c61_12
def c61_14 : ACode := .block 0 c61_13
def c61_15 : ACode := .seq (.reg r61_1) c61_14
def r61_16 : List AOper := [ao 0 26 (.mv (.t 1)),
  ao 1 4 (.mv (.t 26))]
def c61 : ACode := .seq (.reg r61_0) (.seq c61_15 (.seq (.reg r61_16) .ret))
def s61 : List ARes := [.tmp 4]
theorem ok61 : okF Tryz.prog 61 27 c61 s61 := ⟨Tryz.f61, Tryz.func61, Tryz.ntmps61, by kernel_rfl, by kernel_rfl, by kernel_rfl⟩
def inv61 (xs : List Hd) (k v : Nat) (i : Nat) (σ : St) : Prop := σ.t 0 = .c (.own 2001 v xs.length) ∧ σ.H 2001 = some (.arr v true 2 68 (en eH (mrk mH 2 xs k i))) ∧ σ.t 1 = .i ((k + 2 * i : Nat) : Int) ∧ σ.t 5 = .i i
def UCz_2 := Bx.mk <|
  aN (uA c61.eq_1) <| aN (uR r61_0.eq_1) <| aN (uA c61_15.eq_1) <| aN (uR r61_1.eq_1) <| aN (uA c61_14.eq_1) <| aN (uA c61_13.eq_1) <| aN (uR r61_16.eq_1) <| s61.eq_1
def UCz_8 := Bx.mk <|
  aN (uA c61_12.eq_1) <| aN (uA c61_4.eq_1) <| aN (uR r61_2.eq_1) <| aN (uA c61_3.eq_1) <| aN (uA c61_10.eq_1) <| aN (uA c61_9.eq_1) <| aN (uR r61_5.eq_1) <| aN (uR r61_6.eq_1) <| aN (uR r61_7.eq_1) <| aN (uR r61_8.eq_1) <| aN (uR r61_11.eq_1) <| aN (uA c61.eq_1) <| aN (uR r61_0.eq_1) <| aN (uA c61_15.eq_1) <| aN (uR r61_1.eq_1) <| aN (uA c61_14.eq_1) <| aN (uA c61_13.eq_1) <| aN (uR r61_16.eq_1) <| s61.eq_1
theorem markHs_ok (xs : List Hd) (k : Nat) (h1 : 1 ≤ k) (hk : k + 2 * xs.length ≤ 100000000) (m v : Nat) : ACallsF Tryz.prog 61 [.c (.own 2001 v xs.length), .i k] [arH 2001 m v 2 68 (en eH xs) (en eH (marks mH 2 k xs.length))] (.i ((k + 2 * xs.length : Nat) : Int)) := by
  refine ACallsF.intro ok61 follows fun X c0 => ?_
  simp only [RZ, reduceAdd, reduceIte, reduceEqDiff, reduceLT, reduceLeDiff, reduceCtorEq, Nat.reduceBEq, UCz_2.d]
  refine AW.upto xs.length (inv61 xs k v) ?_ fun i t H c hi h => ?_
  · unfold inv61
    rw [mrk_zero]
    exact ⟨rfl, rfl, rfl, rfl⟩
  obtain ⟨e0, hB, e1, e5⟩ := h
  simp only [T.c, T.i] at e0 hB e1 e5
  have hpl : (mrk mH 2 xs k i).length = xs.length := mrk_len mH 2 xs k hi
  by_cases hlt : i < xs.length
  · obtain ⟨x, hx⟩ : ∃ x, xs[i]? = some x := ⟨_, List.getElem?_eq_getElem hlt⟩
    have ex := en_at eH (mrk_at mH 2 xs k hx)
    have k1 : (i : Int) < xs.length := by omega
    have gz : (0 : Int) ≤ i := by omega
    have gm : i < xs.length := hlt
    have gw := w1_ok (i := i) (by omega)
    have g0 : IntKind.i64.wrap (((k + 2 * i : Nat) : Int) + 1) = ((k + 2 * i + 1 : Nat) : Int) := (wrap64 (x := ((k + 2 * i : Nat) : Int) + 1) ⟨by omega, by omega⟩).trans (by omega)
    have g1 : IntKind.i64.wrap (((k + 2 * i + 1 : Nat) : Int) + 1) = ((k + 2 * (i + 1) : Nat) : Int) := (wrap64 (x := ((k + 2 * i + 1 : Nat) : Int) + 1) ⟨by omega, by omega⟩).trans (by omega)
    have hn : (en eH (mrk mH 2 xs k i)).set i (eH (mH (k + 2 * i))) = en eH (mrk mH 2 xs k (i + 1)) := by rw [en_set, mrk_set mH 2 xs k hx]
    simp only [RZ, reduceAdd, reduceIte, reduceEqDiff, reduceLT, reduceLeDiff, reduceCtorEq, Nat.reduceBEq, UCz_8.d, SET, e0, hB, e1, e5, en_len, hpl, k1, gz, gm, ex, eH, g0, g1, gw]
    exact ⟨e0, congrArg (fun q => some (Blk.arr v true 2 68 q)) hn, rfl, rfl⟩
  · have k1 : ¬ (i : Int) < xs.length := by omega
    have hi2 : i = xs.length := by omega
    subst hi2
    rw [mrk_end] at hB
    simp only [RZ, reduceAdd, reduceIte, reduceEqDiff, reduceLT, reduceLeDiff, reduceCtorEq, Nat.reduceBEq, UCz_8.d, UCz_2.d, e0, hB, e1, e5, en_len, k1, imp_self]
def inv61z (k : Nat) (i : Nat) (σ : St) : Prop := σ.t 0 = tL [] ∧ σ.t 1 = .i k ∧ σ.t 5 = .i i
theorem markHs_okz (k : Nat) : ACallsF Tryz.prog 61 [tL [], .i k] [] (.i k) := by
  refine ACallsF.intro ok61 follows fun X c0 => ?_
  simp only [RZ, reduceAdd, reduceIte, reduceEqDiff, reduceLT, reduceLeDiff, reduceCtorEq, Nat.reduceBEq, UCz_2.d]
  refine AW.upto 0 (inv61z k) ⟨rfl, rfl, rfl⟩ fun i t H c hi h => ?_
  obtain ⟨e0, e1, e5⟩ := h
  simp only [T.c, T.i] at e0 e1 e5
  have hi2 : i = 0 := by omega
  subst hi2
  have k1 : ¬ ((0 : Nat) : Int) < ((0 : Nat) : Int) := by omega
  simp only [RZ, reduceAdd, reduceIte, reduceEqDiff, reduceLT, reduceLeDiff, reduceCtorEq, Nat.reduceBEq, UCz_8.d, UCz_2.d, e0, e1, e5, List.length_nil, k1]
/- loop.example/teagle/laws.heldIntS -/
def r62_0 : List AOper := [ao 0 4 (.mv (.k (.i 0)))]
def r62_1 : List AOper := [ao 0 5 (.mv (.k (.i 0)))]
def r62_2 : List AOper := [ao 0 6 (.mv (.t 5)),
  ao 1 7 (.mv (.t 0)),
  ao 2 8 (.len (.t 7)),
  ao 3 9 (.bin .lss (.t 6) (.t 8))]
def c62_3 : ACode := .cond (.t 9) .skip (.exit 0)
def c62_4 : ACode := .seq (.reg r62_2) c62_3
def r62_5 : List AOper := [ao 0 12 (.mv (.t 0)),
  ao 1 13 (.mv (.t 5)),
  ao 2 14 (.ia 1 (.t 12) (.t 13)),
  ao 3 15 (.ld 1 false (.t 14)),
  ao 4 16 (.mv (.t 1)),
  ao 5 17 (.bin .neq (.t 15) (.t 16))]
def r62_6 : List AOper := [ao 0 4 (.mv (.k (.i (-1))))]
def c62_7 : ACode := .seq (.reg r62_6) .ret
def c62_8 : ACode := .cond (.t 17) c62_7 .skip
def c62_9 : ACode := .seq (.reg r62_5) c62_8
def r62_10 : List AOper := [ao 0 18 (.mv (.t 1)),
  ao 1 19 (.bin .add (.t 18) (.k (.i 1))),
  ao 2 1 (.mv (.t 19))]
def c62_11 : ACode := .seq c62_9 (.reg r62_10)
def c62_12 : ACode := .block 1 c62_11
def r62_13 : List AOper := [ao 0 10 (.mv (.t 5)),
  ao 1 11 (.bin .add (.t 10) (.k (.i 1))),
  ao 2 5 (.mv (.t 11))]
def c62_14 : ACode := .seq c62_4 (.seq c62_12 (.reg r62_13))
def c62_15 : ACode := .loop c62_14
def c62_16 : ACode := .block 0 c62_15
def c62_17 : ACode := .seq (.reg r62_1) c62_16
def r62_18 : List AOper := [ao 0 20 (.mv (.t 1)),
  ao 1 4 (.mv (.t 20))]
def c62 : ACode := .seq (.reg r62_0) (.seq c62_17 (.seq (.reg r62_18) .ret))
def s62 : List ARes := [.tmp 4]
theorem ok62 : okF Tryz.prog 62 21 c62 s62 := ⟨Tryz.f62, Tryz.func62, Tryz.ntmps62, by kernel_rfl, by kernel_rfl, by kernel_rfl⟩
def inv62 (N0 k : Nat) (i : Nat) (σ : St) : Prop := σ.t 0 = tL (en eI (marks mI 1 k N0)) ∧ σ.t 1 = .i ((k + 1 * i : Nat) : Int) ∧ σ.t 5 = .i i
def UCz_3 := Bx.mk <|
  aN (uA c62.eq_1) <| aN (uR r62_0.eq_1) <| aN (uA c62_17.eq_1) <| aN (uR r62_1.eq_1) <| aN (uA c62_16.eq_1) <| aN (uA c62_15.eq_1) <| aN (uR r62_18.eq_1) <| s62.eq_1
def UCz_9 := Bx.mk <|
  aN (uA c62_14.eq_1) <| aN (uA c62_4.eq_1) <| aN (uR r62_2.eq_1) <| aN (uA c62_3.eq_1) <| aN (uA c62_12.eq_1) <| aN (uA c62_11.eq_1) <| aN (uA c62_9.eq_1) <| aN (uR r62_5.eq_1) <| aN (uA c62_8.eq_1) <| aN (uA c62_7.eq_1) <| aN (uR r62_6.eq_1) <| aN (uR r62_10.eq_1) <| aN (uR r62_13.eq_1) <| aN (uA c62.eq_1) <| aN (uR r62_0.eq_1) <| aN (uA c62_17.eq_1) <| aN (uR r62_1.eq_1) <| aN (uA c62_16.eq_1) <| aN (uA c62_15.eq_1) <| aN (uR r62_18.eq_1) <| s62.eq_1
theorem heldIs_ok (N0 : Nat) (k : Nat) (h1 : 1 ≤ k) (hk : k + 1 * N0 ≤ 100000000) : ACallsF Tryz.prog 62 [tL (en eI (marks mI 1 k N0)), .i k] [] (.i ((k + 1 * N0 : Nat) : Int)) := by
  refine ACallsF.intro ok62 follows fun X c0 => ?_
  simp only [RZ, reduceAdd, reduceIte, reduceEqDiff, reduceLT, reduceLeDiff, reduceCtorEq, Nat.reduceBEq, UCz_3.d]
  refine AW.upto N0 (inv62 N0 k) ⟨rfl, rfl, rfl⟩ fun i t H c hi h => ?_
  obtain ⟨e0, e1, e5⟩ := h
  simp only [T.c, T.i, tL] at e0 e1 e5
  have hpl : (marks mI 1 k N0).length = N0 := marks_len mI 1 k N0
  by_cases hlt : i < N0
  · have ex := en_at eI (marks_at mI 1 k hlt)
    have k1 : (i : Int) < N0 := by omega
    have gz : (0 : Int) ≤ i := by omega
    have gw := w1_ok (i := i) (by omega)
    have g0 : IntKind.i64.wrap (((k + 1 * i : Nat) : Int) + 1) = ((k + 1 * (i + 1) : Nat) : Int) := (wrap64 (x := ((k + 1 * i : Nat) : Int) + 1) ⟨by omega, by omega⟩).trans (by omega)
    simp only [RZ, reduceAdd, reduceIte, reduceEqDiff, reduceLT, reduceLeDiff, reduceCtorEq, Nat.reduceBEq, UCz_9.d, e0, e1, e5, en_len, hpl, k1, gz, ex, eI, mI, g0, gw, ne0]
    exact ⟨hlt, e0, rfl, rfl⟩
  · have k1 : ¬ (i : Int) < N0 := by omega
    have hi2 : i = N0 := by omega
    subst hi2
    simp only [RZ, reduceAdd, reduceIte, reduceEqDiff, reduceLT, reduceLeDiff, reduceCtorEq, Nat.reduceBEq, UCz_9.d, UCz_3.d, e0, e1, e5, en_len, hpl, k1]
/- loop.example/teagle/laws.heldCrewHandS -/
def r63_0 : List AOper := [ao 0 4 (.mv (.k (.i 0)))]
def r63_1 : List AOper := [ao 0 5 (.mv (.k (.i 0)))]
def r63_2 : List AOper := [ao 0 6 (.mv (.t 5)),
  ao 1 7 (.mv (.t 0)),
  ao 2 8 (.len (.t 7)),
  ao 3 9 (.bin .lss (.t 6) (.t 8))]
def c63_3 : ACode := .cond (.t 9) .skip (.exit 0)
def c63_4 : ACode := .seq (.reg r63_2) c63_3
def r63_5 : List AOper := [ao 0 12 (.mv (.t 0)),
  ao 1 13 (.mv (.t 5)),
  ao 2 14 (.ia 2 (.t 12) (.t 13)),
  ao 3 15 (.fa 0 (.t 14)),
  ao 4 16 (.ld 1 false (.t 15)),
  ao 5 17 (.mv (.t 1)),
  ao 6 18 (.bin .neq (.t 16) (.t 17))]
def r63_6 : List AOper := [ao 0 4 (.mv (.k (.i (-1))))]
def c63_7 : ACode := .seq (.reg r63_6) .ret
def c63_8 : ACode := .cond (.t 18) c63_7 .skip
def c63_9 : ACode := .seq (.reg r63_5) c63_8
def r63_10 : List AOper := [ao 0 19 (.mv (.t 1)),
  ao 1 20 (.bin .add (.t 19) (.k (.i 1))),
  ao 2 1 (.mv (.t 20))]
def r63_11 : List AOper := [ao 0 21 (.mv (.t 0)),
  ao 1 22 (.mv (.t 5)),
  ao 2 23 (.ia 2 (.t 21) (.t 22)),
  ao 3 24 (.fa 1 (.t 23)),
  ao 4 25 (.ld 1 false (.t 24)),
  ao 5 26 (.mv (.t 1)),
  ao 6 27 (.bin .neq (.t 25) (.t 26))]
def r63_12 : List AOper := [ao 0 4 (.mv (.k (.i (-1))))]
def c63_13 : ACode := .seq (.reg r63_12) .ret
def c63_14 : ACode := .cond (.t 27) c63_13 .skip
def c63_15 : ACode := .seq (.reg r63_11) c63_14
def r63_16 : List AOper := [ao 0 28 (.mv (.t 1)),
  ao 1 29 (.bin .add (.t 28) (.k (.i 1))),
  ao 2 1 (.mv (.t 29))]
def c63_17 : ACode := .seq c63_9 (.seq (.reg r63_10) (.seq c63_15 (.reg r63_16)))
def c63_18 : ACode := .block 1 c63_17
def r63_19 : List AOper := [ao 0 10 (.mv (.t 5)),
  ao 1 11 (.bin .add (.t 10) (.k (.i 1))),
  ao 2 5 (.mv (.t 11))]
def c63_20 : ACode := .seq c63_4 (.seq c63_18 (.reg r63_19))
def c63_21 : ACode := .loop c63_20
def c63_22 : ACode := .block 0 c63_21
def c63_23 : ACode := .seq (.reg r63_1) c63_22
def r63_24 : List AOper := [ao 0 30 (.mv (.t 1)),
  ao 1 4 (.mv (.t 30))]
def c63 : ACode := .seq (.reg r63_0) (.seq c63_23 (.seq (.reg r63_24) .ret))
def s63 : List ARes := [.tmp 4]
theorem ok63 : okF Tryz.prog 63 31 c63 s63 := ⟨Tryz.f63, Tryz.func63, Tryz.ntmps63, by kernel_rfl, by kernel_rfl, by kernel_rfl⟩
def inv63 (N0 k : Nat) (i : Nat) (σ : St) : Prop := σ.t 0 = tL (en eH (marks mH 2 k N0)) ∧ σ.t 1 = .i ((k + 2 * i : Nat) : Int) ∧ σ.t 5 = .i i
def UCz_4 := Bx.mk <|
  aN (uA c63.eq_1) <| aN (uR r63_0.eq_1) <| aN (uA c63_23.eq_1) <| aN (uR r63_1.eq_1) <| aN (uA c63_22.eq_1) <| aN (uA c63_21.eq_1) <| aN (uR r63_24.eq_1) <| s63.eq_1
def UCz_10 := Bx.mk <|
  aN (uA c63_20.eq_1) <| aN (uA c63_4.eq_1) <| aN (uR r63_2.eq_1) <| aN (uA c63_3.eq_1) <| aN (uA c63_18.eq_1) <| aN (uA c63_17.eq_1) <| aN (uA c63_9.eq_1) <| aN (uR r63_5.eq_1) <| aN (uA c63_8.eq_1) <| aN (uA c63_7.eq_1) <| aN (uR r63_6.eq_1) <| aN (uR r63_10.eq_1) <| aN (uA c63_15.eq_1) <| aN (uR r63_11.eq_1) <| aN (uA c63_14.eq_1) <| aN (uA c63_13.eq_1) <| aN (uR r63_12.eq_1) <| aN (uR r63_16.eq_1) <| aN (uR r63_19.eq_1) <| aN (uA c63.eq_1) <| aN (uR r63_0.eq_1) <| aN (uA c63_23.eq_1) <| aN (uR r63_1.eq_1) <| aN (uA c63_22.eq_1) <| aN (uA c63_21.eq_1) <| aN (uR r63_24.eq_1) <| s63.eq_1
theorem heldHs_ok (N0 : Nat) (k : Nat) (h1 : 1 ≤ k) (hk : k + 2 * N0 ≤ 100000000) : ACallsF Tryz.prog 63 [tL (en eH (marks mH 2 k N0)), .i k] [] (.i ((k + 2 * N0 : Nat) : Int)) := by
  refine ACallsF.intro ok63 follows fun X c0 => ?_
  simp only [RZ, reduceAdd, reduceIte, reduceEqDiff, reduceLT, reduceLeDiff, reduceCtorEq, Nat.reduceBEq, UCz_4.d]
  refine AW.upto N0 (inv63 N0 k) ⟨rfl, rfl, rfl⟩ fun i t H c hi h => ?_
  obtain ⟨e0, e1, e5⟩ := h
  simp only [T.c, T.i, tL] at e0 e1 e5
  have hpl : (marks mH 2 k N0).length = N0 := marks_len mH 2 k N0
  by_cases hlt : i < N0
  · have ex := en_at eH (marks_at mH 2 k hlt)
    have k1 : (i : Int) < N0 := by omega
    have gz : (0 : Int) ≤ i := by omega
    have gw := w1_ok (i := i) (by omega)
    have g0 : IntKind.i64.wrap (((k + 2 * i : Nat) : Int) + 1) = ((k + 2 * i + 1 : Nat) : Int) := (wrap64 (x := ((k + 2 * i : Nat) : Int) + 1) ⟨by omega, by omega⟩).trans (by omega)
    have g1 : IntKind.i64.wrap (((k + 2 * i + 1 : Nat) : Int) + 1) = ((k + 2 * (i + 1) : Nat) : Int) := (wrap64 (x := ((k + 2 * i + 1 : Nat) : Int) + 1) ⟨by omega, by omega⟩).trans (by omega)
    simp only [RZ, reduceAdd, reduceIte, reduceEqDiff, reduceLT, reduceLeDiff, reduceCtorEq, Nat.reduceBEq, UCz_10.d, e0, e1, e5, en_len, hpl, k1, gz, ex, eH, mH, g0, g1, gw, ne0]
    exact ⟨hlt, e0, rfl, rfl⟩
  · have k1 : ¬ (i : Int) < N0 := by omega
    have hi2 : i = N0 := by omega
    subst hi2
    simp only [RZ, reduceAdd, reduceIte, reduceEqDiff, reduceLT, reduceLeDiff, reduceCtorEq, Nat.reduceBEq, UCz_10.d, UCz_4.d, e0, e1, e5, en_len, hpl, k1]
/-- A world that is marked. -/
def mkCW (k : Nat) (w : CW) : CW := { w with queue := marks mI 1 (k) w.queue.length, hands := marks mH 2 (k + 1 * w.queue.length) w.hands.length, results := marks mI 1 (k + 1 * w.queue.length + 2 * w.hands.length) w.results.length, ring := marks mI 1 (k + 1 * w.queue.length + 2 * w.hands.length + 1 * w.results.length) w.ring.length, out := marks mI 1 (k + 1 * w.queue.length + 2 * w.hands.length + 1 * w.results.length + 1 * w.ring.length) w.out.length, got := marks mI 1 (k + 1 * w.queue.length + 2 * w.hands.length + 1 * w.results.length + 1 * w.ring.length + 1 * w.out.length) w.got.length, shut := marks mI 1 (k + 1 * w.queue.length + 2 * w.hands.length + 1 * w.results.length + 1 * w.ring.length + 1 * w.out.length + 1 * w.got.length) w.shut.length }
def mkN (k : Nat) (w : CW) : Nat := k + 1 * w.queue.length + 2 * w.hands.length + 1 * w.results.length + 1 * w.ring.length + 1 * w.out.length + 1 * w.got.length + 1 * w.shut.length
/-- A world's seven arrays, that are written to. -/
abbrev wM (m a1 a2 a3 a4 a5 a6 a7 : Nat) (w w' : CW) : List Hand := [arH 2001 (m + 1) a1 1 3 (en eI w.queue) (en eI w'.queue), arH 2002 (m + 2) a2 2 68 (en eH w.hands) (en eH w'.hands), arH 2003 (m + 3) a3 1 3 (en eI w.results) (en eI w'.results), arH 2004 (m + 4) a4 1 3 (en eI w.ring) (en eI w'.ring), arH 2005 (m + 5) a5 1 3 (en eI w.out) (en eI w'.out), arH 2006 (m + 6) a6 1 3 (en eI w.got) (en eI w'.got), arH 2007 (m + 7) a7 1 3 (en eI w.shut) (en eI w'.shut)]
abbrev wMO (m a1 a2 a3 a4 a5 a6 a7 : Nat) (w : CW) : List (Nat × Blk) := [(m + 1, bI a1 w.queue), (m + 2, bH a2 w.hands), (m + 3, bI a3 w.results), (m + 4, bI a4 w.ring), (m + 5, bI a5 w.out), (m + 6, bI a6 w.got), (m + 7, bI a7 w.shut)]
theorem callMk {P : Program} {t : Nat → T} {H : HMap} {c : Nat} {f : Opd} {args : List Opd} {fid : FuncId} {m a1 a2 a3 a4 a5 a6 a7 : Nat} {w w' : CW} {x r : T} {k : Nat} {d : Option Nat} {un : List Nat} {l : List AOper} {prev : List (Nat × List Nat × List Nat)} {K : St → Prop}
    (hC : ∀ m a1 a2 a3 a4 a5 a6 a7, ACallsF P fid [.pt (.agg (oC 2001 2002 2003 2004 2005 2006 2007 a1 a2 a3 a4 a5 a6 a7 w)), x] (wM m a1 a2 a3 a4 a5 a6 a7 w w') r) (hf : ev t f = .pt (.one (.fn fid []))) (hl : args.map (ev t) = [.pt (.agg (oC (m + 1) (m + 2) (m + 3) (m + 4) (m + 5) (m + 6) (m + 7) a1 a2 a3 a4 a5 a6 a7 w)), x]) (h1 : H (m + 1) = some (bI a1 w.queue)) (h2 : H (m + 2) = some (bH a2 w.hands)) (h3 : H (m + 3) = some (bI a3 w.results)) (h4 : H (m + 4) = some (bI a4 w.ring)) (h5 : H (m + 5) = some (bI a5 w.out)) (h6 : H (m + 6) = some (bI a6 w.got)) (h7 : H (m + 7) = some (bI a7 w.shut)) (hx : closedA x = true) (hr : closedT r = true)
    (hk : chk prev un ⟨r, wMO m a1 a2 a3 a4 a5 a6 a7 w', wN m, wN m⟩ = true ∧ DRun P l ((k, wN m, wN m) :: prev) K ⟨updD t d r, updH H (wMO m a1 a2 a3 a4 a5 a6 a7 w'), c⟩) :
    step P k d un (.call f args) l prev K t H c := by
  obtain ⟨hs, hhs⟩ : ∃ hs, wM m a1 a2 a3 a4 a5 a6 a7 w w' = hs := ⟨_, rfl⟩
  have N1 : renN hs 2001 = some (arH 2001 (m + 1) a1 1 3 (en eI w.queue) (en eI w'.queue)) := by rw [← hhs]; simp [renN]
  have N2 : renN hs 2002 = some (arH 2002 (m + 2) a2 2 68 (en eH w.hands) (en eH w'.hands)) := by rw [← hhs]; simp [renN]
  have N3 : renN hs 2003 = some (arH 2003 (m + 3) a3 1 3 (en eI w.results) (en eI w'.results)) := by rw [← hhs]; simp [renN]
  have N4 : renN hs 2004 = some (arH 2004 (m + 4) a4 1 3 (en eI w.ring) (en eI w'.ring)) := by rw [← hhs]; simp [renN]
  have N5 : renN hs 2005 = some (arH 2005 (m + 5) a5 1 3 (en eI w.out) (en eI w'.out)) := by rw [← hhs]; simp [renN]
  have N6 : renN hs 2006 = some (arH 2006 (m + 6) a6 1 3 (en eI w.got) (en eI w'.got)) := by rw [← hhs]; simp [renN]
  have N7 : renN hs 2007 = some (arH 2007 (m + 7) a7 1 3 (en eI w.shut) (en eI w'.shut)) := by rw [← hhs]; simp [renN]
  have hnd : (hs.map (·.m)).Nodup := by rw [← hhs]; simp
  have hcd : (hs.map (·.c)).Nodup := by rw [← hhs]; simp
  obtain ⟨x1, x2⟩ := closed_A hs H x hx
  refine callW (caps := []) («as» := [.pt (.agg (oC (m + 1) (m + 2) (m + 3) (m + 4) (m + 5) (m + 6) (m + 7) a1 a2 a3 a4 a5 a6 a7 w)), x]) (ws := []) (ns := []) (r' := r) (ob := wMO m a1 a2 a3 a4 a5 a6 a7 w') hs (by rw [← hhs]; exact hC m a1 a2 a3 a4 a5 a6 a7) hf ?_ ?_ ?_ hnd hcd (closed_T _ r hr _) ?_ ?_
  · have a1 : lendT H (.pt (.agg (oC 2001 2002 2003 2004 2005 2006 2007 a1 a2 a3 a4 a5 a6 a7 w))) (.pt (.agg (oC (m + 1) (m + 2) (m + 3) (m + 4) (m + 5) (m + 6) (m + 7) a1 a2 a3 a4 a5 a6 a7 w))) = some (.pt (.agg (oC (m + 1) (m + 2) (m + 3) (m + 4) (m + 5) (m + 6) (m + 7) a1 a2 a3 a4 a5 a6 a7 w)), [], []) := rfl
    rw [hl]
    simp only [List.map_nil, List.append_nil, lendTs, a1, x1]
  · have a1 : renIT hs (.pt (.agg (oC 2001 2002 2003 2004 2005 2006 2007 a1 a2 a3 a4 a5 a6 a7 w))) = some (.pt (.agg (oC (m + 1) (m + 2) (m + 3) (m + 4) (m + 5) (m + 6) (m + 7) a1 a2 a3 a4 a5 a6 a7 w))) := by simp only [renIT, renIs, renI, inN, N1, N2, N3, N4, N5, N6, N7, Option.bind_some, Option.map_some]
    simp only [renITs, a1, x2]
  · show handsIn H hs hs
    conv => arg 3; rw [← hhs]
    exact ⟨h1, h2, h3, h4, h5, h6, h7, trivial⟩
  · conv => lhs; arg 3; rw [← hhs]
    simp only [renOBs, renOB, verOf, Blk.ver, if_true]
  · have hq : quiet r hs = false := by rw [← hhs]; simp [quiet]
    have e4 : hs.map (·.m) = wN m := by rw [← hhs]; rfl
    rw [hq, e4]
    exact hk
/- loop.example/teagle/laws.markCrewWorld -/
def r29_0 : List AOper := [ao 0 2 (.box 26 (.t 0)),
  ao 1 4 (.mv (.k (.i 0)))]
def r29_1 : List AOper := [ao 0 5 (.fa 5 (.t 2)),
  ao 1 6 (.ld 1 false (.t 5)),
  ao 2 7 (.mv (.t 1)),
  ao 3 8 (.call (.k (.c (.fn 60 []))) [(.t 6), (.t 7)]),
  ao 4 1 (.mv (.t 8))]
def r29_2 : List AOper := [ao 0 9 (.fa 6 (.t 2)),
  ao 1 10 (.ld 1 false (.t 9)),
  ao 2 11 (.mv (.t 1)),
  ao 3 12 (.call (.k (.c (.fn 61 []))) [(.t 10), (.t 11)]),
  ao 4 1 (.mv (.t 12))]
def r29_3 : List AOper := [ao 0 13 (.fa 8 (.t 2)),
  ao 1 14 (.ld 1 false (.t 13)),
  ao 2 15 (.mv (.t 1)),
  ao 3 16 (.call (.k (.c (.fn 60 []))) [(.t 14), (.t 15)]),
  ao 4 1 (.mv (.t 16))]
def r29_4 : List AOper := [ao 0 17 (.fa 10 (.t 2)),
  ao 1 18 (.ld 1 false (.t 17)),
  ao 2 19 (.mv (.t 1)),
  ao 3 20 (.call (.k (.c (.fn 60 []))) [(.t 18), (.t 19)]),
  ao 4 1 (.mv (.t 20))]
def r29_5 : List AOper := [ao 0 21 (.fa 12 (.t 2)),
  ao 1 22 (.ld 1 false (.t 21)),
  ao 2 23 (.mv (.t 1)),
  ao 3 24 (.call (.k (.c (.fn 60 []))) [(.t 22), (.t 23)]),
  ao 4 1 (.mv (.t 24))]
def r29_6 : List AOper := [ao 0 25 (.fa 14 (.t 2)),
  ao 1 26 (.ld 1 false (.t 25)),
  ao 2 27 (.mv (.t 1)),
  ao 3 28 (.call (.k (.c (.fn 60 []))) [(.t 26), (.t 27)]),
  ao 4 1 (.mv (.t 28))]
def r29_7 : List AOper := [ao 0 29 (.fa 16 (.t 2)),
  ao 1 30 (.ld 1 false (.t 29)),
  ao 2 31 (.mv (.t 1)),
  ao 3 32 (.call (.k (.c (.fn 60 []))) [(.t 30), (.t 31)]),
  ao 4 1 (.mv (.t 32))]
def r29_8 : List AOper := [ao 0 33 (.mv (.t 1)),
  ao 1 4 (.mv (.t 33))]
def c29 : ACode := .seq (.reg r29_0) (.seq (.reg r29_1) (.seq (.reg r29_2) (.seq (.reg r29_3) (.seq (.reg r29_4) (.seq (.reg r29_5) (.seq (.reg r29_6) (.seq (.reg r29_7) (.seq (.reg r29_8) .ret))))))))
def s29 : List ARes := [.tmp 4]
theorem ok29 : okF Tryz.prog 29 34 c29 s29 := ⟨Tryz.f29, Tryz.func29, Tryz.ntmps29, by kernel_rfl, by kernel_rfl, by kernel_rfl⟩
def UCz_5 := Bx.mk <|
  aN (uA c29.eq_1) <| aN (uR r29_0.eq_1) <| aN (uR r29_1.eq_1) <| aN (uR r29_2.eq_1) <| aN (uR r29_3.eq_1) <| aN (uR r29_4.eq_1) <| aN (uR r29_5.eq_1) <| aN (uR r29_6.eq_1) <| aN (uR r29_7.eq_1) <| aN (uR r29_8.eq_1) <| s29.eq_1
set_option maxHeartbeats 1000000 in
theorem markCW_ok {w : CW} (k : Nat) (h1 : 1 ≤ k) (hk : mkN k w ≤ 100000000) (m a1 a2 a3 a4 a5 a6 a7 : Nat) : ACallsF Tryz.prog 29 [.pt (.agg (oC 2001 2002 2003 2004 2005 2006 2007 a1 a2 a3 a4 a5 a6 a7 w)), .i k] (wM m a1 a2 a3 a4 a5 a6 a7 w (mkCW k w)) (.i (mkN k w)) := by
  unfold mkN at hk
  refine ACallsF.intro ok29 follows fun X c0 => ?_
  simp only [RZ, reduceAdd, reduceIte, reduceEqDiff, reduceLT, reduceLeDiff, reduceCtorEq, Nat.reduceBEq, wM, UCz_5.d]
  refine callM1 (m := 2001) (markIs_ok w.queue (k) (by omega) (by omega) 2001 a1) rfl rfl rfl rfl rfl ⟨rfl, ?_⟩
  simp only [RZ, reduceAdd, reduceIte, reduceEqDiff, reduceLT, reduceLeDiff, reduceCtorEq, Nat.reduceBEq, wM, UCz_5.d]
  refine callM1 (m := 2002) (markHs_ok w.hands (k + 1 * w.queue.length) (by omega) (by omega) 2002 a2) rfl rfl rfl rfl rfl ⟨rfl, ?_⟩
  simp only [RZ, reduceAdd, reduceIte, reduceEqDiff, reduceLT, reduceLeDiff, reduceCtorEq, Nat.reduceBEq, wM, UCz_5.d]
  refine callM1 (m := 2003) (markIs_ok w.results (k + 1 * w.queue.length + 2 * w.hands.length) (by omega) (by omega) 2003 a3) rfl rfl rfl rfl rfl ⟨rfl, ?_⟩
  simp only [RZ, reduceAdd, reduceIte, reduceEqDiff, reduceLT, reduceLeDiff, reduceCtorEq, Nat.reduceBEq, wM, UCz_5.d]
  refine callM1 (m := 2004) (markIs_ok w.ring (k + 1 * w.queue.length + 2 * w.hands.length + 1 * w.results.length) (by omega) (by omega) 2004 a4) rfl rfl rfl rfl rfl ⟨rfl, ?_⟩
  simp only [RZ, reduceAdd, reduceIte, reduceEqDiff, reduceLT, reduceLeDiff, reduceCtorEq, Nat.reduceBEq, wM, UCz_5.d]
  refine callM1 (m := 2005) (markIs_ok w.out (k + 1 * w.queue.length + 2 * w.hands.length + 1 * w.results.length + 1 * w.ring.length) (by omega) (by omega) 2005 a5) rfl rfl rfl rfl rfl ⟨rfl, ?_⟩
  simp only [RZ, reduceAdd, reduceIte, reduceEqDiff, reduceLT, reduceLeDiff, reduceCtorEq, Nat.reduceBEq, wM, UCz_5.d]
  refine callM1 (m := 2006) (markIs_ok w.got (k + 1 * w.queue.length + 2 * w.hands.length + 1 * w.results.length + 1 * w.ring.length + 1 * w.out.length) (by omega) (by omega) 2006 a6) rfl rfl rfl rfl rfl ⟨rfl, ?_⟩
  simp only [RZ, reduceAdd, reduceIte, reduceEqDiff, reduceLT, reduceLeDiff, reduceCtorEq, Nat.reduceBEq, wM, UCz_5.d]
  refine callM1 (m := 2007) (markIs_ok w.shut (k + 1 * w.queue.length + 2 * w.hands.length + 1 * w.results.length + 1 * w.ring.length + 1 * w.out.length + 1 * w.got.length) (by omega) (by omega) 2007 a7) rfl rfl rfl rfl rfl ⟨rfl, ?_⟩
  simp only [RZ, reduceAdd, reduceIte, reduceEqDiff, reduceLT, reduceLeDiff, reduceCtorEq, Nat.reduceBEq, wM, UCz_5.d, mkCW, mkN, imp_self, Nat.reduceEqDiff]
theorem markCWz_ok (k : Nat) : ACallsF Tryz.prog 29 [tCW cw0, .i k] [] (.i k) := by
  refine ACallsF.intro ok29 follows fun X c0 => ?_
  simp only [RZ, reduceAdd, reduceIte, reduceEqDiff, reduceLT, reduceLeDiff, reduceCtorEq, Nat.reduceBEq, UCz_5.d]
  refine callC (markIs_okz k) rfl rfl rfl rfl ?_
  simp only [RZ, reduceAdd, reduceIte, reduceEqDiff, reduceLT, reduceLeDiff, reduceCtorEq, Nat.reduceBEq, UCz_5.d]
  refine callC (markHs_okz k) rfl rfl rfl rfl ?_
  simp only [RZ, reduceAdd, reduceIte, reduceEqDiff, reduceLT, reduceLeDiff, reduceCtorEq, Nat.reduceBEq, UCz_5.d]
  refine callC (markIs_okz k) rfl rfl rfl rfl ?_
  simp only [RZ, reduceAdd, reduceIte, reduceEqDiff, reduceLT, reduceLeDiff, reduceCtorEq, Nat.reduceBEq, UCz_5.d]
  refine callC (markIs_okz k) rfl rfl rfl rfl ?_
  simp only [RZ, reduceAdd, reduceIte, reduceEqDiff, reduceLT, reduceLeDiff, reduceCtorEq, Nat.reduceBEq, UCz_5.d]
  refine callC (markIs_okz k) rfl rfl rfl rfl ?_
  simp only [RZ, reduceAdd, reduceIte, reduceEqDiff, reduceLT, reduceLeDiff, reduceCtorEq, Nat.reduceBEq, UCz_5.d]
  refine callC (markIs_okz k) rfl rfl rfl rfl ?_
  simp only [RZ, reduceAdd, reduceIte, reduceEqDiff, reduceLT, reduceLeDiff, reduceCtorEq, Nat.reduceBEq, UCz_5.d]
  refine callC (markIs_okz k) rfl rfl rfl rfl ?_
  simp only [RZ, reduceAdd, reduceIte, reduceEqDiff, reduceLT, reduceLeDiff, reduceCtorEq, Nat.reduceBEq, UCz_5.d]
/- loop.example/teagle/laws.heldCrewWorld -/
def r30_0 : List AOper := [ao 0 2 (.box 26 (.t 0)),
  ao 1 4 (.mv (.k (.i 0)))]
def r30_1 : List AOper := [ao 0 5 (.fa 5 (.t 2)),
  ao 1 6 (.ld 1 false (.t 5)),
  ao 2 7 (.mv (.t 1)),
  ao 3 8 (.call (.k (.c (.fn 62 []))) [(.t 6), (.t 7)]),
  ao 4 1 (.mv (.t 8))]
def r30_2 : List AOper := [ao 0 9 (.mv (.t 1)),
  ao 1 10 (.bin .lss (.t 9) (.k (.i 0)))]
def r30_3 : List AOper := [ao 0 4 (.mv (.k (.i (-1))))]
def c30_4 : ACode := .seq (.reg r30_3) .ret
def c30_5 : ACode := .cond (.t 10) c30_4 .skip
def c30_6 : ACode := .seq (.reg r30_2) c30_5
def r30_7 : List AOper := [ao 0 11 (.fa 6 (.t 2)),
  ao 1 12 (.ld 1 false (.t 11)),
  ao 2 13 (.mv (.t 1)),
  ao 3 14 (.call (.k (.c (.fn 63 []))) [(.t 12), (.t 13)]),
  ao 4 1 (.mv (.t 14))]
def r30_8 : List AOper := [ao 0 15 (.mv (.t 1)),
  ao 1 16 (.bin .lss (.t 15) (.k (.i 0)))]
def r30_9 : List AOper := [ao 0 4 (.mv (.k (.i (-1))))]
def c30_10 : ACode := .seq (.reg r30_9) .ret
def c30_11 : ACode := .cond (.t 16) c30_10 .skip
def c30_12 : ACode := .seq (.reg r30_8) c30_11
def r30_13 : List AOper := [ao 0 17 (.fa 8 (.t 2)),
  ao 1 18 (.ld 1 false (.t 17)),
  ao 2 19 (.mv (.t 1)),
  ao 3 20 (.call (.k (.c (.fn 62 []))) [(.t 18), (.t 19)]),
  ao 4 1 (.mv (.t 20))]
def r30_14 : List AOper := [ao 0 21 (.mv (.t 1)),
  ao 1 22 (.bin .lss (.t 21) (.k (.i 0)))]
def r30_15 : List AOper := [ao 0 4 (.mv (.k (.i (-1))))]
def c30_16 : ACode := .seq (.reg r30_15) .ret
def c30_17 : ACode := .cond (.t 22) c30_16 .skip
def c30_18 : ACode := .seq (.reg r30_14) c30_17
def r30_19 : List AOper := [ao 0 23 (.fa 10 (.t 2)),
  ao 1 24 (.ld 1 false (.t 23)),
  ao 2 25 (.mv (.t 1)),
  ao 3 26 (.call (.k (.c (.fn 62 []))) [(.t 24), (.t 25)]),
  ao 4 1 (.mv (.t 26))]
def r30_20 : List AOper := [ao 0 27 (.mv (.t 1)),
  ao 1 28 (.bin .lss (.t 27) (.k (.i 0)))]
def r30_21 : List AOper := [ao 0 4 (.mv (.k (.i (-1))))]
def c30_22 : ACode := .seq (.reg r30_21) .ret
def c30_23 : ACode := .cond (.t 28) c30_22 .skip
def c30_24 : ACode := .seq (.reg r30_20) c30_23
def r30_25 : List AOper := [ao 0 29 (.fa 12 (.t 2)),
  ao 1 30 (.ld 1 false (.t 29)),
  ao 2 31 (.mv (.t 1)),
  ao 3 32 (.call (.k (.c (.fn 62 []))) [(.t 30), (.t 31)]),
  ao 4 1 (.mv (.t 32))]
def r30_26 : List AOper := [ao 0 33 (.mv (.t 1)),
  ao 1 34 (.bin .lss (.t 33) (.k (.i 0)))]
def r30_27 : List AOper := [ao 0 4 (.mv (.k (.i (-1))))]
def c30_28 : ACode := .seq (.reg r30_27) .ret
def c30_29 : ACode := .cond (.t 34) c30_28 .skip
def c30_30 : ACode := .seq (.reg r30_26) c30_29
def r30_31 : List AOper := [ao 0 35 (.fa 14 (.t 2)),
  ao 1 36 (.ld 1 false (.t 35)),
  ao 2 37 (.mv (.t 1)),
  ao 3 38 (.call (.k (.c (.fn 62 []))) [(.t 36), (.t 37)]),
  ao 4 1 (.mv (.t 38))]
def r30_32 : List AOper := [ao 0 39 (.mv (.t 1)),
  ao 1 40 (.bin .lss (.t 39) (.k (.i 0)))]
def r30_33 : List AOper := [ao 0 4 (.mv (.k (.i (-1))))]
def c30_34 : ACode := .seq (.reg r30_33) .ret
def c30_35 : ACode := .cond (.t 40) c30_34 .skip
def c30_36 : ACode := .seq (.reg r30_32) c30_35
def r30_37 : List AOper := [ao 0 41 (.fa 16 (.t 2)),
  ao 1 42 (.ld 1 false (.t 41)),
  ao 2 43 (.mv (.t 1)),
  ao 3 44 (.call (.k (.c (.fn 62 []))) [(.t 42), (.t 43)]),
  ao 4 1 (.mv (.t 44))]
def r30_38 : List AOper := [ao 0 45 (.mv (.t 1)),
  ao 1 46 (.bin .lss (.t 45) (.k (.i 0)))]
def r30_39 : List AOper := [ao 0 4 (.mv (.k (.i (-1))))]
def c30_40 : ACode := .seq (.reg r30_39) .ret
def c30_41 : ACode := .cond (.t 46) c30_40 .skip
def c30_42 : ACode := .seq (.reg r30_38) c30_41
def r30_43 : List AOper := [ao 0 47 (.mv (.t 1)),
  ao 1 4 (.mv (.t 47))]
def c30 : ACode := .seq (.reg r30_0) (.seq (.reg r30_1) (.seq c30_6 (.seq (.reg r30_7) (.seq c30_12 (.seq (.reg r30_13) (.seq c30_18 (.seq (.reg r30_19) (.seq c30_24 (.seq (.reg r30_25) (.seq c30_30 (.seq (.reg r30_31) (.seq c30_36 (.seq (.reg r30_37) (.seq c30_42 (.seq (.reg r30_43) .ret)))))))))))))))
def s30 : List ARes := [.tmp 4]
theorem ok30 : okF Tryz.prog 30 48 c30 s30 := ⟨Tryz.f30, Tryz.func30, Tryz.ntmps30, by kernel_rfl, by kernel_rfl, by kernel_rfl⟩
def UCz_6 := Bx.mk <|
  aN (uA c30.eq_1) <| aN (uR r30_0.eq_1) <| aN (uR r30_1.eq_1) <| aN (uA c30_6.eq_1) <| aN (uR r30_2.eq_1) <| aN (uA c30_5.eq_1) <| aN (uA c30_4.eq_1) <| aN (uR r30_3.eq_1) <| aN (uR r30_7.eq_1) <| aN (uA c30_12.eq_1) <| aN (uR r30_8.eq_1) <| aN (uA c30_11.eq_1) <| aN (uA c30_10.eq_1) <| aN (uR r30_9.eq_1) <| aN (uR r30_13.eq_1) <| aN (uA c30_18.eq_1) <| aN (uR r30_14.eq_1) <| aN (uA c30_17.eq_1) <| aN (uA c30_16.eq_1) <| aN (uR r30_15.eq_1) <| aN (uR r30_19.eq_1) <| aN (uA c30_24.eq_1) <| aN (uR r30_20.eq_1) <| aN (uA c30_23.eq_1) <| aN (uA c30_22.eq_1) <| aN (uR r30_21.eq_1) <| aN (uR r30_25.eq_1) <| aN (uA c30_30.eq_1) <| aN (uR r30_26.eq_1) <| aN (uA c30_29.eq_1) <| aN (uA c30_28.eq_1) <| aN (uR r30_27.eq_1) <| aN (uR r30_31.eq_1) <| aN (uA c30_36.eq_1) <| aN (uR r30_32.eq_1) <| aN (uA c30_35.eq_1) <| aN (uA c30_34.eq_1) <| aN (uR r30_33.eq_1) <| aN (uR r30_37.eq_1) <| aN (uA c30_42.eq_1) <| aN (uR r30_38.eq_1) <| aN (uA c30_41.eq_1) <| aN (uA c30_40.eq_1) <| aN (uR r30_39.eq_1) <| aN (uR r30_43.eq_1) <| s30.eq_1
set_option maxHeartbeats 1000000 in
theorem heldCW_ok (w : CW) (k : Nat) (h1 : 1 ≤ k) (hk : mkN k w ≤ 100000000) : ACallsF Tryz.prog 30 [tCW (mkCW k w), .i k] [] (.i (mkN k w)) := by
  unfold mkN at hk
  have n1 : ¬ ((k + 1 * w.queue.length : Nat) : Int) < 0 := by omega
  have n2 : ¬ ((k + 1 * w.queue.length + 2 * w.hands.length : Nat) : Int) < 0 := by omega
  have n3 : ¬ ((k + 1 * w.queue.length + 2 * w.hands.length + 1 * w.results.length : Nat) : Int) < 0 := by omega
  have n4 : ¬ ((k + 1 * w.queue.length + 2 * w.hands.length + 1 * w.results.length + 1 * w.ring.length : Nat) : Int) < 0 := by omega
  have n5 : ¬ ((k + 1 * w.queue.length + 2 * w.hands.length + 1 * w.results.length + 1 * w.ring.length + 1 * w.out.length : Nat) : Int) < 0 := by omega
  have n6 : ¬ ((k + 1 * w.queue.length + 2 * w.hands.length + 1 * w.results.length + 1 * w.ring.length + 1 * w.out.length + 1 * w.got.length : Nat) : Int) < 0 := by omega
  have n7 : ¬ ((k + 1 * w.queue.length + 2 * w.hands.length + 1 * w.results.length + 1 * w.ring.length + 1 * w.out.length + 1 * w.got.length + 1 * w.shut.length : Nat) : Int) < 0 := by omega
  refine ACallsF.intro ok30 follows fun X c0 => ?_
  simp only [RZ, reduceAdd, reduceIte, reduceEqDiff, reduceLT, reduceLeDiff, reduceCtorEq, Nat.reduceBEq, UCz_6.d, mkCW]
  refine callC (heldIs_ok w.queue.length (k) (by omega) (by omega)) rfl rfl rfl rfl ?_
  simp only [RZ, reduceAdd, reduceIte, reduceEqDiff, reduceLT, reduceLeDiff, reduceCtorEq, Nat.reduceBEq, UCz_6.d, mkCW, n1]
  refine callC (heldHs_ok w.hands.length (k + 1 * w.queue.length) (by omega) (by omega)) rfl rfl rfl rfl ?_
  simp only [RZ, reduceAdd, reduceIte, reduceEqDiff, reduceLT, reduceLeDiff, reduceCtorEq, Nat.reduceBEq, UCz_6.d, mkCW, n2]
  refine callC (heldIs_ok w.results.length (k + 1 * w.queue.length + 2 * w.hands.length) (by omega) (by omega)) rfl rfl rfl rfl ?_
  simp only [RZ, reduceAdd, reduceIte, reduceEqDiff, reduceLT, reduceLeDiff, reduceCtorEq, Nat.reduceBEq, UCz_6.d, mkCW, n3]
  refine callC (heldIs_ok w.ring.length (k + 1 * w.queue.length + 2 * w.hands.length + 1 * w.results.length) (by omega) (by omega)) rfl rfl rfl rfl ?_
  simp only [RZ, reduceAdd, reduceIte, reduceEqDiff, reduceLT, reduceLeDiff, reduceCtorEq, Nat.reduceBEq, UCz_6.d, mkCW, n4]
  refine callC (heldIs_ok w.out.length (k + 1 * w.queue.length + 2 * w.hands.length + 1 * w.results.length + 1 * w.ring.length) (by omega) (by omega)) rfl rfl rfl rfl ?_
  simp only [RZ, reduceAdd, reduceIte, reduceEqDiff, reduceLT, reduceLeDiff, reduceCtorEq, Nat.reduceBEq, UCz_6.d, mkCW, n5]
  refine callC (heldIs_ok w.got.length (k + 1 * w.queue.length + 2 * w.hands.length + 1 * w.results.length + 1 * w.ring.length + 1 * w.out.length) (by omega) (by omega)) rfl rfl rfl rfl ?_
  simp only [RZ, reduceAdd, reduceIte, reduceEqDiff, reduceLT, reduceLeDiff, reduceCtorEq, Nat.reduceBEq, UCz_6.d, mkCW, n6]
  refine callC (heldIs_ok w.shut.length (k + 1 * w.queue.length + 2 * w.hands.length + 1 * w.results.length + 1 * w.ring.length + 1 * w.out.length + 1 * w.got.length) (by omega) (by omega)) rfl rfl rfl rfl ?_
  simp only [RZ, reduceAdd, reduceIte, reduceEqDiff, reduceLT, reduceLeDiff, reduceCtorEq, Nat.reduceBEq, UCz_6.d, mkCW, mkN, n7]
end Go.V
set_option linter.unusedSimpArgs false
namespace Go.V
open Go.Proofs
open Nat (reduceAdd reduceEqDiff reduceLT reduceLeDiff)
theorem stepW_len {w : CW} {m : Mv} : (stepW w m).queue.length ≤ w.queue.length + 1 ∧ (stepW w m).hands.length ≤ w.hands.length ∧ (stepW w m).results.length ≤ w.results.length + 1 ∧ (stepW w m).ring.length ≤ w.ring.length ∧ (stepW w m).out.length ≤ w.out.length + 1 ∧ (stepW w m).got.length ≤ w.got.length + 1 ∧ (stepW w m).shut.length ≤ w.shut.length := by
  unfold stepW doR doH doC doK doU
  repeat' split
  all_goals simp only [List.length_append, List.length_set, List.length_drop, List.length_cons, List.length_nil]
  all_goals omega
theorem step_sml {w : CW} {m : Mv} (h : Can w m) : Sml (stepW w m) := by
  have f := h.ok.form
  have hk := f.st.k; have hj := f.st.j; have hn := f.st.n
  have h3 := f.lh; have h4 := f.lr; have h5 := f.ls; have h6 := f.lq; have h7 := f.le; have h8 := f.lo; have h9 := f.lg
  obtain ⟨g1, g2, g3, g4, g5, g6, g7⟩ := stepW_len (w := w) (m := m)
  generalize stepW w m = w' at *
  constructor <;> omega
theorem mv_len (m : Mv) : closedA (tM m) = true := rfl
/- loop.example/teagle/laws.toCrewMove -/
def r27_0 : List AOper := [ao 0 1 (.box 46 (.t 0)),
  ao 1 2 (.alloc 35 [(.v (.s (.int .i64 0))), (.v (.s (.int .i64 0)))])]
def r27_1 : List AOper := [ao 0 3 (.alloc 35 [(.v (.s (.int .i64 0))), (.v (.s (.int .i64 0)))])]
def r27_2 : List AOper := [ao 0 4 (.fa 0 (.t 1)),
  ao 1 5 (.ld 1 false (.t 4)),
  ao 2 6 (.fa 0 (.t 3)),
  an 3 (.st 1 (.t 6) (.t 5))]
def r27_3 : List AOper := [ao 0 7 (.fa 1 (.t 1)),
  ao 1 8 (.ld 1 false (.t 7)),
  ao 2 9 (.fa 1 (.t 3)),
  an 3 (.st 1 (.t 9) (.t 8))]
def r27_4 : List AOper := [ao 0 10 (.ld 2 true (.t 3)),
  an 1 (.st 2 (.t 2) (.t 10))]
def c27 : ACode := .seq (.reg r27_0) (.seq (.reg r27_1) (.seq (.reg r27_2) (.seq (.reg r27_3) (.seq (.reg r27_4) .ret))))
def s27 : List ARes := [.cell 2 2 true]
theorem ok27 : okF Tryz.prog 27 11 c27 s27 := ⟨Tryz.f27, Tryz.func27, Tryz.ntmps27, by kernel_rfl, by kernel_rfl, by kernel_rfl⟩
def UHa_1 := Bx.mk <|
  aN (uA c27.eq_1) <| aN (uR r27_0.eq_1) <| aN (uR r27_1.eq_1) <| aN (uR r27_2.eq_1) <| aN (uR r27_3.eq_1) <| aN (uR r27_4.eq_1) <| s27.eq_1
theorem toCM_ok (m : Mv) : ACallsF Tryz.prog 27 [tM m] [] (tM m) := by
  refine ACallsF.intro ok27 follows fun X c0 => ?_
  simp only [RZ, reduceAdd, reduceIte, reduceEqDiff, reduceLT, reduceLeDiff, reduceCtorEq, Nat.reduceBEq, UHa_1.d]
theorem mkN_le {w : CW} (h : Sml w) : mkN 1 w ≤ 100000000 := by
  have := h.all
  unfold mkN
  omega
theorem SCT : (∀ b, scalarT (T.b b) = true) ∧ (∀ n, scalarT (T.i n) = true) ∧ (∀ (w : CW) (b : Bool), scalarT (.tup [.agg (cwC w), .one (.v (.s (.bool b)))]) = false) ∧ (type_of% @Bool.xor_self) ∧ (type_of% @bne_self_eq_false.{0}) := ⟨fun _ => rfl, fun _ => rfl, fun _ _ => rfl, @Bool.xor_self, @bne_self_eq_false.{0}⟩
theorem mkN_pos (w : CW) : ¬ ((mkN 1 w : Nat) : Int) < 0 := by omega
theorem mk_same (w : CW) : (mkCW 1 w).queue.length = w.queue.length ∧ (mkCW 1 w).hands.length = w.hands.length ∧ (mkCW 1 w).results.length = w.results.length ∧ (mkCW 1 w).ring.length = w.ring.length ∧ (mkCW 1 w).out.length = w.out.length ∧ (mkCW 1 w).got.length = w.got.length ∧ (mkCW 1 w).shut.length = w.shut.length := ⟨marks_len _ _ _ _, marks_len _ _ _ _, marks_len _ _ _ _, marks_len _ _ _ _, marks_len _ _ _ _, marks_len _ _ _ _, marks_len _ _ _ _⟩
theorem heldCWz_ok (k : Nat) (h1 : 1 ≤ k) (hk : k ≤ 1000) : ACallsF Tryz.prog 30 [tCW cw0, .i k] [] (.i k) := heldCW_ok cw0 k h1 (show k + 1 * 0 + 2 * 0 + 1 * 0 + 1 * 0 + 1 * 0 + 1 * 0 + 1 * 0 ≤ _ by omega)
theorem oC_mk (c1 c2 c3 c4 c5 c6 c7 a1 a2 a3 a4 a5 a6 a7 : Nat) (w : CW) : oC c1 c2 c3 c4 c5 c6 c7 a1 a2 a3 a4 a5 a6 a7 w = oC c1 c2 c3 c4 c5 c6 c7 a1 a2 a3 a4 a5 a6 a7 (mkCW 1 w) := by
  simp only [oC, mkCW, marks_len]
theorem lendHx {H : HMap} {m a1 a2 a3 a4 a5 a6 a7 : Nat} {x1 x2 x3 x4 x5 x6 x7 : Bool} {x : T} (w : CW) (h1 : H (m + 1) = some (.arr a1 x1 1 3 (en eI (mkCW 1 w).queue))) (h2 : H (m + 2) = some (.arr a2 x2 2 68 (en eH (mkCW 1 w).hands))) (h3 : H (m + 3) = some (.arr a3 x3 1 3 (en eI (mkCW 1 w).results))) (h4 : H (m + 4) = some (.arr a4 x4 1 3 (en eI (mkCW 1 w).ring))) (h5 : H (m + 5) = some (.arr a5 x5 1 3 (en eI (mkCW 1 w).out))) (h6 : H (m + 6) = some (.arr a6 x6 1 3 (en eI (mkCW 1 w).got))) (h7 : H (m + 7) = some (.arr a7 x7 1 3 (en eI (mkCW 1 w).shut))) (hx : closedA x = true) : lendTs H [tCW (mkCW 1 w), x] [.pt (.agg (oC (m + 1) (m + 2) (m + 3) (m + 4) (m + 5) (m + 6) (m + 7) a1 a2 a3 a4 a5 a6 a7 w)), x] = some ([tCW (mkCW 1 w), x], wL m a1 a2 a3 a4 a5 a6 a7 (mkCW 1 w), wN m) := by
  rw [oC_mk]
  exact lendWx h1 h2 h3 h4 h5 h6 h7 hx
/- loop.example/teagle/laws.FnExactCrewStep -/
def r6_0 : List AOper := [ao 0 2 (.box 45 (.t 0)),
  ao 1 3 (.box 46 (.t 1)),
  ao 2 4 (.mv (.k (.b false)))]
def r6_1 : List AOper := [ao 0 5 (.mv (.k (.i 1048576)))]
def r6_2 : List AOper := [ao 0 16 (.ld 18 true (.t 2)),
  ao 1 17 (.mv (.t 5)),
  ao 2 18 (.call (.k (.c (.fn 24 []))) [(.t 16), (.t 17)]),
  ao 3 5 (.mv (.t 18))]
def r6_3 : List AOper := [ao 0 19 (.mv (.t 5)),
  ao 1 20 (.bin .lss (.t 19) (.k (.i 0)))]
def r6_4 : List AOper := [ao 0 4 (.mv (.k (.b true)))]
def c6_5 : ACode := .seq (.reg r6_4) .ret
def c6_6 : ACode := .cond (.t 20) c6_5 .skip
def c6_7 : ACode := .seq (.reg r6_3) c6_6
def r6_8 : List AOper := [ao 0 22 (.ld 18 true (.t 2)),
  ao 1 23 (.call (.k (.c (.fn 26 []))) [(.t 22)]),
  au 2 24 [0, 1] (.ld 2 true (.t 3)),
  ao 3 25 (.call (.k (.c (.fn 27 []))) [(.t 24)]),
  ao 4 26 (.call (.k (.c (.fn 25 []))) [(.t 23), (.t 25)]),
  ao 5 21 (.mv (.t 26)),
  ao 6 27 (.ext 0 (.t 21)),
  au 7 28 [6] (.ext 1 (.t 21)),
  au 8 6 (ru 8) (.alloc 26 [(.v (.s (.int .i64 0))), (.v (.s (.int .i64 0))), (.v (.s (.int .i64 0))), (.v (.s (.int .i64 0))), (.v (.s (.int .i64 0))), .nil0, .nil0, (.v (.s (.int .i64 0))), .nil0, (.v (.s (.int .i64 0))), .nil0, (.v (.s (.int .i64 0))), .nil0, (.v (.s (.int .i64 0))), .nil0, (.v (.s (.int .i64 0))), .nil0, (.v (.s (.int .i64 0)))]),
  ax 9 none none [7] (.st 18 (.t 6) (.t 27)),
  ao 10 7 (.mv (.t 28))]
def r6_9 : List AOper := [ao 0 29 (.ld 18 true (.t 2)),
  ao 1 30 (.call (.k (.c (.fn 26 []))) [(.t 29)]),
  ao 2 8 (.alloc 26 [(.v (.s (.int .i64 0))), (.v (.s (.int .i64 0))), (.v (.s (.int .i64 0))), (.v (.s (.int .i64 0))), (.v (.s (.int .i64 0))), .nil0, .nil0, (.v (.s (.int .i64 0))), .nil0, (.v (.s (.int .i64 0))), .nil0, (.v (.s (.int .i64 0))), .nil0, (.v (.s (.int .i64 0))), .nil0, (.v (.s (.int .i64 0))), .nil0, (.v (.s (.int .i64 0)))]),
  an 3 (.st 18 (.t 8) (.t 30))]
def r6_10 : List AOper := [ao 0 32 (.ld 18 true (.t 8)),
  au 1 33 [0] (.ld 2 true (.t 3)),
  au 2 34 [0] (.call (.k (.c (.fn 27 []))) [(.t 33)]),
  ao 3 35 (.call (.k (.c (.fn 15 []))) [(.t 32), (.t 34)]),
  ao 4 31 (.mv (.t 35)),
  ao 5 36 (.ext 0 (.t 31)),
  au 6 37 [5] (.ext 1 (.t 31)),
  au 7 9 (ru 7) (.alloc 26 [(.v (.s (.int .i64 0))), (.v (.s (.int .i64 0))), (.v (.s (.int .i64 0))), (.v (.s (.int .i64 0))), (.v (.s (.int .i64 0))), .nil0, .nil0, (.v (.s (.int .i64 0))), .nil0, (.v (.s (.int .i64 0))), .nil0, (.v (.s (.int .i64 0))), .nil0, (.v (.s (.int .i64 0))), .nil0, (.v (.s (.int .i64 0))), .nil0, (.v (.s (.int .i64 0)))]),
  ax 8 none none [6] (.st 18 (.t 9) (.t 36)),
  ao 9 10 (.mv (.t 37))]
def r6_11 : List AOper := [ao 0 38 (.ld 18 true (.t 9)),
  ao 1 39 (.ld 18 true (.t 6)),
  ao 2 40 (.call (.k (.c (.fn 28 []))) [(.t 38), (.t 39)]),
  ao 3 41 (.un .not (.t 40)),
  ao 4 42 (.mv (.t 41)),
  ag 5 43 42 false [] (.mv (.t 10)),
  ag 6 44 42 false [] (.mv (.t 7)),
  ag 7 45 42 false [] (.binB .neq (.t 43) (.t 44)),
  ao 8 46 (.pick (.t 42) (.k (.b true)) (.t 45))]
def r6_12 : List AOper := [ao 0 4 (.mv (.k (.b false)))]
def c6_13 : ACode := .seq (.reg r6_12) .ret
def c6_14 : ACode := .cond (.t 46) c6_13 .skip
def c6_15 : ACode := .seq (.reg r6_11) c6_14
def r6_16 : List AOper := [ao 0 47 (.ld 18 true (.t 8)),
  au 1 48 [0] (.ld 18 true (.t 2)),
  au 2 49 [0] (.call (.k (.c (.fn 26 []))) [(.t 48)]),
  ao 3 50 (.call (.k (.c (.fn 28 []))) [(.t 47), (.t 49)]),
  ao 4 51 (.un .not (.t 50))]
def r6_17 : List AOper := [ao 0 4 (.mv (.k (.b false)))]
def c6_18 : ACode := .seq (.reg r6_17) .ret
def c6_19 : ACode := .cond (.t 51) c6_18 .skip
def c6_20 : ACode := .seq (.reg r6_16) c6_19
def r6_21 : List AOper := [ao 0 11 (.mv (.k (.i 1)))]
def r6_22 : List AOper := [ao 0 52 (.ld 18 true (.t 8)),
  ao 1 53 (.mv (.t 11)),
  ao 2 54 (.call (.k (.c (.fn 29 []))) [(.t 52), (.t 53)]),
  ao 3 11 (.mv (.t 54))]
def r6_23 : List AOper := [ao 0 55 (.mv (.t 11)),
  ao 1 56 (.bin .lss (.t 55) (.k (.i 0))),
  ao 2 57 (.mv (.t 56)),
  ag 3 58 57 false [] (.ld 18 true (.t 9)),
  ag 4 59 57 false [] (.ld 18 true (.t 6)),
  ag 5 60 57 false [] (.call (.k (.c (.fn 28 []))) [(.t 58), (.t 59)]),
  ag 6 61 57 false [] (.un .not (.t 60)),
  ao 7 62 (.pick (.t 57) (.k (.b true)) (.t 61)),
  ao 8 63 (.mv (.t 62)),
  ag 9 64 63 false [] (.mv (.t 10)),
  ag 10 65 63 false [] (.mv (.t 7)),
  ag 11 66 63 false [] (.binB .neq (.t 64) (.t 65)),
  ao 12 67 (.pick (.t 63) (.k (.b true)) (.t 66))]
def r6_24 : List AOper := [ao 0 4 (.mv (.k (.b false)))]
def c6_25 : ACode := .seq (.reg r6_24) .ret
def c6_26 : ACode := .cond (.t 67) c6_25 .skip
def c6_27 : ACode := .seq (.reg r6_23) c6_26
def r6_28 : List AOper := [ao 0 12 (.mv (.k (.i 1)))]
def r6_29 : List AOper := [ao 0 68 (.ld 18 true (.t 9)),
  ao 1 69 (.mv (.t 12)),
  ao 2 70 (.call (.k (.c (.fn 29 []))) [(.t 68), (.t 69)]),
  ao 3 12 (.mv (.t 70))]
def r6_30 : List AOper := [ao 0 13 (.mv (.k (.i 1)))]
def r6_31 : List AOper := [ao 0 71 (.ld 18 true (.t 9)),
  ao 1 72 (.mv (.t 13)),
  ao 2 73 (.call (.k (.c (.fn 30 []))) [(.t 71), (.t 72)]),
  ao 3 13 (.mv (.t 73))]
def r6_32 : List AOper := [ao 0 74 (.mv (.t 13)),
  ao 1 75 (.bin .lss (.t 74) (.k (.i 0)))]
def r6_33 : List AOper := [ao 0 4 (.mv (.k (.b false)))]
def c6_34 : ACode := .seq (.reg r6_33) .ret
def c6_35 : ACode := .cond (.t 75) c6_34 .skip
def c6_36 : ACode := .seq (.reg r6_32) c6_35
def r6_37 : List AOper := [ao 0 76 (.mv (.t 13)),
  ao 1 77 (.mv (.t 12)),
  ao 2 78 (.bin .neq (.t 76) (.t 77))]
def r6_38 : List AOper := [ao 0 4 (.mv (.k (.b false)))]
def c6_39 : ACode := .seq (.reg r6_38) .ret
def c6_40 : ACode := .cond (.t 78) c6_39 .skip
def c6_41 : ACode := .seq (.reg r6_37) c6_40
def r6_42 : List AOper := [ao 0 80 (.ld 18 true (.t 2)),
  ao 1 81 (.call (.k (.c (.fn 26 []))) [(.t 80)]),
  au 2 82 [0, 1] (.ld 2 true (.t 3)),
  ao 3 83 (.call (.k (.c (.fn 27 []))) [(.t 82)]),
  ao 4 84 (.call (.k (.c (.fn 15 []))) [(.t 81), (.t 83)]),
  ao 5 79 (.mv (.t 84)),
  ao 6 85 (.ext 0 (.t 79)),
  au 7 86 [6] (.ext 1 (.t 79)),
  au 8 14 (ru 8) (.alloc 26 [(.v (.s (.int .i64 0))), (.v (.s (.int .i64 0))), (.v (.s (.int .i64 0))), (.v (.s (.int .i64 0))), (.v (.s (.int .i64 0))), .nil0, .nil0, (.v (.s (.int .i64 0))), .nil0, (.v (.s (.int .i64 0))), .nil0, (.v (.s (.int .i64 0))), .nil0, (.v (.s (.int .i64 0))), .nil0, (.v (.s (.int .i64 0))), .nil0, (.v (.s (.int .i64 0)))]),
  ax 9 none none [7] (.st 18 (.t 14) (.t 85)),
  ao 10 15 (.mv (.t 86))]
def r6_43 : List AOper := [ao 0 87 (.ld 18 true (.t 14)),
  ao 1 88 (.ld 18 true (.t 6)),
  ao 2 89 (.call (.k (.c (.fn 28 []))) [(.t 87), (.t 88)]),
  ao 3 90 (.un .not (.t 89)),
  ao 4 91 (.mv (.t 90)),
  ag 5 92 91 false [] (.mv (.t 15)),
  ag 6 93 91 false [] (.mv (.t 7)),
  ag 7 94 91 false [] (.binB .neq (.t 92) (.t 93)),
  ao 8 95 (.pick (.t 91) (.k (.b true)) (.t 94))]
def r6_44 : List AOper := [ao 0 4 (.mv (.k (.b false)))]
def c6_45 : ACode := .seq (.reg r6_44) .ret
def c6_46 : ACode := .cond (.t 95) c6_45 .skip
def c6_47 : ACode := .seq (.reg r6_43) c6_46
def r6_48 : List AOper := [ao 0 13 (.mv (.k (.i 1)))]
def r6_49 : List AOper := [ao 0 96 (.ld 18 true (.t 9)),
  ao 1 97 (.mv (.t 13)),
  ao 2 98 (.call (.k (.c (.fn 30 []))) [(.t 96), (.t 97)]),
  ao 3 13 (.mv (.t 98))]
def r6_50 : List AOper := [ao 0 99 (.mv (.t 13)),
  ao 1 100 (.bin .lss (.t 99) (.k (.i 0)))]
def r6_51 : List AOper := [ao 0 4 (.mv (.k (.b false)))]
def c6_52 : ACode := .seq (.reg r6_51) .ret
def c6_53 : ACode := .cond (.t 100) c6_52 .skip
def c6_54 : ACode := .seq (.reg r6_50) c6_53
def r6_55 : List AOper := [ao 0 101 (.mv (.t 13)),
  ao 1 102 (.mv (.t 12)),
  ao 2 103 (.bin .neq (.t 101) (.t 102))]
def r6_56 : List AOper := [ao 0 4 (.mv (.k (.b false)))]
def c6_57 : ACode := .seq (.reg r6_56) .ret
def c6_58 : ACode := .cond (.t 103) c6_57 .skip
def c6_59 : ACode := .seq (.reg r6_55) c6_58
def r6_60 : List AOper := [ao 0 4 (.mv (.k (.b true)))]
def c6 : ACode := .seq (.reg r6_0) (.seq (.reg r6_1) (.seq (.reg r6_2) (.seq c6_7 (.seq (.reg r6_8) (.seq (.reg r6_9) (.seq (.reg r6_10) (.seq c6_15 (.seq c6_20 (.seq (.reg r6_21) (.seq (.reg r6_22) (.seq c6_27 (.seq (.reg r6_28) (.seq (.reg r6_29) (.seq (.reg r6_30) (.seq (.reg r6_31) (.seq c6_36 (.seq c6_41 (.seq (.reg r6_42) (.seq c6_47 (.seq (.reg r6_48) (.seq (.reg r6_49) (.seq c6_54 (.seq c6_59 (.seq (.reg r6_60) .ret))))))))))))))))))))))))
def s6 : List ARes := [.tmp 4]
theorem ok6 : okF Tryz.prog 6 104 c6 s6 := ⟨Tryz.f6, Tryz.func6, Tryz.ntmps6, by kernel_rfl, by kernel_rfl, by kernel_rfl⟩
def UHa_2 := Bx.mk <|
  aN (uA c6.eq_1) <| aN (uR r6_0.eq_1) <| aN (uR r6_1.eq_1) <| aN (uR r6_2.eq_1) <| aN (uA c6_7.eq_1) <| aN (uR r6_3.eq_1) <| aN (uA c6_6.eq_1) <| aN (uA c6_5.eq_1) <| aN (uR r6_4.eq_1) <| aN (uR r6_8.eq_1) <| aN (uR r6_9.eq_1) <| aN (uR r6_10.eq_1) <| aN (uA c6_15.eq_1) <| aN (uR r6_11.eq_1) <| aN (uA c6_14.eq_1) <| aN (uA c6_13.eq_1) <| aN (uR r6_12.eq_1) <| aN (uA c6_20.eq_1) <| aN (uR r6_16.eq_1) <| aN (uA c6_19.eq_1) <| aN (uA c6_18.eq_1) <| aN (uR r6_17.eq_1) <| aN (uR r6_21.eq_1) <| aN (uR r6_22.eq_1) <| aN (uA c6_27.eq_1) <| aN (uR r6_23.eq_1) <| aN (uA c6_26.eq_1) <| aN (uA c6_25.eq_1) <| aN (uR r6_24.eq_1) <| aN (uR r6_28.eq_1) <| aN (uR r6_29.eq_1) <| aN (uR r6_30.eq_1) <| aN (uR r6_31.eq_1) <| aN (uA c6_36.eq_1) <| aN (uR r6_32.eq_1) <| aN (uA c6_35.eq_1) <| aN (uA c6_34.eq_1) <| aN (uR r6_33.eq_1) <| aN (uA c6_41.eq_1) <| aN (uR r6_37.eq_1) <| aN (uA c6_40.eq_1) <| aN (uA c6_39.eq_1) <| aN (uR r6_38.eq_1) <| aN (uR r6_42.eq_1) <| aN (uA c6_47.eq_1) <| aN (uR r6_43.eq_1) <| aN (uA c6_46.eq_1) <| aN (uA c6_45.eq_1) <| aN (uR r6_44.eq_1) <| aN (uR r6_48.eq_1) <| aN (uR r6_49.eq_1) <| aN (uA c6_54.eq_1) <| aN (uR r6_50.eq_1) <| aN (uA c6_53.eq_1) <| aN (uA c6_52.eq_1) <| aN (uR r6_51.eq_1) <| aN (uA c6_59.eq_1) <| aN (uR r6_55.eq_1) <| aN (uA c6_58.eq_1) <| aN (uA c6_57.eq_1) <| aN (uR r6_56.eq_1) <| aN (uR r6_60.eq_1) <| s6.eq_1
set_option maxRecDepth 8000 in
set_option maxHeartbeats 4000000 in
theorem lawCS_no {w : CW} {m : Mv} (ha : ArgW w) (hn : ¬ Can w m) : ACallsF Tryz.prog 6 [tCW w, tM m] [] (.b true) := by
  obtain ⟨q, hq, Cq⟩ := szCW_ok ha
  refine ACallsF.intro ok6 follows fun X c0 => ?_
  simp only [RZ, reduceAdd, reduceIte, reduceEqDiff, reduceLT, reduceLeDiff, reduceCtorEq, Nat.reduceBEq, SCT, UHa_2.d]
  refine callC Cq rfl rfl rfl rfl ?_
  rcases hq with rfl | ⟨q0, hs⟩
  · simp only [RZ, reduceAdd, reduceIte, reduceEqDiff, reduceLT, reduceLeDiff, reduceCtorEq, Nat.reduceBEq, SCT, UHa_2.d, Int.reduceLT]
  have k0 : ¬ q < 0 := by omega
  have hsm := hs.small
  have CS := stepS_no hn
  have CI := stepI_no hsm hn
  have n1 : ¬ ((1 : Nat) : Int) < 0 := by decide
  have E0 := eqCW_ok (w := cw0) ⟨by decide, by decide, by decide, by decide, by decide, by decide, by decide⟩
  simp only [RZ, reduceAdd, reduceIte, reduceEqDiff, reduceLT, reduceLeDiff, reduceCtorEq, Nat.reduceBEq, SCT, UHa_2.d, k0]
  refine callW7 (m := 10000) (ws := []) (ns := []) (toCW_ok w hsm 10000) rfl rfl rfl (by decide) ⟨rfl, ?_⟩
  simp only [RZ, reduceAdd, reduceIte, reduceEqDiff, reduceLT, reduceLeDiff, reduceCtorEq, Nat.reduceBEq, SCT, UHa_2.d]
  refine callC (toCM_ok m) rfl rfl rfl rfl ?_
  simp only [RZ, reduceAdd, reduceIte, reduceEqDiff, reduceLT, reduceLeDiff, reduceCtorEq, Nat.reduceBEq, SCT, UHa_2.d]
  refine callL (ws := wL 10000 _ _ _ _ _ _ _ w) (ns := wN 10000) CS rfl (lendWx (x := tM m) (x1 := true) (x2 := true) (x3 := true) (x4 := true) (x5 := true) (x6 := true) (x7 := true) rfl rfl rfl rfl rfl rfl rfl rfl) rfl rfl ⟨?_, ?_⟩
  · rfl
  simp only [RZ, reduceAdd, reduceIte, reduceEqDiff, reduceLT, reduceLeDiff, reduceCtorEq, Nat.reduceBEq, SCT, UHa_2.d]
  refine callW7 (m := 11000) (ws := []) (ns := []) (toCW_ok w hsm 11000) rfl rfl rfl (by decide) ⟨rfl, ?_⟩
  simp only [RZ, reduceAdd, reduceIte, reduceEqDiff, reduceLT, reduceLeDiff, reduceCtorEq, Nat.reduceBEq, SCT, UHa_2.d]
  refine callC (toCM_ok m) rfl rfl rfl rfl ?_
  simp only [RZ, reduceAdd, reduceIte, reduceEqDiff, reduceLT, reduceLeDiff, reduceCtorEq, Nat.reduceBEq, SCT, UHa_2.d]
  refine callZ (ws := wL 11000 _ _ _ _ _ _ _ w) (ns := wN 11000) CI rfl (lendWx (x := tM m) (x1 := true) (x2 := true) (x3 := true) (x4 := true) (x5 := true) (x6 := true) (x7 := true) rfl rfl rfl rfl rfl rfl rfl rfl) rfl (fun _ => rfl) rfl ⟨?_, ?_⟩
  · rfl
  simp only [RZ, reduceAdd, reduceIte, reduceEqDiff, reduceLT, reduceLeDiff, reduceCtorEq, Nat.reduceBEq, SCT, UHa_2.d]
  refine callLf (ws := []) (ns := []) E0 rfl rfl rfl rfl ⟨rfl, ?_⟩
  simp only [RZ, reduceAdd, reduceIte, reduceEqDiff, reduceLT, reduceLeDiff, reduceCtorEq, Nat.reduceBEq, SCT, UHa_2.d]
  refine callW7 (m := 13000) (ws := []) (ns := []) (toCW_ok w hsm 13000) rfl rfl rfl (by decide) ⟨rfl, ?_⟩
  simp only [RZ, reduceAdd, reduceIte, reduceEqDiff, reduceLT, reduceLeDiff, reduceCtorEq, Nat.reduceBEq, SCT, UHa_2.d]
  refine callLf (ws := wL 11000 _ _ _ _ _ _ _ w ++ wL 13000 _ _ _ _ _ _ _ w) (ns := wN 11000 ++ wN 13000) (eqCW_ok hsm) rfl (lendWW (x1 := true) (x2 := true) (x3 := true) (x4 := true) (x5 := true) (x6 := true) (x7 := true) (y1 := true) (y2 := true) (y3 := true) (y4 := true) (y5 := true) (y6 := true) (y7 := true) rfl rfl rfl rfl rfl rfl rfl rfl rfl rfl rfl rfl rfl rfl) rfl rfl ⟨?_, ?_⟩
  · rfl
  simp only [RZ, reduceAdd, reduceIte, reduceEqDiff, reduceLT, reduceLeDiff, reduceCtorEq, Nat.reduceBEq, SCT, UHa_2.d]
  refine callMk (m := 11000) (w' := mkCW 1 w) (fun m a1 a2 a3 a4 a5 a6 a7 => markCW_ok (w := w) 1 (by omega) (mkN_le hs) m a1 a2 a3 a4 a5 a6 a7) rfl rfl rfl rfl rfl rfl rfl rfl rfl rfl rfl ⟨rfl, ?_⟩
  simp only [RZ, reduceAdd, reduceIte, reduceEqDiff, reduceLT, reduceLeDiff, reduceCtorEq, Nat.reduceBEq, SCT, UHa_2.d, mkN_pos]
  refine callLf (ws := []) (ns := []) E0 rfl rfl rfl rfl ⟨rfl, ?_⟩
  simp only [RZ, reduceAdd, reduceIte, reduceEqDiff, reduceLT, reduceLeDiff, reduceCtorEq, Nat.reduceBEq, SCT, UHa_2.d, mkN_pos]
  refine callLf (ws := []) (ns := []) (markCWz_ok 1) rfl rfl rfl rfl ⟨rfl, ?_⟩
  simp only [RZ, reduceAdd, reduceIte, reduceEqDiff, reduceLT, reduceLeDiff, reduceCtorEq, Nat.reduceBEq, SCT, UHa_2.d]
  refine callLf (ws := []) (ns := []) (heldCWz_ok 1 (by omega) (by omega)) rfl rfl rfl rfl ⟨rfl, ?_⟩
  simp only [RZ, reduceAdd, reduceIte, reduceEqDiff, reduceLT, reduceLeDiff, reduceCtorEq, Nat.reduceBEq, SCT, UHa_2.d, n1, ne0]
  refine callW7 (m := 14000) (ws := []) (ns := []) (toCW_ok w hsm 14000) rfl rfl rfl (by decide) ⟨rfl, ?_⟩
  simp only [RZ, reduceAdd, reduceIte, reduceEqDiff, reduceLT, reduceLeDiff, reduceCtorEq, Nat.reduceBEq, SCT, UHa_2.d]
  refine callC (toCM_ok m) rfl rfl rfl rfl ?_
  simp only [RZ, reduceAdd, reduceIte, reduceEqDiff, reduceLT, reduceLeDiff, reduceCtorEq, Nat.reduceBEq, SCT, UHa_2.d]
  refine callZ (ws := wL 14000 _ _ _ _ _ _ _ w) (ns := wN 14000) CI rfl (lendWx (x := tM m) (x1 := true) (x2 := true) (x3 := true) (x4 := true) (x5 := true) (x6 := true) (x7 := true) rfl rfl rfl rfl rfl rfl rfl rfl) rfl (fun _ => rfl) rfl ⟨?_, ?_⟩
  · rfl
  simp only [RZ, reduceAdd, reduceIte, reduceEqDiff, reduceLT, reduceLeDiff, reduceCtorEq, Nat.reduceBEq, SCT, UHa_2.d]
  refine callLf (ws := []) (ns := []) E0 rfl rfl rfl rfl ⟨rfl, ?_⟩
  simp only [RZ, reduceAdd, reduceIte, reduceEqDiff, reduceLT, reduceLeDiff, reduceCtorEq, Nat.reduceBEq, SCT, UHa_2.d]
  refine callLf (ws := []) (ns := []) (heldCWz_ok 1 (by omega) (by omega)) rfl rfl rfl rfl ⟨rfl, ?_⟩
  simp only [RZ, reduceAdd, reduceIte, reduceEqDiff, reduceLT, reduceLeDiff, reduceCtorEq, Nat.reduceBEq, SCT, UHa_2.d, n1, ne0]
set_option maxRecDepth 8000 in
set_option maxHeartbeats 4000000 in
theorem lawCS_yes {w : CW} {m : Mv} (ha : ArgW w) (h : Can w m) : ACallsF Tryz.prog 6 [tCW w, tM m] [] (.b true) := by
  obtain ⟨q, hq, Cq⟩ := szCW_ok ha
  refine ACallsF.intro ok6 follows fun X c0 => ?_
  simp only [RZ, reduceAdd, reduceIte, reduceEqDiff, reduceLT, reduceLeDiff, reduceCtorEq, Nat.reduceBEq, SCT, UHa_2.d]
  refine callC Cq rfl rfl rfl rfl ?_
  rcases hq with rfl | ⟨q0, hs⟩
  · simp only [RZ, reduceAdd, reduceIte, reduceEqDiff, reduceLT, reduceLeDiff, reduceCtorEq, Nat.reduceBEq, SCT, UHa_2.d, Int.reduceLT]
  have k0 : ¬ q < 0 := by omega
  have hsm := hs.small
  have hs' := step_sml h
  have CS := stepS_yes h hs'.small
  have CI := stepI_yes h hs'.small
  have E0 := eqCW_ok hs'.small
  have M0 := heldCW_ok (stepW w m) 1 (by omega) (mkN_le hs')
  obtain ⟨w', hw⟩ : ∃ w', stepW w m = w' := ⟨_, rfl⟩
  rw [hw] at hs' CS CI E0 M0
  have hp := mkN_pos w'
  simp only [RZ, reduceAdd, reduceIte, reduceEqDiff, reduceLT, reduceLeDiff, reduceCtorEq, Nat.reduceBEq, SCT, UHa_2.d, k0]
  refine callW7 (m := 10000) (ws := []) (ns := []) (toCW_ok w hsm 10000) rfl rfl rfl (by decide) ⟨rfl, ?_⟩
  simp only [RZ, reduceAdd, reduceIte, reduceEqDiff, reduceLT, reduceLeDiff, reduceCtorEq, Nat.reduceBEq, SCT, UHa_2.d]
  refine callC (toCM_ok m) rfl rfl rfl rfl ?_
  simp only [RZ, reduceAdd, reduceIte, reduceEqDiff, reduceLT, reduceLeDiff, reduceCtorEq, Nat.reduceBEq, SCT, UHa_2.d]
  refine callL (ws := wL 10000 _ _ _ _ _ _ _ w) (ns := wN 10000) CS rfl (lendWx (x := tM m) (x1 := true) (x2 := true) (x3 := true) (x4 := true) (x5 := true) (x6 := true) (x7 := true) rfl rfl rfl rfl rfl rfl rfl rfl) rfl rfl ⟨?_, ?_⟩
  · rfl
  simp only [RZ, reduceAdd, reduceIte, reduceEqDiff, reduceLT, reduceLeDiff, reduceCtorEq, Nat.reduceBEq, SCT, UHa_2.d]
  refine callW7 (m := 11000) (ws := []) (ns := []) (toCW_ok w hsm 11000) rfl rfl rfl (by decide) ⟨rfl, ?_⟩
  simp only [RZ, reduceAdd, reduceIte, reduceEqDiff, reduceLT, reduceLeDiff, reduceCtorEq, Nat.reduceBEq, SCT, UHa_2.d]
  refine callC (toCM_ok m) rfl rfl rfl rfl ?_
  simp only [RZ, reduceAdd, reduceIte, reduceEqDiff, reduceLT, reduceLeDiff, reduceCtorEq, Nat.reduceBEq, SCT, UHa_2.d]
  refine callW7b (m := 12000) (ws := wL 11000 _ _ _ _ _ _ _ w) (ns := wN 11000) (CI 12000) rfl (lendWx (x := tM m) (x1 := true) (x2 := true) (x3 := true) (x4 := true) (x5 := true) (x6 := true) (x7 := true) rfl rfl rfl rfl rfl rfl rfl rfl) rfl (by decide) ⟨?_, ?_⟩
  · rfl
  simp only [RZ, reduceAdd, reduceIte, reduceEqDiff, reduceLT, reduceLeDiff, reduceCtorEq, Nat.reduceBEq, SCT, UHa_2.d]
  refine callLf (ws := wL 12000 _ _ _ _ _ _ _ w') (ns := wN 12000) E0 rfl (lendWx (x1 := true) (x2 := true) (x3 := true) (x4 := true) (x5 := true) (x6 := true) (x7 := true) rfl rfl rfl rfl rfl rfl rfl rfl) rfl rfl ⟨?_, ?_⟩
  · rfl
  simp only [RZ, reduceAdd, reduceIte, reduceEqDiff, reduceLT, reduceLeDiff, reduceCtorEq, Nat.reduceBEq, SCT, UHa_2.d]
  refine callW7 (m := 13000) (ws := []) (ns := []) (toCW_ok w hsm 13000) rfl rfl rfl (by decide) ⟨rfl, ?_⟩
  simp only [RZ, reduceAdd, reduceIte, reduceEqDiff, reduceLT, reduceLeDiff, reduceCtorEq, Nat.reduceBEq, SCT, UHa_2.d]
  refine callLf (ws := wL 11000 _ _ _ _ _ _ _ w ++ wL 13000 _ _ _ _ _ _ _ w) (ns := wN 11000 ++ wN 13000) (eqCW_ok hsm) rfl (lendWW (x1 := true) (x2 := true) (x3 := true) (x4 := true) (x5 := true) (x6 := true) (x7 := true) (y1 := true) (y2 := true) (y3 := true) (y4 := true) (y5 := true) (y6 := true) (y7 := true) rfl rfl rfl rfl rfl rfl rfl rfl rfl rfl rfl rfl rfl rfl) rfl rfl ⟨?_, ?_⟩
  · rfl
  simp only [RZ, reduceAdd, reduceIte, reduceEqDiff, reduceLT, reduceLeDiff, reduceCtorEq, Nat.reduceBEq, SCT, UHa_2.d]
  refine callMk (m := 11000) (w' := mkCW 1 w) (fun m a1 a2 a3 a4 a5 a6 a7 => markCW_ok (w := w) 1 (by omega) (mkN_le hs) m a1 a2 a3 a4 a5 a6 a7) rfl rfl rfl rfl rfl rfl rfl rfl rfl rfl rfl ⟨rfl, ?_⟩
  simp only [RZ, reduceAdd, reduceIte, reduceEqDiff, reduceLT, reduceLeDiff, reduceCtorEq, Nat.reduceBEq, SCT, UHa_2.d, mkN_pos]
  refine callLf (ws := wL 12000 _ _ _ _ _ _ _ w') (ns := wN 12000) E0 rfl (lendWx (x1 := true) (x2 := true) (x3 := true) (x4 := true) (x5 := true) (x6 := true) (x7 := true) rfl rfl rfl rfl rfl rfl rfl rfl) rfl rfl ⟨?_, ?_⟩
  · rfl
  simp only [RZ, reduceAdd, reduceIte, reduceEqDiff, reduceLT, reduceLeDiff, reduceCtorEq, Nat.reduceBEq, SCT, UHa_2.d, mkN_pos]
  refine callMk (m := 12000) (w' := mkCW 1 w') (fun m a1 a2 a3 a4 a5 a6 a7 => markCW_ok (w := w') 1 (by omega) (mkN_le hs') m a1 a2 a3 a4 a5 a6 a7) rfl rfl rfl rfl rfl rfl rfl rfl rfl rfl rfl ⟨rfl, ?_⟩
  simp only [RZ, reduceAdd, reduceIte, reduceEqDiff, reduceLT, reduceLeDiff, reduceCtorEq, Nat.reduceBEq, SCT, UHa_2.d]
  refine callLf (ws := wL 12000 _ _ _ _ _ _ _ (mkCW 1 w')) (ns := wN 12000) M0 rfl (lendHx (x1 := true) (x2 := true) (x3 := true) (x4 := true) (x5 := true) (x6 := true) (x7 := true) w' rfl rfl rfl rfl rfl rfl rfl rfl) rfl rfl ⟨?_, ?_⟩
  · rfl
  simp only [RZ, reduceAdd, reduceIte, reduceEqDiff, reduceLT, reduceLeDiff, reduceCtorEq, Nat.reduceBEq, SCT, UHa_2.d, hp, ne0]
  refine callW7 (m := 14000) (ws := []) (ns := []) (toCW_ok w hsm 14000) rfl rfl rfl (by decide) ⟨rfl, ?_⟩
  simp only [RZ, reduceAdd, reduceIte, reduceEqDiff, reduceLT, reduceLeDiff, reduceCtorEq, Nat.reduceBEq, SCT, UHa_2.d]
  refine callC (toCM_ok m) rfl rfl rfl rfl ?_
  simp only [RZ, reduceAdd, reduceIte, reduceEqDiff, reduceLT, reduceLeDiff, reduceCtorEq, Nat.reduceBEq, SCT, UHa_2.d]
  refine callW7b (m := 15000) (ws := wL 14000 _ _ _ _ _ _ _ w) (ns := wN 14000) (CI 15000) rfl (lendWx (x := tM m) (x1 := true) (x2 := true) (x3 := true) (x4 := true) (x5 := true) (x6 := true) (x7 := true) rfl rfl rfl rfl rfl rfl rfl rfl) rfl (by decide) ⟨?_, ?_⟩
  · rfl
  simp only [RZ, reduceAdd, reduceIte, reduceEqDiff, reduceLT, reduceLeDiff, reduceCtorEq, Nat.reduceBEq, SCT, UHa_2.d]
  refine callLf (ws := wL 15000 _ _ _ _ _ _ _ w') (ns := wN 15000) E0 rfl (lendWx (x1 := true) (x2 := true) (x3 := true) (x4 := true) (x5 := true) (x6 := true) (x7 := true) rfl rfl rfl rfl rfl rfl rfl rfl) rfl rfl ⟨?_, ?_⟩
  · rfl
  simp only [RZ, reduceAdd, reduceIte, reduceEqDiff, reduceLT, reduceLeDiff, reduceCtorEq, Nat.reduceBEq, SCT, UHa_2.d]
  refine callLf (ws := wL 12000 _ _ _ _ _ _ _ (mkCW 1 w')) (ns := wN 12000) M0 rfl (lendHx (x1 := true) (x2 := true) (x3 := true) (x4 := true) (x5 := true) (x6 := true) (x7 := true) w' rfl rfl rfl rfl rfl rfl rfl rfl) rfl rfl ⟨?_, ?_⟩
  · rfl
  simp only [RZ, reduceAdd, reduceIte, reduceEqDiff, reduceLT, reduceLeDiff, reduceCtorEq, Nat.reduceBEq, SCT, UHa_2.d, hp, ne0]
end Go.V

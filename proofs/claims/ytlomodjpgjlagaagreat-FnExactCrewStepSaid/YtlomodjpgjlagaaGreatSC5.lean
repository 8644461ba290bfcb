/- It is proved that the law FnExactCrewStep returns true for all arguments and leaves its arguments as they were; no condition. -/
import Derived.Test.YtlomodjpgjlagaaGreatSC4
set_option linter.unusedSimpArgs false
namespace Go.V
open Go.Proofs
open Nat (reduceAdd reduceEqDiff reduceLT reduceLeDiff)
/-- Three truth values. -/
abbrev cB3 (x : Bool × Bool × Bool) : List C := [.v (.s (.bool x.1)), .v (.s (.bool x.2.1)), .v (.s (.bool x.2.2))]
abbrev tB3 (x : Bool × Bool × Bool) : T := .pt (.agg (cB3 x))
def pad3 (bs : List Bool) : Bool × Bool × Bool := (bs.getD 0 false, bs.getD 1 false, bs.getD 2 false)
theorem flipb (x : Int) (h : 0 ≤ x) : (x != 0) = decide (x > 0) := by
  by_cases g : x = 0
  · subst g; rfl
  · rw [neqn g, decide_eq_true (by omega)]
/- (*loop.example/teagle/impl.CrewWorld).closer -/
def r85_0 : List AOper := [ao 0 2 (.mv (.k (.i 0)))]
def r85_1 : List AOper := [ao 0 3 (.mv (.t 0)),
  ao 1 4 (.nck (.t 3)),
  ao 2 5 (.fa 1 (.t 4)),
  ao 3 6 (.ld 1 false (.t 5)),
  ao 4 7 (.bin .add (.t 6) (.k (.i 1))),
  ao 5 2 (.mv (.t 7))]
def c85 : ACode := .seq (.reg r85_0) (.seq (.reg r85_1) .ret)
def s85 : List ARes := [.tmp 2]
theorem ok85 : okF Tryz.prog 85 8 c85 s85 := ⟨Tryz.f85, Tryz.func85, Tryz.ntmps85, by kernel_rfl, by kernel_rfl, by kernel_rfl⟩
def UEg_1 := Bx.mk <|
  aN (uA c85.eq_1) <| aN (uR r85_0.eq_1) <| aN (uR r85_1.eq_1) <| s85.eq_1
theorem closer_ok {w : CW} (h : Form w) : WC 85 [] w (fun n : Int => n = w.workers + 1) T.i := by
  have hk := h.st.k
  have w1 : IntKind.i64.wrap (w.workers + 1) = w.workers + 1 := wrap64 ⟨by omega, by omega⟩
  refine WC.intro ok85 rfl (fun _ => rfl) fun X => ?_
  simp only [RZ, reduceAdd, reduceIte, reduceEqDiff, reduceLT, reduceLeDiff, reduceCtorEq, Nat.reduceBEq, rV, UEg_1.d, w1]
  refine ES.mk (w.workers + 1) rfl ?_
  simp only [RZ, reduceAdd, reduceIte, reduceEqDiff, reduceLT, reduceLeDiff, reduceCtorEq, Nat.reduceBEq, rV, UEg_1.d, w1]
/- (*loop.example/teagle/impl.CrewWorld).keeper -/
def r86_0 : List AOper := [ao 0 2 (.mv (.k (.i 0)))]
def r86_1 : List AOper := [ao 0 3 (.mv (.t 0)),
  ao 1 4 (.nck (.t 3)),
  ao 2 5 (.fa 1 (.t 4)),
  ao 3 6 (.ld 1 false (.t 5)),
  ao 4 7 (.bin .add (.t 6) (.k (.i 2))),
  ao 5 2 (.mv (.t 7))]
def c86 : ACode := .seq (.reg r86_0) (.seq (.reg r86_1) .ret)
def s86 : List ARes := [.tmp 2]
theorem ok86 : okF Tryz.prog 86 8 c86 s86 := ⟨Tryz.f86, Tryz.func86, Tryz.ntmps86, by kernel_rfl, by kernel_rfl, by kernel_rfl⟩
def UEg_2 := Bx.mk <|
  aN (uA c86.eq_1) <| aN (uR r86_0.eq_1) <| aN (uR r86_1.eq_1) <| s86.eq_1
theorem keeper_ok {w : CW} (h : Form w) : WC 86 [] w (fun n : Int => n = w.workers + 2) T.i := by
  have hk := h.st.k
  have w1 : IntKind.i64.wrap (w.workers + 2) = w.workers + 2 := wrap64 ⟨by omega, by omega⟩
  refine WC.intro ok86 rfl (fun _ => rfl) fun X => ?_
  simp only [RZ, reduceAdd, reduceIte, reduceEqDiff, reduceLT, reduceLeDiff, reduceCtorEq, Nat.reduceBEq, rV, UEg_2.d, w1]
  refine ES.mk (w.workers + 2) rfl ?_
  simp only [RZ, reduceAdd, reduceIte, reduceEqDiff, reduceLT, reduceLeDiff, reduceCtorEq, Nat.reduceBEq, rV, UEg_2.d, w1]
/- (*loop.example/teagle/impl.CrewWorld).user -/
def r88_0 : List AOper := [ao 0 2 (.mv (.k (.i 0)))]
def r88_1 : List AOper := [ao 0 3 (.mv (.t 0)),
  ao 1 4 (.nck (.t 3)),
  ao 2 5 (.fa 1 (.t 4)),
  ao 3 6 (.ld 1 false (.t 5)),
  ao 4 7 (.bin .add (.t 6) (.k (.i 3))),
  ao 5 2 (.mv (.t 7))]
def c88 : ACode := .seq (.reg r88_0) (.seq (.reg r88_1) .ret)
def s88 : List ARes := [.tmp 2]
theorem ok88 : okF Tryz.prog 88 8 c88 s88 := ⟨Tryz.f88, Tryz.func88, Tryz.ntmps88, by kernel_rfl, by kernel_rfl, by kernel_rfl⟩
def UEg_3 := Bx.mk <|
  aN (uA c88.eq_1) <| aN (uR r88_0.eq_1) <| aN (uR r88_1.eq_1) <| s88.eq_1
theorem user_ok {w : CW} (h : Form w) : WC 88 [] w (fun n : Int => n = w.workers + 3) T.i := by
  have hk := h.st.k
  have w1 : IntKind.i64.wrap (w.workers + 3) = w.workers + 3 := wrap64 ⟨by omega, by omega⟩
  refine WC.intro ok88 rfl (fun _ => rfl) fun X => ?_
  simp only [RZ, reduceAdd, reduceIte, reduceEqDiff, reduceLT, reduceLeDiff, reduceCtorEq, Nat.reduceBEq, rV, UEg_3.d, w1]
  refine ES.mk (w.workers + 3) rfl ?_
  simp only [RZ, reduceAdd, reduceIte, reduceEqDiff, reduceLT, reduceLeDiff, reduceCtorEq, Nat.reduceBEq, rV, UEg_3.d, w1]
/- (*loop.example/teagle/impl.CrewWorld).readerCases -/
def r84_0 : List AOper := [ao 0 2 (.alloc 92 [(.v (.s (.bool false))), (.v (.s (.bool false))), (.v (.s (.bool false)))])]
def r84_1 : List AOper := [ao 0 4 (.mv (.t 0)),
  ao 1 5 (.nck (.t 4)),
  ao 2 6 (.fa 4 (.t 5)),
  ao 3 7 (.ld 1 false (.t 6))]
def r84_2 : List AOper := [ao 0 9 (.bin .eql (.t 7) (.k (.i 0))),
  ao 1 8 (.mv (.t 9))]
def r84_3 : List AOper := [ao 0 10 (.mv (.t 0)),
  ao 1 11 (.nck (.t 10)),
  ao 2 12 (.fa 3 (.t 11)),
  ao 3 13 (.ld 1 false (.t 12)),
  au 4 14 (ru 4) (.mv (.t 0)),
  au 5 15 (ru 4) (.nck (.t 14)),
  au 6 16 (ru 4) (.fa 0 (.t 15)),
  au 7 17 (ru 4) (.ld 1 false (.t 16)),
  ao 8 18 (.bin .neq (.t 13) (.t 17)),
  ao 9 3 (.mv (.t 18))]
def r84_4 : List AOper := [ao 0 19 (.mv (.t 0)),
  ao 1 20 (.nck (.t 19)),
  ao 2 21 (.fa 15 (.t 20)),
  ao 3 22 (.ld 1 false (.t 21)),
  ao 4 23 (.bin .neq (.t 22) (.k (.i 0))),
  ao 5 24 (.mv (.t 23)),
  ag 6 25 24 true [] (.mv (.t 3)),
  ao 7 26 (.pick (.t 24) (.t 25) (.k (.b false))),
  ao 8 27 (.mv (.t 0)),
  ao 9 28 (.call (.k (.c (.fn 105 []))) [(.t 27)]),
  ao 10 29 (.mv (.t 28)),
  ag 11 30 29 true [] (.mv (.t 3)),
  ao 12 31 (.pick (.t 29) (.t 30) (.k (.b false))),
  ao 13 32 (.mv (.t 3)),
  ao 14 33 (.un .not (.t 32)),
  ao 15 34 (.build [(.v (.s (.bool false))), (.v (.s (.bool false))), (.v (.s (.bool false)))] [(0, 1, (.t 26)), (1, 1, (.t 31)), (2, 1, (.t 33))]),
  an 16 (.st 3 (.t 2) (.t 34))]
def c84_5 : ACode := .seq (.reg r84_3) (.seq (.reg r84_4) .ret)
def r84_6 : List AOper := [ao 0 36 (.bin .eql (.t 7) (.k (.i 1))),
  ao 1 35 (.mv (.t 36))]
def r84_7 : List AOper := [ao 0 37 (.mv (.t 0)),
  ao 1 38 (.nck (.t 37)),
  ao 2 39 (.fa 5 (.t 38)),
  ao 3 40 (.ld 1 false (.t 39)),
  ao 4 41 (.len (.t 40)),
  au 5 42 (ru 5) (.mv (.t 0)),
  au 6 43 (ru 5) (.nck (.t 42)),
  au 7 44 (ru 5) (.fa 1 (.t 43)),
  au 8 45 (ru 5) (.ld 1 false (.t 44)),
  ao 9 46 (.bin .lss (.t 41) (.t 45)),
  au 10 47 (ru 10) (.mv (.t 0)),
  au 11 48 (ru 10) (.call (.k (.c (.fn 105 []))) [(.t 47)]),
  ao 12 49 (.build [(.v (.s (.bool false))), (.v (.s (.bool false))), (.v (.s (.bool false)))] [(0, 1, (.t 46)), (1, 1, (.t 48))]),
  an 13 (.st 3 (.t 2) (.t 49))]
def c84_8 : ACode := .seq (.reg r84_7) .ret
def r84_9 : List AOper := [ao 0 51 (.bin .eql (.t 7) (.k (.i 2))),
  ao 1 50 (.mv (.t 51))]
def r84_10 : List AOper := [ao 0 52 (.build [(.v (.s (.bool false))), (.v (.s (.bool false))), (.v (.s (.bool false)))] [(0, 1, (.k (.b true)))]),
  an 1 (.st 3 (.t 2) (.t 52))]
def c84_11 : ACode := .seq (.reg r84_10) .ret
def c84_12 : ACode := .cond (.t 50) c84_11 .skip
def c84_13 : ACode := .seq (.reg r84_9) c84_12
def c84_14 : ACode := .cond (.t 35) c84_8 c84_13
def c84_15 : ACode := .seq (.reg r84_6) c84_14
def c84_16 : ACode := .cond (.t 8) c84_5 c84_15
def c84_17 : ACode := .seq (.reg r84_2) c84_16
def c84_18 : ACode := .block 0 c84_17
def c84_19 : ACode := .seq (.reg r84_1) c84_18
def r84_20 : List AOper := [ao 0 53 (.build [(.v (.s (.bool false))), (.v (.s (.bool false))), (.v (.s (.bool false)))] []),
  an 1 (.st 3 (.t 2) (.t 53))]
def c84 : ACode := .seq (.reg r84_0) (.seq c84_19 (.seq (.reg r84_20) .ret))
def s84 : List ARes := [.cell 2 3 true]
theorem ok84 : okF Tryz.prog 84 54 c84 s84 := ⟨Tryz.f84, Tryz.func84, Tryz.ntmps84, by kernel_rfl, by kernel_rfl, by kernel_rfl⟩
def UEg_4 := Bx.mk <|
  aN (uA c84.eq_1) <| aN (uR r84_0.eq_1) <| aN (uA c84_19.eq_1) <| aN (uR r84_1.eq_1) <| aN (uA c84_18.eq_1) <| aN (uA c84_17.eq_1) <| aN (uR r84_2.eq_1) <| aN (uA c84_16.eq_1) <| aN (uA c84_5.eq_1) <| aN (uR r84_3.eq_1) <| aN (uR r84_4.eq_1) <| aN (uA c84_15.eq_1) <| aN (uR r84_6.eq_1) <| aN (uA c84_14.eq_1) <| aN (uA c84_8.eq_1) <| aN (uR r84_7.eq_1) <| aN (uA c84_13.eq_1) <| aN (uR r84_9.eq_1) <| aN (uA c84_12.eq_1) <| aN (uA c84_11.eq_1) <| aN (uR r84_10.eq_1) <| aN (uR r84_20.eq_1) <| s84.eq_1
set_option maxHeartbeats 1000000 in
theorem readerCases_ok {w : CW} (h : Form w) : WC 84 [] w (fun x : Bool × Bool × Bool => x = pad3 (waysR w)) tB3 := by
  obtain ⟨bs, hbs, Cs⟩ := stopped_ok h
  have hr := flipb w.room h.room.1
  have hst : bs = (sh w 3 == 1) := by rw [Bool.eq_iff_iff, hbs, beq_iff_eq]
  refine WC.intro ok84 rfl (fun _ => rfl) fun X => ?_
  by_cases c0 : w.reader = 0
  · have k0 := eqb c0
    have e : pad3 (waysR w) = ((w.room != 0) && (w.next != w.jobs), bs && (w.next != w.jobs), !(w.next != w.jobs)) := by
      by_cases c1 : w.next = w.jobs
      · rw [waysR, if_pos c0, if_pos c1, eqn c1]; simp [pad3]
      · rw [waysR, if_pos c0, if_neg c1, neqn c1, hr, hst]; simp [pad3]
    cases k1 : (w.room != 0) <;> cases k2 : (w.next != w.jobs) <;> rw [k1, k2] at e <;> simp only [RZ, reduceAdd, reduceIte, reduceEqDiff, reduceLT, reduceLeDiff, reduceCtorEq, Nat.reduceBEq, rV, UEg_4.d, k0, k1, k2] <;> refine callP (v := 0) (w := w) Cs rfl rfl rfl rfl rfl ⟨rfl, ?_⟩ <;> cases bs <;> simp only [RZ, reduceAdd, reduceIte, reduceEqDiff, reduceLT, reduceLeDiff, reduceCtorEq, Nat.reduceBEq, rV, UEg_4.d, k0, k1, k2] <;> refine ES.mk _ e.symm ?_ <;> simp only [RZ, reduceAdd, reduceIte, reduceEqDiff, reduceLT, reduceLeDiff, reduceCtorEq, Nat.reduceBEq, rV, UEg_4.d, k0, k1, k2]
  have k0 := neqb c0
  by_cases c1 : w.reader = 1
  · have k1 := eqb c1
    simp only [RZ, reduceAdd, reduceIte, reduceEqDiff, reduceLT, reduceLeDiff, reduceCtorEq, Nat.reduceBEq, rV, UEg_4.d, k0, k1, en_len]
    refine callP (v := 0) (w := w) Cs rfl rfl rfl rfl rfl ⟨rfl, ?_⟩
    simp only [RZ, reduceAdd, reduceIte, reduceEqDiff, reduceLT, reduceLeDiff, reduceCtorEq, Nat.reduceBEq, rV, UEg_4.d, k0, k1, en_len]
    refine ES.mk (decide ((w.queue.length : Int) < w.workers), bs, false) (by rw [waysR, if_neg c0, if_pos c1, hst]; rfl) ?_
    simp only [RZ, reduceAdd, reduceIte, reduceEqDiff, reduceLT, reduceLeDiff, reduceCtorEq, Nat.reduceBEq, rV, UEg_4.d, k0, k1, en_len]
  have k1 := neqb c1
  by_cases c2 : w.reader = 2
  · have k2 := eqb c2
    simp only [RZ, reduceAdd, reduceIte, reduceEqDiff, reduceLT, reduceLeDiff, reduceCtorEq, Nat.reduceBEq, rV, UEg_4.d, k0, k1, k2]
    refine ES.mk (true, false, false) (by rw [waysR, if_neg c0, if_neg c1, if_pos c2]; rfl) ?_
    simp only [RZ, reduceAdd, reduceIte, reduceEqDiff, reduceLT, reduceLeDiff, reduceCtorEq, Nat.reduceBEq, rV, UEg_4.d, k0, k1, k2]
  have k2 := neqb c2
  simp only [RZ, reduceAdd, reduceIte, reduceEqDiff, reduceLT, reduceLeDiff, reduceCtorEq, Nat.reduceBEq, rV, UEg_4.d, k0, k1, k2]
  refine ES.mk (false, false, false) (by rw [waysR, if_neg c0, if_neg c1, if_neg c2]; rfl) ?_
  simp only [RZ, reduceAdd, reduceIte, reduceEqDiff, reduceLT, reduceLeDiff, reduceCtorEq, Nat.reduceBEq, rV, UEg_4.d, k0, k1, k2]
/- (*loop.example/teagle/impl.CrewWorld).handCases -/
def r89_0 : List AOper := [ao 0 3 (.box 68 (.t 1)),
  ao 1 4 (.alloc 92 [(.v (.s (.bool false))), (.v (.s (.bool false))), (.v (.s (.bool false)))])]
def r89_1 : List AOper := [ao 0 5 (.fa 0 (.t 3)),
  ao 1 6 (.ld 1 false (.t 5))]
def r89_2 : List AOper := [ao 0 8 (.bin .eql (.t 6) (.k (.i 0))),
  ao 1 7 (.mv (.t 8))]
def r89_3 : List AOper := [ao 0 9 (.mv (.t 0)),
  ao 1 10 (.nck (.t 9)),
  ao 2 11 (.fa 5 (.t 10)),
  ao 3 12 (.ld 1 false (.t 11)),
  ao 4 13 (.len (.t 12)),
  ao 5 14 (.bin .gtr (.t 13) (.k (.i 0))),
  au 6 15 (ru 6) (.mv (.t 0)),
  au 7 16 (ru 6) (.call (.k (.c (.fn 105 []))) [(.t 15)]),
  au 8 17 (ru 8) (.mv (.t 0)),
  au 9 18 (ru 8) (.nck (.t 17)),
  au 10 19 (ru 8) (.fa 5 (.t 18)),
  au 11 20 (ru 8) (.ld 1 false (.t 19)),
  au 12 21 (ru 8) (.len (.t 20)),
  au 13 22 (ru 8) (.bin .eql (.t 21) (.k (.i 0))),
  au 14 23 (ru 6) (.mv (.t 22)),
  ag 15 24 23 true (ru 6) (.mv (.t 0)),
  ag 16 25 23 true (ru 6) (.nck (.t 24)),
  ag 17 26 23 true (ru 6) (.fa 16 (.t 25)),
  ag 18 27 23 true (ru 6) (.ld 1 false (.t 26)),
  ag 19 28 23 true (ru 6) (.ia 1 (.t 27) (.k (.i 0))),
  ag 20 29 23 true (ru 6) (.ld 1 false (.t 28)),
  ag 21 30 23 true (ru 6) (.bin .eql (.t 29) (.k (.i 1))),
  au 22 31 (ru 6) (.pick (.t 23) (.t 30) (.k (.b false))),
  ao 23 32 (.build [(.v (.s (.bool false))), (.v (.s (.bool false))), (.v (.s (.bool false)))] [(0, 1, (.t 14)), (1, 1, (.t 16)), (2, 1, (.t 31))]),
  an 24 (.st 3 (.t 4) (.t 32))]
def c89_4 : ACode := .seq (.reg r89_3) .ret
def r89_5 : List AOper := [ao 0 34 (.bin .eql (.t 6) (.k (.i 1))),
  ao 1 33 (.mv (.t 34))]
def r89_6 : List AOper := [ao 0 35 (.build [(.v (.s (.bool false))), (.v (.s (.bool false))), (.v (.s (.bool false)))] [(0, 1, (.k (.b true)))]),
  an 1 (.st 3 (.t 4) (.t 35))]
def c89_7 : ACode := .seq (.reg r89_6) .ret
def r89_8 : List AOper := [ao 0 37 (.bin .eql (.t 6) (.k (.i 2))),
  ao 1 36 (.mv (.t 37))]
def r89_9 : List AOper := [ao 0 38 (.mv (.t 0)),
  ao 1 39 (.nck (.t 38)),
  ao 2 40 (.fa 8 (.t 39)),
  ao 3 41 (.ld 1 false (.t 40)),
  ao 4 42 (.len (.t 41)),
  au 5 43 (ru 5) (.mv (.t 0)),
  au 6 44 (ru 5) (.nck (.t 43)),
  au 7 45 (ru 5) (.fa 1 (.t 44)),
  au 8 46 (ru 5) (.ld 1 false (.t 45)),
  ao 9 47 (.bin .lss (.t 42) (.t 46)),
  au 10 48 (ru 10) (.mv (.t 0)),
  au 11 49 (ru 10) (.call (.k (.c (.fn 105 []))) [(.t 48)]),
  ao 12 50 (.build [(.v (.s (.bool false))), (.v (.s (.bool false))), (.v (.s (.bool false)))] [(0, 1, (.t 47)), (1, 1, (.t 49))]),
  an 13 (.st 3 (.t 4) (.t 50))]
def c89_10 : ACode := .seq (.reg r89_9) .ret
def c89_11 : ACode := .cond (.t 36) c89_10 .skip
def c89_12 : ACode := .seq (.reg r89_8) c89_11
def c89_13 : ACode := .cond (.t 33) c89_7 c89_12
def c89_14 : ACode := .seq (.reg r89_5) c89_13
def c89_15 : ACode := .cond (.t 7) c89_4 c89_14
def c89_16 : ACode := .seq (.reg r89_2) c89_15
def c89_17 : ACode := .block 0 c89_16
def c89_18 : ACode := .seq (.reg r89_1) c89_17
def r89_19 : List AOper := [ao 0 51 (.build [(.v (.s (.bool false))), (.v (.s (.bool false))), (.v (.s (.bool false)))] []),
  an 1 (.st 3 (.t 4) (.t 51))]
def c89 : ACode := .seq (.reg r89_0) (.seq c89_18 (.seq (.reg r89_19) .ret))
def s89 : List ARes := [.cell 4 3 true]
theorem ok89 : okF Tryz.prog 89 52 c89 s89 := ⟨Tryz.f89, Tryz.func89, Tryz.ntmps89, by kernel_rfl, by kernel_rfl, by kernel_rfl⟩
def UEg_5 := Bx.mk <|
  aN (uA c89.eq_1) <| aN (uR r89_0.eq_1) <| aN (uA c89_18.eq_1) <| aN (uR r89_1.eq_1) <| aN (uA c89_17.eq_1) <| aN (uA c89_16.eq_1) <| aN (uR r89_2.eq_1) <| aN (uA c89_15.eq_1) <| aN (uA c89_4.eq_1) <| aN (uR r89_3.eq_1) <| aN (uA c89_14.eq_1) <| aN (uR r89_5.eq_1) <| aN (uA c89_13.eq_1) <| aN (uA c89_7.eq_1) <| aN (uR r89_6.eq_1) <| aN (uA c89_12.eq_1) <| aN (uR r89_8.eq_1) <| aN (uA c89_11.eq_1) <| aN (uA c89_10.eq_1) <| aN (uR r89_9.eq_1) <| aN (uR r89_19.eq_1) <| s89.eq_1
set_option maxHeartbeats 1000000 in
theorem handCases_ok {w : CW} (h : Form w) (x : Hd) : WC 89 [tH x] w (fun y : Bool × Bool × Bool => y = pad3 (waysH w x)) tB3 := by
  obtain ⟨bs, hbs, Cs⟩ := stopped_ok h
  have s0 := en_at eI (sh_at h (i := 0) (by omega))
  have hst : bs = (sh w 3 == 1) := by rw [Bool.eq_iff_iff, hbs, beq_iff_eq]
  refine WC.intro ok89 rfl (fun _ => rfl) fun X => ?_
  by_cases c0 : x.state = 0
  · have k0 := eqb c0
    by_cases c1 : (w.queue.length : Int) = 0
    · have k1 := eqb c1
      simp only [RZ, reduceAdd, reduceIte, reduceEqDiff, reduceLT, reduceLeDiff, reduceCtorEq, Nat.reduceBEq, rV, UEg_5.d, k0, k1, en_len]
      refine callP (v := 0) (w := w) Cs rfl rfl rfl rfl rfl ⟨rfl, ?_⟩
      simp only [RZ, reduceAdd, reduceIte, reduceEqDiff, reduceLT, reduceLeDiff, reduceCtorEq, Nat.reduceBEq, rV, UEg_5.d, k0, k1, en_len, s0, eI]
      refine ES.mk (decide ((w.queue.length : Int) > 0), bs, sh w 0 == 1) (by rw [waysH, if_pos c0, k1, hst, Bool.true_and]; rfl) ?_
      simp only [RZ, reduceAdd, reduceIte, reduceEqDiff, reduceLT, reduceLeDiff, reduceCtorEq, Nat.reduceBEq, rV, UEg_5.d, k0, k1, en_len, s0, eI]
    · have k1 := neqb c1
      simp only [RZ, reduceAdd, reduceIte, reduceEqDiff, reduceLT, reduceLeDiff, reduceCtorEq, Nat.reduceBEq, rV, UEg_5.d, k0, k1, en_len]
      refine callP (v := 0) (w := w) Cs rfl rfl rfl rfl rfl ⟨rfl, ?_⟩
      simp only [RZ, reduceAdd, reduceIte, reduceEqDiff, reduceLT, reduceLeDiff, reduceCtorEq, Nat.reduceBEq, rV, UEg_5.d, k0, k1, en_len, s0, eI]
      refine ES.mk (decide ((w.queue.length : Int) > 0), bs, false) (by rw [waysH, if_pos c0, k1, hst, Bool.false_and]; rfl) ?_
      simp only [RZ, reduceAdd, reduceIte, reduceEqDiff, reduceLT, reduceLeDiff, reduceCtorEq, Nat.reduceBEq, rV, UEg_5.d, k0, k1, en_len, s0, eI]
  have k0 := neqb c0
  by_cases c1 : x.state = 1
  · have k1 := eqb c1
    simp only [RZ, reduceAdd, reduceIte, reduceEqDiff, reduceLT, reduceLeDiff, reduceCtorEq, Nat.reduceBEq, rV, UEg_5.d, k0, k1]
    refine ES.mk (true, false, false) (by rw [waysH, if_neg c0, if_pos c1]; rfl) ?_
    simp only [RZ, reduceAdd, reduceIte, reduceEqDiff, reduceLT, reduceLeDiff, reduceCtorEq, Nat.reduceBEq, rV, UEg_5.d, k0, k1]
  have k1 := neqb c1
  by_cases c2 : x.state = 2
  · have k2 := eqb c2
    simp only [RZ, reduceAdd, reduceIte, reduceEqDiff, reduceLT, reduceLeDiff, reduceCtorEq, Nat.reduceBEq, rV, UEg_5.d, k0, k1, k2, en_len]
    refine callP (v := 0) (w := w) Cs rfl rfl rfl rfl rfl ⟨rfl, ?_⟩
    simp only [RZ, reduceAdd, reduceIte, reduceEqDiff, reduceLT, reduceLeDiff, reduceCtorEq, Nat.reduceBEq, rV, UEg_5.d, k0, k1, k2, en_len]
    refine ES.mk (decide ((w.results.length : Int) < w.workers), bs, false) (by rw [waysH, if_neg c0, if_neg c1, if_pos c2, hst]; rfl) ?_
    simp only [RZ, reduceAdd, reduceIte, reduceEqDiff, reduceLT, reduceLeDiff, reduceCtorEq, Nat.reduceBEq, rV, UEg_5.d, k0, k1, k2, en_len]
  have k2 := neqb c2
  simp only [RZ, reduceAdd, reduceIte, reduceEqDiff, reduceLT, reduceLeDiff, reduceCtorEq, Nat.reduceBEq, rV, UEg_5.d, k0, k1, k2]
  refine ES.mk (false, false, false) (by rw [waysH, if_neg c0, if_neg c1, if_neg c2]; rfl) ?_
  simp only [RZ, reduceAdd, reduceIte, reduceEqDiff, reduceLT, reduceLeDiff, reduceCtorEq, Nat.reduceBEq, rV, UEg_5.d, k0, k1, k2]
/- (*loop.example/teagle/impl.CrewWorld).keeperCases -/
def r87_0 : List AOper := [ao 0 2 (.alloc 92 [(.v (.s (.bool false))), (.v (.s (.bool false))), (.v (.s (.bool false)))])]
def r87_1 : List AOper := [ao 0 3 (.mv (.t 0)),
  ao 1 4 (.nck (.t 3)),
  ao 2 5 (.fa 9 (.t 4)),
  ao 3 6 (.ld 1 false (.t 5))]
def r87_2 : List AOper := [ao 0 8 (.bin .eql (.t 6) (.k (.i 0))),
  ao 1 7 (.mv (.t 8))]
def r87_3 : List AOper := [ao 0 9 (.mv (.t 0)),
  ao 1 10 (.nck (.t 9)),
  ao 2 11 (.fa 8 (.t 10)),
  ao 3 12 (.ld 1 false (.t 11)),
  ao 4 13 (.len (.t 12)),
  ao 5 14 (.bin .gtr (.t 13) (.k (.i 0))),
  au 6 15 (ru 6) (.mv (.t 0)),
  au 7 16 (ru 6) (.call (.k (.c (.fn 105 []))) [(.t 15)]),
  au 8 17 (ru 8) (.mv (.t 0)),
  au 9 18 (ru 8) (.nck (.t 17)),
  au 10 19 (ru 8) (.fa 8 (.t 18)),
  au 11 20 (ru 8) (.ld 1 false (.t 19)),
  au 12 21 (ru 8) (.len (.t 20)),
  au 13 22 (ru 8) (.bin .eql (.t 21) (.k (.i 0))),
  au 14 23 (ru 6) (.mv (.t 22)),
  ag 15 24 23 true (ru 6) (.mv (.t 0)),
  ag 16 25 23 true (ru 6) (.nck (.t 24)),
  ag 17 26 23 true (ru 6) (.fa 16 (.t 25)),
  ag 18 27 23 true (ru 6) (.ld 1 false (.t 26)),
  ag 19 28 23 true (ru 6) (.ia 1 (.t 27) (.k (.i 1))),
  ag 20 29 23 true (ru 6) (.ld 1 false (.t 28)),
  ag 21 30 23 true (ru 6) (.bin .eql (.t 29) (.k (.i 1))),
  au 22 31 (ru 6) (.pick (.t 23) (.t 30) (.k (.b false))),
  ao 23 32 (.build [(.v (.s (.bool false))), (.v (.s (.bool false))), (.v (.s (.bool false)))] [(0, 1, (.t 14)), (1, 1, (.t 16)), (2, 1, (.t 31))]),
  an 24 (.st 3 (.t 2) (.t 32))]
def c87_4 : ACode := .seq (.reg r87_3) .ret
def r87_5 : List AOper := [ao 0 34 (.bin .eql (.t 6) (.k (.i 2))),
  ao 1 33 (.mv (.t 34))]
def r87_6 : List AOper := [ao 0 35 (.mv (.t 0)),
  ao 1 36 (.nck (.t 35)),
  ao 2 37 (.fa 12 (.t 36)),
  ao 3 38 (.ld 1 false (.t 37)),
  ao 4 39 (.len (.t 38)),
  ao 5 40 (.bin .eql (.t 39) (.k (.i 0))),
  au 6 41 (ru 6) (.mv (.t 0)),
  au 7 42 (ru 6) (.call (.k (.c (.fn 105 []))) [(.t 41)]),
  ao 8 43 (.build [(.v (.s (.bool false))), (.v (.s (.bool false))), (.v (.s (.bool false)))] [(0, 1, (.t 40)), (1, 1, (.t 42))]),
  an 9 (.st 3 (.t 2) (.t 43))]
def c87_7 : ACode := .seq (.reg r87_6) .ret
def r87_8 : List AOper := [ao 0 45 (.bin .eql (.t 6) (.k (.i 1))),
  ao 1 44 (.mv (.t 45))]
def r87_9 : List AOper := [ao 0 46 (.bin .eql (.t 6) (.k (.i 3))),
  ao 1 44 (.mv (.t 46))]
def r87_10 : List AOper := [ao 0 47 (.bin .eql (.t 6) (.k (.i 4))),
  ao 1 44 (.mv (.t 47))]
def c87_11 : ACode := .cond (.t 44) .skip (.reg r87_10)
def c87_12 : ACode := .seq (.reg r87_9) c87_11
def c87_13 : ACode := .cond (.t 44) .skip c87_12
def c87_14 : ACode := .seq (.reg r87_8) c87_13
def r87_15 : List AOper := [ao 0 48 (.build [(.v (.s (.bool false))), (.v (.s (.bool false))), (.v (.s (.bool false)))] [(0, 1, (.k (.b true)))]),
  an 1 (.st 3 (.t 2) (.t 48))]
def c87_16 : ACode := .seq (.reg r87_15) .ret
def c87_17 : ACode := .cond (.t 44) c87_16 .skip
def c87_18 : ACode := .seq c87_14 c87_17
def c87_19 : ACode := .cond (.t 33) c87_7 c87_18
def c87_20 : ACode := .seq (.reg r87_5) c87_19
def c87_21 : ACode := .cond (.t 7) c87_4 c87_20
def c87_22 : ACode := .seq (.reg r87_2) c87_21
def c87_23 : ACode := .block 0 c87_22
def c87_24 : ACode := .seq (.reg r87_1) c87_23
def r87_25 : List AOper := [ao 0 49 (.build [(.v (.s (.bool false))), (.v (.s (.bool false))), (.v (.s (.bool false)))] []),
  an 1 (.st 3 (.t 2) (.t 49))]
def c87 : ACode := .seq (.reg r87_0) (.seq c87_24 (.seq (.reg r87_25) .ret))
def s87 : List ARes := [.cell 2 3 true]
theorem ok87 : okF Tryz.prog 87 50 c87 s87 := ⟨Tryz.f87, Tryz.func87, Tryz.ntmps87, by kernel_rfl, by kernel_rfl, by kernel_rfl⟩
def UEg_6 := Bx.mk <|
  aN (uA c87.eq_1) <| aN (uR r87_0.eq_1) <| aN (uA c87_24.eq_1) <| aN (uR r87_1.eq_1) <| aN (uA c87_23.eq_1) <| aN (uA c87_22.eq_1) <| aN (uR r87_2.eq_1) <| aN (uA c87_21.eq_1) <| aN (uA c87_4.eq_1) <| aN (uR r87_3.eq_1) <| aN (uA c87_20.eq_1) <| aN (uR r87_5.eq_1) <| aN (uA c87_19.eq_1) <| aN (uA c87_7.eq_1) <| aN (uR r87_6.eq_1) <| aN (uA c87_18.eq_1) <| aN (uA c87_14.eq_1) <| aN (uR r87_8.eq_1) <| aN (uA c87_13.eq_1) <| aN (uA c87_12.eq_1) <| aN (uR r87_9.eq_1) <| aN (uA c87_11.eq_1) <| aN (uR r87_10.eq_1) <| aN (uA c87_17.eq_1) <| aN (uA c87_16.eq_1) <| aN (uR r87_15.eq_1) <| aN (uR r87_25.eq_1) <| s87.eq_1
set_option maxHeartbeats 1000000 in
theorem keeperCases_ok {w : CW} (h : Form w) : WC 87 [] w (fun y : Bool × Bool × Bool => y = pad3 (waysK w)) tB3 := by
  obtain ⟨bs, hbs, Cs⟩ := stopped_ok h
  have s0 := en_at eI (sh_at h (i := 1) (by omega))
  have hst : bs = (sh w 3 == 1) := by rw [Bool.eq_iff_iff, hbs, beq_iff_eq]
  have hkp := h.kp
  refine WC.intro ok87 rfl (fun _ => rfl) fun X => ?_
  by_cases c0 : w.keeper = 0
  · have k0 := eqb c0
    by_cases c1 : (w.results.length : Int) = 0
    · have k1 := eqb c1
      simp only [RZ, reduceAdd, reduceIte, reduceEqDiff, reduceLT, reduceLeDiff, reduceCtorEq, Nat.reduceBEq, rV, UEg_6.d, k0, k1, en_len]
      refine callP (v := 0) (w := w) Cs rfl rfl rfl rfl rfl ⟨rfl, ?_⟩
      simp only [RZ, reduceAdd, reduceIte, reduceEqDiff, reduceLT, reduceLeDiff, reduceCtorEq, Nat.reduceBEq, rV, UEg_6.d, k0, k1, en_len, s0, eI]
      refine ES.mk (decide ((w.results.length : Int) > 0), bs, sh w 1 == 1) (by rw [waysK, if_pos c0, k1, hst, Bool.true_and]; rfl) ?_
      simp only [RZ, reduceAdd, reduceIte, reduceEqDiff, reduceLT, reduceLeDiff, reduceCtorEq, Nat.reduceBEq, rV, UEg_6.d, k0, k1, en_len, s0, eI]
    · have k1 := neqb c1
      simp only [RZ, reduceAdd, reduceIte, reduceEqDiff, reduceLT, reduceLeDiff, reduceCtorEq, Nat.reduceBEq, rV, UEg_6.d, k0, k1, en_len]
      refine callP (v := 0) (w := w) Cs rfl rfl rfl rfl rfl ⟨rfl, ?_⟩
      simp only [RZ, reduceAdd, reduceIte, reduceEqDiff, reduceLT, reduceLeDiff, reduceCtorEq, Nat.reduceBEq, rV, UEg_6.d, k0, k1, en_len, s0, eI]
      refine ES.mk (decide ((w.results.length : Int) > 0), bs, false) (by rw [waysK, if_pos c0, k1, hst, Bool.false_and]; rfl) ?_
      simp only [RZ, reduceAdd, reduceIte, reduceEqDiff, reduceLT, reduceLeDiff, reduceCtorEq, Nat.reduceBEq, rV, UEg_6.d, k0, k1, en_len, s0, eI]
  have k0 := neqb c0
  by_cases c1 : w.keeper = 2
  · have k1 := eqb c1
    simp only [RZ, reduceAdd, reduceIte, reduceEqDiff, reduceLT, reduceLeDiff, reduceCtorEq, Nat.reduceBEq, rV, UEg_6.d, k0, k1, en_len]
    refine callP (v := 0) (w := w) Cs rfl rfl rfl rfl rfl ⟨rfl, ?_⟩
    simp only [RZ, reduceAdd, reduceIte, reduceEqDiff, reduceLT, reduceLeDiff, reduceCtorEq, Nat.reduceBEq, rV, UEg_6.d, k0, k1, en_len]
    refine ES.mk ((w.out.length : Int) == 0, bs, false) (by rw [waysK, if_neg c0, if_pos c1, hst]; rfl) ?_
    simp only [RZ, reduceAdd, reduceIte, reduceEqDiff, reduceLT, reduceLeDiff, reduceCtorEq, Nat.reduceBEq, rV, UEg_6.d, k0, k1, en_len]
  have k1 := neqb c1
  by_cases c2 : w.keeper = 5
  · have k2 : (w.keeper == 1) = false := neqb (by omega)
    have k3 : (w.keeper == 3) = false := neqb (by omega)
    have k4 : (w.keeper == 4) = false := neqb (by omega)
    simp only [RZ, reduceAdd, reduceIte, reduceEqDiff, reduceLT, reduceLeDiff, reduceCtorEq, Nat.reduceBEq, rV, UEg_6.d, k0, k1, k2, k3, k4]
    refine ES.mk (false, false, false) (by rw [waysK, if_neg c0, if_neg c1, if_pos c2]; rfl) ?_
    simp only [RZ, reduceAdd, reduceIte, reduceEqDiff, reduceLT, reduceLeDiff, reduceCtorEq, Nat.reduceBEq, rV, UEg_6.d, k0, k1, k2, k3, k4]
  have e : (true, false, false) = pad3 (waysK w) := by rw [waysK, if_neg c0, if_neg c1, if_neg c2]; rfl
  rcases (by omega : w.keeper = 1 ∨ w.keeper = 3 ∨ w.keeper = 4) with c3 | c3 | c3
  · have k2 := eqb c3
    simp only [RZ, reduceAdd, reduceIte, reduceEqDiff, reduceLT, reduceLeDiff, reduceCtorEq, Nat.reduceBEq, rV, UEg_6.d, k0, k1, k2]
    refine ES.mk _ e ?_
    simp only [RZ, reduceAdd, reduceIte, reduceEqDiff, reduceLT, reduceLeDiff, reduceCtorEq, Nat.reduceBEq, rV, UEg_6.d, k0, k1, k2]
  · have k2 : (w.keeper == 1) = false := neqb (by omega)
    have k3 := eqb c3
    simp only [RZ, reduceAdd, reduceIte, reduceEqDiff, reduceLT, reduceLeDiff, reduceCtorEq, Nat.reduceBEq, rV, UEg_6.d, k0, k1, k2, k3]
    refine ES.mk _ e ?_
    simp only [RZ, reduceAdd, reduceIte, reduceEqDiff, reduceLT, reduceLeDiff, reduceCtorEq, Nat.reduceBEq, rV, UEg_6.d, k0, k1, k2, k3]
  · have k2 : (w.keeper == 1) = false := neqb (by omega)
    have k3 : (w.keeper == 3) = false := neqb (by omega)
    have k4 := eqb c3
    simp only [RZ, reduceAdd, reduceIte, reduceEqDiff, reduceLT, reduceLeDiff, reduceCtorEq, Nat.reduceBEq, rV, UEg_6.d, k0, k1, k2, k3, k4]
    refine ES.mk _ e ?_
    simp only [RZ, reduceAdd, reduceIte, reduceEqDiff, reduceLT, reduceLeDiff, reduceCtorEq, Nat.reduceBEq, rV, UEg_6.d, k0, k1, k2, k3, k4]
end Go.V
set_option linter.unusedSimpArgs false
namespace Go.V
open Go.Proofs
open Nat (reduceAdd reduceEqDiff reduceLT reduceLeDiff)
/-- The numbers of the ways that are open. -/
def opnN (bs : List Bool) (n : Nat) : List Int := ((List.range n).filter fun k => bs.getD k false).map fun k : Nat => (k : Int)
def opn (bs : List Bool) : List Int := opnN bs 3
def l3 (x : Bool × Bool × Bool) : List Bool := [x.1, x.2.1, x.2.2]
theorem opnN_next {bs : List Bool} {n : Nat} {b : Bool} (h : bs[n]? = some b) : opnN bs (n + 1) = opnN bs n ++ (if b then [(n : Int)] else []) := by
  cases b <;> simp [opnN, List.range_succ, List.filter_append, List.filter_cons, List.map_append, h]
theorem opnN_len (bs : List Bool) (n : Nat) : (opnN bs n).length ≤ n := by
  rw [opnN, List.length_map]
  exact Nat.le_trans (List.length_filter_le _ _) (by simp)
theorem opn_pad (bs : List Bool) : opnN (l3 (pad3 bs)) 3 = opn bs := by
  unfold opn opnN l3 pad3
  rw [show List.range 3 = [0, 1, 2] from rfl]
  simp only [List.filter_cons, List.filter_nil]
  rfl
theorem l3_at (x : Bool × Bool × Bool) {i : Nat} (h : i < 3) : ∃ b, (l3 x)[i]? = some b ∧ (cB3 x)[i * 1]? = some (.v (.s (.bool b))) := by
  rcases (by omega : i = 0 ∨ i = 1 ∨ i = 2) with rfl | rfl | rfl <;> exact ⟨_, rfl, rfl⟩
/- (*loop.example/teagle/impl.CrewWorld).cases -/
def r44_0 : List AOper := [ao 0 4 (.mv (.k (.c .nil0)))]
def r44_1 : List AOper := [ao 0 9 (.build [(.v (.s (.bool false))), (.v (.s (.bool false))), (.v (.s (.bool false)))] []),
  ao 1 5 (.alloc 92 [(.v (.s (.bool false))), (.v (.s (.bool false))), (.v (.s (.bool false)))]),
  an 2 (.st 3 (.t 5) (.t 9))]
def r44_2 : List AOper := [ao 0 10 (.mv (.t 1))]
def r44_3 : List AOper := [ao 0 22 (.bin .eql (.t 10) (.k (.i 0))),
  ao 1 21 (.mv (.t 22))]
def r44_4 : List AOper := [ao 0 23 (.mv (.t 0)),
  ao 1 24 (.call (.k (.c (.fn 84 []))) [(.t 23)]),
  an 2 (.st 3 (.t 5) (.t 24))]
def r44_5 : List AOper := [ao 0 26 (.mv (.t 0)),
  ao 1 27 (.call (.k (.c (.fn 85 []))) [(.t 26)]),
  ao 2 28 (.bin .eql (.t 10) (.t 27)),
  ao 3 25 (.mv (.t 28))]
def r44_6 : List AOper := [ao 0 29 (.mv (.t 0)),
  ao 1 30 (.nck (.t 29)),
  ao 2 31 (.fa 7 (.t 30)),
  ao 3 32 (.ld 1 false (.t 31)),
  ao 4 33 (.bin .eql (.t 32) (.k (.i 0))),
  ao 5 34 (.mv (.t 33)),
  ag 6 35 34 true [] (.mv (.t 0)),
  ag 7 36 34 true [] (.call (.k (.c (.fn 41 []))) [(.t 35)]),
  ao 8 37 (.pick (.t 34) (.t 36) (.k (.b false))),
  ao 9 38 (.iap 3 1 (.t 5) (.k (.i 0))),
  an 10 (.st 1 (.t 38) (.t 37))]
def r44_7 : List AOper := [ao 0 40 (.mv (.t 0)),
  ao 1 41 (.call (.k (.c (.fn 86 []))) [(.t 40)]),
  ao 2 42 (.bin .eql (.t 10) (.t 41)),
  ao 3 39 (.mv (.t 42))]
def r44_8 : List AOper := [ao 0 43 (.mv (.t 0)),
  ao 1 44 (.call (.k (.c (.fn 87 []))) [(.t 43)]),
  an 2 (.st 3 (.t 5) (.t 44))]
def r44_9 : List AOper := [ao 0 46 (.mv (.t 0)),
  ao 1 47 (.call (.k (.c (.fn 88 []))) [(.t 46)]),
  ao 2 48 (.bin .eql (.t 10) (.t 47)),
  ao 3 45 (.mv (.t 48))]
def r44_10 : List AOper := [ao 0 49 (.mv (.t 0)),
  ao 1 50 (.nck (.t 49)),
  ao 2 51 (.fa 13 (.t 50)),
  ao 3 52 (.ld 1 false (.t 51)),
  ao 4 53 (.bin .eql (.t 52) (.k (.i 0))),
  ao 5 54 (.mv (.t 53)),
  ag 6 55 54 true [] (.mv (.t 0)),
  ag 7 56 54 true [] (.nck (.t 55)),
  ag 8 57 54 true [] (.fa 12 (.t 56)),
  ag 9 58 54 true [] (.ld 1 false (.t 57)),
  ag 10 59 54 true [] (.len (.t 58)),
  ag 11 60 54 true [] (.bin .gtr (.t 59) (.k (.i 0))),
  ao 12 61 (.pick (.t 54) (.t 60) (.k (.b false))),
  ao 13 62 (.iap 3 1 (.t 5) (.k (.i 0))),
  an 14 (.st 1 (.t 62) (.t 61))]
def r44_11 : List AOper := [ao 0 63 (.mv (.t 0)),
  ao 1 64 (.nck (.t 63)),
  ao 2 65 (.fa 13 (.t 64)),
  ao 3 66 (.ld 1 false (.t 65)),
  ao 4 67 (.bin .eql (.t 66) (.k (.i 0))),
  ao 5 68 (.mv (.t 67)),
  ag 6 69 68 true [] (.mv (.t 0)),
  ag 7 70 68 true [] (.nck (.t 69)),
  ag 8 71 68 true [] (.fa 12 (.t 70)),
  ag 9 72 68 true [] (.ld 1 false (.t 71)),
  ag 10 73 68 true [] (.len (.t 72)),
  ag 11 74 68 true [] (.bin .eql (.t 73) (.k (.i 0))),
  ao 12 75 (.pick (.t 68) (.t 74) (.k (.b false))),
  ao 13 76 (.mv (.t 75)),
  ag 14 77 76 true [] (.mv (.t 0)),
  ag 15 78 76 true [] (.nck (.t 77)),
  ag 16 79 76 true [] (.fa 16 (.t 78)),
  ag 17 80 76 true [] (.ld 1 false (.t 79)),
  ag 18 81 76 true [] (.ia 1 (.t 80) (.k (.i 2))),
  ag 19 82 76 true [] (.ld 1 false (.t 81)),
  ag 20 83 76 true [] (.bin .eql (.t 82) (.k (.i 1))),
  ao 21 84 (.pick (.t 76) (.t 83) (.k (.b false))),
  ao 22 85 (.iap 3 1 (.t 5) (.k (.i 1))),
  an 23 (.st 1 (.t 85) (.t 84))]
def c44_12 : ACode := .seq (.reg r44_10) (.reg r44_11)
def r44_13 : List AOper := [ao 0 11 (.mv (.t 0)),
  ao 1 12 (.mv (.t 0)),
  ao 2 13 (.nck (.t 12)),
  ao 3 14 (.fa 6 (.t 13)),
  ao 4 15 (.ld 1 false (.t 14)),
  ao 5 16 (.mv (.t 1)),
  ao 6 17 (.bin .sub (.t 16) (.k (.i 1))),
  ao 7 18 (.ia 2 (.t 15) (.t 17)),
  ao 8 19 (.ld 2 true (.t 18)),
  ao 9 20 (.call (.k (.c (.fn 89 []))) [(.t 11), (.t 19)]),
  an 10 (.st 3 (.t 5) (.t 20))]
def c44_14 : ACode := .cond (.t 45) c44_12 (.reg r44_13)
def c44_15 : ACode := .seq (.reg r44_9) c44_14
def c44_16 : ACode := .cond (.t 39) (.reg r44_8) c44_15
def c44_17 : ACode := .seq (.reg r44_7) c44_16
def c44_18 : ACode := .cond (.t 25) (.reg r44_6) c44_17
def c44_19 : ACode := .seq (.reg r44_5) c44_18
def c44_20 : ACode := .cond (.t 21) (.reg r44_4) c44_19
def c44_21 : ACode := .seq (.reg r44_3) c44_20
def c44_22 : ACode := .block 0 c44_21
def c44_23 : ACode := .seq (.reg r44_2) c44_22
def r44_24 : List AOper := [ao 0 86 (.bsl 1 3 []),
  ao 1 6 (.mv (.t 86))]
def r44_25 : List AOper := [ao 0 87 (.ld 3 true (.t 5)),
  ao 1 88 (.mv (.k (.i 0)))]
def r44_26 : List AOper := [ao 0 89 (.bin .lss (.t 88) (.k (.i 3)))]
def c44_27 : ACode := .cond (.t 89) .skip (.exit 1)
def r44_28 : List AOper := [ao 0 90 (.mv (.t 88)),
  ao 1 91 (.ixA 3 1 false (.t 87) (.t 88)),
  ao 2 7 (.mv (.t 90)),
  ao 3 8 (.mv (.t 91))]
def r44_29 : List AOper := [ao 0 92 (.mv (.t 8))]
def r44_30 : List AOper := [ao 0 93 (.mv (.t 6)),
  ao 1 94 (.mv (.t 7)),
  ao 2 95 (.bsl 1 3 [(.t 94)]),
  ao 3 96 (.app 1 3 8 (.t 93) (.t 95)),
  ao 4 6 (.mv (.t 96))]
def c44_31 : ACode := .cond (.t 92) (.reg r44_30) .skip
def c44_32 : ACode := .seq (.reg r44_28) (.seq (.reg r44_29) c44_31)
def c44_33 : ACode := .block 2 c44_32
def r44_34 : List AOper := [ao 0 97 (.bin .add (.t 88) (.k (.i 1))),
  ao 1 88 (.mv (.t 97))]
def c44_35 : ACode := .seq (.reg r44_26) (.seq c44_27 (.seq c44_33 (.reg r44_34)))
def c44_36 : ACode := .loop c44_35
def c44_37 : ACode := .block 1 c44_36
def c44_38 : ACode := .seq (.reg r44_25) c44_37
def r44_39 : List AOper := [ao 0 98 (.mv (.t 6)),
  ao 1 4 (.mv (.t 98))]
def c44 : ACode := .seq (.reg r44_0) (.seq (.reg r44_1) (.seq c44_23 (.seq (.reg r44_24) (.seq c44_38 (.seq (.reg r44_39) .ret)))))
def s44 : List ARes := [.tmp 4]
theorem ok44 : okF Tryz.prog 44 99 c44 s44 := ⟨Tryz.f44, Tryz.func44, Tryz.ntmps44, by kernel_rfl, by kernel_rfl, by kernel_rfl⟩
def inv44 (w : CW) (x : Bool × Bool × Bool) (i : Nat) (σ : St) : Prop := σ.H 1000 = some (cwB 0 w) ∧ σ.t 87 = tB3 x ∧ σ.t 88 = .i i ∧ ∃ v, σ.t 6 = .c (.own 86 v (opnN (l3 x) i).length) ∧ σ.H 86 = some (.arr v true 1 3 (en eI (opnN (l3 x) i)))
def UEh_1 := Bx.mk <|
  aN (uA c44.eq_1) <| aN (uR r44_0.eq_1) <| aN (uR r44_1.eq_1) <| aN (uA c44_23.eq_1) <| aN (uR r44_2.eq_1) <| aN (uA c44_22.eq_1) <| aN (uA c44_21.eq_1) <| aN (uR r44_3.eq_1) <| aN (uA c44_20.eq_1) <| aN (uR r44_4.eq_1) <| aN (uA c44_19.eq_1) <| aN (uR r44_5.eq_1) <| aN (uA c44_18.eq_1) <| aN (uR r44_6.eq_1) <| aN (uA c44_17.eq_1) <| aN (uR r44_7.eq_1) <| aN (uA c44_16.eq_1) <| aN (uR r44_8.eq_1) <| aN (uA c44_15.eq_1) <| aN (uR r44_9.eq_1) <| aN (uA c44_14.eq_1) <| aN (uA c44_12.eq_1) <| aN (uR r44_10.eq_1) <| aN (uR r44_11.eq_1) <| aN (uR r44_13.eq_1) <| aN (uR r44_24.eq_1) <| aN (uA c44_38.eq_1) <| aN (uR r44_25.eq_1) <| aN (uA c44_37.eq_1) <| aN (uA c44_36.eq_1) <| aN (uR r44_39.eq_1) <| s44.eq_1
def UEh_2 := Bx.mk <|
  aN (uA c44.eq_1) <| aN (uR r44_0.eq_1) <| aN (uR r44_1.eq_1) <| aN (uA c44_23.eq_1) <| aN (uR r44_2.eq_1) <| aN (uA c44_22.eq_1) <| aN (uA c44_21.eq_1) <| aN (uR r44_3.eq_1) <| aN (uA c44_20.eq_1) <| aN (uR r44_4.eq_1) <| aN (uA c44_19.eq_1) <| aN (uR r44_5.eq_1) <| aN (uA c44_18.eq_1) <| aN (uR r44_6.eq_1) <| aN (uA c44_17.eq_1) <| aN (uR r44_7.eq_1) <| aN (uA c44_16.eq_1) <| aN (uR r44_8.eq_1) <| aN (uA c44_15.eq_1) <| aN (uR r44_9.eq_1) <| aN (uA c44_14.eq_1) <| aN (uA c44_12.eq_1) <| aN (uR r44_10.eq_1) <| aN (uR r44_11.eq_1) <| aN (uR r44_13.eq_1) <| aN (uA c44_38.eq_1) <| aN (uR r44_25.eq_1) <| aN (uA c44_37.eq_1) <| aN (uA c44_36.eq_1) <| aN (uR r44_39.eq_1) <| s44.eq_1
def UEh_6 := Bx.mk <|
  aN (uA c44_35.eq_1) <| aN (uR r44_26.eq_1) <| aN (uA c44_27.eq_1) <| aN (uA c44_33.eq_1) <| aN (uA c44_32.eq_1) <| aN (uR r44_28.eq_1) <| aN (uR r44_29.eq_1) <| aN (uA c44_31.eq_1) <| aN (uR r44_30.eq_1) <| aN (uR r44_34.eq_1) <| aN (uA c44.eq_1) <| aN (uR r44_0.eq_1) <| aN (uR r44_1.eq_1) <| aN (uA c44_23.eq_1) <| aN (uR r44_2.eq_1) <| aN (uA c44_22.eq_1) <| aN (uA c44_21.eq_1) <| aN (uR r44_3.eq_1) <| aN (uA c44_20.eq_1) <| aN (uR r44_4.eq_1) <| aN (uA c44_19.eq_1) <| aN (uR r44_5.eq_1) <| aN (uA c44_18.eq_1) <| aN (uR r44_6.eq_1) <| aN (uA c44_17.eq_1) <| aN (uR r44_7.eq_1) <| aN (uA c44_16.eq_1) <| aN (uR r44_8.eq_1) <| aN (uA c44_15.eq_1) <| aN (uR r44_9.eq_1) <| aN (uA c44_14.eq_1) <| aN (uA c44_12.eq_1) <| aN (uR r44_10.eq_1) <| aN (uR r44_11.eq_1) <| aN (uR r44_13.eq_1) <| aN (uR r44_24.eq_1) <| aN (uA c44_38.eq_1) <| aN (uR r44_25.eq_1) <| aN (uA c44_37.eq_1) <| aN (uA c44_36.eq_1) <| aN (uR r44_39.eq_1) <| s44.eq_1
set_option maxHeartbeats 2000000 in
theorem cases_ok {w : CW} (h : Form w) (who : Int) (h0 : 0 ≤ who) (h4 : who ≤ w.workers + 3) : WC 44 [.i who] w (fun ks : List Int => ks = opn (ways w who)) (fun ks => tL (en eI ks)) := by
  obtain ⟨nc, rfl, Cc⟩ := closer_ok h
  obtain ⟨nk, rfl, Ck⟩ := keeper_ok h
  obtain ⟨nu, rfl, Cu⟩ := user_ok h
  obtain ⟨xr, hxr, Cr⟩ := readerCases_ok h
  obtain ⟨xk, hxk, Cp⟩ := keeperCases_ok h
  obtain ⟨be, hbe, Ce⟩ := haveEnded_ok h
  have hk := h.st.k
  have hh := h.lh
  have hus := h.us
  have w1 : IntKind.i64.wrap (who - 1) = who - 1 := wrap64 ⟨by omega, by omega⟩
  refine WC.intro ok44 rfl (fun _ => rfl) fun X => ?_
  have fin : ∀ (x : Bool × Bool × Bool), x = pad3 (ways w who) → ∀ (t : Nat → T) (H : HMap) (c u : Nat), t 5 = .c (.ptr 5 u 0) → H 5 = some (.var u 92 (cB3 x)) → H 1000 = some (cwB 0 w) → DRun Tryz.prog r44_24 [] (Kont (thenW Tryz.prog X (.seq c44_38 (.seq (.reg r44_39) .ret)) (endE (fun ks : List Int => ks = opn (ways w who)) (fun ks => tL (en eI ks)) (fun _ => [rV 0 26 (cwC w) (cwC w)]) [.tmp 4])) r44_24) ⟨t, H, c⟩ := by
    intro x hx t H c u e5 eH5 eW
    simp only [T.c] at e5
    simp only [RZ, reduceAdd, reduceIte, reduceEqDiff, reduceLT, reduceLeDiff, reduceCtorEq, Nat.reduceBEq, rV, UEh_1.d, e5, eH5, eW]
    refine AW.upto 3 (inv44 w x) ⟨eW, rfl, rfl, _, rfl, rfl⟩ fun i t H c hi h' => ?_
    clear e5 eH5 eW
    obtain ⟨eW, e87, e88, v, e6, e86⟩ := h'
    simp only [T.c, T.i, tB3] at eW e87 e88 e6 e86
    have hl := opnN_len (l3 x) i
    by_cases k1 : (i : Int) < 3
    · obtain ⟨b, hb, hc⟩ := l3_at x (i := i) (by omega)
      have gz : (0 : Int) ≤ i := by omega
      have g3 : i < 3 := by omega
      have gw := w1_ok (i := i) (by omega)
      have hn := opnN_next hb
      have q1 : ((opnN (l3 x) i).length + 1) * 8 ≤ 140737488355328 := by omega
      have q2 : (opnN (l3 x) i).length + 1 ≤ 9223372036854775807 := by omega
      cases b with
      | true =>
        rw [if_pos rfl] at hn
        simp only [RZ, reduceAdd, reduceIte, reduceEqDiff, reduceLT, reduceLeDiff, reduceCtorEq, Nat.reduceBEq, rV, UEh_6.d, eW, e87, e88, e6, e86, k1, gz, g3, Int.toNat_natCast, hc, gw, q1, q2]
        exact ⟨eW, e87, rfl, _, own_len (by rw [hn, List.length_append]; rfl), arr_snoc hn⟩
      | false =>
        rw [if_neg (by decide), List.append_nil] at hn
        simp only [RZ, reduceAdd, reduceIte, reduceEqDiff, reduceLT, reduceLeDiff, reduceCtorEq, Nat.reduceBEq, rV, UEh_6.d, eW, e87, e88, e6, e86, k1, gz, g3, Int.toNat_natCast, hc, gw, q1, q2]
        exact ⟨eW, e87, rfl, v, by show t 6 = _; rw [hn]; exact e6, by show H 86 = _; rw [hn]; exact e86⟩
    · have hi2 : i = 3 := by omega
      subst hi2
      simp only [RZ, reduceAdd, reduceIte, reduceEqDiff, reduceLT, reduceLeDiff, reduceCtorEq, Nat.reduceBEq, rV, UEh_6.d, eW, e87, e88, e6, e86, k1]
      refine ES.mk (opnN (l3 x) 3) (by rw [hx, opn_pad]) ?_
      simp only [RZ, reduceAdd, reduceIte, reduceEqDiff, reduceLT, reduceLeDiff, reduceCtorEq, Nat.reduceBEq, rV, UEh_6.d, eW, e87, e88, e6, e86, k1]
  by_cases c0 : who = 0
  · have k0 := eqb c0
    have e : ways w who = waysR w := by rw [ways, if_pos c0]
    simp only [RZ, reduceAdd, reduceIte, reduceEqDiff, reduceLT, reduceLeDiff, reduceCtorEq, Nat.reduceBEq, rV, UEh_2.d, Nat.reduceMul, Nat.zero_le, k0]
    refine callP (v := 0) (w := w) Cr rfl rfl rfl rfl rfl ⟨rfl, ?_⟩
    simp only [RZ, reduceAdd, reduceIte, reduceEqDiff, reduceLT, reduceLeDiff, reduceCtorEq, Nat.reduceBEq, rV, UEh_2.d, Nat.reduceMul, Nat.zero_le, k0]
    refine fin xr (by rw [e]; exact hxr) _ _ _ 3 ?_ ?_ ?_ <;> rfl
  have k0 := neqb c0
  by_cases c2 : who = w.workers + 1
  · have k2 := eqb c2
    have e : ways w who = [(w.closer == 0) && allB w] := by rw [ways, if_neg c0, if_neg (by omega), if_pos c2]
    have ebe : be = allB w := by rw [Bool.eq_iff_iff, hbe]; exact (all_iff w.hands).symm
    simp only [RZ, reduceAdd, reduceIte, reduceEqDiff, reduceLT, reduceLeDiff, reduceCtorEq, Nat.reduceBEq, rV, UEh_2.d, Nat.reduceMul, Nat.zero_le, k0]
    refine callP (v := 0) (w := w) Cc rfl rfl rfl rfl rfl ⟨rfl, ?_⟩
    by_cases c3 : w.closer = 0
    · have k3 := eqb c3
      simp only [RZ, reduceAdd, reduceIte, reduceEqDiff, reduceLT, reduceLeDiff, reduceCtorEq, Nat.reduceBEq, rV, UEh_2.d, Nat.reduceMul, Nat.zero_le, k0, k2, k3]
      refine callP (v := 0) (w := w) Ce rfl rfl rfl rfl rfl ⟨rfl, ?_⟩
      simp only [RZ, reduceAdd, reduceIte, reduceEqDiff, reduceLT, reduceLeDiff, reduceCtorEq, Nat.reduceBEq, rV, UEh_2.d, Nat.reduceMul, Nat.zero_le, k0, k2, k3]
      refine fin (be, false, false) (by rw [e, k3, ← ebe]; rfl) _ _ _ 3 ?_ ?_ ?_ <;> rfl
    · have k3 := neqb c3
      simp only [RZ, reduceAdd, reduceIte, reduceEqDiff, reduceLT, reduceLeDiff, reduceCtorEq, Nat.reduceBEq, rV, UEh_2.d, Nat.reduceMul, Nat.zero_le, k0, k2, k3]
      refine fin (false, false, false) (by rw [e, k3]; rfl) _ _ _ 3 ?_ ?_ ?_ <;> rfl
  have k2 := neqb c2
  by_cases c3 : who = w.workers + 2
  · have k3 := eqb c3
    have e : ways w who = waysK w := by rw [ways, if_neg c0, if_neg (by omega), if_neg c2, if_pos c3]
    simp only [RZ, reduceAdd, reduceIte, reduceEqDiff, reduceLT, reduceLeDiff, reduceCtorEq, Nat.reduceBEq, rV, UEh_2.d, Nat.reduceMul, Nat.zero_le, k0]
    refine callP (v := 0) (w := w) Cc rfl rfl rfl rfl rfl ⟨rfl, ?_⟩
    simp only [RZ, reduceAdd, reduceIte, reduceEqDiff, reduceLT, reduceLeDiff, reduceCtorEq, Nat.reduceBEq, rV, UEh_2.d, Nat.reduceMul, Nat.zero_le, k0, k2]
    refine callP (v := 0) (w := w) Ck rfl rfl rfl rfl rfl ⟨rfl, ?_⟩
    simp only [RZ, reduceAdd, reduceIte, reduceEqDiff, reduceLT, reduceLeDiff, reduceCtorEq, Nat.reduceBEq, rV, UEh_2.d, Nat.reduceMul, Nat.zero_le, k0, k2, k3]
    refine callP (v := 0) (w := w) Cp rfl rfl rfl rfl rfl ⟨rfl, ?_⟩
    simp only [RZ, reduceAdd, reduceIte, reduceEqDiff, reduceLT, reduceLeDiff, reduceCtorEq, Nat.reduceBEq, rV, UEh_2.d, Nat.reduceMul, Nat.zero_le, k0, k2, k3]
    refine fin xk (by rw [e]; exact hxk) _ _ _ 3 ?_ ?_ ?_ <;> rfl
  have k3 := neqb c3
  by_cases c4 : who = w.workers + 3
  · have k4 := eqb c4
    have s2 := en_at eI (sh_at h (i := 2) (by omega))
    simp only [RZ, reduceAdd, reduceIte, reduceEqDiff, reduceLT, reduceLeDiff, reduceCtorEq, Nat.reduceBEq, rV, UEh_2.d, Nat.reduceMul, Nat.zero_le, k0]
    refine callP (v := 0) (w := w) Cc rfl rfl rfl rfl rfl ⟨rfl, ?_⟩
    simp only [RZ, reduceAdd, reduceIte, reduceEqDiff, reduceLT, reduceLeDiff, reduceCtorEq, Nat.reduceBEq, rV, UEh_2.d, Nat.reduceMul, Nat.zero_le, k0, k2]
    refine callP (v := 0) (w := w) Ck rfl rfl rfl rfl rfl ⟨rfl, ?_⟩
    simp only [RZ, reduceAdd, reduceIte, reduceEqDiff, reduceLT, reduceLeDiff, reduceCtorEq, Nat.reduceBEq, rV, UEh_2.d, Nat.reduceMul, Nat.zero_le, k0, k2, k3]
    refine callP (v := 0) (w := w) Cu rfl rfl rfl rfl rfl ⟨rfl, ?_⟩
    by_cases c5 : w.user = 0
    · have k5 := eqb c5
      have e : ways w who = [decide ((w.out.length : Int) > 0), ((w.out.length : Int) == 0) && (sh w 2 == 1)] := by rw [ways, if_neg c0, if_neg (by omega), if_neg c2, if_neg c3, if_neg (by omega)]
      by_cases c6 : (w.out.length : Int) = 0
      · have k6 := eqb c6
        simp only [RZ, reduceAdd, reduceIte, reduceEqDiff, reduceLT, reduceLeDiff, reduceCtorEq, Nat.reduceBEq, rV, UEh_2.d, Nat.reduceMul, Nat.zero_le, k0, k2, k3, k4, k5, k6, s2, eI, en_len]
        refine fin (decide ((w.out.length : Int) > 0), sh w 2 == 1, false) (by rw [e, k6]; rfl) _ _ _ 3 ?_ ?_ ?_ <;> rfl
      · have k6 := neqb c6
        simp only [RZ, reduceAdd, reduceIte, reduceEqDiff, reduceLT, reduceLeDiff, reduceCtorEq, Nat.reduceBEq, rV, UEh_2.d, Nat.reduceMul, Nat.zero_le, k0, k2, k3, k4, k5, k6, s2, eI, en_len]
        refine fin (decide ((w.out.length : Int) > 0), false, false) (by rw [e, k6]; rfl) _ _ _ 3 ?_ ?_ ?_ <;> rfl
    · have k5 := neqb c5
      have e : ways w who = [] := by rw [ways, if_neg c0, if_neg (by omega), if_neg c2, if_neg c3, if_pos (by omega)]
      simp only [RZ, reduceAdd, reduceIte, reduceEqDiff, reduceLT, reduceLeDiff, reduceCtorEq, Nat.reduceBEq, rV, UEh_2.d, Nat.reduceMul, Nat.zero_le, k0, k2, k3, k4, k5]
      refine fin (false, false, false) (by rw [e]; rfl) _ _ _ 3 ?_ ?_ ?_ <;> rfl
  have k4 := neqb c4
  have c1 : who ≤ w.workers := by omega
  have e : ways w who = waysH w (hdAt w (who - 1).toNat) := by rw [ways, if_neg c0, if_pos c1]
  have ex := en_at eH (hdAt_at (w := w) (i := (who - 1).toNat) (by omega))
  have gz : 0 ≤ who - 1 := by omega
  obtain ⟨xh, hxh, Ch⟩ := handCases_ok h (hdAt w (who - 1).toNat)
  simp only [RZ, reduceAdd, reduceIte, reduceEqDiff, reduceLT, reduceLeDiff, reduceCtorEq, Nat.reduceBEq, rV, UEh_2.d, Nat.reduceMul, Nat.zero_le, k0]
  refine callP (v := 0) (w := w) Cc rfl rfl rfl rfl rfl ⟨rfl, ?_⟩
  simp only [RZ, reduceAdd, reduceIte, reduceEqDiff, reduceLT, reduceLeDiff, reduceCtorEq, Nat.reduceBEq, rV, UEh_2.d, Nat.reduceMul, Nat.zero_le, k0, k2]
  refine callP (v := 0) (w := w) Ck rfl rfl rfl rfl rfl ⟨rfl, ?_⟩
  simp only [RZ, reduceAdd, reduceIte, reduceEqDiff, reduceLT, reduceLeDiff, reduceCtorEq, Nat.reduceBEq, rV, UEh_2.d, Nat.reduceMul, Nat.zero_le, k0, k2, k3]
  refine callP (v := 0) (w := w) Cu rfl rfl rfl rfl rfl ⟨rfl, ?_⟩
  simp only [RZ, reduceAdd, reduceIte, reduceEqDiff, reduceLT, reduceLeDiff, reduceCtorEq, Nat.reduceBEq, rV, UEh_2.d, Nat.reduceMul, Nat.zero_le, k0, k2, k3, k4, ex, gz, w1, eH]
  refine callP (v := 0) (w := w) Ch rfl rfl rfl rfl rfl ⟨rfl, ?_⟩
  simp only [RZ, reduceAdd, reduceIte, reduceEqDiff, reduceLT, reduceLeDiff, reduceCtorEq, Nat.reduceBEq, rV, UEh_2.d, Nat.reduceMul, Nat.zero_le, k0, k2, k3, k4]
  refine fin xh (by rw [e]; exact hxh) _ _ _ 3 ?_ ?_ ?_ <;> rfl
/- loop.example/teagle/impl.isPlace -/
def r42_0 : List AOper := [ao 0 4 (.mv (.k (.b false)))]
def r42_1 : List AOper := [ao 0 5 (.mv (.t 0)),
  ao 1 6 (.mv (.t 1)),
  ao 2 7 (.bin .sub (.t 6) (.k (.i 1))),
  ao 3 8 (.call (.k (.c (.fn 82 []))) [(.t 5), (.k (.i 0)), (.t 7)]),
  ao 4 4 (.mv (.t 8))]
def c42 : ACode := .seq (.reg r42_0) (.seq (.reg r42_1) .ret)
def s42 : List ARes := [.tmp 4]
theorem ok42 : okF Tryz.prog 42 9 c42 s42 := ⟨Tryz.f42, Tryz.func42, Tryz.ntmps42, by kernel_rfl, by kernel_rfl, by kernel_rfl⟩
def UEh_3 := Bx.mk <|
  aN (uA c42.eq_1) <| aN (uR r42_0.eq_1) <| aN (uR r42_1.eq_1) <| s42.eq_1
theorem isPlace_ok (n m : Int) (hm : 0 ≤ m ∧ m ≤ 1000000) : ACallsF Tryz.prog 42 [.i n, .i m] [] (.b (decide (0 ≤ n) && decide (n ≤ m - 1))) := by
  have w1 : IntKind.i64.wrap (m - 1) = m - 1 := wrap64 ⟨by omega, by omega⟩
  refine ACallsF.intro ok42 follows fun X c0 => ?_
  simp only [RZ, reduceAdd, reduceIte, reduceEqDiff, reduceLT, reduceLeDiff, reduceCtorEq, Nat.reduceBEq, UEh_3.d, w1]
  refine callC (inRange_ok n 0 (m - 1)) rfl rfl rfl rfl ?_
  simp only [RZ, reduceAdd, reduceIte, reduceEqDiff, reduceLT, reduceLeDiff, reduceCtorEq, Nat.reduceBEq, UEh_3.d, w1]
/- slices.Index[[]int,int] -/
def r83_0 : List AOper := [ao 0 4 (.mv (.k (.i 0)))]
def r83_1 : List AOper := [ao 0 6 (.mv (.t 0)),
  ao 1 7 (.len (.t 6)),
  ao 2 8 (.mv (.k (.i 0)))]
def r83_2 : List AOper := [ao 0 9 (.bin .lss (.t 8) (.t 7))]
def c83_3 : ACode := .cond (.t 9) .skip (.exit 0)
def r83_4 : List AOper := [ao 0 10 (.mv (.t 8)),
  ao 1 5 (.mv (.t 10))]
def r83_5 : List AOper := [ao 0 11 (.mv (.t 1)),
  ao 1 12 (.mv (.t 0)),
  ao 2 13 (.mv (.t 5)),
  ao 3 14 (.ia 1 (.t 12) (.t 13)),
  ao 4 15 (.ld 1 false (.t 14)),
  ao 5 16 (.bin .eql (.t 11) (.t 15))]
def r83_6 : List AOper := [ao 0 17 (.mv (.t 5)),
  ao 1 4 (.mv (.t 17))]
def c83_7 : ACode := .seq (.reg r83_6) .ret
def c83_8 : ACode := .cond (.t 16) c83_7 .skip
def c83_9 : ACode := .seq (.reg r83_4) (.seq (.reg r83_5) c83_8)
def c83_10 : ACode := .block 1 c83_9
def r83_11 : List AOper := [ao 0 18 (.bin .add (.t 8) (.k (.i 1))),
  ao 1 8 (.mv (.t 18))]
def c83_12 : ACode := .seq (.reg r83_2) (.seq c83_3 (.seq c83_10 (.reg r83_11)))
def c83_13 : ACode := .loop c83_12
def c83_14 : ACode := .block 0 c83_13
def c83_15 : ACode := .seq (.reg r83_1) c83_14
def r83_16 : List AOper := [ao 0 4 (.mv (.k (.i (-1))))]
def c83 : ACode := .seq (.reg r83_0) (.seq c83_15 (.seq (.reg r83_16) .ret))
def s83 : List ARes := [.tmp 4]
theorem ok83 : okF Tryz.prog 83 19 c83 s83 := ⟨Tryz.f83, Tryz.func83, Tryz.ntmps83, by kernel_rfl, by kernel_rfl, by kernel_rfl⟩
def inv83 (xs : List Int) (y : Int) (i : Nat) (σ : St) : Prop := (∀ j : Nat, j < i → ∀ x, xs[j]? = some x → (x == y) = false) ∧ σ.t 0 = tL (en eI xs) ∧ σ.t 1 = .i y ∧ σ.t 7 = .i xs.length ∧ σ.t 8 = .i i
def UEh_4 := Bx.mk <|
  aN (uA c83.eq_1) <| aN (uR r83_0.eq_1) <| aN (uA c83_15.eq_1) <| aN (uR r83_1.eq_1) <| aN (uA c83_14.eq_1) <| aN (uA c83_13.eq_1) <| aN (uR r83_16.eq_1) <| s83.eq_1
def UEh_7 := Bx.mk <|
  aN (uA c83_12.eq_1) <| aN (uR r83_2.eq_1) <| aN (uA c83_3.eq_1) <| aN (uA c83_10.eq_1) <| aN (uA c83_9.eq_1) <| aN (uR r83_4.eq_1) <| aN (uR r83_5.eq_1) <| aN (uA c83_8.eq_1) <| aN (uA c83_7.eq_1) <| aN (uR r83_6.eq_1) <| aN (uR r83_11.eq_1) <| aN (uA c83.eq_1) <| aN (uR r83_0.eq_1) <| aN (uA c83_15.eq_1) <| aN (uR r83_1.eq_1) <| aN (uA c83_14.eq_1) <| aN (uA c83_13.eq_1) <| aN (uR r83_16.eq_1) <| s83.eq_1
theorem index_int (xs : List Int) (y : Int) (hl : xs.length ≤ 2000000) : ACallsF Tryz.prog 83 [tL (en eI xs), .i y] [] (.i (ixf (fun x => x == y) xs)) := by
  refine ACallsF.intro ok83 follows fun X c0 => ?_
  simp only [RZ, reduceAdd, reduceIte, reduceEqDiff, reduceLT, reduceLeDiff, reduceCtorEq, Nat.reduceBEq, UEh_4.d]
  refine AW.upto xs.length (inv83 xs y) ⟨fun j hj => absurd hj (Nat.not_lt_zero j), rfl, rfl, rfl, rfl⟩ fun i t H c hi h => ?_
  obtain ⟨a, e0, e1, e7, e8⟩ := h
  simp only [T.c, T.i, tL] at e0 e1 e7 e8
  by_cases k1 : (i : Int) < xs.length
  · obtain ⟨x, hx⟩ : ∃ x, xs[i]? = some x := ⟨_, List.getElem?_eq_getElem (by omega)⟩
    have ex := en_at eI hx
    have gz : (0 : Int) ≤ i := by omega
    have gw := w1_ok (i := i) (by omega)
    by_cases c1 : y = x
    · have k2 := eqb c1
      rw [ixf_at hx (show (x == y) = true from eqb c1.symm) a]
      simp only [RZ, reduceAdd, reduceIte, reduceEqDiff, reduceLT, reduceLeDiff, reduceCtorEq, Nat.reduceBEq, UEh_7.d, e0, e1, e7, e8, k1, ex, gz, gw, eI, k2]
    · have k2 := neqb c1
      simp only [RZ, reduceAdd, reduceIte, reduceEqDiff, reduceLT, reduceLeDiff, reduceCtorEq, Nat.reduceBEq, UEh_7.d, e0, e1, e7, e8, k1, ex, gz, gw, eI, k2]
      exact ⟨by omega, upto_next a hx (neqb fun e => c1 e.symm), e0, e1, e7, rfl⟩
  · have e : ixf (fun x => x == y) xs = -1 := ixf_no fun j z hz => a j (by have := (List.getElem?_eq_some_iff.1 hz).1; omega) z hz
    rw [e]
    simp only [RZ, reduceAdd, reduceIte, reduceEqDiff, reduceLT, reduceLeDiff, reduceCtorEq, Nat.reduceBEq, UEh_7.d, UEh_4.d, e0, e1, e7, e8, k1]
/- slices.Contains[[]int,int] -/
def r43_0 : List AOper := [ao 0 4 (.mv (.k (.b false)))]
def r43_1 : List AOper := [ao 0 5 (.mv (.t 0)),
  ao 1 6 (.mv (.t 1)),
  ao 2 7 (.call (.k (.c (.fn 83 []))) [(.t 5), (.t 6)]),
  ao 3 8 (.bin .geq (.t 7) (.k (.i 0))),
  ao 4 4 (.mv (.t 8))]
def c43 : ACode := .seq (.reg r43_0) (.seq (.reg r43_1) .ret)
def s43 : List ARes := [.tmp 4]
theorem ok43 : okF Tryz.prog 43 9 c43 s43 := ⟨Tryz.f43, Tryz.func43, Tryz.ntmps43, by kernel_rfl, by kernel_rfl, by kernel_rfl⟩
def UEh_5 := Bx.mk <|
  aN (uA c43.eq_1) <| aN (uR r43_0.eq_1) <| aN (uR r43_1.eq_1) <| s43.eq_1
theorem contains_int (xs : List Int) (y : Int) (hl : xs.length ≤ 2000000) : ACallsF Tryz.prog 43 [tL (en eI xs), .i y] [] (.b (xs.any fun x => x == y)) := by
  refine ACallsF.intro ok43 follows fun X c0 => ?_
  rw [← ixf_any]
  simp only [RZ, reduceAdd, reduceIte, reduceEqDiff, reduceLT, reduceLeDiff, reduceCtorEq, Nat.reduceBEq, UEh_5.d]
  refine callC (index_int xs y hl) rfl rfl rfl rfl ?_
  simp only [RZ, reduceAdd, reduceIte, reduceEqDiff, reduceLT, reduceLeDiff, reduceCtorEq, Nat.reduceBEq, UEh_5.d, ge_iff_le]
theorem opn_has {w : CW} (who k : Int) : ((opn (ways w who)).any fun x => x == k) = true ↔ 0 ≤ k ∧ (ways w who)[k.toNat]? = some true := by
  have hl := ways_len w who
  simp only [opn, opnN, List.any_eq_true, List.mem_map, List.mem_filter, List.mem_range, beq_iff_eq]
  constructor
  · rintro ⟨x, ⟨j, ⟨h1, h2⟩, rfl⟩, rfl⟩
    refine ⟨by omega, ?_⟩
    rw [List.getD_eq_getElem?_getD] at h2
    rw [Int.toNat_natCast]
    cases hq : (ways w who)[j]? with
    | none => rw [hq] at h2; cases h2
    | some b => rw [hq] at h2; rw [show b = true from h2]
  · rintro ⟨h1, h2⟩
    refine ⟨k, ⟨k.toNat, ⟨by have := (List.getElem?_eq_some_iff.1 h2).1; omega, ?_⟩, by omega⟩, rfl⟩
    rw [List.getD_eq_getElem?_getD, h2]; rfl
end Go.V
set_option linter.unusedVariables false
set_option linter.unusedSimpArgs false
namespace Go.V
open Go.Proofs
open Nat (reduceAdd reduceEqDiff reduceLT reduceLeDiff)
abbrev sI (v : Nat) (xs : List Int) : Blk := .arr v false 1 3 (en eI xs)
abbrev sH (v : Nat) (xs : List Hd) : Blk := .arr v false 2 68 (en eH xs)
/-- a1 a2 a3 a4 a5 a6 a7 world of own arrays behind a pointer: what stands there behind the call. -/
abbrev inH (v a1 a2 a3 a4 a5 a6 a7 m0 m : Nat) (w : CW) (B b1 b2 b3 b4 b5 b6 b7 : Blk) (k : Bool) : List Hand := [⟨1000, m0, some (.var v 26 (oC 1001 1002 1003 1004 1005 1006 1007 a1 a2 a3 a4 a5 a6 a7 w)), B, true⟩, ⟨1001, m + 1, some (bI a1 w.queue), b1, k⟩, ⟨1002, m + 2, some (bH a2 w.hands), b2, k⟩, ⟨1003, m + 3, some (bI a3 w.results), b3, k⟩, ⟨1004, m + 4, some (bI a4 w.ring), b4, k⟩, ⟨1005, m + 5, some (bI a5 w.out), b5, k⟩, ⟨1006, m + 6, some (bI a6 w.got), b6, k⟩, ⟨1007, m + 7, some (bI a7 w.shut), b7, k⟩]
abbrev kH (v a1 a2 a3 a4 a5 a6 a7 m0 m : Nat) (w : CW) : List Hand := inH v a1 a2 a3 a4 a5 a6 a7 m0 m w (.var v 26 (oC 1001 1002 1003 1004 1005 1006 1007 a1 a2 a3 a4 a5 a6 a7 w)) (bI a1 w.queue) (bH a2 w.hands) (bI a3 w.results) (bI a4 w.ring) (bI a5 w.out) (bI a6 w.got) (bI a7 w.shut) true
/-- .. all of it given over: it is closed behind the call. -/
abbrev iZ (v a1 a2 a3 a4 a5 a6 a7 m0 m : Nat) (w w' w'' : CW) : List Hand := inH v a1 a2 a3 a4 a5 a6 a7 m0 m w (cwB v w') (sI 0 w''.queue) (sH 0 w''.hands) (sI 0 w''.results) (sI 0 w''.ring) (sI 0 w''.out) (sI 0 w''.got) (sI 0 w''.shut) false
abbrev iZo (v m0 m n : Nat) (w' w'' : CW) : List (Nat × Blk) := [(m0, cwB v w'), (m + 1, (sI n w''.queue)), (m + 2, (sH n w''.hands)), (m + 3, (sI n w''.results)), (m + 4, (sI n w''.ring)), (m + 5, (sI n w''.out)), (m + 6, (sI n w''.got)), (m + 7, (sI n w''.shut))]
theorem callB {P : Program} {t : Nat → T} {H : HMap} {c : Nat} {f : Opd} {args : List Opd} {fid : FuncId} {k : Nat} {d : Option Nat} {un : List Nat} {l : List AOper} {prev : List (Nat × List Nat × List Nat)} {K : St → Prop} {argsC «as» : List T} {hs : List Hand} {r r' : T} {ob : List (Nat × Blk)}
    (hC : ACallsF P fid argsC hs r) (hf : ev t f = .pt (.one (.fn fid []))) (hl : lendTs H argsC (args.map (ev t)) = some («as», [], [])) (ha : renITs hs argsC = some «as») (hi : handsIn H hs hs) (hm : (hs.map (·.m)).Nodup) (hc : (hs.map (·.c)).Nodup) (hr : renOT hs (c + k) r = some r') (ho : renOBs hs (c + k) hs = some ob)
    (hk : chk prev un ⟨r', ob, hs.map (·.m), hs.map (·.m)⟩ = true ∧ DRun P l ((k, hs.map (·.m), hs.map (·.m)) :: prev) K ⟨updD t d r', updH H ob, c⟩) :
    step P k d un (.call f args) l prev K t H c := by
  refine callW (caps := []) («as» := «as») (ws := []) (ns := []) (r' := r') (ob := ob) hs hC hf (by simpa using hl) ha hi hm hc hr ho ?_
  simpa only [ite_self, List.nil_append] using hk
def UEi_1 := Bx.mk <|
  aN (uA c85.eq_1) <| aN (uR r85_0.eq_1) <| aN (uR r85_1.eq_1) <| s85.eq_1
theorem closerO_ok {w : CW} (h : Form w) (v a1 a2 a3 a4 a5 a6 a7 m0 m : Nat) : ACallsF Tryz.prog 85 [wP 1000 v] (kH v a1 a2 a3 a4 a5 a6 a7 m0 m w) (.i (w.workers + 1)) := by
  have hk := h.st.k
  have w1 : IntKind.i64.wrap (w.workers + 1) = w.workers + 1 := wrap64 ⟨by omega, by omega⟩
  refine ACallsF.intro ok85 follows fun X c0 => ?_
  simp only [RZ, reduceAdd, reduceIte, reduceEqDiff, reduceLT, reduceLeDiff, reduceCtorEq, Nat.reduceBEq, kH, inH, wP, UEi_1.d, w1, imp_self, forall_const, and_self]
def UEi_2 := Bx.mk <|
  aN (uA c86.eq_1) <| aN (uR r86_0.eq_1) <| aN (uR r86_1.eq_1) <| s86.eq_1
theorem keeperO_ok {w : CW} (h : Form w) (v a1 a2 a3 a4 a5 a6 a7 m0 m : Nat) : ACallsF Tryz.prog 86 [wP 1000 v] (kH v a1 a2 a3 a4 a5 a6 a7 m0 m w) (.i (w.workers + 2)) := by
  have hk := h.st.k
  have w1 : IntKind.i64.wrap (w.workers + 2) = w.workers + 2 := wrap64 ⟨by omega, by omega⟩
  refine ACallsF.intro ok86 follows fun X c0 => ?_
  simp only [RZ, reduceAdd, reduceIte, reduceEqDiff, reduceLT, reduceLeDiff, reduceCtorEq, Nat.reduceBEq, kH, inH, wP, UEi_2.d, w1, imp_self, forall_const, and_self]
def UEi_3 := Bx.mk <|
  aN (uA c88.eq_1) <| aN (uR r88_0.eq_1) <| aN (uR r88_1.eq_1) <| s88.eq_1
theorem userO_ok {w : CW} (h : Form w) (v a1 a2 a3 a4 a5 a6 a7 m0 m : Nat) : ACallsF Tryz.prog 88 [wP 1000 v] (kH v a1 a2 a3 a4 a5 a6 a7 m0 m w) (.i (w.workers + 3)) := by
  have hk := h.st.k
  have w1 : IntKind.i64.wrap (w.workers + 3) = w.workers + 3 := wrap64 ⟨by omega, by omega⟩
  refine ACallsF.intro ok88 follows fun X c0 => ?_
  simp only [RZ, reduceAdd, reduceIte, reduceEqDiff, reduceLT, reduceLeDiff, reduceCtorEq, Nat.reduceBEq, kH, inH, wP, UEi_3.d, w1, imp_self, forall_const, and_self]
def UEi_4 := Bx.mk <|
  aN (uA c78.eq_1) <| aN (uR r78_0.eq_1) <| aN (uR r78_1.eq_1) <| s78.eq_1
theorem hasDueO_ok {w : CW} (h : Form w) (v a1 a2 a3 a4 a5 a6 a7 m0 m : Nat) : ACallsF Tryz.prog 78 [wP 1000 v] (kH v a1 a2 a3 a4 a5 a6 a7 m0 m w) (.b (decide (Due w))) := by
  have hn := h.st.n
  have hs := slot_lt h
  have ht := slot_int h
  have hz : ¬ w.window = 0 := by omega
  have gz : (0 : Int) ≤ slot w := by omega
  have g2 : (slot w : Int) < w.ring.length := by omega
  obtain ⟨x, hx⟩ : ∃ x, w.ring[slot w]? = some x := ⟨_, List.getElem?_eq_getElem (by omega)⟩
  have ex := en_at eI hx
  have e : decide (Due w) = (x == w.due) := by rw [Bool.eq_iff_iff, decide_eq_true_eq, Due, hx, beq_iff_eq, Option.some.injEq]
  rw [e]
  refine ACallsF.intro ok78 follows fun X c0 => ?_
  simp only [RZ, reduceAdd, reduceIte, reduceEqDiff, reduceLT, reduceLeDiff, reduceCtorEq, Nat.reduceBEq, kH, inH, wP, UEi_4.d, hz, ht, gz, g2, ex, eI, Int.toNat_natCast, imp_self, forall_const, and_self]
def UEi_5 := Bx.mk <|
  aN (uA c90.eq_1) <| aN (uR r90_0.eq_1) <| aN (uA c90_5.eq_1) <| aN (uR r90_1.eq_1) <| aN (uA c90_4.eq_1) <| aN (uA c90_3.eq_1) <| aN (uR r90_2.eq_1) <| aN (uR r90_6.eq_1) <| s90.eq_1
theorem clone0_ok (xs : List Int) (hl : xs.length ≤ 2000000) : ACallsF Tryz.prog 90 [tL (en eI xs)] [] (tL (en eI xs)) := by
  have q1 : xs.length * 8 ≤ 140737488355328 := by omega
  have q2 : xs.length ≤ 9223372036854775807 := by omega
  have hb1 : (true != false) = true := rfl
  have hb2 : (false != false) = false := rfl
  cases xs with
  | nil =>
    refine nilArgH fun ad c => ?_
    cases ad with
    | none =>
      refine ACallsF.intro ok90 follows fun X c0 => ?_
      simp only [RZ, reduceAdd, reduceIte, reduceEqDiff, reduceLT, reduceLeDiff, reduceCtorEq, Nat.reduceBEq, UEi_5.d, Option.isNone_none, hb1]
    | some a =>
      refine ACallsF.intro ok90 follows fun X c0 => ?_
      simp only [RZ, reduceAdd, reduceIte, reduceEqDiff, reduceLT, reduceLeDiff, reduceCtorEq, Nat.reduceBEq, UEi_5.d, Option.isNone_some, hb2, Nat.zero_mul, Nat.zero_le, List.not_mem_nil, false_implies, implies_true, imp_self]
  | cons y ys =>
    refine ACallsF.intro ok90 follows fun X c0 => ?_
    obtain ⟨x, es, he⟩ : ∃ x es, en eI (y :: ys) = x :: es := ⟨_, _, rfl⟩
    have hall := en_all eI eI_len (y :: ys)
    have hlen := en_len eI (y :: ys)
    rw [he] at hall hlen ⊢
    simp only [List.length_cons] at hlen q1 q2
    have hlen' : es.length = ys.length := by omega
    have ht : es.take ys.length = es := by rw [← hlen', List.take_length]
    simp only [RUX, Nat.reduceAdd, reduceIte, Nat.reduceEqDiff, Nat.reduceLT, Nat.reduceLeDiff, reduceCtorEq, eq_self, FIX, forall_const, endE_n, endE_r, CHT, disj, Nat.reduceBEq, beq_self_eq_true, APT, srcOf, sealPs, sealCs, sealC, UEi_5.d, hall, hlen', ht, q1, q2, Nat.zero_add, imp_self]
theorem scL (es : List (List V)) : scalarT (.pt (.one (.v (.sl es)))) = false := rfl
/- loop.example/teagle/impl.first -/
def r95_0 : List AOper := [ao 0 2 (.mv (.k (.i 0)))]
def r95_1 : List AOper := [ao 0 4 (.mv (.t 0)),
  ao 1 5 (.nck (.t 4)),
  ao 2 6 (.ld 1 false (.t 5)),
  ao 3 7 (.ia 1 (.t 6) (.k (.i 0))),
  ao 4 8 (.ld 1 false (.t 7)),
  ao 5 3 (.mv (.t 8))]
def r95_2 : List AOper := [ao 0 9 (.mv (.t 0)),
  ao 1 10 (.mv (.t 0)),
  ao 2 11 (.nck (.t 10)),
  ao 3 12 (.ld 1 false (.t 11)),
  ao 4 13 (.slc 1 (.t 12) (some (.k (.i 1))) none),
  ao 5 14 (.call (.k (.c (.fn 90 []))) [(.t 13)]),
  ao 6 15 (.nck (.t 9)),
  an 7 (.st 1 (.t 15) (.t 14))]
def r95_3 : List AOper := [ao 0 16 (.mv (.t 3)),
  ao 1 2 (.mv (.t 16))]
def c95 : ACode := .seq (.reg r95_0) (.seq (.reg r95_1) (.seq (.reg r95_2) (.seq (.reg r95_3) .ret)))
def s95 : List ARes := [.tmp 2]
theorem ok95 : okF Tryz.prog 95 17 c95 s95 := ⟨Tryz.f95, Tryz.func95, Tryz.ntmps95, by kernel_rfl, by kernel_rfl, by kernel_rfl⟩
abbrev fC1 (c1 c2 c3 c4 c5 c6 c7 v1 v2 v3 v4 v5 v6 v7 : Nat) (w : CW) : List C := [iC w.jobs, iC w.workers, iC w.window, iC w.next, iC w.reader, lC (w.queue.drop 1), .own c2 v2 w.hands.length, iC w.closer, .own c3 v3 w.results.length, iC w.keeper, .own c4 v4 w.ring.length, iC w.due, .own c5 v5 w.out.length, iC w.user, .own c6 v6 w.got.length, iC w.room, .own c7 v7 w.shut.length, iC w.ops]
abbrev fH1 (v a1 a2 a3 a4 a5 a6 a7 m0 m : Nat) (w : CW) : List Hand := inH v a1 a2 a3 a4 a5 a6 a7 m0 m w (.var v 26 (fC1 1001 1002 1003 1004 1005 1006 1007 a1 a2 a3 a4 a5 a6 a7 w)) (sI a1 w.queue) (bH a2 w.hands) (bI a3 w.results) (bI a4 w.ring) (bI a5 w.out) (bI a6 w.got) (bI a7 w.shut) true
def UEi_6 := Bx.mk <|
  aN (uA c95.eq_1) <| aN (uR r95_0.eq_1) <| aN (uR r95_1.eq_1) <| aN (uR r95_2.eq_1) <| aN (uR r95_3.eq_1) <| s95.eq_1
set_option maxHeartbeats 1000000 in
theorem first1_ok {w : CW} (h0 : 0 < w.queue.length) (hl : w.queue.length ≤ 2000000) (v a1 a2 a3 a4 a5 a6 a7 m0 m : Nat) : ACallsF Tryz.prog 95 [.c (.ptr 1000 v 5)] (fH1 v a1 a2 a3 a4 a5 a6 a7 m0 m w) (.i (w.queue.getD 0 0)) := by
  have g1 : (0 : Int) < (w.queue.length : Int) := by omega
  have g2 : (1 : Int) ≤ (w.queue.length : Int) := by omega
  have g3 : 1 + (w.queue.length - 1) ≤ w.queue.length := by omega
  have e0 := q_at h0
  refine ACallsF.intro ok95 follows fun X c0 => ?_
  simp only [RZ, reduceAdd, reduceIte, reduceEqDiff, reduceLT, reduceLeDiff, reduceCtorEq, Nat.reduceBEq, fH1, fC1, inH, wP, UEi_6.d, g1, g2, g3, e0, eI, lohi, Int.le_refl, Nat.le_refl, SNT]
  refine callL (ws := [(1001, sI a1 w.queue)]) (ns := [1001]) (clone0_ok (w.queue.drop 1) (by rw [List.length_drop]; omega)) rfl ?_ rfl rfl ⟨rfl, ?_⟩
  · simp only [lendTs, lendT, lendC, sealC, List.map_cons, List.map_nil, ev, upd, Nat.reduceEqDiff, reduceIte, hinOf, renN, List.find?, Nat.reduceBEq, Option.bind_some, en_len, g3, and_self, Option.map_some, q_drop, List.append_nil]
  simp only [RZ, reduceAdd, reduceIte, reduceEqDiff, reduceLT, reduceLeDiff, reduceCtorEq, Nat.reduceBEq, fH1, fC1, inH, wP, UEi_6.d, scL, imp_self, forall_const, and_self]
abbrev fC3 (c1 c2 c3 c4 c5 c6 c7 v1 v2 v3 v4 v5 v6 v7 : Nat) (w : CW) : List C := [iC w.jobs, iC w.workers, iC w.window, iC w.next, iC w.reader, .own c1 v1 w.queue.length, .own c2 v2 w.hands.length, iC w.closer, lC (w.results.drop 1), iC w.keeper, .own c4 v4 w.ring.length, iC w.due, .own c5 v5 w.out.length, iC w.user, .own c6 v6 w.got.length, iC w.room, .own c7 v7 w.shut.length, iC w.ops]
abbrev fH3 (v a1 a2 a3 a4 a5 a6 a7 m0 m : Nat) (w : CW) : List Hand := inH v a1 a2 a3 a4 a5 a6 a7 m0 m w (.var v 26 (fC3 1001 1002 1003 1004 1005 1006 1007 a1 a2 a3 a4 a5 a6 a7 w)) (bI a1 w.queue) (bH a2 w.hands) (sI a3 w.results) (bI a4 w.ring) (bI a5 w.out) (bI a6 w.got) (bI a7 w.shut) true
set_option maxHeartbeats 1000000 in
theorem first3_ok {w : CW} (h0 : 0 < w.results.length) (hl : w.results.length ≤ 2000000) (v a1 a2 a3 a4 a5 a6 a7 m0 m : Nat) : ACallsF Tryz.prog 95 [.c (.ptr 1000 v 8)] (fH3 v a1 a2 a3 a4 a5 a6 a7 m0 m w) (.i (w.results.getD 0 0)) := by
  have g1 : (0 : Int) < (w.results.length : Int) := by omega
  have g2 : (1 : Int) ≤ (w.results.length : Int) := by omega
  have g3 : 1 + (w.results.length - 1) ≤ w.results.length := by omega
  have e0 := q_at h0
  refine ACallsF.intro ok95 follows fun X c0 => ?_
  simp only [RZ, reduceAdd, reduceIte, reduceEqDiff, reduceLT, reduceLeDiff, reduceCtorEq, Nat.reduceBEq, fH3, fC3, inH, wP, UEi_6.d, g1, g2, g3, e0, eI, lohi, Int.le_refl, Nat.le_refl, SNT]
  refine callL (ws := [(1003, sI a3 w.results)]) (ns := [1003]) (clone0_ok (w.results.drop 1) (by rw [List.length_drop]; omega)) rfl ?_ rfl rfl ⟨rfl, ?_⟩
  · simp only [lendTs, lendT, lendC, sealC, List.map_cons, List.map_nil, ev, upd, Nat.reduceEqDiff, reduceIte, hinOf, renN, List.find?, Nat.reduceBEq, Option.bind_some, en_len, g3, and_self, Option.map_some, q_drop, List.append_nil]
  simp only [RZ, reduceAdd, reduceIte, reduceEqDiff, reduceLT, reduceLeDiff, reduceCtorEq, Nat.reduceBEq, fH3, fC3, inH, wP, UEi_6.d, scL, imp_self, forall_const, and_self]
abbrev fC5 (c1 c2 c3 c4 c5 c6 c7 v1 v2 v3 v4 v5 v6 v7 : Nat) (w : CW) : List C := [iC w.jobs, iC w.workers, iC w.window, iC w.next, iC w.reader, .own c1 v1 w.queue.length, .own c2 v2 w.hands.length, iC w.closer, .own c3 v3 w.results.length, iC w.keeper, .own c4 v4 w.ring.length, iC w.due, lC (w.out.drop 1), iC w.user, .own c6 v6 w.got.length, iC w.room, .own c7 v7 w.shut.length, iC w.ops]
abbrev fH5 (v a1 a2 a3 a4 a5 a6 a7 m0 m : Nat) (w : CW) : List Hand := inH v a1 a2 a3 a4 a5 a6 a7 m0 m w (.var v 26 (fC5 1001 1002 1003 1004 1005 1006 1007 a1 a2 a3 a4 a5 a6 a7 w)) (bI a1 w.queue) (bH a2 w.hands) (bI a3 w.results) (bI a4 w.ring) (sI a5 w.out) (bI a6 w.got) (bI a7 w.shut) true
set_option maxHeartbeats 1000000 in
theorem first5_ok {w : CW} (h0 : 0 < w.out.length) (hl : w.out.length ≤ 2000000) (v a1 a2 a3 a4 a5 a6 a7 m0 m : Nat) : ACallsF Tryz.prog 95 [.c (.ptr 1000 v 12)] (fH5 v a1 a2 a3 a4 a5 a6 a7 m0 m w) (.i (w.out.getD 0 0)) := by
  have g1 : (0 : Int) < (w.out.length : Int) := by omega
  have g2 : (1 : Int) ≤ (w.out.length : Int) := by omega
  have g3 : 1 + (w.out.length - 1) ≤ w.out.length := by omega
  have e0 := q_at h0
  refine ACallsF.intro ok95 follows fun X c0 => ?_
  simp only [RZ, reduceAdd, reduceIte, reduceEqDiff, reduceLT, reduceLeDiff, reduceCtorEq, Nat.reduceBEq, fH5, fC5, inH, wP, UEi_6.d, g1, g2, g3, e0, eI, lohi, Int.le_refl, Nat.le_refl, SNT]
  refine callL (ws := [(1005, sI a5 w.out)]) (ns := [1005]) (clone0_ok (w.out.drop 1) (by rw [List.length_drop]; omega)) rfl ?_ rfl rfl ⟨rfl, ?_⟩
  · simp only [lendTs, lendT, lendC, sealC, List.map_cons, List.map_nil, ev, upd, Nat.reduceEqDiff, reduceIte, hinOf, renN, List.find?, Nat.reduceBEq, Option.bind_some, en_len, g3, and_self, Option.map_some, q_drop, List.append_nil]
  simp only [RZ, reduceAdd, reduceIte, reduceEqDiff, reduceLT, reduceLeDiff, reduceCtorEq, Nat.reduceBEq, fH5, fC5, inH, wP, UEi_6.d, scL, imp_self, forall_const, and_self]
end Go.V
set_option linter.unusedVariables false
set_option linter.unusedSimpArgs false
namespace Go.V
open Go.Proofs
open Nat (reduceAdd reduceEqDiff reduceLT reduceLeDiff)
theorem nd8 : [1000, 1001, 1002, 1003, 1004, 1005, 1006, 1007].Nodup := by decide
/- (*loop.example/teagle/impl.CrewWorld).moveReader -/
def r92_0 : List AOper := [ao 0 29 (.mv (.t 0)),
  ao 1 30 (.nck (.t 29)),
  ao 2 31 (.fa 4 (.t 30)),
  ao 3 32 (.ld 1 false (.t 31)),
  ao 4 33 (.bin .eql (.t 32) (.k (.i 2))),
  ao 5 28 (.mv (.t 33))]
def r92_1 : List AOper := [ao 0 34 (.mv (.t 0)),
  ao 1 35 (.call (.k (.c (.fn 93 []))) [(.t 34), (.k (.i 0))])]
def r92_2 : List AOper := [ao 0 36 (.mv (.t 0)),
  ao 1 37 (.nck (.t 36)),
  ao 2 38 (.fa 4 (.t 37)),
  an 3 (.st 1 (.t 38) (.k (.i 3)))]
def c92_3 : ACode := .seq (.reg r92_1) (.reg r92_2)
def r92_4 : List AOper := [ao 0 40 (.mv (.t 1)),
  ao 1 41 (.bin .gtr (.t 40) (.k (.i 0))),
  ao 2 39 (.mv (.t 41))]
def r92_5 : List AOper := [ao 0 42 (.mv (.t 0)),
  ao 1 43 (.nck (.t 42)),
  ao 2 44 (.fa 4 (.t 43)),
  an 3 (.st 1 (.t 44) (.k (.i 2)))]
def r92_6 : List AOper := [ao 0 46 (.mv (.t 0)),
  ao 1 47 (.nck (.t 46)),
  ao 2 48 (.fa 4 (.t 47)),
  ao 3 49 (.ld 1 false (.t 48)),
  ao 4 50 (.bin .eql (.t 49) (.k (.i 0))),
  ao 5 45 (.mv (.t 50))]
def r92_7 : List AOper := [ao 0 51 (.mv (.t 0)),
  ao 1 52 (.nck (.t 51)),
  ao 2 53 (.fa 15 (.t 52)),
  ao 3 54 (.ld 1 false (.t 53)),
  ao 4 55 (.bin .sub (.t 54) (.k (.i 1))),
  ao 5 56 (.nck (.t 51)),
  ao 6 57 (.fa 15 (.t 56)),
  an 7 (.st 1 (.t 57) (.t 55))]
def r92_8 : List AOper := [ao 0 58 (.mv (.t 0)),
  ao 1 59 (.nck (.t 58)),
  ao 2 60 (.fa 3 (.t 59)),
  ao 3 61 (.ld 1 false (.t 60)),
  ao 4 62 (.bin .add (.t 61) (.k (.i 1))),
  ao 5 63 (.nck (.t 58)),
  ao 6 64 (.fa 3 (.t 63)),
  an 7 (.st 1 (.t 64) (.t 62))]
def r92_9 : List AOper := [ao 0 65 (.mv (.t 0)),
  ao 1 66 (.nck (.t 65)),
  ao 2 67 (.fa 17 (.t 66)),
  ao 3 68 (.ld 1 false (.t 67)),
  ao 4 69 (.bin .add (.t 68) (.k (.i 1))),
  ao 5 70 (.nck (.t 65)),
  ao 6 71 (.fa 17 (.t 70)),
  an 7 (.st 1 (.t 71) (.t 69))]
def r92_10 : List AOper := [ao 0 72 (.mv (.t 0)),
  ao 1 73 (.nck (.t 72)),
  ao 2 74 (.fa 4 (.t 73)),
  an 3 (.st 1 (.t 74) (.k (.i 1)))]
def c92_11 : ACode := .seq (.reg r92_7) (.seq (.reg r92_8) (.seq (.reg r92_9) (.reg r92_10)))
def r92_12 : List AOper := [ao 0 4 (.mv (.t 0)),
  au 1 5 [0] (.mv (.t 0)),
  au 2 6 [0] (.nck (.t 5)),
  au 3 7 [0] (.fa 5 (.t 6)),
  au 4 8 [0] (.ld 1 false (.t 7)),
  au 5 9 (ru 5) (.mv (.t 0)),
  au 6 10 (ru 5) (.nck (.t 9)),
  au 7 11 (ru 5) (.fa 3 (.t 10)),
  au 8 12 (ru 5) (.ld 1 false (.t 11)),
  au 9 13 (ru 5) (.bin .sub (.t 12) (.k (.i 1))),
  au 10 14 (ru 5) (.bsl 1 3 [(.t 13)]),
  au 11 15 [0] (.app 1 3 8 (.t 8) (.t 14)),
  ao 12 16 (.nck (.t 4)),
  ao 13 17 (.fa 5 (.t 16)),
  an 14 (.st 1 (.t 17) (.t 15))]
def r92_13 : List AOper := [ao 0 18 (.mv (.t 0)),
  ao 1 19 (.nck (.t 18)),
  ao 2 20 (.fa 17 (.t 19)),
  ao 3 21 (.ld 1 false (.t 20)),
  ao 4 22 (.bin .add (.t 21) (.k (.i 1))),
  ao 5 23 (.nck (.t 18)),
  ao 6 24 (.fa 17 (.t 23)),
  an 7 (.st 1 (.t 24) (.t 22))]
def r92_14 : List AOper := [ao 0 25 (.mv (.t 0)),
  ao 1 26 (.nck (.t 25)),
  ao 2 27 (.fa 4 (.t 26)),
  an 3 (.st 1 (.t 27) (.k (.i 0)))]
def c92_15 : ACode := .seq (.reg r92_12) (.seq (.reg r92_13) (.reg r92_14))
def c92_16 : ACode := .cond (.t 45) c92_11 c92_15
def c92_17 : ACode := .seq (.reg r92_6) c92_16
def c92_18 : ACode := .cond (.t 39) (.reg r92_5) c92_17
def c92_19 : ACode := .seq (.reg r92_4) c92_18
def c92_20 : ACode := .cond (.t 28) c92_3 c92_19
def c92_21 : ACode := .seq (.reg r92_0) c92_20
def c92 : ACode := .block 0 c92_21
def s92 : List ARes := []
theorem ok92 : okF Tryz.prog 92 75 c92 s92 := ⟨Tryz.f92, Tryz.func92, Tryz.ntmps92, by kernel_rfl, by kernel_rfl, by kernel_rfl⟩
def UEj_1 := Bx.mk <|
  aN (uA c92.eq_1) <| aN (uA c92_21.eq_1) <| aN (uR r92_0.eq_1) <| aN (uA c92_20.eq_1) <| aN (uA c92_3.eq_1) <| aN (uR r92_1.eq_1) <| aN (uR r92_2.eq_1) <| aN (uA c92_19.eq_1) <| aN (uR r92_4.eq_1) <| aN (uA c92_18.eq_1) <| aN (uR r92_5.eq_1) <| aN (uA c92_17.eq_1) <| aN (uR r92_6.eq_1) <| aN (uA c92_16.eq_1) <| aN (uA c92_11.eq_1) <| aN (uR r92_7.eq_1) <| aN (uR r92_8.eq_1) <| aN (uR r92_9.eq_1) <| aN (uR r92_10.eq_1) <| aN (uA c92_15.eq_1) <| aN (uR r92_12.eq_1) <| aN (uR r92_13.eq_1) <| aN (uR r92_14.eq_1) <| s92.eq_1
set_option maxHeartbeats 2000000 in
theorem moveReader_ok {w : CW} (f : Form w) (way : Int) (v a1 a2 a3 a4 a5 a6 a7 m0 m : Nat) : ACallsF Tryz.prog 92 [wP 1000 v, .i way] (iZ v a1 a2 a3 a4 a5 a6 a7 m0 m w (doR w way) (doR w way)) (.tup []) := by
  have hls : w.shut.length = 4 := by have := f.ls; omega
  have ho := f.ops0
  have ho2 := f.ops1
  have hn := f.next
  have hj := f.st.j
  have hr := f.room
  have hw := f.st.n
  have hq := f.small.q
  have w1 : IntKind.i64.wrap (w.ops + 1) = w.ops + 1 := wrap64 ⟨by omega, by omega⟩
  have w2 : IntKind.i64.wrap (w.next + 1) = w.next + 1 := wrap64 ⟨by omega, by omega⟩
  have w3 : IntKind.i64.wrap (w.next - 1) = w.next - 1 := wrap64 ⟨by omega, by omega⟩
  have w4 : IntKind.i64.wrap (w.room - 1) = w.room - 1 := wrap64 ⟨by omega, by omega⟩
  have q1 : (w.queue.length + 1) * 8 ≤ 140737488355328 := by omega
  have q2 : w.queue.length + 1 ≤ 9223372036854775807 := by omega
  refine ACallsF.intro ok92 follows fun X c0 => ?_
  by_cases c0 : w.reader = 2
  · have k0 := eqb c0
    rw [show doR w way = { w with reader := 3, shut := w.shut.set 0 1, ops := w.ops + 1 } by rw [doR, if_pos c0]]
    simp only [RZ, reduceAdd, reduceIte, reduceEqDiff, reduceLT, reduceLeDiff, reduceCtorEq, Nat.reduceBEq, kH, iZ, inH, wP, UEj_1.d, k0]
    refine callIn (m := 1000) (shut_ok hls ⟨ho, ho2⟩ 0 (by decide)) rfl rfl rfl (fun _ _ => rfl) rfl rfl rfl rfl rfl rfl rfl rfl (by decide) ⟨rfl, ?_⟩
    simp only [RZ, reduceAdd, reduceIte, reduceEqDiff, reduceLT, reduceLeDiff, reduceCtorEq, Nat.reduceBEq, kH, iZ, inH, wP, UEj_1.d, k0, shutW, SNT]
  have k0 := neqb c0
  by_cases c1 : way > 0
  · rw [show doR w way = { w with reader := 2 } by rw [doR, if_neg c0, if_pos c1]]
    simp only [RZ, reduceAdd, reduceIte, reduceEqDiff, reduceLT, reduceLeDiff, reduceCtorEq, Nat.reduceBEq, kH, iZ, inH, wP, UEj_1.d, k0, c1, SNT]
  by_cases c2 : w.reader = 0
  · have k2 := eqb c2
    rw [show doR w way = { w with room := w.room - 1, next := w.next + 1, reader := 1, ops := w.ops + 1 } by rw [doR, if_neg c0, if_neg c1, if_pos c2]]
    simp only [RZ, reduceAdd, reduceIte, reduceEqDiff, reduceLT, reduceLeDiff, reduceCtorEq, Nat.reduceBEq, kH, iZ, inH, wP, UEj_1.d, k0, c1, k2, SNT, w1, w2, w4]
  have k2 := neqb c2
  rw [show doR w way = { w with queue := w.queue ++ [w.next - 1], reader := 0, ops := w.ops + 1 } by rw [doR, if_neg c0, if_neg c1, if_neg c2]]
  simp only [RZ, reduceAdd, reduceIte, reduceEqDiff, reduceLT, reduceLeDiff, reduceCtorEq, Nat.reduceBEq, kH, iZ, inH, wP, UEj_1.d, k0, c1, k2, SNT, w1, w3, q1, q2]
/- (*loop.example/teagle/impl.CrewWorld).moveHand -/
def r96_0 : List AOper := [ao 0 30 (.mv (.t 2)),
  ao 1 31 (.bin .gtr (.t 30) (.k (.i 0))),
  ao 2 29 (.mv (.t 31))]
def r96_1 : List AOper := [ao 0 32 (.mv (.t 0)),
  ao 1 33 (.nck (.t 32)),
  ao 2 34 (.fa 17 (.t 33)),
  ao 3 35 (.ld 1 false (.t 34)),
  au 4 36 (ru 4) (.mv (.t 2)),
  au 5 37 (ru 4) (.bin .eql (.t 36) (.k (.i 2))),
  au 6 38 (ru 4) (.call (.k (.c (.fn 79 []))) [(.t 37)]),
  ao 7 39 (.bin .add (.t 35) (.t 38)),
  ao 8 40 (.nck (.t 32)),
  ao 9 41 (.fa 17 (.t 40)),
  an 10 (.st 1 (.t 41) (.t 39))]
def r96_2 : List AOper := [ao 0 42 (.mv (.t 1)),
  ao 1 43 (.build [(.v (.s (.int .i64 0))), (.v (.s (.int .i64 0)))] [(0, 1, (.k (.i 3)))]),
  ao 2 44 (.nck (.t 42)),
  an 3 (.st 2 (.t 44) (.t 43))]
def c96_3 : ACode := .seq (.reg r96_1) (.reg r96_2)
def r96_4 : List AOper := [ao 0 46 (.mv (.t 1)),
  ao 1 47 (.nck (.t 46)),
  ao 2 48 (.fa 0 (.t 47)),
  ao 3 49 (.ld 1 false (.t 48)),
  ao 4 50 (.bin .eql (.t 49) (.k (.i 0))),
  ao 5 45 (.mv (.t 50))]
def r96_5 : List AOper := [ao 0 51 (.mv (.t 1)),
  ao 1 52 (.mv (.t 0)),
  ao 2 53 (.nck (.t 52)),
  ao 3 54 (.fa 5 (.t 53)),
  ao 4 55 (.call (.k (.c (.fn 95 []))) [(.t 54)]),
  ao 5 56 (.build [(.v (.s (.int .i64 0))), (.v (.s (.int .i64 0)))] [(0, 1, (.k (.i 1))), (1, 1, (.t 55))]),
  ao 6 57 (.nck (.t 51)),
  an 7 (.st 2 (.t 57) (.t 56))]
def r96_6 : List AOper := [ao 0 58 (.mv (.t 0)),
  ao 1 59 (.nck (.t 58)),
  ao 2 60 (.fa 17 (.t 59)),
  ao 3 61 (.ld 1 false (.t 60)),
  ao 4 62 (.bin .add (.t 61) (.k (.i 1))),
  ao 5 63 (.nck (.t 58)),
  ao 6 64 (.fa 17 (.t 63)),
  an 7 (.st 1 (.t 64) (.t 62))]
def c96_7 : ACode := .seq (.reg r96_5) (.reg r96_6)
def r96_8 : List AOper := [ao 0 66 (.mv (.t 1)),
  ao 1 67 (.nck (.t 66)),
  ao 2 68 (.fa 0 (.t 67)),
  ao 3 69 (.ld 1 false (.t 68)),
  ao 4 70 (.bin .eql (.t 69) (.k (.i 1))),
  ao 5 65 (.mv (.t 70))]
def r96_9 : List AOper := [ao 0 71 (.mv (.t 1)),
  ao 1 72 (.nck (.t 71)),
  ao 2 73 (.fa 0 (.t 72)),
  an 3 (.st 1 (.t 73) (.k (.i 2)))]
def r96_10 : List AOper := [ao 0 6 (.mv (.t 0)),
  au 1 7 [0] (.mv (.t 0)),
  au 2 8 [0] (.nck (.t 7)),
  au 3 9 [0] (.fa 8 (.t 8)),
  au 4 10 [0] (.ld 1 false (.t 9)),
  au 5 11 (ru 5) (.mv (.t 1)),
  au 6 12 (ru 5) (.nck (.t 11)),
  au 7 13 (ru 5) (.fa 1 (.t 12)),
  au 8 14 (ru 5) (.ld 1 false (.t 13)),
  au 9 15 (ru 5) (.bsl 1 3 [(.t 14)]),
  au 10 16 [0] (.app 1 3 8 (.t 10) (.t 15)),
  ao 11 17 (.nck (.t 6)),
  ao 12 18 (.fa 8 (.t 17)),
  an 13 (.st 1 (.t 18) (.t 16))]
def r96_11 : List AOper := [ao 0 19 (.mv (.t 0)),
  ao 1 20 (.nck (.t 19)),
  ao 2 21 (.fa 17 (.t 20)),
  ao 3 22 (.ld 1 false (.t 21)),
  ao 4 23 (.bin .add (.t 22) (.k (.i 1))),
  ao 5 24 (.nck (.t 19)),
  ao 6 25 (.fa 17 (.t 24)),
  an 7 (.st 1 (.t 25) (.t 23))]
def r96_12 : List AOper := [ao 0 26 (.mv (.t 1)),
  ao 1 27 (.build [(.v (.s (.int .i64 0))), (.v (.s (.int .i64 0)))] []),
  ao 2 28 (.nck (.t 26)),
  an 3 (.st 2 (.t 28) (.t 27))]
def c96_13 : ACode := .seq (.reg r96_10) (.seq (.reg r96_11) (.reg r96_12))
def c96_14 : ACode := .cond (.t 65) (.reg r96_9) c96_13
def c96_15 : ACode := .seq (.reg r96_8) c96_14
def c96_16 : ACode := .cond (.t 45) c96_7 c96_15
def c96_17 : ACode := .seq (.reg r96_4) c96_16
def c96_18 : ACode := .cond (.t 29) c96_3 c96_17
def c96_19 : ACode := .seq (.reg r96_0) c96_18
def c96 : ACode := .block 0 c96_19
def s96 : List ARes := []
theorem ok96 : okF Tryz.prog 96 74 c96 s96 := ⟨Tryz.f96, Tryz.func96, Tryz.ntmps96, by kernel_rfl, by kernel_rfl, by kernel_rfl⟩
def UEj_2 := Bx.mk <|
  aN (uA c96.eq_1) <| aN (uA c96_19.eq_1) <| aN (uR r96_0.eq_1) <| aN (uA c96_18.eq_1) <| aN (uA c96_3.eq_1) <| aN (uR r96_1.eq_1) <| aN (uR r96_2.eq_1) <| aN (uA c96_17.eq_1) <| aN (uR r96_4.eq_1) <| aN (uA c96_16.eq_1) <| aN (uA c96_7.eq_1) <| aN (uR r96_5.eq_1) <| aN (uR r96_6.eq_1) <| aN (uA c96_15.eq_1) <| aN (uR r96_8.eq_1) <| aN (uA c96_14.eq_1) <| aN (uR r96_9.eq_1) <| aN (uA c96_13.eq_1) <| aN (uR r96_10.eq_1) <| aN (uR r96_11.eq_1) <| aN (uR r96_12.eq_1) <| s96.eq_1
set_option maxHeartbeats 2000000 in
theorem moveHand_ok {w : CW} (f : Form w) (i : Nat) (hi : i < w.hands.length) (way : Int) (hq : ¬ way > 0 → (hdAt w i).state = 0 → 0 < w.queue.length) (v a1 a2 a3 a4 a5 a6 a7 m0 m : Nat) : ACallsF Tryz.prog 96 [wP 1000 v, .c (.aptr 1002 a2 i 0), .i way] (iZ v a1 a2 a3 a4 a5 a6 a7 m0 m w (doH w i way) { doH w i way with queue := w.queue }) (.tup []) := by
  have eh := en_at eH (hdAt_at hi)
  have ho := f.ops0
  have ho2 := f.ops1
  have hrl := f.small.r
  have hql := f.small.q
  have w1 : IntKind.i64.wrap (w.ops + 1) = w.ops + 1 := wrap64 ⟨by omega, by omega⟩
  have w0 : IntKind.i64.wrap (w.ops + 0) = w.ops := by rw [Int.add_zero]; exact wrap64 ⟨by omega, by omega⟩
  have q1 : (w.results.length + 1) * 8 ≤ 140737488355328 := by omega
  have q2 : w.results.length + 1 ≤ 9223372036854775807 := by omega
  obtain ⟨x, hx⟩ : ∃ x, hdAt w i = x := ⟨_, rfl⟩
  rw [hx] at hq eh
  refine ACallsF.intro ok96 follows fun X c0 => ?_
  by_cases c1 : way > 0
  · by_cases c2 : way = 2
    · have k2 := eqb c2
      rw [show doH w i way = { w with hands := w.hands.set i ⟨3, 0⟩, ops := w.ops + 1 } by rw [doH, if_pos c1, if_pos c2]]
      simp only [RZ, reduceAdd, reduceIte, reduceEqDiff, reduceLT, reduceLeDiff, reduceCtorEq, Nat.reduceBEq, kH, iZ, inH, wP, UEj_2.d, c1, k2]
      refine callC (bit_ok true) rfl rfl rfl rfl ?_
      simp only [RZ, reduceAdd, reduceIte, reduceEqDiff, reduceLT, reduceLeDiff, reduceCtorEq, Nat.reduceBEq, kH, iZ, inH, wP, UEj_2.d, c1, k2, eh, eH, w1, SNT]
    · have k2 := neqb c2
      rw [show doH w i way = { w with hands := w.hands.set i ⟨3, 0⟩, ops := w.ops } by rw [doH, if_pos c1, if_neg c2]]
      simp only [RZ, reduceAdd, reduceIte, reduceEqDiff, reduceLT, reduceLeDiff, reduceCtorEq, Nat.reduceBEq, kH, iZ, inH, wP, UEj_2.d, c1, k2]
      refine callC (bit_ok false) rfl rfl rfl rfl ?_
      simp only [RZ, reduceAdd, reduceIte, reduceEqDiff, reduceLT, reduceLeDiff, reduceCtorEq, Nat.reduceBEq, kH, iZ, inH, wP, UEj_2.d, c1, k2, eh, eH, w0, Bool.false_eq_true, SNT]
  by_cases c2 : x.state = 0
  · have k2 := eqb c2
    rw [show doH w i way = { w with hands := w.hands.set i ⟨1, w.queue.getD 0 0⟩, queue := w.queue.drop 1, ops := w.ops + 1 } by rw [doH, hx, if_neg c1, if_pos c2]]
    simp only [RZ, reduceAdd, reduceIte, reduceEqDiff, reduceLT, reduceLeDiff, reduceCtorEq, Nat.reduceBEq, kH, iZ, inH, wP, UEj_2.d, c1, k2, eh, eH]
    refine callB (hs := fH1 v a1 a2 a3 a4 a5 a6 a7 1000 1000 w) («as» := [.c (.ptr 1000 v 5)]) (ob := [(1000, .var v 26 (fC1 1001 1002 1003 1004 1005 1006 1007 a1 a2 a3 a4 a5 a6 a7 w)), (1001, (sI a1 w.queue)), (1002, (bH a2 w.hands)), (1003, (bI a3 w.results)), (1004, (bI a4 w.ring)), (1005, (bI a5 w.out)), (1006, (bI a6 w.got)), (1007, (bI a7 w.shut))]) (first1_ok (hq c1 c2) hql v a1 a2 a3 a4 a5 a6 a7 1000 1000) rfl rfl rfl ⟨rfl, rfl, rfl, rfl, rfl, rfl, rfl, rfl, trivial⟩ nd8 nd8 rfl rfl ⟨rfl, ?_⟩
    simp only [RZ, reduceAdd, reduceIte, reduceEqDiff, reduceLT, reduceLeDiff, reduceCtorEq, Nat.reduceBEq, kH, iZ, inH, wP, UEj_2.d, c1, k2, eh, eH, w1, fC1, SNT]
  have k2 := neqb c2
  by_cases c3 : x.state = 1
  · have k3 := eqb c3
    rw [show doH w i way = { w with hands := w.hands.set i ⟨2, x.job⟩ } by rw [doH, hx, if_neg c1, if_neg c2, if_pos c3]]
    simp only [RZ, reduceAdd, reduceIte, reduceEqDiff, reduceLT, reduceLeDiff, reduceCtorEq, Nat.reduceBEq, kH, iZ, inH, wP, UEj_2.d, c1, k2, k3, eh, eH, SNT]
  have k3 := neqb c3
  rw [show doH w i way = { w with results := w.results ++ [x.job], hands := w.hands.set i ⟨0, 0⟩, ops := w.ops + 1 } by rw [doH, hx, if_neg c1, if_neg c2, if_neg c3]]
  simp only [RZ, reduceAdd, reduceIte, reduceEqDiff, reduceLT, reduceLeDiff, reduceCtorEq, Nat.reduceBEq, kH, iZ, inH, wP, UEj_2.d, c1, k2, k3, eh, eH, w1, q1, q2, SNT]
/- (*loop.example/teagle/impl.CrewWorld).moveKeeper -/
def r94_0 : List AOper := [ao 0 11 (.mv (.t 1)),
  ao 1 12 (.bin .gtr (.t 11) (.k (.i 0))),
  ao 2 10 (.mv (.t 12))]
def r94_1 : List AOper := [ao 0 13 (.mv (.t 0)),
  ao 1 14 (.nck (.t 13)),
  ao 2 15 (.fa 17 (.t 14)),
  ao 3 16 (.ld 1 false (.t 15)),
  au 4 17 (ru 4) (.mv (.t 1)),
  au 5 18 (ru 4) (.bin .eql (.t 17) (.k (.i 2))),
  au 6 19 (ru 4) (.call (.k (.c (.fn 79 []))) [(.t 18)]),
  ao 7 20 (.bin .add (.t 16) (.t 19)),
  ao 8 21 (.nck (.t 13)),
  ao 9 22 (.fa 17 (.t 21)),
  an 10 (.st 1 (.t 22) (.t 20))]
def r94_2 : List AOper := [ao 0 23 (.mv (.t 0)),
  ao 1 24 (.nck (.t 23)),
  ao 2 25 (.fa 9 (.t 24)),
  an 3 (.st 1 (.t 25) (.k (.i 4)))]
def c94_3 : ACode := .seq (.reg r94_1) (.reg r94_2)
def r94_4 : List AOper := [ao 0 27 (.mv (.t 0)),
  ao 1 28 (.nck (.t 27)),
  ao 2 29 (.fa 9 (.t 28)),
  ao 3 30 (.ld 1 false (.t 29)),
  ao 4 31 (.bin .eql (.t 30) (.k (.i 0))),
  ao 5 26 (.mv (.t 31))]
def r94_5 : List AOper := [ao 0 32 (.mv (.t 0)),
  ao 1 33 (.nck (.t 32)),
  ao 2 34 (.fa 8 (.t 33)),
  ao 3 35 (.call (.k (.c (.fn 95 []))) [(.t 34)]),
  ao 4 4 (.mv (.t 35))]
def r94_6 : List AOper := [ao 0 36 (.mv (.t 0)),
  ao 1 37 (.nck (.t 36)),
  ao 2 38 (.fa 10 (.t 37)),
  ao 3 39 (.ld 1 false (.t 38)),
  au 4 40 (ru 4) (.mv (.t 4)),
  au 5 41 (ru 5) (.mv (.t 0)),
  au 6 42 (ru 5) (.nck (.t 41)),
  au 7 43 (ru 5) (.fa 2 (.t 42)),
  au 8 44 (ru 5) (.ld 1 false (.t 43)),
  au 9 45 (ru 4) (.bin .rem (.t 40) (.t 44)),
  au 10 46 (ru 10) (.mv (.t 4)),
  ao 11 47 (.ia 1 (.t 39) (.t 45)),
  an 12 (.st 1 (.t 47) (.t 46))]
def r94_7 : List AOper := [ao 0 48 (.mv (.t 0)),
  ao 1 49 (.nck (.t 48)),
  ao 2 50 (.fa 17 (.t 49)),
  ao 3 51 (.ld 1 false (.t 50)),
  ao 4 52 (.bin .add (.t 51) (.k (.i 1))),
  ao 5 53 (.nck (.t 48)),
  ao 6 54 (.fa 17 (.t 53)),
  an 7 (.st 1 (.t 54) (.t 52))]
def r94_8 : List AOper := [ao 0 55 (.mv (.t 0)),
  ao 1 56 (.nck (.t 55)),
  ao 2 57 (.fa 9 (.t 56)),
  an 3 (.st 1 (.t 57) (.k (.i 1)))]
def c94_9 : ACode := .seq (.reg r94_5) (.seq (.reg r94_6) (.seq (.reg r94_7) (.reg r94_8)))
def r94_10 : List AOper := [ao 0 59 (.mv (.t 0)),
  ao 1 60 (.nck (.t 59)),
  ao 2 61 (.fa 9 (.t 60)),
  ao 3 62 (.ld 1 false (.t 61)),
  ao 4 63 (.bin .eql (.t 62) (.k (.i 1))),
  ao 5 64 (.mv (.t 63)),
  ag 6 65 64 true [] (.mv (.t 0)),
  ag 7 66 64 true [] (.call (.k (.c (.fn 78 []))) [(.t 65)]),
  ao 8 67 (.pick (.t 64) (.t 66) (.k (.b false))),
  ao 9 58 (.mv (.t 67))]
def r94_11 : List AOper := [ao 0 68 (.mv (.t 0)),
  ao 1 69 (.nck (.t 68)),
  ao 2 70 (.fa 9 (.t 69)),
  an 3 (.st 1 (.t 70) (.k (.i 2)))]
def r94_12 : List AOper := [ao 0 72 (.mv (.t 0)),
  ao 1 73 (.nck (.t 72)),
  ao 2 74 (.fa 9 (.t 73)),
  ao 3 75 (.ld 1 false (.t 74)),
  ao 4 76 (.bin .eql (.t 75) (.k (.i 1))),
  ao 5 71 (.mv (.t 76))]
def r94_13 : List AOper := [ao 0 77 (.mv (.t 0)),
  ao 1 78 (.nck (.t 77)),
  ao 2 79 (.fa 9 (.t 78)),
  an 3 (.st 1 (.t 79) (.k (.i 0)))]
def r94_14 : List AOper := [ao 0 81 (.mv (.t 0)),
  ao 1 82 (.nck (.t 81)),
  ao 2 83 (.fa 9 (.t 82)),
  ao 3 84 (.ld 1 false (.t 83)),
  ao 4 85 (.bin .eql (.t 84) (.k (.i 2))),
  ao 5 80 (.mv (.t 85))]
def r94_15 : List AOper := [ao 0 86 (.mv (.t 0)),
  ao 1 87 (.nck (.t 86)),
  ao 2 88 (.fa 10 (.t 87)),
  ao 3 89 (.ld 1 false (.t 88)),
  au 4 90 (ru 4) (.mv (.t 0)),
  au 5 91 (ru 4) (.nck (.t 90)),
  au 6 92 (ru 4) (.fa 11 (.t 91)),
  au 7 93 (ru 4) (.ld 1 false (.t 92)),
  au 8 94 (ru 8) (.mv (.t 0)),
  au 9 95 (ru 8) (.nck (.t 94)),
  au 10 96 (ru 8) (.fa 2 (.t 95)),
  au 11 97 (ru 8) (.ld 1 false (.t 96)),
  au 12 98 (ru 4) (.bin .rem (.t 93) (.t 97)),
  ao 13 99 (.ia 1 (.t 89) (.t 98)),
  an 14 (.st 1 (.t 99) (.k (.i (-1))))]
def r94_16 : List AOper := [ao 0 100 (.mv (.t 0)),
  au 1 101 [0] (.mv (.t 0)),
  au 2 102 [0] (.nck (.t 101)),
  au 3 103 [0] (.fa 12 (.t 102)),
  au 4 104 [0] (.ld 1 false (.t 103)),
  au 5 105 (ru 5) (.mv (.t 0)),
  au 6 106 (ru 5) (.nck (.t 105)),
  au 7 107 (ru 5) (.fa 11 (.t 106)),
  au 8 108 (ru 5) (.ld 1 false (.t 107)),
  au 9 109 (ru 5) (.bsl 1 3 [(.t 108)]),
  au 10 110 [0] (.app 1 3 8 (.t 104) (.t 109)),
  ao 11 111 (.nck (.t 100)),
  ao 12 112 (.fa 12 (.t 111)),
  an 13 (.st 1 (.t 112) (.t 110))]
def r94_17 : List AOper := [ao 0 113 (.mv (.t 0)),
  ao 1 114 (.nck (.t 113)),
  ao 2 115 (.fa 11 (.t 114)),
  ao 3 116 (.ld 1 false (.t 115)),
  ao 4 117 (.bin .add (.t 116) (.k (.i 1))),
  ao 5 118 (.nck (.t 113)),
  ao 6 119 (.fa 11 (.t 118)),
  an 7 (.st 1 (.t 119) (.t 117))]
def r94_18 : List AOper := [ao 0 120 (.mv (.t 0)),
  ao 1 121 (.nck (.t 120)),
  ao 2 122 (.fa 17 (.t 121)),
  ao 3 123 (.ld 1 false (.t 122)),
  ao 4 124 (.bin .add (.t 123) (.k (.i 1))),
  ao 5 125 (.nck (.t 120)),
  ao 6 126 (.fa 17 (.t 125)),
  an 7 (.st 1 (.t 126) (.t 124))]
def r94_19 : List AOper := [ao 0 127 (.mv (.t 0)),
  ao 1 128 (.nck (.t 127)),
  ao 2 129 (.fa 9 (.t 128)),
  an 3 (.st 1 (.t 129) (.k (.i 3)))]
def c94_20 : ACode := .seq (.reg r94_15) (.seq (.reg r94_16) (.seq (.reg r94_17) (.seq (.reg r94_18) (.reg r94_19))))
def r94_21 : List AOper := [ao 0 131 (.mv (.t 0)),
  ao 1 132 (.nck (.t 131)),
  ao 2 133 (.fa 9 (.t 132)),
  ao 3 134 (.ld 1 false (.t 133)),
  ao 4 135 (.bin .eql (.t 134) (.k (.i 3))),
  ao 5 130 (.mv (.t 135))]
def r94_22 : List AOper := [ao 0 136 (.mv (.t 0)),
  ao 1 137 (.nck (.t 136)),
  ao 2 138 (.fa 15 (.t 137)),
  ao 3 139 (.ld 1 false (.t 138)),
  ao 4 140 (.bin .add (.t 139) (.k (.i 1))),
  ao 5 141 (.nck (.t 136)),
  ao 6 142 (.fa 15 (.t 141)),
  an 7 (.st 1 (.t 142) (.t 140))]
def r94_23 : List AOper := [ao 0 143 (.mv (.t 0)),
  ao 1 144 (.nck (.t 143)),
  ao 2 145 (.fa 17 (.t 144)),
  ao 3 146 (.ld 1 false (.t 145)),
  ao 4 147 (.bin .add (.t 146) (.k (.i 1))),
  ao 5 148 (.nck (.t 143)),
  ao 6 149 (.fa 17 (.t 148)),
  an 7 (.st 1 (.t 149) (.t 147))]
def r94_24 : List AOper := [ao 0 150 (.mv (.t 0)),
  ao 1 151 (.nck (.t 150)),
  ao 2 152 (.fa 9 (.t 151)),
  an 3 (.st 1 (.t 152) (.k (.i 1)))]
def c94_25 : ACode := .seq (.reg r94_22) (.seq (.reg r94_23) (.reg r94_24))
def r94_26 : List AOper := [ao 0 5 (.mv (.t 0)),
  ao 1 6 (.call (.k (.c (.fn 93 []))) [(.t 5), (.k (.i 2))])]
def r94_27 : List AOper := [ao 0 7 (.mv (.t 0)),
  ao 1 8 (.nck (.t 7)),
  ao 2 9 (.fa 9 (.t 8)),
  an 3 (.st 1 (.t 9) (.k (.i 5)))]
def c94_28 : ACode := .seq (.reg r94_26) (.reg r94_27)
def c94_29 : ACode := .cond (.t 130) c94_25 c94_28
def c94_30 : ACode := .seq (.reg r94_21) c94_29
def c94_31 : ACode := .cond (.t 80) c94_20 c94_30
def c94_32 : ACode := .seq (.reg r94_14) c94_31
def c94_33 : ACode := .cond (.t 71) (.reg r94_13) c94_32
def c94_34 : ACode := .seq (.reg r94_12) c94_33
def c94_35 : ACode := .cond (.t 58) (.reg r94_11) c94_34
def c94_36 : ACode := .seq (.reg r94_10) c94_35
def c94_37 : ACode := .cond (.t 26) c94_9 c94_36
def c94_38 : ACode := .seq (.reg r94_4) c94_37
def c94_39 : ACode := .cond (.t 10) c94_3 c94_38
def c94_40 : ACode := .seq (.reg r94_0) c94_39
def c94 : ACode := .block 0 c94_40
def s94 : List ARes := []
theorem ok94 : okF Tryz.prog 94 153 c94 s94 := ⟨Tryz.f94, Tryz.func94, Tryz.ntmps94, by kernel_rfl, by kernel_rfl, by kernel_rfl⟩
def UEj_3 := Bx.mk <|
  aN (uA c94.eq_1) <| aN (uA c94_40.eq_1) <| aN (uR r94_0.eq_1) <| aN (uA c94_39.eq_1) <| aN (uA c94_3.eq_1) <| aN (uR r94_1.eq_1) <| aN (uR r94_2.eq_1) <| aN (uA c94_38.eq_1) <| aN (uR r94_4.eq_1) <| aN (uA c94_37.eq_1) <| aN (uA c94_9.eq_1) <| aN (uR r94_5.eq_1) <| aN (uR r94_6.eq_1) <| aN (uR r94_7.eq_1) <| aN (uR r94_8.eq_1) <| aN (uA c94_36.eq_1) <| aN (uR r94_10.eq_1) <| aN (uA c94_35.eq_1) <| aN (uR r94_11.eq_1) <| aN (uA c94_34.eq_1) <| aN (uR r94_12.eq_1) <| aN (uA c94_33.eq_1) <| aN (uR r94_13.eq_1) <| aN (uA c94_32.eq_1) <| aN (uR r94_14.eq_1) <| aN (uA c94_31.eq_1) <| aN (uA c94_20.eq_1) <| aN (uR r94_15.eq_1) <| aN (uR r94_16.eq_1) <| aN (uR r94_17.eq_1) <| aN (uR r94_18.eq_1) <| aN (uR r94_19.eq_1) <| aN (uA c94_30.eq_1) <| aN (uR r94_21.eq_1) <| aN (uA c94_29.eq_1) <| aN (uA c94_25.eq_1) <| aN (uR r94_22.eq_1) <| aN (uR r94_23.eq_1) <| aN (uR r94_24.eq_1) <| aN (uA c94_28.eq_1) <| aN (uR r94_26.eq_1) <| aN (uR r94_27.eq_1) <| s94.eq_1
set_option maxRecDepth 8000 in
set_option maxHeartbeats 4000000 in
theorem moveKeeper_ok {w : CW} (f : Form w) (way : Int) (hq : ¬ way > 0 → w.keeper = 0 → 0 < w.results.length ∧ 0 ≤ w.results.getD 0 0) (v a1 a2 a3 a4 a5 a6 a7 m0 m : Nat) : ACallsF Tryz.prog 94 [wP 1000 v, .i way] (iZ v a1 a2 a3 a4 a5 a6 a7 m0 m w (doK w way) { doK w way with results := w.results }) (.tup []) := by
  have hls : w.shut.length = 4 := by have := f.ls; omega
  have hn := f.st.n
  have hz : ¬ w.window = 0 := by omega
  have ho := f.ops0
  have ho2 := f.ops1
  have hd := f.due
  have hnx := f.next
  have hj := f.st.j
  have hr := f.room
  have hol := f.small.o
  have hs := slot_lt f
  have ht := slot_int f
  have gs : (0 : Int) ≤ slot w := by omega
  have gs2 : (slot w : Int) < w.ring.length := by omega
  have w1 : IntKind.i64.wrap (w.ops + 1) = w.ops + 1 := wrap64 ⟨by omega, by omega⟩
  have w0 : IntKind.i64.wrap (w.ops + 0) = w.ops := by rw [Int.add_zero]; exact wrap64 ⟨by omega, by omega⟩
  have w2 : IntKind.i64.wrap (w.due + 1) = w.due + 1 := wrap64 ⟨by omega, by omega⟩
  have w3 : IntKind.i64.wrap (w.room + 1) = w.room + 1 := wrap64 ⟨by omega, by omega⟩
  have q1 : (w.out.length + 1) * 8 ≤ 140737488355328 := by omega
  have q2 : w.out.length + 1 ≤ 9223372036854775807 := by omega
  refine ACallsF.intro ok94 follows fun X c0 => ?_
  by_cases c1 : way > 0
  · by_cases c2 : way = 2
    · have k2 := eqb c2
      rw [show doK w way = { w with keeper := 4, ops := w.ops + 1 } by rw [doK, if_pos c1, if_pos c2]]
      simp only [RZ, reduceAdd, reduceIte, reduceEqDiff, reduceLT, reduceLeDiff, reduceCtorEq, Nat.reduceBEq, kH, iZ, inH, wP, UEj_3.d, c1, k2]
      refine callC (bit_ok true) rfl rfl rfl rfl ?_
      simp only [RZ, reduceAdd, reduceIte, reduceEqDiff, reduceLT, reduceLeDiff, reduceCtorEq, Nat.reduceBEq, kH, iZ, inH, wP, UEj_3.d, c1, k2, w1, SNT]
    · have k2 := neqb c2
      rw [show doK w way = { w with keeper := 4, ops := w.ops } by rw [doK, if_pos c1, if_neg c2]]
      simp only [RZ, reduceAdd, reduceIte, reduceEqDiff, reduceLT, reduceLeDiff, reduceCtorEq, Nat.reduceBEq, kH, iZ, inH, wP, UEj_3.d, c1, k2]
      refine callC (bit_ok false) rfl rfl rfl rfl ?_
      simp only [RZ, reduceAdd, reduceIte, reduceEqDiff, reduceLT, reduceLeDiff, reduceCtorEq, Nat.reduceBEq, kH, iZ, inH, wP, UEj_3.d, c1, k2, w0, Bool.false_eq_true, SNT]
  by_cases c2 : w.keeper = 0
  · have k2 := eqb c2
    obtain ⟨hrl, h0⟩ := hq c1 c2
    rw [show doK w way = { w with results := w.results.drop 1, ring := w.ring.set (rslot w) (w.results.getD 0 0), keeper := 1, ops := w.ops + 1 } by rw [doK, if_neg c1, if_pos c2]]
    have hrs : rslot w < w.ring.length ∧ (w.results.getD 0 0).tmod w.window = (rslot w : Int) := by
      have h2 := f.lr
      have h3 := Int.emod_lt_of_pos (w.results.getD 0 0) (show 0 < w.window by omega)
      have h4 := Int.emod_nonneg (w.results.getD 0 0) (show w.window ≠ 0 by omega)
      rw [Int.tmod_eq_emod_of_nonneg h0]
      unfold rslot
      omega
    obtain ⟨hrs, ht2⟩ := hrs
    have F := first3_ok hrl f.small.r v a1 a2 a3 a4 a5 a6 a7 1000 1000
    generalize rslot w = sl at *
    generalize w.results.getD 0 0 = x at *
    have gs : (0 : Int) ≤ sl := by omega
    have gs2 : (sl : Int) < w.ring.length := by omega
    obtain ⟨y, hy⟩ : ∃ y, w.ring[sl]? = some y := ⟨_, List.getElem?_eq_getElem hrs⟩
    have ey := en_at eI hy
    simp only [RZ, reduceAdd, reduceIte, reduceEqDiff, reduceLT, reduceLeDiff, reduceCtorEq, Nat.reduceBEq, kH, iZ, inH, wP, UEj_3.d, c1, k2]
    refine callB (hs := fH3 v a1 a2 a3 a4 a5 a6 a7 1000 1000 w) («as» := [.c (.ptr 1000 v 8)]) (ob := [(1000, .var v 26 (fC3 1001 1002 1003 1004 1005 1006 1007 a1 a2 a3 a4 a5 a6 a7 w)), (1001, (bI a1 w.queue)), (1002, (bH a2 w.hands)), (1003, (sI a3 w.results)), (1004, (bI a4 w.ring)), (1005, (bI a5 w.out)), (1006, (bI a6 w.got)), (1007, (bI a7 w.shut))]) F rfl rfl rfl ⟨rfl, rfl, rfl, rfl, rfl, rfl, rfl, rfl, trivial⟩ nd8 nd8 rfl rfl ⟨rfl, ?_⟩
    simp only [RZ, reduceAdd, reduceIte, reduceEqDiff, reduceLT, reduceLeDiff, reduceCtorEq, Nat.reduceBEq, kH, iZ, inH, wP, UEj_3.d, c1, k2, gs, gs2, ht2, hz, ey, Int.toNat_natCast, eI, w1, fC3, SNT]
  have k2 := neqb c2
  obtain ⟨y, hy⟩ : ∃ y, w.ring[slot w]? = some y := ⟨_, List.getElem?_eq_getElem hs⟩
  have ey := en_at eI hy
  by_cases c3 : w.keeper = 1
  · have k3 := eqb c3
    have e : doK w way = { w with keeper := if Due w then 2 else 0 } := by rw [doK, if_neg c1, if_neg c2, if_pos c3]
    rw [e]
    simp only [RZ, reduceAdd, reduceIte, reduceEqDiff, reduceLT, reduceLeDiff, reduceCtorEq, Nat.reduceBEq, kH, iZ, inH, wP, UEj_3.d, c1, k2, k3]
    refine callB (hs := kH v a1 a2 a3 a4 a5 a6 a7 1000 1000 w) («as» := [wP 1000 v]) (ob := [(1000, .var v 26 (oC 1001 1002 1003 1004 1005 1006 1007 a1 a2 a3 a4 a5 a6 a7 w)), (1001, (bI a1 w.queue)), (1002, (bH a2 w.hands)), (1003, (bI a3 w.results)), (1004, (bI a4 w.ring)), (1005, (bI a5 w.out)), (1006, (bI a6 w.got)), (1007, (bI a7 w.shut))]) (hasDueO_ok f v a1 a2 a3 a4 a5 a6 a7 1000 1000) rfl rfl rfl ⟨rfl, rfl, rfl, rfl, rfl, rfl, rfl, rfl, trivial⟩ nd8 nd8 rfl rfl ⟨rfl, ?_⟩
    by_cases c4 : Due w
    · rw [if_pos c4]
      simp only [RZ, reduceAdd, reduceIte, reduceEqDiff, reduceLT, reduceLeDiff, reduceCtorEq, Nat.reduceBEq, kH, iZ, inH, wP, UEj_3.d, c1, k2, k3, c4, decide_true, SNT]
    · rw [if_neg c4]
      simp only [RZ, reduceAdd, reduceIte, reduceEqDiff, reduceLT, reduceLeDiff, reduceCtorEq, Nat.reduceBEq, kH, iZ, inH, wP, UEj_3.d, c1, k2, k3, c4, decide_false, SNT]
  have k3 := neqb c3
  by_cases c4 : w.keeper = 2
  · have k4 := eqb c4
    rw [show doK w way = { w with ring := w.ring.set (slot w) (-1), out := w.out ++ [w.due], due := w.due + 1, keeper := 3, ops := w.ops + 1 } by rw [doK, if_neg c1, if_neg c2, if_neg c3, if_pos c4]]
    generalize slot w = sl at *
    simp only [RZ, reduceAdd, reduceIte, reduceEqDiff, reduceLT, reduceLeDiff, reduceCtorEq, Nat.reduceBEq, kH, iZ, inH, wP, UEj_3.d, c1, k2, k3, k4, gs, gs2, ht, hz, ey, Int.toNat_natCast, eI, w1, w2, q1, q2, SNT]
  have k4 := neqb c4
  by_cases c5 : w.keeper = 3
  · have k5 := eqb c5
    rw [show doK w way = { w with room := w.room + 1, keeper := 1, ops := w.ops + 1 } by rw [doK, if_neg c1, if_neg c2, if_neg c3, if_neg c4, if_pos c5]]
    simp only [RZ, reduceAdd, reduceIte, reduceEqDiff, reduceLT, reduceLeDiff, reduceCtorEq, Nat.reduceBEq, kH, iZ, inH, wP, UEj_3.d, c1, k2, k3, k4, k5, w1, w3, SNT]
  have k5 := neqb c5
  rw [show doK w way = { w with keeper := 5, shut := w.shut.set 2 1, ops := w.ops + 1 } by rw [doK, if_neg c1, if_neg c2, if_neg c3, if_neg c4, if_neg c5]]
  simp only [RZ, reduceAdd, reduceIte, reduceEqDiff, reduceLT, reduceLeDiff, reduceCtorEq, Nat.reduceBEq, kH, iZ, inH, wP, UEj_3.d, c1, k2, k3, k4, k5]
  refine callIn (m := 1000) (shut_ok hls ⟨ho, ho2⟩ 2 (by decide)) rfl rfl rfl (fun _ _ => rfl) rfl rfl rfl rfl rfl rfl rfl rfl (by decide) ⟨rfl, ?_⟩
  simp only [RZ, reduceAdd, reduceIte, reduceEqDiff, reduceLT, reduceLeDiff, reduceCtorEq, Nat.reduceBEq, kH, iZ, inH, wP, UEj_3.d, c1, k2, k3, k4, k5, shutW, SNT]
end Go.V
set_option linter.unusedVariables false
set_option linter.unusedSimpArgs false
namespace Go.V
open Go.Proofs
open Nat (reduceAdd reduceEqDiff reduceLT reduceLeDiff)
section
variable {P : Program} {K : St → Prop}
theorem DRunL_pure : ∀ (l : List AOper) (prev prev' : List Pv) (σ : St), (∀ p' ∈ prev', p' ∈ prev ∨ (p'.rn = [] ∧ p'.wn = [])) → DRunL P l prev K σ → DRunL P l prev' K σ
  | [], _, _, _, _, h => h
  | o :: l, prev, prev', σ, hs, h => by
    obtain ⟨e, h1, h2, h3⟩ := h
    refine ⟨e, h1, fun p' hp' => ?_, DRunL_pure l _ _ _ (fun p hp => ?_) h3⟩
    · rcases hs p' hp' with h | ⟨a, b⟩
      · exact h2 p' h
      · intro _; left; rw [a, b]; exact ⟨rfl, rfl⟩
    · rcases List.mem_cons.1 hp with rfl | hp
      · exact .inl (List.mem_cons_self ..)
      · exact (hs p hp).imp (List.mem_cons_of_mem _) id
variable {t : Nat → T} {H : HMap} {c k : Nat} {d : Option Nat} {un : List Nat} {l : List AOper} {prev : List Pv}
theorem DRunL_core {op : AOp} {e : Ef} (hop : ∀ f a, op ≠ .call f a) (h : core op (d.getD 0) (c + k) t H = some e) (hp : ∀ p ∈ prev, okP un e p) (hk : DRunL P l (⟨k, e.rn, e.wn, still P ⟨k, d, none, un, op⟩ e t c⟩ :: prev) K (St.app ⟨t, H, c⟩ d e)) : DRunL P (⟨k, d, none, un, op⟩ :: l) prev K ⟨t, H, c⟩ := by
  refine ⟨e, ?_, hp, hk⟩
  unfold Eff
  cases op <;> first | exact h | exact absurd rfl (hop _ _)
theorem disj_r (a : List Nat) : disj a [] = true := by simp [disj]
theorem DRunL_p {op : AOp} {v : T} (hop : ∀ f a, op ≠ .call f a) (h : core op (d.getD 0) (c + k) t H = some (Ef.pure v)) (hk : DRunL P l prev K ⟨updD t d v, H, c⟩) : DRunL P (⟨k, d, none, un, op⟩ :: l) prev K ⟨t, H, c⟩ :=
  DRunL_core hop h (fun p _ _ => .inl ⟨disj_r _, disj_r _⟩) (DRunL_pure l prev _ _ (fun p hp => by
    rcases List.mem_cons.1 hp with rfl | hp
    · exact .inr ⟨rfl, rfl⟩
    · exact .inl hp) hk)
theorem DRunL_of : ∀ (l : List AOper) (prev : List Pv) (σ : St), DRun P l (prev.map fun p => (p.k, p.rn, p.wn)) K σ → DRunL P l prev K σ
  | [], _, _, h => h
  | o :: l, prev, σ, h => by
    obtain ⟨e, h1, h2, h3⟩ := h
    exact ⟨e, h1, fun p hp hu => .inl (chk_mem h2 (p := (p.k, p.rn, p.wn)) (List.mem_map.2 ⟨p, hp, rfl⟩) hu), DRunL_of l _ _ h3⟩
theorem DRunL_call {f : Opd} {args : List Opd} {fid : FuncId} {argsC «as» : List T} {hs : List Hand} {r r' : T} {ob : List (Nat × Blk)}
    (hC : ACallsF P fid argsC hs r) (hf : ev t f = .pt (.one (.fn fid []))) (hl : lendTs H argsC (args.map (ev t)) = some («as», [], [])) (ha : renITs hs argsC = some «as») (hi : handsIn H hs hs) (hm : (hs.map (·.m)).Nodup) (hc : (hs.map (·.c)).Nodup) (hr : renOT hs (c + k) r = some r') (ho : renOBs hs (c + k) hs = some ob)
    (hp : ∀ p ∈ prev, okP un ⟨r', ob, hs.map (·.m), hs.map (·.m)⟩ p) (hk : ∀ ok, DRunL P l (⟨k, hs.map (·.m), hs.map (·.m), ok⟩ :: prev) K ⟨updD t d r', updH H ob, c⟩) : DRunL P (⟨k, d, none, un, .call f args⟩ :: l) prev K ⟨t, H, c⟩ := by
  refine ⟨⟨r', ob, hs.map (·.m), hs.map (·.m)⟩, ?_, hp, hk _⟩
  show CallEff P f args (c + k) ⟨t, H, c⟩ _
  exact .inl ⟨fid, [], «as», [], [], hs, argsC, r, r', ob, hf, by simpa using hl, ha, hi, hm, hc, hC, hr, ho, by simp only [ite_self, List.nil_append]⟩
theorem ACallsF.introA {f n : Nat} {ac : ACode} {rs : List ARes} {args : List T} {hs : List Hand} {r : T} (ho : okF P f n ac rs) (hm : P.follows .mixedOrders = true)
    (h : ∀ (X : Ctx) c0, AW P X ac (endA (FinC rs r hs)) ⟨argsT args, hinOf hs, c0⟩) : ACallsF P f args hs r := by
  obtain ⟨fn, h1, rfl, h3, h4, h5⟩ := ho
  cases hb : fn.body with
  | none => simp [hb] at h4
  | some cd =>
    rw [hb] at h4
    refine ⟨by simp [isFn, h1, h3, hb], ACalls.intro h1 hb h4 h5 hm fun X c0 _ => AW.mono (h X c0) fun e σ hq => ?_⟩
    have key : FinC rs r hs σ → _ := FinC.fin
    cases e with
    | normal => exact key hq
    | ret => exact key hq
    | _ => exact hq
end
/-- What stands in the arrays behind a move. -/
def blkW (w : CW) (m : Mv) : CW := if m.who = 0 then doR w m.way else if m.who ≤ w.workers then { doH w (m.who - 1).toNat m.way with queue := w.queue } else if m.who = w.workers + 1 then doC w else if m.who = w.workers + 2 then { doK w m.way with results := w.results } else { doU w m.way with out := w.out }
/- (*loop.example/teagle/impl.CrewWorld).move -/
def r46_0 : List AOper := [ao 0 3 (.box 35 (.t 1))]
def r46_1 : List AOper := [ao 0 4 (.fa 0 (.t 3)),
  ao 1 5 (.ld 1 false (.t 4))]
def r46_2 : List AOper := [ao 0 19 (.bin .eql (.t 5) (.k (.i 0))),
  ao 1 18 (.mv (.t 19))]
def r46_3 : List AOper := [ao 0 20 (.mv (.t 0)),
  ao 1 21 (.fa 1 (.t 3)),
  ao 2 22 (.ld 1 false (.t 21)),
  ao 3 23 (.call (.k (.c (.fn 92 []))) [(.t 20), (.t 22)])]
def r46_4 : List AOper := [ao 0 25 (.mv (.t 0)),
  ao 1 26 (.call (.k (.c (.fn 85 []))) [(.t 25)]),
  ao 2 27 (.bin .eql (.t 5) (.t 26)),
  ao 3 24 (.mv (.t 27))]
def r46_5 : List AOper := [ao 0 28 (.mv (.t 0)),
  ao 1 29 (.call (.k (.c (.fn 93 []))) [(.t 28), (.k (.i 1))])]
def r46_6 : List AOper := [ao 0 30 (.mv (.t 0)),
  ao 1 31 (.nck (.t 30)),
  ao 2 32 (.fa 7 (.t 31)),
  an 3 (.st 1 (.t 32) (.k (.i 1)))]
def c46_7 : ACode := .seq (.reg r46_5) (.reg r46_6)
def r46_8 : List AOper := [ao 0 34 (.mv (.t 0)),
  ao 1 35 (.call (.k (.c (.fn 86 []))) [(.t 34)]),
  ao 2 36 (.bin .eql (.t 5) (.t 35)),
  ao 3 33 (.mv (.t 36))]
def r46_9 : List AOper := [ao 0 37 (.mv (.t 0)),
  ao 1 38 (.fa 1 (.t 3)),
  ao 2 39 (.ld 1 false (.t 38)),
  ao 3 40 (.call (.k (.c (.fn 94 []))) [(.t 37), (.t 39)])]
def r46_10 : List AOper := [ao 0 42 (.mv (.t 0)),
  ao 1 43 (.call (.k (.c (.fn 88 []))) [(.t 42)]),
  ao 2 44 (.bin .eql (.t 5) (.t 43)),
  ao 3 41 (.mv (.t 44))]
def r46_11 : List AOper := [ao 0 45 (.mv (.t 0)),
  ao 1 46 (.nck (.t 45)),
  ao 2 47 (.fa 17 (.t 46)),
  ao 3 48 (.ld 1 false (.t 47)),
  ao 4 49 (.bin .add (.t 48) (.k (.i 1))),
  ao 5 50 (.nck (.t 45)),
  ao 6 51 (.fa 17 (.t 50)),
  an 7 (.st 1 (.t 51) (.t 49))]
def r46_12 : List AOper := [ao 0 52 (.fa 1 (.t 3)),
  ao 1 53 (.ld 1 false (.t 52)),
  ao 2 54 (.bin .eql (.t 53) (.k (.i 0)))]
def r46_13 : List AOper := [ao 0 55 (.mv (.t 0)),
  au 1 56 [0] (.mv (.t 0)),
  au 2 57 [0] (.nck (.t 56)),
  au 3 58 [0] (.fa 14 (.t 57)),
  au 4 59 [0] (.ld 1 false (.t 58)),
  au 5 60 (ru 5) (.mv (.t 0)),
  au 6 61 (ru 5) (.nck (.t 60)),
  au 7 62 (ru 5) (.fa 12 (.t 61)),
  au 8 63 (ru 5) (.call (.k (.c (.fn 95 []))) [(.t 62)]),
  au 9 64 (ru 5) (.bsl 1 3 [(.t 63)]),
  au 10 65 [0] (.app 1 3 8 (.t 59) (.t 64)),
  ao 11 66 (.nck (.t 55)),
  ao 12 67 (.fa 14 (.t 66)),
  an 13 (.st 1 (.t 67) (.t 65))]
def r46_14 : List AOper := [ao 0 68 (.mv (.t 0)),
  ao 1 69 (.nck (.t 68)),
  ao 2 70 (.fa 13 (.t 69)),
  an 3 (.st 1 (.t 70) (.k (.i 1)))]
def c46_15 : ACode := .cond (.t 54) (.reg r46_13) (.reg r46_14)
def c46_16 : ACode := .seq (.reg r46_11) (.seq (.reg r46_12) c46_15)
def r46_17 : List AOper := [ao 0 6 (.mv (.t 0)),
  au 1 7 [0] (.mv (.t 0)),
  au 2 8 [0] (.nck (.t 7)),
  au 3 9 [0] (.fa 6 (.t 8)),
  au 4 10 [0] (.ld 1 false (.t 9)),
  au 5 11 (ru 5) (.fa 0 (.t 3)),
  au 6 12 (ru 5) (.ld 1 false (.t 11)),
  au 7 13 (ru 5) (.bin .sub (.t 12) (.k (.i 1))),
  au 8 14 [0] (.ia 2 (.t 10) (.t 13)),
  au 9 15 (ru 9) (.fa 1 (.t 3)),
  au 10 16 (ru 9) (.ld 1 false (.t 15)),
  ao 11 17 (.call (.k (.c (.fn 96 []))) [(.t 6), (.t 14), (.t 16)])]
def c46_18 : ACode := .cond (.t 41) c46_16 (.reg r46_17)
def c46_19 : ACode := .seq (.reg r46_10) c46_18
def c46_20 : ACode := .cond (.t 33) (.reg r46_9) c46_19
def c46_21 : ACode := .seq (.reg r46_8) c46_20
def c46_22 : ACode := .cond (.t 24) c46_7 c46_21
def c46_23 : ACode := .seq (.reg r46_4) c46_22
def c46_24 : ACode := .cond (.t 18) (.reg r46_3) c46_23
def c46_25 : ACode := .seq (.reg r46_2) c46_24
def c46_26 : ACode := .block 0 c46_25
def c46 : ACode := .seq (.reg r46_0) (.seq (.reg r46_1) c46_26)
def s46 : List ARes := []
theorem ok46 : okF Tryz.prog 46 71 c46 s46 := ⟨Tryz.f46, Tryz.func46, Tryz.ntmps46, by kernel_rfl, by kernel_rfl, by kernel_rfl⟩
def UEk_1 := Bx.mk <|
  aN (uA c46.eq_1) <| aN (uR r46_0.eq_1) <| aN (uR r46_1.eq_1) <| aN (uA c46_26.eq_1) <| aN (uA c46_25.eq_1) <| aN (uR r46_2.eq_1) <| aN (uA c46_24.eq_1) <| aN (uR r46_3.eq_1) <| aN (uA c46_23.eq_1) <| aN (uR r46_4.eq_1) <| aN (uA c46_22.eq_1) <| aN (uA c46_7.eq_1) <| aN (uR r46_5.eq_1) <| aN (uR r46_6.eq_1) <| aN (uA c46_21.eq_1) <| aN (uR r46_8.eq_1) <| aN (uA c46_20.eq_1) <| aN (uR r46_9.eq_1) <| aN (uA c46_19.eq_1) <| aN (uR r46_10.eq_1) <| aN (uA c46_18.eq_1) <| aN (uA c46_16.eq_1) <| aN (uR r46_11.eq_1) <| aN (uR r46_12.eq_1) <| aN (uA c46_15.eq_1) <| aN (uR r46_13.eq_1) <| aN (uR r46_14.eq_1) <| aN (uR r46_17.eq_1) <| s46.eq_1
set_option maxRecDepth 8000 in
set_option maxHeartbeats 4000000 in
theorem move_ok {w : CW} {m : Mv} (h : Can w m) (hu : ¬ (w.workers + 2 < m.who ∧ m.way = 0)) (v a1 a2 a3 a4 a5 a6 a7 m0 m' : Nat) : ACallsF Tryz.prog 46 [wP 1000 v, tM m] (iZ v a1 a2 a3 a4 a5 a6 a7 m0 m' w (stepW w m) (blkW w m)) (.tup []) := by
  have ok := h.ok
  have f := ok.form
  have hk := f.st.k
  have hlh := f.lh
  have ho := f.ops0
  have ho2 := f.ops1
  have h1 := h.who
  have w1 : IntKind.i64.wrap (w.ops + 1) = w.ops + 1 := wrap64 ⟨by omega, by omega⟩
  have w7 : IntKind.i64.wrap (m.who - 1) = m.who - 1 := wrap64 ⟨by omega, by omega⟩
  have hls : w.shut.length = 4 := by have := f.ls; omega
  refine ACallsF.intro ok46 follows fun X c0 => ?_
  by_cases c0 : m.who = 0
  · have k0 := eqb c0
    rw [show stepW w m = doR w m.way by rw [stepW, if_pos c0], show blkW w m = doR w m.way by rw [blkW, if_pos c0]]
    simp only [RZ, reduceAdd, reduceIte, reduceEqDiff, reduceLT, reduceLeDiff, reduceCtorEq, Nat.reduceBEq, kH, iZ, inH, wP, UEk_1.d, k0]
    refine callB (hs := iZ v a1 a2 a3 a4 a5 a6 a7 1000 1000 w (doR w m.way) (doR w m.way)) («as» := wP 1000 v :: [.i m.way]) (ob := iZo v 1000 1000 _ (doR w m.way) (doR w m.way)) (moveReader_ok f m.way v a1 a2 a3 a4 a5 a6 a7 1000 1000) rfl rfl rfl ⟨rfl, rfl, rfl, rfl, rfl, rfl, rfl, rfl, trivial⟩ nd8 nd8 rfl rfl ⟨rfl, ?_⟩
    simp only [RZ, reduceAdd, reduceIte, reduceEqDiff, reduceLT, reduceLeDiff, reduceCtorEq, Nat.reduceBEq, kH, iZ, inH, wP, UEk_1.d, k0, SNT]
  have k0 := neqb c0
  by_cases c2 : m.who = w.workers + 1
  · have k2 := eqb c2
    rw [show stepW w m = doC w by rw [stepW, if_neg c0, if_neg (by omega), if_pos c2], show blkW w m = doC w by rw [blkW, if_neg c0, if_neg (by omega), if_pos c2]]
    simp only [RZ, reduceAdd, reduceIte, reduceEqDiff, reduceLT, reduceLeDiff, reduceCtorEq, Nat.reduceBEq, kH, iZ, inH, wP, UEk_1.d, k0]
    refine callB (hs := kH v a1 a2 a3 a4 a5 a6 a7 1000 1000 w) («as» := [wP 1000 v]) (ob := [(1000, .var v 26 (oC 1001 1002 1003 1004 1005 1006 1007 a1 a2 a3 a4 a5 a6 a7 w)), (1001, (bI a1 w.queue)), (1002, (bH a2 w.hands)), (1003, (bI a3 w.results)), (1004, (bI a4 w.ring)), (1005, (bI a5 w.out)), (1006, (bI a6 w.got)), (1007, (bI a7 w.shut))]) (closerO_ok f v a1 a2 a3 a4 a5 a6 a7 1000 1000) rfl rfl rfl ⟨rfl, rfl, rfl, rfl, rfl, rfl, rfl, rfl, trivial⟩ nd8 nd8 rfl rfl ⟨rfl, ?_⟩
    simp only [RZ, reduceAdd, reduceIte, reduceEqDiff, reduceLT, reduceLeDiff, reduceCtorEq, Nat.reduceBEq, kH, iZ, inH, wP, UEk_1.d, k0, k2]
    refine callIn (m := 1000) (shut_ok hls ⟨ho, ho2⟩ 1 (by decide)) rfl rfl rfl (fun _ _ => rfl) rfl rfl rfl rfl rfl rfl rfl rfl (by decide) ⟨rfl, ?_⟩
    simp only [RZ, reduceAdd, reduceIte, reduceEqDiff, reduceLT, reduceLeDiff, reduceCtorEq, Nat.reduceBEq, kH, iZ, inH, wP, UEk_1.d, k0, k2, shutW, doC, SNT]
  have k2 := neqb c2
  by_cases c3 : m.who = w.workers + 2
  · have k3 := eqb c3
    rw [show stepW w m = doK w m.way by rw [stepW, if_neg c0, if_neg (by omega), if_neg c2, if_pos c3], show blkW w m = { doK w m.way with results := w.results } by rw [blkW, if_neg c0, if_neg (by omega), if_neg c2, if_pos c3]]
    simp only [RZ, reduceAdd, reduceIte, reduceEqDiff, reduceLT, reduceLeDiff, reduceCtorEq, Nat.reduceBEq, kH, iZ, inH, wP, UEk_1.d, k0]
    refine callB (hs := kH v a1 a2 a3 a4 a5 a6 a7 1000 1000 w) («as» := [wP 1000 v]) (ob := [(1000, .var v 26 (oC 1001 1002 1003 1004 1005 1006 1007 a1 a2 a3 a4 a5 a6 a7 w)), (1001, (bI a1 w.queue)), (1002, (bH a2 w.hands)), (1003, (bI a3 w.results)), (1004, (bI a4 w.ring)), (1005, (bI a5 w.out)), (1006, (bI a6 w.got)), (1007, (bI a7 w.shut))]) (closerO_ok f v a1 a2 a3 a4 a5 a6 a7 1000 1000) rfl rfl rfl ⟨rfl, rfl, rfl, rfl, rfl, rfl, rfl, rfl, trivial⟩ nd8 nd8 rfl rfl ⟨rfl, ?_⟩
    simp only [RZ, reduceAdd, reduceIte, reduceEqDiff, reduceLT, reduceLeDiff, reduceCtorEq, Nat.reduceBEq, kH, iZ, inH, wP, UEk_1.d, k0, k2]
    refine callB (hs := kH v a1 a2 a3 a4 a5 a6 a7 1000 1000 w) («as» := [wP 1000 v]) (ob := [(1000, .var v 26 (oC 1001 1002 1003 1004 1005 1006 1007 a1 a2 a3 a4 a5 a6 a7 w)), (1001, (bI a1 w.queue)), (1002, (bH a2 w.hands)), (1003, (bI a3 w.results)), (1004, (bI a4 w.ring)), (1005, (bI a5 w.out)), (1006, (bI a6 w.got)), (1007, (bI a7 w.shut))]) (keeperO_ok f v a1 a2 a3 a4 a5 a6 a7 1000 1000) rfl rfl rfl ⟨rfl, rfl, rfl, rfl, rfl, rfl, rfl, rfl, trivial⟩ nd8 nd8 rfl rfl ⟨rfl, ?_⟩
    simp only [RZ, reduceAdd, reduceIte, reduceEqDiff, reduceLT, reduceLeDiff, reduceCtorEq, Nat.reduceBEq, kH, iZ, inH, wP, UEk_1.d, k0, k2, k3]
    refine callB (hs := iZ v a1 a2 a3 a4 a5 a6 a7 1000 1000 w (doK w m.way) ({ doK w m.way with results := w.results })) («as» := wP 1000 v :: [.i m.way]) (ob := iZo v 1000 1000 _ (doK w m.way) ({ doK w m.way with results := w.results })) (moveKeeper_ok f m.way (can_K h c3) v a1 a2 a3 a4 a5 a6 a7 1000 1000) rfl rfl rfl ⟨rfl, rfl, rfl, rfl, rfl, rfl, rfl, rfl, trivial⟩ nd8 nd8 rfl rfl ⟨rfl, ?_⟩
    simp only [RZ, reduceAdd, reduceIte, reduceEqDiff, reduceLT, reduceLeDiff, reduceCtorEq, Nat.reduceBEq, kH, iZ, inH, wP, UEk_1.d, k0, k2, k3, SNT]
  have k3 := neqb c3
  by_cases c4 : m.who = w.workers + 3
  · have k4 := eqb c4
    have c5 : ¬ m.way = 0 := fun e => hu ⟨by omega, e⟩
    have k5 := neqb c5
    rw [show stepW w m = { w with user := 1, ops := w.ops + 1 } by rw [stepW, if_neg c0, if_neg (by omega), if_neg c2, if_neg c3, doU, if_neg c5], show blkW w m = { w with user := 1, ops := w.ops + 1 } by rw [blkW, if_neg c0, if_neg (by omega), if_neg c2, if_neg c3, doU, if_neg c5]]
    simp only [RZ, reduceAdd, reduceIte, reduceEqDiff, reduceLT, reduceLeDiff, reduceCtorEq, Nat.reduceBEq, kH, iZ, inH, wP, UEk_1.d, k0]
    refine callB (hs := kH v a1 a2 a3 a4 a5 a6 a7 1000 1000 w) («as» := [wP 1000 v]) (ob := [(1000, .var v 26 (oC 1001 1002 1003 1004 1005 1006 1007 a1 a2 a3 a4 a5 a6 a7 w)), (1001, (bI a1 w.queue)), (1002, (bH a2 w.hands)), (1003, (bI a3 w.results)), (1004, (bI a4 w.ring)), (1005, (bI a5 w.out)), (1006, (bI a6 w.got)), (1007, (bI a7 w.shut))]) (closerO_ok f v a1 a2 a3 a4 a5 a6 a7 1000 1000) rfl rfl rfl ⟨rfl, rfl, rfl, rfl, rfl, rfl, rfl, rfl, trivial⟩ nd8 nd8 rfl rfl ⟨rfl, ?_⟩
    simp only [RZ, reduceAdd, reduceIte, reduceEqDiff, reduceLT, reduceLeDiff, reduceCtorEq, Nat.reduceBEq, kH, iZ, inH, wP, UEk_1.d, k0, k2]
    refine callB (hs := kH v a1 a2 a3 a4 a5 a6 a7 1000 1000 w) («as» := [wP 1000 v]) (ob := [(1000, .var v 26 (oC 1001 1002 1003 1004 1005 1006 1007 a1 a2 a3 a4 a5 a6 a7 w)), (1001, (bI a1 w.queue)), (1002, (bH a2 w.hands)), (1003, (bI a3 w.results)), (1004, (bI a4 w.ring)), (1005, (bI a5 w.out)), (1006, (bI a6 w.got)), (1007, (bI a7 w.shut))]) (keeperO_ok f v a1 a2 a3 a4 a5 a6 a7 1000 1000) rfl rfl rfl ⟨rfl, rfl, rfl, rfl, rfl, rfl, rfl, rfl, trivial⟩ nd8 nd8 rfl rfl ⟨rfl, ?_⟩
    simp only [RZ, reduceAdd, reduceIte, reduceEqDiff, reduceLT, reduceLeDiff, reduceCtorEq, Nat.reduceBEq, kH, iZ, inH, wP, UEk_1.d, k0, k2, k3]
    refine callB (hs := kH v a1 a2 a3 a4 a5 a6 a7 1000 1000 w) («as» := [wP 1000 v]) (ob := [(1000, .var v 26 (oC 1001 1002 1003 1004 1005 1006 1007 a1 a2 a3 a4 a5 a6 a7 w)), (1001, (bI a1 w.queue)), (1002, (bH a2 w.hands)), (1003, (bI a3 w.results)), (1004, (bI a4 w.ring)), (1005, (bI a5 w.out)), (1006, (bI a6 w.got)), (1007, (bI a7 w.shut))]) (userO_ok f v a1 a2 a3 a4 a5 a6 a7 1000 1000) rfl rfl rfl ⟨rfl, rfl, rfl, rfl, rfl, rfl, rfl, rfl, trivial⟩ nd8 nd8 rfl rfl ⟨rfl, ?_⟩
    simp only [RZ, reduceAdd, reduceIte, reduceEqDiff, reduceLT, reduceLeDiff, reduceCtorEq, Nat.reduceBEq, kH, iZ, inH, wP, UEk_1.d, k0, k2, k3, k4, k5, w1, SNT]
  have k4 := neqb c4
  have c1 : m.who ≤ w.workers := by omega
  obtain ⟨i, hi⟩ : ∃ i : Nat, m.who - 1 = i := ⟨(m.who - 1).toNat, by omega⟩
  have hcan := can_H h c0 c1
  rw [show stepW w m = doH w i m.way by rw [stepW, if_neg c0, if_pos c1, hi, Int.toNat_natCast], show blkW w m = { doH w i m.way with queue := w.queue } by rw [blkW, if_neg c0, if_pos c1, hi, Int.toNat_natCast]]
  rw [hi, Int.toNat_natCast] at hcan
  rw [hi] at w7
  have gi : (0 : Int) ≤ i := by omega
  have gi2 : (i : Int) < w.hands.length := by omega
  simp only [RZ, reduceAdd, reduceIte, reduceEqDiff, reduceLT, reduceLeDiff, reduceCtorEq, Nat.reduceBEq, kH, iZ, inH, wP, UEk_1.d, k0]
  refine callB (hs := kH v a1 a2 a3 a4 a5 a6 a7 1000 1000 w) («as» := [wP 1000 v]) (ob := [(1000, .var v 26 (oC 1001 1002 1003 1004 1005 1006 1007 a1 a2 a3 a4 a5 a6 a7 w)), (1001, (bI a1 w.queue)), (1002, (bH a2 w.hands)), (1003, (bI a3 w.results)), (1004, (bI a4 w.ring)), (1005, (bI a5 w.out)), (1006, (bI a6 w.got)), (1007, (bI a7 w.shut))]) (closerO_ok f v a1 a2 a3 a4 a5 a6 a7 1000 1000) rfl rfl rfl ⟨rfl, rfl, rfl, rfl, rfl, rfl, rfl, rfl, trivial⟩ nd8 nd8 rfl rfl ⟨rfl, ?_⟩
  simp only [RZ, reduceAdd, reduceIte, reduceEqDiff, reduceLT, reduceLeDiff, reduceCtorEq, Nat.reduceBEq, kH, iZ, inH, wP, UEk_1.d, k0, k2]
  refine callB (hs := kH v a1 a2 a3 a4 a5 a6 a7 1000 1000 w) («as» := [wP 1000 v]) (ob := [(1000, .var v 26 (oC 1001 1002 1003 1004 1005 1006 1007 a1 a2 a3 a4 a5 a6 a7 w)), (1001, (bI a1 w.queue)), (1002, (bH a2 w.hands)), (1003, (bI a3 w.results)), (1004, (bI a4 w.ring)), (1005, (bI a5 w.out)), (1006, (bI a6 w.got)), (1007, (bI a7 w.shut))]) (keeperO_ok f v a1 a2 a3 a4 a5 a6 a7 1000 1000) rfl rfl rfl ⟨rfl, rfl, rfl, rfl, rfl, rfl, rfl, rfl, trivial⟩ nd8 nd8 rfl rfl ⟨rfl, ?_⟩
  simp only [RZ, reduceAdd, reduceIte, reduceEqDiff, reduceLT, reduceLeDiff, reduceCtorEq, Nat.reduceBEq, kH, iZ, inH, wP, UEk_1.d, k0, k2, k3]
  refine callB (hs := kH v a1 a2 a3 a4 a5 a6 a7 1000 1000 w) («as» := [wP 1000 v]) (ob := [(1000, .var v 26 (oC 1001 1002 1003 1004 1005 1006 1007 a1 a2 a3 a4 a5 a6 a7 w)), (1001, (bI a1 w.queue)), (1002, (bH a2 w.hands)), (1003, (bI a3 w.results)), (1004, (bI a4 w.ring)), (1005, (bI a5 w.out)), (1006, (bI a6 w.got)), (1007, (bI a7 w.shut))]) (userO_ok f v a1 a2 a3 a4 a5 a6 a7 1000 1000) rfl rfl rfl ⟨rfl, rfl, rfl, rfl, rfl, rfl, rfl, rfl, trivial⟩ nd8 nd8 rfl rfl ⟨rfl, ?_⟩
  simp only [RZ, reduceAdd, reduceIte, reduceEqDiff, reduceLT, reduceLeDiff, reduceCtorEq, Nat.reduceBEq, kH, iZ, inH, wP, UEk_1.d, k0, k2, k3, k4, hi, w7, gi, gi2, Int.toNat_natCast]
  refine callB (hs := iZ v a1 a2 a3 a4 a5 a6 a7 1000 1000 w (doH w i m.way) ({ doH w i m.way with queue := w.queue })) («as» := wP 1000 v :: [.c (.aptr 1002 a2 i 0), .i m.way]) (ob := iZo v 1000 1000 _ (doH w i m.way) ({ doH w i m.way with queue := w.queue })) (moveHand_ok f i (by omega) m.way hcan v a1 a2 a3 a4 a5 a6 a7 1000 1000) rfl rfl rfl ⟨rfl, rfl, rfl, rfl, rfl, rfl, rfl, rfl, trivial⟩ nd8 nd8 rfl rfl ⟨rfl, ?_⟩
  simp only [RZ, reduceAdd, reduceIte, reduceEqDiff, reduceLT, reduceLeDiff, reduceCtorEq, Nat.reduceBEq, kH, iZ, inH, wP, UEk_1.d, k0, k2, k3, k4, SNT]
set_option maxRecDepth 8000 in
set_option maxHeartbeats 4000000 in
theorem move_user {w : CW} {m : Mv} (h : Can w m) (c4 : m.who = w.workers + 3) (c5 : m.way = 0) (v a1 a2 a3 a4 a5 a6 a7 m0 m' : Nat) : ACallsF Tryz.prog 46 [wP 1000 v, tM m] (iZ v a1 a2 a3 a4 a5 a6 a7 m0 m' w (stepW w m) (blkW w m)) (.tup []) := by
  have ok := h.ok
  have f := ok.form
  have hk := f.st.k
  have hlh := f.lh
  have ho := f.ops0
  have ho2 := f.ops1
  have h1 := h.who
  have w1 : IntKind.i64.wrap (w.ops + 1) = w.ops + 1 := wrap64 ⟨by omega, by omega⟩
  have w7 : IntKind.i64.wrap (m.who - 1) = m.who - 1 := wrap64 ⟨by omega, by omega⟩
  have hou := can_U h (by omega) c5
  have hgl := f.small.t
  have q1 : (w.got.length + 1) * 8 ≤ 140737488355328 := by omega
  have q2 : w.got.length + 1 ≤ 9223372036854775807 := by omega
  have hol := f.small.o
  have hlo := f.lo
  have hdr : w.out.drop 1 = [] := List.drop_eq_nil_of_le (by omega)
  rw [show stepW w m = { w with got := w.got ++ [w.out.getD 0 0], out := [], ops := w.ops + 1 } by rw [stepW, if_neg (by omega), if_neg (by omega), if_neg (by omega), if_neg (by omega), doU, if_pos c5], show blkW w m = { w with got := w.got ++ [w.out.getD 0 0], ops := w.ops + 1 } by rw [blkW, if_neg (by omega), if_neg (by omega), if_neg (by omega), if_neg (by omega), doU, if_pos c5]]
  have k0 : (m.who == 0) = false := neqb (by omega)
  have k2 : (m.who == w.workers + 1) = false := neqb (by omega)
  have k3 : (m.who == w.workers + 2) = false := neqb (by omega)
  have k4 := eqb c4
  have k5 := eqb c5
  have F := first5_ok (w := { w with ops := w.ops + 1 }) hou hol v a1 a2 a3 a4 a5 a6 a7 1000 1000
  refine ACallsF.introA ok46 follows fun X c0 => ?_
  refine AW.seq (x := .reg r46_0) (AW.of ?_)
  simp only [RZ, reduceAdd, reduceIte, reduceEqDiff, reduceLT, reduceLeDiff, reduceCtorEq, Nat.reduceBEq, kH, iZ, inH, wP, UEk_1.d, thenA]
  refine AW.seq (x := .reg r46_1) (AW.of ?_)
  simp only [RZ, reduceAdd, reduceIte, reduceEqDiff, reduceLT, reduceLeDiff, reduceCtorEq, Nat.reduceBEq, kH, iZ, inH, wP, UEk_1.d, thenA]
  refine AW.block (id := 0) (x := c46_25) ?_
  refine AW.seq (x := .reg r46_2) (y := c46_24) (AW.of ?_)
  simp only [RZ, reduceAdd, reduceIte, reduceEqDiff, reduceLT, reduceLeDiff, reduceCtorEq, Nat.reduceBEq, kH, iZ, inH, wP, UEk_1.d, thenA, k0]
  refine AW.cond (x := .t 18) (y := .reg r46_3) (z := c46_23) (b := false) rfl ?_
  refine AW.seq (x := .reg r46_4) (y := c46_22) (AW.of ?_)
  simp only [RZ, reduceAdd, reduceIte, reduceEqDiff, reduceLT, reduceLeDiff, reduceCtorEq, Nat.reduceBEq, kH, iZ, inH, wP, UEk_1.d, thenA]
  refine callB (hs := kH v a1 a2 a3 a4 a5 a6 a7 1000 1000 w) («as» := [wP 1000 v]) (ob := [(1000, .var v 26 (oC 1001 1002 1003 1004 1005 1006 1007 a1 a2 a3 a4 a5 a6 a7 w)), (1001, (bI a1 w.queue)), (1002, (bH a2 w.hands)), (1003, (bI a3 w.results)), (1004, (bI a4 w.ring)), (1005, (bI a5 w.out)), (1006, (bI a6 w.got)), (1007, (bI a7 w.shut))]) (closerO_ok f v a1 a2 a3 a4 a5 a6 a7 1000 1000) rfl rfl rfl ⟨rfl, rfl, rfl, rfl, rfl, rfl, rfl, rfl, trivial⟩ nd8 nd8 rfl rfl ⟨rfl, ?_⟩
  simp only [RZ, reduceAdd, reduceIte, reduceEqDiff, reduceLT, reduceLeDiff, reduceCtorEq, Nat.reduceBEq, kH, iZ, inH, wP, UEk_1.d, thenA, k2]
  refine AW.cond (x := .t 24) (y := c46_7) (z := c46_21) (b := false) rfl ?_
  refine AW.seq (x := .reg r46_8) (y := c46_20) (AW.of ?_)
  simp only [RZ, reduceAdd, reduceIte, reduceEqDiff, reduceLT, reduceLeDiff, reduceCtorEq, Nat.reduceBEq, kH, iZ, inH, wP, UEk_1.d, thenA]
  refine callB (hs := kH v a1 a2 a3 a4 a5 a6 a7 1000 1000 w) («as» := [wP 1000 v]) (ob := [(1000, .var v 26 (oC 1001 1002 1003 1004 1005 1006 1007 a1 a2 a3 a4 a5 a6 a7 w)), (1001, (bI a1 w.queue)), (1002, (bH a2 w.hands)), (1003, (bI a3 w.results)), (1004, (bI a4 w.ring)), (1005, (bI a5 w.out)), (1006, (bI a6 w.got)), (1007, (bI a7 w.shut))]) (keeperO_ok f v a1 a2 a3 a4 a5 a6 a7 1000 1000) rfl rfl rfl ⟨rfl, rfl, rfl, rfl, rfl, rfl, rfl, rfl, trivial⟩ nd8 nd8 rfl rfl ⟨rfl, ?_⟩
  simp only [RZ, reduceAdd, reduceIte, reduceEqDiff, reduceLT, reduceLeDiff, reduceCtorEq, Nat.reduceBEq, kH, iZ, inH, wP, UEk_1.d, thenA, k3]
  refine AW.cond (x := .t 33) (y := .reg r46_9) (z := c46_19) (b := false) rfl ?_
  refine AW.seq (x := .reg r46_10) (y := c46_18) (AW.of ?_)
  simp only [RZ, reduceAdd, reduceIte, reduceEqDiff, reduceLT, reduceLeDiff, reduceCtorEq, Nat.reduceBEq, kH, iZ, inH, wP, UEk_1.d, thenA]
  refine callB (hs := kH v a1 a2 a3 a4 a5 a6 a7 1000 1000 w) («as» := [wP 1000 v]) (ob := [(1000, .var v 26 (oC 1001 1002 1003 1004 1005 1006 1007 a1 a2 a3 a4 a5 a6 a7 w)), (1001, (bI a1 w.queue)), (1002, (bH a2 w.hands)), (1003, (bI a3 w.results)), (1004, (bI a4 w.ring)), (1005, (bI a5 w.out)), (1006, (bI a6 w.got)), (1007, (bI a7 w.shut))]) (userO_ok f v a1 a2 a3 a4 a5 a6 a7 1000 1000) rfl rfl rfl ⟨rfl, rfl, rfl, rfl, rfl, rfl, rfl, rfl, trivial⟩ nd8 nd8 rfl rfl ⟨rfl, ?_⟩
  simp only [RZ, reduceAdd, reduceIte, reduceEqDiff, reduceLT, reduceLeDiff, reduceCtorEq, Nat.reduceBEq, kH, iZ, inH, wP, UEk_1.d, thenA, k4]
  refine AW.cond (x := .t 41) (y := c46_16) (z := .reg r46_17) (b := true) rfl ?_
  refine AW.seq (x := .reg r46_11) (y := .seq (.reg r46_12) c46_15) (AW.of ?_)
  simp only [RZ, reduceAdd, reduceIte, reduceEqDiff, reduceLT, reduceLeDiff, reduceCtorEq, Nat.reduceBEq, kH, iZ, inH, wP, UEk_1.d, thenA, w1]
  refine AW.seq (x := .reg r46_12) (y := c46_15) (AW.of ?_)
  simp only [RZ, reduceAdd, reduceIte, reduceEqDiff, reduceLT, reduceLeDiff, reduceCtorEq, Nat.reduceBEq, kH, iZ, inH, wP, UEk_1.d, thenA, k5]
  refine AW.cond (x := .t 54) (y := .reg r46_13) (z := .reg r46_14) (b := true) rfl ?_
  refine AW.regL (l := r46_13) ?_
  refine DRunL_p (v := wP 1000 v) (fun _ _ => by simp) rfl ?_
  refine DRunL_p (v := wP 1000 v) (fun _ _ => by simp) rfl ?_
  refine DRunL_p (v := wP 1000 v) (fun _ _ => by simp) rfl ?_
  refine DRunL_p (v := .c (.ptr 1000 v 14)) (fun _ _ => by simp) rfl ?_
  refine DRunL_core (e := ⟨.c (.own 1006 a6 w.got.length), [], [1000], []⟩) (fun _ _ => by simp) (by simp only [RZ, reduceAdd, reduceIte, reduceEqDiff, reduceLT, reduceLeDiff, reduceCtorEq, Nat.reduceBEq, kH, iZ, inH, wP, UEk_1.d, updD]) (fun p hp => by cases hp) ?_
  refine DRunL_p (v := wP 1000 v) (fun _ _ => by simp) rfl ?_
  refine DRunL_p (v := wP 1000 v) (fun _ _ => by simp) rfl ?_
  refine DRunL_p (v := .c (.ptr 1000 v 12)) (fun _ _ => by simp) rfl ?_
  refine DRunL_call (hs := fH5 v a1 a2 a3 a4 a5 a6 a7 1000 1000 { w with ops := w.ops + 1 }) («as» := [.c (.ptr 1000 v 12)]) (ob := [(1000, .var v 26 (fC5 1001 1002 1003 1004 1005 1006 1007 a1 a2 a3 a4 a5 a6 a7 { w with ops := w.ops + 1 })), (1001, (bI a1 w.queue)), (1002, (bH a2 w.hands)), (1003, (bI a3 w.results)), (1004, (bI a4 w.ring)), (1005, (sI a5 w.out)), (1006, (bI a6 w.got)), (1007, (bI a7 w.shut))]) F rfl rfl rfl ⟨rfl, rfl, rfl, rfl, rfl, rfl, rfl, rfl, trivial⟩ nd8 nd8 rfl rfl (fun p hp hu => ?_) fun ok => ?_
  · rw [List.mem_singleton] at hp
    subst hp
    refine .inr ⟨rfl, fun H _ => ?_⟩
    show core (.ld 1 false (.t 58)) _ _ _ _ = some _
    simp only [RZ, reduceAdd, reduceIte, reduceEqDiff, reduceLT, reduceLeDiff, reduceCtorEq, Nat.reduceBEq, kH, iZ, inH, wP, UEk_1.d, updD, fC5, updH]
  refine DRunL_of _ _ _ ?_
  simp only [List.map_cons, List.map_nil]
  show DRun Tryz.prog (au 9 64 (ru 5) (.bsl 1 3 [(.t 63)]) :: au 10 65 [0] (.app 1 3 8 (.t 59) (.t 64)) :: ao 11 66 (.nck (.t 55)) :: ao 12 67 (.fa 14 (.t 66)) :: an 13 (.st 1 (.t 67) (.t 65)) :: []) _ _ _
  simp only [RZ, reduceAdd, reduceIte, reduceEqDiff, reduceLT, reduceLeDiff, reduceCtorEq, Nat.reduceBEq, kH, iZ, inH, wP, UEk_1.d, St.app, updD, thenA, inBlockA, endA, fC5, q1, q2, hdr, en_nil, SNT]
/-- A move, in place. -/
theorem move_all {w : CW} {m : Mv} (h : Can w m) (v a1 a2 a3 a4 a5 a6 a7 m0 m' : Nat) : ACallsF Tryz.prog 46 [wP 1000 v, tM m] (iZ v a1 a2 a3 a4 a5 a6 a7 m0 m' w (stepW w m) (blkW w m)) (.tup []) := by
  by_cases hu : w.workers + 2 < m.who ∧ m.way = 0
  · exact move_user h (by have := h.who; omega) hu.2 v a1 a2 a3 a4 a5 a6 a7 m0 m'
  · exact move_ok h hu v a1 a2 a3 a4 a5 a6 a7 m0 m'
end Go.V
set_option linter.unusedVariables false
set_option linter.unusedSimpArgs false
namespace Go.V
open Go.Proofs
open Nat (reduceAdd reduceEqDiff reduceLT reduceLeDiff)
theorem czC0 : ([iC 0, iC 0, iC 0, iC 0, iC 0, .nil0, .nil0, iC 0, .nil0, iC 0, .nil0, iC 0, .nil0, iC 0, .nil0, iC 0, .nil0, iC 0] : List C) = czC := rfl
theorem nd6 : [6, 2001, 2002, 2003, 2004, 2005, 2006, 2007].Nodup := by decide
/- loop.example/teagle/impl.CrewStep -/
def r15_0 : List AOper := [ao 0 2 (.box 26 (.t 0)),
  ao 1 3 (.box 35 (.t 1)),
  ao 2 4 (.alloc 26 [(.v (.s (.int .i64 0))), (.v (.s (.int .i64 0))), (.v (.s (.int .i64 0))), (.v (.s (.int .i64 0))), (.v (.s (.int .i64 0))), .nil0, .nil0, (.v (.s (.int .i64 0))), .nil0, (.v (.s (.int .i64 0))), .nil0, (.v (.s (.int .i64 0))), .nil0, (.v (.s (.int .i64 0))), .nil0, (.v (.s (.int .i64 0))), .nil0, (.v (.s (.int .i64 0)))]),
  ao 3 5 (.mv (.k (.b false)))]
def r15_1 : List AOper := [ao 0 7 (.call (.k (.c (.fn 38 []))) [(.t 2)]),
  ao 1 8 (.un .not (.t 7)),
  ao 2 9 (.mv (.t 8)),
  ag 3 10 9 false [] (.fa 0 (.t 3)),
  ag 4 11 9 false [] (.ld 1 false (.t 10)),
  ag 5 12 9 false [3, 4] (.fa 1 (.t 2)),
  ag 6 13 9 false [3, 4] (.ld 1 false (.t 12)),
  ag 7 14 9 false [3, 4] (.bin .add (.t 13) (.k (.i 4))),
  ag 8 15 9 false [] (.call (.k (.c (.fn 42 []))) [(.t 11), (.t 14)]),
  ag 9 16 9 false [] (.un .not (.t 15)),
  ao 10 17 (.pick (.t 9) (.k (.b true)) (.t 16)),
  ao 11 18 (.mv (.t 17)),
  ag 12 19 18 false [] (.fa 0 (.t 3)),
  ag 13 20 18 false [] (.ld 1 false (.t 19)),
  ag 14 21 18 false [] (.call (.k (.c (.fn 44 []))) [(.t 2), (.t 20)]),
  ag 15 22 18 false [12, 13, 14] (.fa 1 (.t 3)),
  ag 16 23 18 false [12, 13, 14] (.ld 1 false (.t 22)),
  ag 17 24 18 false [] (.call (.k (.c (.fn 43 []))) [(.t 21), (.t 23)]),
  ag 18 25 18 false [] (.un .not (.t 24)),
  ao 19 26 (.pick (.t 18) (.k (.b true)) (.t 25))]
def r15_2 : List AOper := [ao 0 27 (.build [(.v (.s (.int .i64 0))), (.v (.s (.int .i64 0))), (.v (.s (.int .i64 0))), (.v (.s (.int .i64 0))), (.v (.s (.int .i64 0))), .nil0, .nil0, (.v (.s (.int .i64 0))), .nil0, (.v (.s (.int .i64 0))), .nil0, (.v (.s (.int .i64 0))), .nil0, (.v (.s (.int .i64 0))), .nil0, (.v (.s (.int .i64 0))), .nil0, (.v (.s (.int .i64 0)))] []),
  an 1 (.st 18 (.t 4) (.t 27)),
  ao 2 5 (.mv (.k (.b false)))]
def c15_3 : ACode := .seq (.reg r15_2) .ret
def c15_4 : ACode := .cond (.t 26) c15_3 .skip
def c15_5 : ACode := .seq (.reg r15_1) c15_4
def r15_6 : List AOper := [ao 0 28 (.call (.k (.c (.fn 45 []))) [(.t 2)]),
  ao 1 6 (.alloc 26 [(.v (.s (.int .i64 0))), (.v (.s (.int .i64 0))), (.v (.s (.int .i64 0))), (.v (.s (.int .i64 0))), (.v (.s (.int .i64 0))), .nil0, .nil0, (.v (.s (.int .i64 0))), .nil0, (.v (.s (.int .i64 0))), .nil0, (.v (.s (.int .i64 0))), .nil0, (.v (.s (.int .i64 0))), .nil0, (.v (.s (.int .i64 0))), .nil0, (.v (.s (.int .i64 0)))]),
  an 2 (.st 18 (.t 6) (.t 28))]
def r15_7 : List AOper := [ao 0 29 (.ld 2 true (.t 3)),
  ao 1 30 (.call (.k (.c (.fn 46 []))) [(.t 6), (.t 29)])]
def r15_8 : List AOper := [ao 0 31 (.call (.k (.c (.fn 45 []))) [(.t 6)]),
  an 1 (.st 18 (.t 4) (.t 31)),
  ao 2 5 (.mv (.k (.b true)))]
def c15 : ACode := .seq (.reg r15_0) (.seq c15_5 (.seq (.reg r15_6) (.seq (.reg r15_7) (.seq (.reg r15_8) .ret))))
def s15 : List ARes := [.cell 4 18 true, .tmp 5]
theorem ok15 : okF Tryz.prog 15 32 c15 s15 := ⟨Tryz.f15, Tryz.func15, Tryz.ntmps15, by kernel_rfl, by kernel_rfl, by kernel_rfl⟩
def UEl_1 := Bx.mk <|
  aN (uA c15.eq_1) <| aN (uR r15_0.eq_1) <| aN (uA c15_5.eq_1) <| aN (uR r15_1.eq_1) <| aN (uA c15_4.eq_1) <| aN (uA c15_3.eq_1) <| aN (uR r15_2.eq_1) <| aN (uR r15_6.eq_1) <| aN (uR r15_7.eq_1) <| aN (uR r15_8.eq_1) <| s15.eq_1
set_option maxHeartbeats 2000000 in
theorem stepI_no {w : CW} (hs : Small w) {m : Mv} (h : ¬ Can w m) : ACallsF Tryz.prog 15 [tCW w, tM m] [] (.tup [.agg czC, .one (.v (.s (.bool false)))]) := by
  obtain ⟨b, hb, C⟩ := isOk_ok w hs.t
  refine ACallsF.intro ok15 follows fun X c0 => ?_
  simp only [RZ, reduceAdd, reduceIte, reduceEqDiff, reduceLT, reduceLeDiff, reduceCtorEq, Nat.reduceBEq, wnH, UEl_1.d]
  refine callP (m := 2) (w := w) C rfl rfl rfl rfl rfl ⟨rfl, ?_⟩
  cases b with
  | false => simp only [RZ, reduceAdd, reduceIte, reduceEqDiff, reduceLT, reduceLeDiff, reduceCtorEq, Nat.reduceBEq, wnH, UEl_1.d]
  | true =>
  have ok := hb.1 rfl
  have f := ok.form
  have hk := f.st.k
  have w3 : IntKind.i64.wrap (w.workers + 4) = w.workers + 4 := wrap64 ⟨by omega, by omega⟩
  simp only [RZ, reduceAdd, reduceIte, reduceEqDiff, reduceLT, reduceLeDiff, reduceCtorEq, Nat.reduceBEq, wnH, UEl_1.d, w3]
  refine callC (isPlace_ok m.who (w.workers + 4) (by omega)) rfl rfl rfl rfl ?_
  by_cases h1 : 0 ≤ m.who ∧ m.who ≤ w.workers + 3
  rotate_left
  · have e : (decide (0 ≤ m.who) && decide (m.who ≤ w.workers + 4 - 1)) = false := by
      rw [← Bool.decide_and]; exact decide_eq_false fun g => h1 ⟨g.1, by omega⟩
    simp only [RZ, reduceAdd, reduceIte, reduceEqDiff, reduceLT, reduceLeDiff, reduceCtorEq, Nat.reduceBEq, wnH, UEl_1.d, w3, e]
  have e : (decide (0 ≤ m.who) && decide (m.who ≤ w.workers + 4 - 1)) = true := by
    rw [← Bool.decide_and]; exact decide_eq_true ⟨h1.1, by omega⟩
  obtain ⟨ks, rfl, Ck⟩ := cases_ok f m.who h1.1 h1.2
  simp only [RZ, reduceAdd, reduceIte, reduceEqDiff, reduceLT, reduceLeDiff, reduceCtorEq, Nat.reduceBEq, wnH, UEl_1.d, w3, e]
  refine callP (m := 2) (w := w) Ck rfl rfl rfl rfl rfl ⟨rfl, ?_⟩
  have e2 : ((opn (ways w m.who)).any fun x => x == m.way) = false := by
    cases hq : ((opn (ways w m.who)).any fun x => x == m.way) with
    | false => rfl
    | true => obtain ⟨g1, g2⟩ := (opn_has m.who m.way).1 hq; exact absurd ⟨ok, h1, g1, g2⟩ h
  simp only [RZ, reduceAdd, reduceIte, reduceEqDiff, reduceLT, reduceLeDiff, reduceCtorEq, Nat.reduceBEq, wnH, UEl_1.d, w3, e]
  refine callC (contains_int _ m.way (by have := opnN_len (ways w m.who) 3; rw [opn]; omega)) rfl rfl rfl rfl ?_
  simp only [RZ, reduceAdd, reduceIte, reduceEqDiff, reduceLT, reduceLeDiff, reduceCtorEq, Nat.reduceBEq, wnH, UEl_1.d, w3, e, e2]
set_option maxHeartbeats 2000000 in
theorem stepI_yesC {w : CW} {m : Mv} (h : Can w m) (hsm : Small (stepW w m)) : ACallsF Tryz.prog 15 [tCW w, tM m] [] (.tup [.agg (cwC (stepW w m)), .one (.v (.s (.bool true)))]) := by
  have ok := h.ok
  have f := ok.form
  have hk := f.st.k
  have h1 := h.who
  obtain ⟨b, hb, C⟩ := isOk_ok w f.small.t
  have w3 : IntKind.i64.wrap (w.workers + 4) = w.workers + 4 := wrap64 ⟨by omega, by omega⟩
  have e : (decide (0 ≤ m.who) && decide (m.who ≤ w.workers + 4 - 1)) = true := by
    rw [← Bool.decide_and]; exact decide_eq_true ⟨h1.1, by omega⟩
  have e2 : ((opn (ways w m.who)).any fun x => x == m.way) = true := (opn_has m.who m.way).2 ⟨h.way, h.open'⟩
  obtain ⟨ks, rfl, Ck⟩ := cases_ok f m.who h1.1 h1.2
  have M := move_all h
  generalize stepW w m = w' at *
  generalize blkW w m = w'' at *
  refine ACallsF.intro ok15 follows fun X c0 => ?_
  simp only [RZ, reduceAdd, reduceIte, reduceEqDiff, reduceLT, reduceLeDiff, reduceCtorEq, Nat.reduceBEq, wnH, UEl_1.d]
  refine callP (m := 2) (w := w) C rfl rfl rfl rfl rfl ⟨rfl, ?_⟩
  cases b with
  | false => cases hb.2 ok
  | true =>
  simp only [RZ, reduceAdd, reduceIte, reduceEqDiff, reduceLT, reduceLeDiff, reduceCtorEq, Nat.reduceBEq, wnH, UEl_1.d, w3]
  refine callC (isPlace_ok m.who (w.workers + 4) (by omega)) rfl rfl rfl rfl ?_
  simp only [RZ, reduceAdd, reduceIte, reduceEqDiff, reduceLT, reduceLeDiff, reduceCtorEq, Nat.reduceBEq, wnH, UEl_1.d, w3, e]
  refine callP (m := 2) (w := w) Ck rfl rfl rfl rfl rfl ⟨rfl, ?_⟩
  simp only [RZ, reduceAdd, reduceIte, reduceEqDiff, reduceLT, reduceLeDiff, reduceCtorEq, Nat.reduceBEq, wnH, UEl_1.d, w3, e]
  refine callC (contains_int _ m.way (by have := opnN_len (ways w m.who) 3; rw [opn]; omega)) rfl rfl rfl rfl ?_
  simp only [RZ, reduceAdd, reduceIte, reduceEqDiff, reduceLT, reduceLeDiff, reduceCtorEq, Nat.reduceBEq, wnH, UEl_1.d, w3, e, e2]
  refine callP7 (m0 := 2) (m := 2000) (fun m0 v m => clone_ok f.small m0 v m) rfl rfl rfl (by decide) (by decide) (by decide) ⟨rfl, ?_⟩
  simp only [RZ, reduceAdd, reduceIte, reduceEqDiff, reduceLT, reduceLeDiff, reduceCtorEq, Nat.reduceBEq, wnH, UEl_1.d, w3, e]
  refine callB (hs := iZ _ _ _ _ _ _ _ _ 6 2000 w w' w'') («as» := [wP 6 _, tM m]) (ob := iZo _ 6 2000 _ w' w'') (M _ _ _ _ _ _ _ _ 6 2000) rfl rfl rfl ⟨rfl, rfl, rfl, rfl, rfl, rfl, rfl, rfl, trivial⟩ nd6 nd8 rfl rfl ⟨rfl, ?_⟩
  simp only [RZ, reduceAdd, reduceIte, reduceEqDiff, reduceLT, reduceLeDiff, reduceCtorEq, Nat.reduceBEq, wnH, UEl_1.d, w3, e, iZ, inH]
  refine callP7 (m0 := 6) (m := 5000) (fun m0 v m => clone_ok hsm m0 v m) rfl rfl rfl (by decide) (by decide) (by decide) ⟨rfl, ?_⟩
  simp only [RZ, reduceAdd, reduceIte, reduceEqDiff, reduceLT, reduceLeDiff, reduceCtorEq, Nat.reduceBEq, wnH, UEl_1.d, w3, e, imp_self, false_implies, and_self]
end Go.V

/- It is proved that the law FnCrewStep returns true for every input and leaves its input as it was; no condition. -/
import Derived.Test.YtlajnafcfngkaaaSC4
set_option linter.unusedSimpArgs false
namespace Go.V
open Go.Proofs
/-- Three truth values. -/
abbrev cB3 (x : Bool × Bool × Bool) : List C := [.v (.s (.bool x.1)), .v (.s (.bool x.2.1)), .v (.s (.bool x.2.2))]
abbrev tB3 (x : Bool × Bool × Bool) : T := .pt (.agg (cB3 x))
def pad3 (bs : List Bool) : Bool × Bool × Bool := (bs.getD 0 false, bs.getD 1 false, bs.getD 2 false)
theorem flipb (x : Int) (h : 0 ≤ x) : (x != 0) = decide (x > 0) := by
  by_cases g : x = 0
  · subst g; rfl
  · rw [neqn g, decide_eq_true (by omega)]
/- (*loop.example/teagle/impl.CrewWorld).closer -/
def r69_0 : List AOper := [ao 0 2 (.mv (.k (.i 0)))]
def r69_1 : List AOper := [ao 0 3 (.mv (.t 0)),
  ao 1 4 (.nck (.t 3)),
  ao 2 5 (.fa 1 (.t 4)),
  ao 3 6 (.ld 1 false (.t 5)),
  ao 4 7 (.bin .add (.t 6) (.k (.i 1))),
  ao 5 2 (.mv (.t 7))]
def c69 : ACode := .seq (.reg r69_0) (.seq (.reg r69_1) .ret)
def s69 : List ARes := [.tmp 2]
theorem ok69 : okF Try.prog 69 8 c69 s69 := ⟨Try.f69, Try.func69, Try.ntmps69, by kernel_rfl, by kernel_rfl, by kernel_rfl⟩
def UEg_1 := Bx.mk <|
  aN (uA c69.eq_1) <| aN (uR r69_0.eq_1) <| aN (uR r69_1.eq_1) <| s69.eq_1
theorem closer_ok {w : CW} (h : Form w) : WC 69 [] w (fun n : Int => n = w.workers + 1) T.i := by
  have hk := h.st.k
  have w1 : IntKind.i64.wrap (w.workers + 1) = w.workers + 1 := wrap64 ⟨by omega, by omega⟩
  refine WC.intro ok69 rfl (fun _ => rfl) fun X => ?_
  simp only [RUX, Nat.reduceAdd, reduceIte, Nat.reduceEqDiff, Nat.reduceLT, Nat.reduceLeDiff, reduceCtorEq, eq_self, rV, FIX, forall_const, endE_n, endE_r, CHT, disj, Nat.reduceBEq, beq_self_eq_true, APT, APX, forall_eq, ALT, KI, UEg_1.d, w1]
  refine ES.mk (w.workers + 1) rfl ?_
  simp only [RUX, Nat.reduceAdd, reduceIte, Nat.reduceEqDiff, Nat.reduceLT, Nat.reduceLeDiff, reduceCtorEq, eq_self, rV, FIX, forall_const, endE_n, endE_r, CHT, disj, Nat.reduceBEq, beq_self_eq_true, APT, APX, forall_eq, ALT, KI, UEg_1.d, w1]
/- (*loop.example/teagle/impl.CrewWorld).keeper -/
def r71_0 : List AOper := [ao 0 2 (.mv (.k (.i 0)))]
def r71_1 : List AOper := [ao 0 3 (.mv (.t 0)),
  ao 1 4 (.nck (.t 3)),
  ao 2 5 (.fa 1 (.t 4)),
  ao 3 6 (.ld 1 false (.t 5)),
  ao 4 7 (.bin .add (.t 6) (.k (.i 2))),
  ao 5 2 (.mv (.t 7))]
def c71 : ACode := .seq (.reg r71_0) (.seq (.reg r71_1) .ret)
def s71 : List ARes := [.tmp 2]
theorem ok71 : okF Try.prog 71 8 c71 s71 := ⟨Try.f71, Try.func71, Try.ntmps71, by kernel_rfl, by kernel_rfl, by kernel_rfl⟩
def UEg_2 := Bx.mk <|
  aN (uA c71.eq_1) <| aN (uR r71_0.eq_1) <| aN (uR r71_1.eq_1) <| s71.eq_1
theorem keeper_ok {w : CW} (h : Form w) : WC 71 [] w (fun n : Int => n = w.workers + 2) T.i := by
  have hk := h.st.k
  have w1 : IntKind.i64.wrap (w.workers + 2) = w.workers + 2 := wrap64 ⟨by omega, by omega⟩
  refine WC.intro ok71 rfl (fun _ => rfl) fun X => ?_
  simp only [RUX, Nat.reduceAdd, reduceIte, Nat.reduceEqDiff, Nat.reduceLT, Nat.reduceLeDiff, reduceCtorEq, eq_self, rV, FIX, forall_const, endE_n, endE_r, CHT, disj, Nat.reduceBEq, beq_self_eq_true, APT, APX, forall_eq, ALT, KI, UEg_2.d, w1]
  refine ES.mk (w.workers + 2) rfl ?_
  simp only [RUX, Nat.reduceAdd, reduceIte, Nat.reduceEqDiff, Nat.reduceLT, Nat.reduceLeDiff, reduceCtorEq, eq_self, rV, FIX, forall_const, endE_n, endE_r, CHT, disj, Nat.reduceBEq, beq_self_eq_true, APT, APX, forall_eq, ALT, KI, UEg_2.d, w1]
/- (*loop.example/teagle/impl.CrewWorld).user -/
def r73_0 : List AOper := [ao 0 2 (.mv (.k (.i 0)))]
def r73_1 : List AOper := [ao 0 3 (.mv (.t 0)),
  ao 1 4 (.nck (.t 3)),
  ao 2 5 (.fa 1 (.t 4)),
  ao 3 6 (.ld 1 false (.t 5)),
  ao 4 7 (.bin .add (.t 6) (.k (.i 3))),
  ao 5 2 (.mv (.t 7))]
def c73 : ACode := .seq (.reg r73_0) (.seq (.reg r73_1) .ret)
def s73 : List ARes := [.tmp 2]
theorem ok73 : okF Try.prog 73 8 c73 s73 := ⟨Try.f73, Try.func73, Try.ntmps73, by kernel_rfl, by kernel_rfl, by kernel_rfl⟩
def UEg_3 := Bx.mk <|
  aN (uA c73.eq_1) <| aN (uR r73_0.eq_1) <| aN (uR r73_1.eq_1) <| s73.eq_1
theorem user_ok {w : CW} (h : Form w) : WC 73 [] w (fun n : Int => n = w.workers + 3) T.i := by
  have hk := h.st.k
  have w1 : IntKind.i64.wrap (w.workers + 3) = w.workers + 3 := wrap64 ⟨by omega, by omega⟩
  refine WC.intro ok73 rfl (fun _ => rfl) fun X => ?_
  simp only [RUX, Nat.reduceAdd, reduceIte, Nat.reduceEqDiff, Nat.reduceLT, Nat.reduceLeDiff, reduceCtorEq, eq_self, rV, FIX, forall_const, endE_n, endE_r, CHT, disj, Nat.reduceBEq, beq_self_eq_true, APT, APX, forall_eq, ALT, KI, UEg_3.d, w1]
  refine ES.mk (w.workers + 3) rfl ?_
  simp only [RUX, Nat.reduceAdd, reduceIte, Nat.reduceEqDiff, Nat.reduceLT, Nat.reduceLeDiff, reduceCtorEq, eq_self, rV, FIX, forall_const, endE_n, endE_r, CHT, disj, Nat.reduceBEq, beq_self_eq_true, APT, APX, forall_eq, ALT, KI, UEg_3.d, w1]
/- (*loop.example/teagle/impl.CrewWorld).readerCases -/
def r68_0 : List AOper := [ao 0 2 (.alloc 84 [(.v (.s (.bool false))), (.v (.s (.bool false))), (.v (.s (.bool false)))])]
def r68_1 : List AOper := [ao 0 4 (.mv (.t 0)),
  ao 1 5 (.nck (.t 4)),
  ao 2 6 (.fa 4 (.t 5)),
  ao 3 7 (.ld 1 false (.t 6))]
def r68_2 : List AOper := [ao 0 9 (.bin .eql (.t 7) (.k (.i 0))),
  ao 1 8 (.mv (.t 9))]
def r68_3 : List AOper := [ao 0 10 (.mv (.t 0)),
  ao 1 11 (.nck (.t 10)),
  ao 2 12 (.fa 3 (.t 11)),
  ao 3 13 (.ld 1 false (.t 12)),
  au 4 14 (ru 4) (.mv (.t 0)),
  au 5 15 (ru 4) (.nck (.t 14)),
  au 6 16 (ru 4) (.fa 0 (.t 15)),
  au 7 17 (ru 4) (.ld 1 false (.t 16)),
  ao 8 18 (.bin .neq (.t 13) (.t 17)),
  ao 9 3 (.mv (.t 18))]
def r68_4 : List AOper := [ao 0 19 (.mv (.t 0)),
  ao 1 20 (.nck (.t 19)),
  ao 2 21 (.fa 15 (.t 20)),
  ao 3 22 (.ld 1 false (.t 21)),
  ao 4 23 (.bin .neq (.t 22) (.k (.i 0))),
  ao 5 24 (.mv (.t 23)),
  ag 6 25 24 true [] (.mv (.t 3)),
  ao 7 26 (.pick (.t 24) (.t 25) (.k (.b false))),
  ao 8 27 (.mv (.t 0)),
  ao 9 28 (.call (.k (.c (.fn 89 []))) [(.t 27)]),
  ao 10 29 (.mv (.t 28)),
  ag 11 30 29 true [] (.mv (.t 3)),
  ao 12 31 (.pick (.t 29) (.t 30) (.k (.b false))),
  ao 13 32 (.mv (.t 3)),
  ao 14 33 (.un .not (.t 32)),
  ao 15 34 (.build [(.v (.s (.bool false))), (.v (.s (.bool false))), (.v (.s (.bool false)))] [(0, 1, (.t 26)), (1, 1, (.t 31)), (2, 1, (.t 33))]),
  an 16 (.st 3 (.t 2) (.t 34))]
def c68_5 : ACode := .seq (.reg r68_3) (.seq (.reg r68_4) .ret)
def r68_6 : List AOper := [ao 0 36 (.bin .eql (.t 7) (.k (.i 1))),
  ao 1 35 (.mv (.t 36))]
def r68_7 : List AOper := [ao 0 37 (.mv (.t 0)),
  ao 1 38 (.nck (.t 37)),
  ao 2 39 (.fa 5 (.t 38)),
  ao 3 40 (.ld 1 false (.t 39)),
  ao 4 41 (.len (.t 40)),
  au 5 42 (ru 5) (.mv (.t 0)),
  au 6 43 (ru 5) (.nck (.t 42)),
  au 7 44 (ru 5) (.fa 1 (.t 43)),
  au 8 45 (ru 5) (.ld 1 false (.t 44)),
  ao 9 46 (.bin .lss (.t 41) (.t 45)),
  au 10 47 (ru 10) (.mv (.t 0)),
  au 11 48 (ru 10) (.call (.k (.c (.fn 89 []))) [(.t 47)]),
  ao 12 49 (.build [(.v (.s (.bool false))), (.v (.s (.bool false))), (.v (.s (.bool false)))] [(0, 1, (.t 46)), (1, 1, (.t 48))]),
  an 13 (.st 3 (.t 2) (.t 49))]
def c68_8 : ACode := .seq (.reg r68_7) .ret
def r68_9 : List AOper := [ao 0 51 (.bin .eql (.t 7) (.k (.i 2))),
  ao 1 50 (.mv (.t 51))]
def r68_10 : List AOper := [ao 0 52 (.build [(.v (.s (.bool false))), (.v (.s (.bool false))), (.v (.s (.bool false)))] [(0, 1, (.k (.b true)))]),
  an 1 (.st 3 (.t 2) (.t 52))]
def c68_11 : ACode := .seq (.reg r68_10) .ret
def c68_12 : ACode := .cond (.t 50) c68_11 .skip
def c68_13 : ACode := .seq (.reg r68_9) c68_12
def c68_14 : ACode := .cond (.t 35) c68_8 c68_13
def c68_15 : ACode := .seq (.reg r68_6) c68_14
def c68_16 : ACode := .cond (.t 8) c68_5 c68_15
def c68_17 : ACode := .seq (.reg r68_2) c68_16
def c68_18 : ACode := .block 0 c68_17
def c68_19 : ACode := .seq (.reg r68_1) c68_18
def r68_20 : List AOper := [ao 0 53 (.build [(.v (.s (.bool false))), (.v (.s (.bool false))), (.v (.s (.bool false)))] []),
  an 1 (.st 3 (.t 2) (.t 53))]
def c68 : ACode := .seq (.reg r68_0) (.seq c68_19 (.seq (.reg r68_20) .ret))
def s68 : List ARes := [.cell 2 3 true]
theorem ok68 : okF Try.prog 68 54 c68 s68 := ⟨Try.f68, Try.func68, Try.ntmps68, by kernel_rfl, by kernel_rfl, by kernel_rfl⟩
def UEg_4 := Bx.mk <|
  aN (uA c68.eq_1) <| aN (uR r68_0.eq_1) <| aN (uA c68_19.eq_1) <| aN (uR r68_1.eq_1) <| aN (uA c68_18.eq_1) <| aN (uA c68_17.eq_1) <| aN (uR r68_2.eq_1) <| aN (uA c68_16.eq_1) <| aN (uA c68_5.eq_1) <| aN (uR r68_3.eq_1) <| aN (uR r68_4.eq_1) <| aN (uA c68_15.eq_1) <| aN (uR r68_6.eq_1) <| aN (uA c68_14.eq_1) <| aN (uA c68_8.eq_1) <| aN (uR r68_7.eq_1) <| aN (uA c68_13.eq_1) <| aN (uR r68_9.eq_1) <| aN (uA c68_12.eq_1) <| aN (uA c68_11.eq_1) <| aN (uR r68_10.eq_1) <| aN (uR r68_20.eq_1) <| s68.eq_1
set_option maxHeartbeats 1000000 in
theorem readerCases_ok {w : CW} (h : Form w) : WC 68 [] w (fun x : Bool × Bool × Bool => x = pad3 (waysR w)) tB3 := by
  obtain ⟨bs, hbs, Cs⟩ := stopped_ok h
  have hr := flipb w.room h.room.1
  have hst : bs = (sh w 3 == 1) := by rw [Bool.eq_iff_iff, hbs, beq_iff_eq]
  refine WC.intro ok68 rfl (fun _ => rfl) fun X => ?_
  by_cases c0 : w.reader = 0
  · have k0 := eqb c0
    have e : pad3 (waysR w) = ((w.room != 0) && (w.next != w.jobs), bs && (w.next != w.jobs), !(w.next != w.jobs)) := by
      by_cases c1 : w.next = w.jobs
      · rw [waysR, if_pos c0, if_pos c1, eqn c1]; simp [pad3]
      · rw [waysR, if_pos c0, if_neg c1, neqn c1, hr, hst]; simp [pad3]
    cases k1 : (w.room != 0) <;> cases k2 : (w.next != w.jobs) <;> rw [k1, k2] at e <;> simp only [RUX, Nat.reduceAdd, reduceIte, Nat.reduceEqDiff, Nat.reduceLT, Nat.reduceLeDiff, reduceCtorEq, eq_self, rV, FIX, forall_const, endE_n, endE_r, CHT, disj, Nat.reduceBEq, beq_self_eq_true, APT, APX, forall_eq, ALT, KI, UEg_4.d, k0, k1, k2] <;> refine callP (v := 0) (w := w) Cs rfl rfl rfl rfl rfl ⟨rfl, ?_⟩ <;> cases bs <;> simp only [RUX, Nat.reduceAdd, reduceIte, Nat.reduceEqDiff, Nat.reduceLT, Nat.reduceLeDiff, reduceCtorEq, eq_self, rV, FIX, forall_const, endE_n, endE_r, CHT, disj, Nat.reduceBEq, beq_self_eq_true, APT, APX, forall_eq, ALT, KI, UEg_4.d, k0, k1, k2] <;> refine ES.mk _ e.symm ?_ <;> simp only [RUX, Nat.reduceAdd, reduceIte, Nat.reduceEqDiff, Nat.reduceLT, Nat.reduceLeDiff, reduceCtorEq, eq_self, rV, FIX, forall_const, endE_n, endE_r, CHT, disj, Nat.reduceBEq, beq_self_eq_true, APT, APX, forall_eq, ALT, KI, UEg_4.d, k0, k1, k2]
  have k0 := neqb c0
  by_cases c1 : w.reader = 1
  · have k1 := eqb c1
    simp only [RUX, Nat.reduceAdd, reduceIte, Nat.reduceEqDiff, Nat.reduceLT, Nat.reduceLeDiff, reduceCtorEq, eq_self, rV, FIX, forall_const, endE_n, endE_r, CHT, disj, Nat.reduceBEq, beq_self_eq_true, APT, APX, forall_eq, ALT, KI, UEg_4.d, k0, k1, en_len]
    refine callP (v := 0) (w := w) Cs rfl rfl rfl rfl rfl ⟨rfl, ?_⟩
    simp only [RUX, Nat.reduceAdd, reduceIte, Nat.reduceEqDiff, Nat.reduceLT, Nat.reduceLeDiff, reduceCtorEq, eq_self, rV, FIX, forall_const, endE_n, endE_r, CHT, disj, Nat.reduceBEq, beq_self_eq_true, APT, APX, forall_eq, ALT, KI, UEg_4.d, k0, k1, en_len]
    refine ES.mk (decide ((w.queue.length : Int) < w.workers), bs, false) (by rw [waysR, if_neg c0, if_pos c1, hst]; rfl) ?_
    simp only [RUX, Nat.reduceAdd, reduceIte, Nat.reduceEqDiff, Nat.reduceLT, Nat.reduceLeDiff, reduceCtorEq, eq_self, rV, FIX, forall_const, endE_n, endE_r, CHT, disj, Nat.reduceBEq, beq_self_eq_true, APT, APX, forall_eq, ALT, KI, UEg_4.d, k0, k1, en_len]
  have k1 := neqb c1
  by_cases c2 : w.reader = 2
  · have k2 := eqb c2
    simp only [RUX, Nat.reduceAdd, reduceIte, Nat.reduceEqDiff, Nat.reduceLT, Nat.reduceLeDiff, reduceCtorEq, eq_self, rV, FIX, forall_const, endE_n, endE_r, CHT, disj, Nat.reduceBEq, beq_self_eq_true, APT, APX, forall_eq, ALT, KI, UEg_4.d, k0, k1, k2]
    refine ES.mk (true, false, false) (by rw [waysR, if_neg c0, if_neg c1, if_pos c2]; rfl) ?_
    simp only [RUX, Nat.reduceAdd, reduceIte, Nat.reduceEqDiff, Nat.reduceLT, Nat.reduceLeDiff, reduceCtorEq, eq_self, rV, FIX, forall_const, endE_n, endE_r, CHT, disj, Nat.reduceBEq, beq_self_eq_true, APT, APX, forall_eq, ALT, KI, UEg_4.d, k0, k1, k2]
  have k2 := neqb c2
  simp only [RUX, Nat.reduceAdd, reduceIte, Nat.reduceEqDiff, Nat.reduceLT, Nat.reduceLeDiff, reduceCtorEq, eq_self, rV, FIX, forall_const, endE_n, endE_r, CHT, disj, Nat.reduceBEq, beq_self_eq_true, APT, APX, forall_eq, ALT, KI, UEg_4.d, k0, k1, k2]
  refine ES.mk (false, false, false) (by rw [waysR, if_neg c0, if_neg c1, if_neg c2]; rfl) ?_
  simp only [RUX, Nat.reduceAdd, reduceIte, Nat.reduceEqDiff, Nat.reduceLT, Nat.reduceLeDiff, reduceCtorEq, eq_self, rV, FIX, forall_const, endE_n, endE_r, CHT, disj, Nat.reduceBEq, beq_self_eq_true, APT, APX, forall_eq, ALT, KI, UEg_4.d, k0, k1, k2]
/- (*loop.example/teagle/impl.CrewWorld).handCases -/
def r74_0 : List AOper := [ao 0 3 (.box 70 (.t 1)),
  ao 1 4 (.alloc 84 [(.v (.s (.bool false))), (.v (.s (.bool false))), (.v (.s (.bool false)))])]
def r74_1 : List AOper := [ao 0 5 (.fa 0 (.t 3)),
  ao 1 6 (.ld 1 false (.t 5))]
def r74_2 : List AOper := [ao 0 8 (.bin .eql (.t 6) (.k (.i 0))),
  ao 1 7 (.mv (.t 8))]
def r74_3 : List AOper := [ao 0 9 (.mv (.t 0)),
  ao 1 10 (.nck (.t 9)),
  ao 2 11 (.fa 5 (.t 10)),
  ao 3 12 (.ld 1 false (.t 11)),
  ao 4 13 (.len (.t 12)),
  ao 5 14 (.bin .gtr (.t 13) (.k (.i 0))),
  au 6 15 (ru 6) (.mv (.t 0)),
  au 7 16 (ru 6) (.call (.k (.c (.fn 89 []))) [(.t 15)]),
  au 8 17 (ru 8) (.mv (.t 0)),
  au 9 18 (ru 8) (.nck (.t 17)),
  au 10 19 (ru 8) (.fa 5 (.t 18)),
  au 11 20 (ru 8) (.ld 1 false (.t 19)),
  au 12 21 (ru 8) (.len (.t 20)),
  au 13 22 (ru 8) (.bin .eql (.t 21) (.k (.i 0))),
  au 14 23 (ru 6) (.mv (.t 22)),
  ag 15 24 23 true (ru 6) (.mv (.t 0)),
  ag 16 25 23 true (ru 6) (.nck (.t 24)),
  ag 17 26 23 true (ru 6) (.fa 16 (.t 25)),
  ag 18 27 23 true (ru 6) (.ld 1 false (.t 26)),
  ag 19 28 23 true (ru 6) (.ia 1 (.t 27) (.k (.i 0))),
  ag 20 29 23 true (ru 6) (.ld 1 false (.t 28)),
  ag 21 30 23 true (ru 6) (.bin .eql (.t 29) (.k (.i 1))),
  au 22 31 (ru 6) (.pick (.t 23) (.t 30) (.k (.b false))),
  ao 23 32 (.build [(.v (.s (.bool false))), (.v (.s (.bool false))), (.v (.s (.bool false)))] [(0, 1, (.t 14)), (1, 1, (.t 16)), (2, 1, (.t 31))]),
  an 24 (.st 3 (.t 4) (.t 32))]
def c74_4 : ACode := .seq (.reg r74_3) .ret
def r74_5 : List AOper := [ao 0 34 (.bin .eql (.t 6) (.k (.i 1))),
  ao 1 33 (.mv (.t 34))]
def r74_6 : List AOper := [ao 0 35 (.build [(.v (.s (.bool false))), (.v (.s (.bool false))), (.v (.s (.bool false)))] [(0, 1, (.k (.b true)))]),
  an 1 (.st 3 (.t 4) (.t 35))]
def c74_7 : ACode := .seq (.reg r74_6) .ret
def r74_8 : List AOper := [ao 0 37 (.bin .eql (.t 6) (.k (.i 2))),
  ao 1 36 (.mv (.t 37))]
def r74_9 : List AOper := [ao 0 38 (.mv (.t 0)),
  ao 1 39 (.nck (.t 38)),
  ao 2 40 (.fa 8 (.t 39)),
  ao 3 41 (.ld 1 false (.t 40)),
  ao 4 42 (.len (.t 41)),
  au 5 43 (ru 5) (.mv (.t 0)),
  au 6 44 (ru 5) (.nck (.t 43)),
  au 7 45 (ru 5) (.fa 1 (.t 44)),
  au 8 46 (ru 5) (.ld 1 false (.t 45)),
  ao 9 47 (.bin .lss (.t 42) (.t 46)),
  au 10 48 (ru 10) (.mv (.t 0)),
  au 11 49 (ru 10) (.call (.k (.c (.fn 89 []))) [(.t 48)]),
  ao 12 50 (.build [(.v (.s (.bool false))), (.v (.s (.bool false))), (.v (.s (.bool false)))] [(0, 1, (.t 47)), (1, 1, (.t 49))]),
  an 13 (.st 3 (.t 4) (.t 50))]
def c74_10 : ACode := .seq (.reg r74_9) .ret
def c74_11 : ACode := .cond (.t 36) c74_10 .skip
def c74_12 : ACode := .seq (.reg r74_8) c74_11
def c74_13 : ACode := .cond (.t 33) c74_7 c74_12
def c74_14 : ACode := .seq (.reg r74_5) c74_13
def c74_15 : ACode := .cond (.t 7) c74_4 c74_14
def c74_16 : ACode := .seq (.reg r74_2) c74_15
def c74_17 : ACode := .block 0 c74_16
def c74_18 : ACode := .seq (.reg r74_1) c74_17
def r74_19 : List AOper := [ao 0 51 (.build [(.v (.s (.bool false))), (.v (.s (.bool false))), (.v (.s (.bool false)))] []),
  an 1 (.st 3 (.t 4) (.t 51))]
def c74 : ACode := .seq (.reg r74_0) (.seq c74_18 (.seq (.reg r74_19) .ret))
def s74 : List ARes := [.cell 4 3 true]
theorem ok74 : okF Try.prog 74 52 c74 s74 := ⟨Try.f74, Try.func74, Try.ntmps74, by kernel_rfl, by kernel_rfl, by kernel_rfl⟩
def UEg_5 := Bx.mk <|
  aN (uA c74.eq_1) <| aN (uR r74_0.eq_1) <| aN (uA c74_18.eq_1) <| aN (uR r74_1.eq_1) <| aN (uA c74_17.eq_1) <| aN (uA c74_16.eq_1) <| aN (uR r74_2.eq_1) <| aN (uA c74_15.eq_1) <| aN (uA c74_4.eq_1) <| aN (uR r74_3.eq_1) <| aN (uA c74_14.eq_1) <| aN (uR r74_5.eq_1) <| aN (uA c74_13.eq_1) <| aN (uA c74_7.eq_1) <| aN (uR r74_6.eq_1) <| aN (uA c74_12.eq_1) <| aN (uR r74_8.eq_1) <| aN (uA c74_11.eq_1) <| aN (uA c74_10.eq_1) <| aN (uR r74_9.eq_1) <| aN (uR r74_19.eq_1) <| s74.eq_1
set_option maxHeartbeats 1000000 in
theorem handCases_ok {w : CW} (h : Form w) (x : Hd) : WC 74 [tH x] w (fun y : Bool × Bool × Bool => y = pad3 (waysH w x)) tB3 := by
  obtain ⟨bs, hbs, Cs⟩ := stopped_ok h
  have s0 := en_at eI (sh_at h (i := 0) (by omega))
  have hst : bs = (sh w 3 == 1) := by rw [Bool.eq_iff_iff, hbs, beq_iff_eq]
  refine WC.intro ok74 rfl (fun _ => rfl) fun X => ?_
  by_cases c0 : x.state = 0
  · have k0 := eqb c0
    by_cases c1 : (w.queue.length : Int) = 0
    · have k1 := eqb c1
      simp only [RUX, Nat.reduceAdd, reduceIte, Nat.reduceEqDiff, Nat.reduceLT, Nat.reduceLeDiff, reduceCtorEq, eq_self, rV, FIX, forall_const, endE_n, endE_r, CHT, disj, Nat.reduceBEq, beq_self_eq_true, APT, APX, forall_eq, ALT, KI, UEg_5.d, k0, k1, en_len]
      refine callP (v := 0) (w := w) Cs rfl rfl rfl rfl rfl ⟨rfl, ?_⟩
      simp only [RUX, Nat.reduceAdd, reduceIte, Nat.reduceEqDiff, Nat.reduceLT, Nat.reduceLeDiff, reduceCtorEq, eq_self, rV, FIX, forall_const, endE_n, endE_r, CHT, disj, Nat.reduceBEq, beq_self_eq_true, APT, APX, forall_eq, ALT, KI, UEg_5.d, k0, k1, en_len, s0, eI]
      refine ES.mk (decide ((w.queue.length : Int) > 0), bs, sh w 0 == 1) (by rw [waysH, if_pos c0, k1, hst, Bool.true_and]; rfl) ?_
      simp only [RUX, Nat.reduceAdd, reduceIte, Nat.reduceEqDiff, Nat.reduceLT, Nat.reduceLeDiff, reduceCtorEq, eq_self, rV, FIX, forall_const, endE_n, endE_r, CHT, disj, Nat.reduceBEq, beq_self_eq_true, APT, APX, forall_eq, ALT, KI, UEg_5.d, k0, k1, en_len, s0, eI]
    · have k1 := neqb c1
      simp only [RUX, Nat.reduceAdd, reduceIte, Nat.reduceEqDiff, Nat.reduceLT, Nat.reduceLeDiff, reduceCtorEq, eq_self, rV, FIX, forall_const, endE_n, endE_r, CHT, disj, Nat.reduceBEq, beq_self_eq_true, APT, APX, forall_eq, ALT, KI, UEg_5.d, k0, k1, en_len]
      refine callP (v := 0) (w := w) Cs rfl rfl rfl rfl rfl ⟨rfl, ?_⟩
      simp only [RUX, Nat.reduceAdd, reduceIte, Nat.reduceEqDiff, Nat.reduceLT, Nat.reduceLeDiff, reduceCtorEq, eq_self, rV, FIX, forall_const, endE_n, endE_r, CHT, disj, Nat.reduceBEq, beq_self_eq_true, APT, APX, forall_eq, ALT, KI, UEg_5.d, k0, k1, en_len, s0, eI]
      refine ES.mk (decide ((w.queue.length : Int) > 0), bs, false) (by rw [waysH, if_pos c0, k1, hst, Bool.false_and]; rfl) ?_
      simp only [RUX, Nat.reduceAdd, reduceIte, Nat.reduceEqDiff, Nat.reduceLT, Nat.reduceLeDiff, reduceCtorEq, eq_self, rV, FIX, forall_const, endE_n, endE_r, CHT, disj, Nat.reduceBEq, beq_self_eq_true, APT, APX, forall_eq, ALT, KI, UEg_5.d, k0, k1, en_len, s0, eI]
  have k0 := neqb c0
  by_cases c1 : x.state = 1
  · have k1 := eqb c1
    simp only [RUX, Nat.reduceAdd, reduceIte, Nat.reduceEqDiff, Nat.reduceLT, Nat.reduceLeDiff, reduceCtorEq, eq_self, rV, FIX, forall_const, endE_n, endE_r, CHT, disj, Nat.reduceBEq, beq_self_eq_true, APT, APX, forall_eq, ALT, KI, UEg_5.d, k0, k1]
    refine ES.mk (true, false, false) (by rw [waysH, if_neg c0, if_pos c1]; rfl) ?_
    simp only [RUX, Nat.reduceAdd, reduceIte, Nat.reduceEqDiff, Nat.reduceLT, Nat.reduceLeDiff, reduceCtorEq, eq_self, rV, FIX, forall_const, endE_n, endE_r, CHT, disj, Nat.reduceBEq, beq_self_eq_true, APT, APX, forall_eq, ALT, KI, UEg_5.d, k0, k1]
  have k1 := neqb c1
  by_cases c2 : x.state = 2
  · have k2 := eqb c2
    simp only [RUX, Nat.reduceAdd, reduceIte, Nat.reduceEqDiff, Nat.reduceLT, Nat.reduceLeDiff, reduceCtorEq, eq_self, rV, FIX, forall_const, endE_n, endE_r, CHT, disj, Nat.reduceBEq, beq_self_eq_true, APT, APX, forall_eq, ALT, KI, UEg_5.d, k0, k1, k2, en_len]
    refine callP (v := 0) (w := w) Cs rfl rfl rfl rfl rfl ⟨rfl, ?_⟩
    simp only [RUX, Nat.reduceAdd, reduceIte, Nat.reduceEqDiff, Nat.reduceLT, Nat.reduceLeDiff, reduceCtorEq, eq_self, rV, FIX, forall_const, endE_n, endE_r, CHT, disj, Nat.reduceBEq, beq_self_eq_true, APT, APX, forall_eq, ALT, KI, UEg_5.d, k0, k1, k2, en_len]
    refine ES.mk (decide ((w.results.length : Int) < w.workers), bs, false) (by rw [waysH, if_neg c0, if_neg c1, if_pos c2, hst]; rfl) ?_
    simp only [RUX, Nat.reduceAdd, reduceIte, Nat.reduceEqDiff, Nat.reduceLT, Nat.reduceLeDiff, reduceCtorEq, eq_self, rV, FIX, forall_const, endE_n, endE_r, CHT, disj, Nat.reduceBEq, beq_self_eq_true, APT, APX, forall_eq, ALT, KI, UEg_5.d, k0, k1, k2, en_len]
  have k2 := neqb c2
  simp only [RUX, Nat.reduceAdd, reduceIte, Nat.reduceEqDiff, Nat.reduceLT, Nat.reduceLeDiff, reduceCtorEq, eq_self, rV, FIX, forall_const, endE_n, endE_r, CHT, disj, Nat.reduceBEq, beq_self_eq_true, APT, APX, forall_eq, ALT, KI, UEg_5.d, k0, k1, k2]
  refine ES.mk (false, false, false) (by rw [waysH, if_neg c0, if_neg c1, if_neg c2]; rfl) ?_
  simp only [RUX, Nat.reduceAdd, reduceIte, Nat.reduceEqDiff, Nat.reduceLT, Nat.reduceLeDiff, reduceCtorEq, eq_self, rV, FIX, forall_const, endE_n, endE_r, CHT, disj, Nat.reduceBEq, beq_self_eq_true, APT, APX, forall_eq, ALT, KI, UEg_5.d, k0, k1, k2]
/- (*loop.example/teagle/impl.CrewWorld).keeperCases -/
def r72_0 : List AOper := [ao 0 2 (.alloc 84 [(.v (.s (.bool false))), (.v (.s (.bool false))), (.v (.s (.bool false)))])]
def r72_1 : List AOper := [ao 0 3 (.mv (.t 0)),
  ao 1 4 (.nck (.t 3)),
  ao 2 5 (.fa 9 (.t 4)),
  ao 3 6 (.ld 1 false (.t 5))]
def r72_2 : List AOper := [ao 0 8 (.bin .eql (.t 6) (.k (.i 0))),
  ao 1 7 (.mv (.t 8))]
def r72_3 : List AOper := [ao 0 9 (.mv (.t 0)),
  ao 1 10 (.nck (.t 9)),
  ao 2 11 (.fa 8 (.t 10)),
  ao 3 12 (.ld 1 false (.t 11)),
  ao 4 13 (.len (.t 12)),
  ao 5 14 (.bin .gtr (.t 13) (.k (.i 0))),
  au 6 15 (ru 6) (.mv (.t 0)),
  au 7 16 (ru 6) (.call (.k (.c (.fn 89 []))) [(.t 15)]),
  au 8 17 (ru 8) (.mv (.t 0)),
  au 9 18 (ru 8) (.nck (.t 17)),
  au 10 19 (ru 8) (.fa 8 (.t 18)),
  au 11 20 (ru 8) (.ld 1 false (.t 19)),
  au 12 21 (ru 8) (.len (.t 20)),
  au 13 22 (ru 8) (.bin .eql (.t 21) (.k (.i 0))),
  au 14 23 (ru 6) (.mv (.t 22)),
  ag 15 24 23 true (ru 6) (.mv (.t 0)),
  ag 16 25 23 true (ru 6) (.nck (.t 24)),
  ag 17 26 23 true (ru 6) (.fa 16 (.t 25)),
  ag 18 27 23 true (ru 6) (.ld 1 false (.t 26)),
  ag 19 28 23 true (ru 6) (.ia 1 (.t 27) (.k (.i 1))),
  ag 20 29 23 true (ru 6) (.ld 1 false (.t 28)),
  ag 21 30 23 true (ru 6) (.bin .eql (.t 29) (.k (.i 1))),
  au 22 31 (ru 6) (.pick (.t 23) (.t 30) (.k (.b false))),
  ao 23 32 (.build [(.v (.s (.bool false))), (.v (.s (.bool false))), (.v (.s (.bool false)))] [(0, 1, (.t 14)), (1, 1, (.t 16)), (2, 1, (.t 31))]),
  an 24 (.st 3 (.t 2) (.t 32))]
def c72_4 : ACode := .seq (.reg r72_3) .ret
def r72_5 : List AOper := [ao 0 34 (.bin .eql (.t 6) (.k (.i 2))),
  ao 1 33 (.mv (.t 34))]
def r72_6 : List AOper := [ao 0 35 (.mv (.t 0)),
  ao 1 36 (.nck (.t 35)),
  ao 2 37 (.fa 12 (.t 36)),
  ao 3 38 (.ld 1 false (.t 37)),
  ao 4 39 (.len (.t 38)),
  ao 5 40 (.bin .eql (.t 39) (.k (.i 0))),
  au 6 41 (ru 6) (.mv (.t 0)),
  au 7 42 (ru 6) (.call (.k (.c (.fn 89 []))) [(.t 41)]),
  ao 8 43 (.build [(.v (.s (.bool false))), (.v (.s (.bool false))), (.v (.s (.bool false)))] [(0, 1, (.t 40)), (1, 1, (.t 42))]),
  an 9 (.st 3 (.t 2) (.t 43))]
def c72_7 : ACode := .seq (.reg r72_6) .ret
def r72_8 : List AOper := [ao 0 45 (.bin .eql (.t 6) (.k (.i 1))),
  ao 1 44 (.mv (.t 45))]
def r72_9 : List AOper := [ao 0 46 (.bin .eql (.t 6) (.k (.i 3))),
  ao 1 44 (.mv (.t 46))]
def r72_10 : List AOper := [ao 0 47 (.bin .eql (.t 6) (.k (.i 4))),
  ao 1 44 (.mv (.t 47))]
def c72_11 : ACode := .cond (.t 44) .skip (.reg r72_10)
def c72_12 : ACode := .seq (.reg r72_9) c72_11
def c72_13 : ACode := .cond (.t 44) .skip c72_12
def c72_14 : ACode := .seq (.reg r72_8) c72_13
def r72_15 : List AOper := [ao 0 48 (.build [(.v (.s (.bool false))), (.v (.s (.bool false))), (.v (.s (.bool false)))] [(0, 1, (.k (.b true)))]),
  an 1 (.st 3 (.t 2) (.t 48))]
def c72_16 : ACode := .seq (.reg r72_15) .ret
def c72_17 : ACode := .cond (.t 44) c72_16 .skip
def c72_18 : ACode := .seq c72_14 c72_17
def c72_19 : ACode := .cond (.t 33) c72_7 c72_18
def c72_20 : ACode := .seq (.reg r72_5) c72_19
def c72_21 : ACode := .cond (.t 7) c72_4 c72_20
def c72_22 : ACode := .seq (.reg r72_2) c72_21
def c72_23 : ACode := .block 0 c72_22
def c72_24 : ACode := .seq (.reg r72_1) c72_23
def r72_25 : List AOper := [ao 0 49 (.build [(.v (.s (.bool false))), (.v (.s (.bool false))), (.v (.s (.bool false)))] []),
  an 1 (.st 3 (.t 2) (.t 49))]
def c72 : ACode := .seq (.reg r72_0) (.seq c72_24 (.seq (.reg r72_25) .ret))
def s72 : List ARes := [.cell 2 3 true]
theorem ok72 : okF Try.prog 72 50 c72 s72 := ⟨Try.f72, Try.func72, Try.ntmps72, by kernel_rfl, by kernel_rfl, by kernel_rfl⟩
def UEg_6 := Bx.mk <|
  aN (uA c72.eq_1) <| aN (uR r72_0.eq_1) <| aN (uA c72_24.eq_1) <| aN (uR r72_1.eq_1) <| aN (uA c72_23.eq_1) <| aN (uA c72_22.eq_1) <| aN (uR r72_2.eq_1) <| aN (uA c72_21.eq_1) <| aN (uA c72_4.eq_1) <| aN (uR r72_3.eq_1) <| aN (uA c72_20.eq_1) <| aN (uR r72_5.eq_1) <| aN (uA c72_19.eq_1) <| aN (uA c72_7.eq_1) <| aN (uR r72_6.eq_1) <| aN (uA c72_18.eq_1) <| aN (uA c72_14.eq_1) <| aN (uR r72_8.eq_1) <| aN (uA c72_13.eq_1) <| aN (uA c72_12.eq_1) <| aN (uR r72_9.eq_1) <| aN (uA c72_11.eq_1) <| aN (uR r72_10.eq_1) <| aN (uA c72_17.eq_1) <| aN (uA c72_16.eq_1) <| aN (uR r72_15.eq_1) <| aN (uR r72_25.eq_1) <| s72.eq_1
set_option maxHeartbeats 1000000 in
theorem keeperCases_ok {w : CW} (h : Form w) : WC 72 [] w (fun y : Bool × Bool × Bool => y = pad3 (waysK w)) tB3 := by
  obtain ⟨bs, hbs, Cs⟩ := stopped_ok h
  have s0 := en_at eI (sh_at h (i := 1) (by omega))
  have hst : bs = (sh w 3 == 1) := by rw [Bool.eq_iff_iff, hbs, beq_iff_eq]
  have hkp := h.kp
  refine WC.intro ok72 rfl (fun _ => rfl) fun X => ?_
  by_cases c0 : w.keeper = 0
  · have k0 := eqb c0
    by_cases c1 : (w.results.length : Int) = 0
    · have k1 := eqb c1
      simp only [RUX, Nat.reduceAdd, reduceIte, Nat.reduceEqDiff, Nat.reduceLT, Nat.reduceLeDiff, reduceCtorEq, eq_self, rV, FIX, forall_const, endE_n, endE_r, CHT, disj, Nat.reduceBEq, beq_self_eq_true, APT, APX, forall_eq, ALT, KI, UEg_6.d, k0, k1, en_len]
      refine callP (v := 0) (w := w) Cs rfl rfl rfl rfl rfl ⟨rfl, ?_⟩
      simp only [RUX, Nat.reduceAdd, reduceIte, Nat.reduceEqDiff, Nat.reduceLT, Nat.reduceLeDiff, reduceCtorEq, eq_self, rV, FIX, forall_const, endE_n, endE_r, CHT, disj, Nat.reduceBEq, beq_self_eq_true, APT, APX, forall_eq, ALT, KI, UEg_6.d, k0, k1, en_len, s0, eI]
      refine ES.mk (decide ((w.results.length : Int) > 0), bs, sh w 1 == 1) (by rw [waysK, if_pos c0, k1, hst, Bool.true_and]; rfl) ?_
      simp only [RUX, Nat.reduceAdd, reduceIte, Nat.reduceEqDiff, Nat.reduceLT, Nat.reduceLeDiff, reduceCtorEq, eq_self, rV, FIX, forall_const, endE_n, endE_r, CHT, disj, Nat.reduceBEq, beq_self_eq_true, APT, APX, forall_eq, ALT, KI, UEg_6.d, k0, k1, en_len, s0, eI]
    · have k1 := neqb c1
      simp only [RUX, Nat.reduceAdd, reduceIte, Nat.reduceEqDiff, Nat.reduceLT, Nat.reduceLeDiff, reduceCtorEq, eq_self, rV, FIX, forall_const, endE_n, endE_r, CHT, disj, Nat.reduceBEq, beq_self_eq_true, APT, APX, forall_eq, ALT, KI, UEg_6.d, k0, k1, en_len]
      refine callP (v := 0) (w := w) Cs rfl rfl rfl rfl rfl ⟨rfl, ?_⟩
      simp only [RUX, Nat.reduceAdd, reduceIte, Nat.reduceEqDiff, Nat.reduceLT, Nat.reduceLeDiff, reduceCtorEq, eq_self, rV, FIX, forall_const, endE_n, endE_r, CHT, disj, Nat.reduceBEq, beq_self_eq_true, APT, APX, forall_eq, ALT, KI, UEg_6.d, k0, k1, en_len, s0, eI]
      refine ES.mk (decide ((w.results.length : Int) > 0), bs, false) (by rw [waysK, if_pos c0, k1, hst, Bool.false_and]; rfl) ?_
      simp only [RUX, Nat.reduceAdd, reduceIte, Nat.reduceEqDiff, Nat.reduceLT, Nat.reduceLeDiff, reduceCtorEq, eq_self, rV, FIX, forall_const, endE_n, endE_r, CHT, disj, Nat.reduceBEq, beq_self_eq_true, APT, APX, forall_eq, ALT, KI, UEg_6.d, k0, k1, en_len, s0, eI]
  have k0 := neqb c0
  by_cases c1 : w.keeper = 2
  · have k1 := eqb c1
    simp only [RUX, Nat.reduceAdd, reduceIte, Nat.reduceEqDiff, Nat.reduceLT, Nat.reduceLeDiff, reduceCtorEq, eq_self, rV, FIX, forall_const, endE_n, endE_r, CHT, disj, Nat.reduceBEq, beq_self_eq_true, APT, APX, forall_eq, ALT, KI, UEg_6.d, k0, k1, en_len]
    refine callP (v := 0) (w := w) Cs rfl rfl rfl rfl rfl ⟨rfl, ?_⟩
    simp only [RUX, Nat.reduceAdd, reduceIte, Nat.reduceEqDiff, Nat.reduceLT, Nat.reduceLeDiff, reduceCtorEq, eq_self, rV, FIX, forall_const, endE_n, endE_r, CHT, disj, Nat.reduceBEq, beq_self_eq_true, APT, APX, forall_eq, ALT, KI, UEg_6.d, k0, k1, en_len]
    refine ES.mk ((w.out.length : Int) == 0, bs, false) (by rw [waysK, if_neg c0, if_pos c1, hst]; rfl) ?_
    simp only [RUX, Nat.reduceAdd, reduceIte, Nat.reduceEqDiff, Nat.reduceLT, Nat.reduceLeDiff, reduceCtorEq, eq_self, rV, FIX, forall_const, endE_n, endE_r, CHT, disj, Nat.reduceBEq, beq_self_eq_true, APT, APX, forall_eq, ALT, KI, UEg_6.d, k0, k1, en_len]
  have k1 := neqb c1
  by_cases c2 : w.keeper = 5
  · have k2 : (w.keeper == 1) = false := neqb (by omega)
    have k3 : (w.keeper == 3) = false := neqb (by omega)
    have k4 : (w.keeper == 4) = false := neqb (by omega)
    simp only [RUX, Nat.reduceAdd, reduceIte, Nat.reduceEqDiff, Nat.reduceLT, Nat.reduceLeDiff, reduceCtorEq, eq_self, rV, FIX, forall_const, endE_n, endE_r, CHT, disj, Nat.reduceBEq, beq_self_eq_true, APT, APX, forall_eq, ALT, KI, UEg_6.d, k0, k1, k2, k3, k4]
    refine ES.mk (false, false, false) (by rw [waysK, if_neg c0, if_neg c1, if_pos c2]; rfl) ?_
    simp only [RUX, Nat.reduceAdd, reduceIte, Nat.reduceEqDiff, Nat.reduceLT, Nat.reduceLeDiff, reduceCtorEq, eq_self, rV, FIX, forall_const, endE_n, endE_r, CHT, disj, Nat.reduceBEq, beq_self_eq_true, APT, APX, forall_eq, ALT, KI, UEg_6.d, k0, k1, k2, k3, k4]
  have e : (true, false, false) = pad3 (waysK w) := by rw [waysK, if_neg c0, if_neg c1, if_neg c2]; rfl
  rcases (by omega : w.keeper = 1 ∨ w.keeper = 3 ∨ w.keeper = 4) with c3 | c3 | c3
  · have k2 := eqb c3
    simp only [RUX, Nat.reduceAdd, reduceIte, Nat.reduceEqDiff, Nat.reduceLT, Nat.reduceLeDiff, reduceCtorEq, eq_self, rV, FIX, forall_const, endE_n, endE_r, CHT, disj, Nat.reduceBEq, beq_self_eq_true, APT, APX, forall_eq, ALT, KI, UEg_6.d, k0, k1, k2]
    refine ES.mk _ e ?_
    simp only [RUX, Nat.reduceAdd, reduceIte, Nat.reduceEqDiff, Nat.reduceLT, Nat.reduceLeDiff, reduceCtorEq, eq_self, rV, FIX, forall_const, endE_n, endE_r, CHT, disj, Nat.reduceBEq, beq_self_eq_true, APT, APX, forall_eq, ALT, KI, UEg_6.d, k0, k1, k2]
  · have k2 : (w.keeper == 1) = false := neqb (by omega)
    have k3 := eqb c3
    simp only [RUX, Nat.reduceAdd, reduceIte, Nat.reduceEqDiff, Nat.reduceLT, Nat.reduceLeDiff, reduceCtorEq, eq_self, rV, FIX, forall_const, endE_n, endE_r, CHT, disj, Nat.reduceBEq, beq_self_eq_true, APT, APX, forall_eq, ALT, KI, UEg_6.d, k0, k1, k2, k3]
    refine ES.mk _ e ?_
    simp only [RUX, Nat.reduceAdd, reduceIte, Nat.reduceEqDiff, Nat.reduceLT, Nat.reduceLeDiff, reduceCtorEq, eq_self, rV, FIX, forall_const, endE_n, endE_r, CHT, disj, Nat.reduceBEq, beq_self_eq_true, APT, APX, forall_eq, ALT, KI, UEg_6.d, k0, k1, k2, k3]
  · have k2 : (w.keeper == 1) = false := neqb (by omega)
    have k3 : (w.keeper == 3) = false := neqb (by omega)
    have k4 := eqb c3
    simp only [RUX, Nat.reduceAdd, reduceIte, Nat.reduceEqDiff, Nat.reduceLT, Nat.reduceLeDiff, reduceCtorEq, eq_self, rV, FIX, forall_const, endE_n, endE_r, CHT, disj, Nat.reduceBEq, beq_self_eq_true, APT, APX, forall_eq, ALT, KI, UEg_6.d, k0, k1, k2, k3, k4]
    refine ES.mk _ e ?_
    simp only [RUX, Nat.reduceAdd, reduceIte, Nat.reduceEqDiff, Nat.reduceLT, Nat.reduceLeDiff, reduceCtorEq, eq_self, rV, FIX, forall_const, endE_n, endE_r, CHT, disj, Nat.reduceBEq, beq_self_eq_true, APT, APX, forall_eq, ALT, KI, UEg_6.d, k0, k1, k2, k3, k4]
end Go.V
set_option linter.unusedSimpArgs false
namespace Go.V
open Go.Proofs
/-- The numbers of the ways that are open. -/
def opnN (bs : List Bool) (n : Nat) : List Int := ((List.range n).filter fun k => bs.getD k false).map fun k : Nat => (k : Int)
def opn (bs : List Bool) : List Int := opnN bs 3
def l3 (x : Bool × Bool × Bool) : List Bool := [x.1, x.2.1, x.2.2]
theorem opnN_next {bs : List Bool} {n : Nat} {b : Bool} (h : bs[n]? = some b) : opnN bs (n + 1) = opnN bs n ++ (if b then [(n : Int)] else []) := by
  cases b <;> simp [opnN, List.range_succ, List.filter_append, List.filter_cons, List.map_append, h]
theorem opnN_len (bs : List Bool) (n : Nat) : (opnN bs n).length ≤ n := by
  rw [opnN, List.length_map]
  exact Nat.le_trans (List.length_filter_le _ _) (by simp)
theorem opn_pad (bs : List Bool) : opnN (l3 (pad3 bs)) 3 = opn bs := by
  unfold opn opnN l3 pad3
  rw [show List.range 3 = [0, 1, 2] from rfl]
  simp only [List.filter_cons, List.filter_nil]
  rfl
theorem l3_at (x : Bool × Bool × Bool) {i : Nat} (h : i < 3) : ∃ b, (l3 x)[i]? = some b ∧ (cB3 x)[i * 1]? = some (.v (.s (.bool b))) := by
  rcases (by omega : i = 0 ∨ i = 1 ∨ i = 2) with rfl | rfl | rfl <;> exact ⟨_, rfl, rfl⟩
/- (*loop.example/teagle/impl.CrewWorld).cases -/
def r43_0 : List AOper := [ao 0 4 (.mv (.k (.c .nil0)))]
def r43_1 : List AOper := [ao 0 9 (.build [(.v (.s (.bool false))), (.v (.s (.bool false))), (.v (.s (.bool false)))] []),
  ao 1 5 (.alloc 84 [(.v (.s (.bool false))), (.v (.s (.bool false))), (.v (.s (.bool false)))]),
  an 2 (.st 3 (.t 5) (.t 9))]
def r43_2 : List AOper := [ao 0 10 (.mv (.t 1))]
def r43_3 : List AOper := [ao 0 22 (.bin .eql (.t 10) (.k (.i 0))),
  ao 1 21 (.mv (.t 22))]
def r43_4 : List AOper := [ao 0 23 (.mv (.t 0)),
  ao 1 24 (.call (.k (.c (.fn 68 []))) [(.t 23)]),
  an 2 (.st 3 (.t 5) (.t 24))]
def r43_5 : List AOper := [ao 0 26 (.mv (.t 0)),
  ao 1 27 (.call (.k (.c (.fn 69 []))) [(.t 26)]),
  ao 2 28 (.bin .eql (.t 10) (.t 27)),
  ao 3 25 (.mv (.t 28))]
def r43_6 : List AOper := [ao 0 29 (.mv (.t 0)),
  ao 1 30 (.nck (.t 29)),
  ao 2 31 (.fa 7 (.t 30)),
  ao 3 32 (.ld 1 false (.t 31)),
  ao 4 33 (.bin .eql (.t 32) (.k (.i 0))),
  ao 5 34 (.mv (.t 33)),
  ag 6 35 34 true [] (.mv (.t 0)),
  ag 7 36 34 true [] (.call (.k (.c (.fn 70 []))) [(.t 35)]),
  ao 8 37 (.pick (.t 34) (.t 36) (.k (.b false))),
  ao 9 38 (.iap 3 1 (.t 5) (.k (.i 0))),
  an 10 (.st 1 (.t 38) (.t 37))]
def r43_7 : List AOper := [ao 0 40 (.mv (.t 0)),
  ao 1 41 (.call (.k (.c (.fn 71 []))) [(.t 40)]),
  ao 2 42 (.bin .eql (.t 10) (.t 41)),
  ao 3 39 (.mv (.t 42))]
def r43_8 : List AOper := [ao 0 43 (.mv (.t 0)),
  ao 1 44 (.call (.k (.c (.fn 72 []))) [(.t 43)]),
  an 2 (.st 3 (.t 5) (.t 44))]
def r43_9 : List AOper := [ao 0 46 (.mv (.t 0)),
  ao 1 47 (.call (.k (.c (.fn 73 []))) [(.t 46)]),
  ao 2 48 (.bin .eql (.t 10) (.t 47)),
  ao 3 45 (.mv (.t 48))]
def r43_10 : List AOper := [ao 0 49 (.mv (.t 0)),
  ao 1 50 (.nck (.t 49)),
  ao 2 51 (.fa 13 (.t 50)),
  ao 3 52 (.ld 1 false (.t 51)),
  ao 4 53 (.bin .eql (.t 52) (.k (.i 0))),
  ao 5 54 (.mv (.t 53)),
  ag 6 55 54 true [] (.mv (.t 0)),
  ag 7 56 54 true [] (.nck (.t 55)),
  ag 8 57 54 true [] (.fa 12 (.t 56)),
  ag 9 58 54 true [] (.ld 1 false (.t 57)),
  ag 10 59 54 true [] (.len (.t 58)),
  ag 11 60 54 true [] (.bin .gtr (.t 59) (.k (.i 0))),
  ao 12 61 (.pick (.t 54) (.t 60) (.k (.b false))),
  ao 13 62 (.iap 3 1 (.t 5) (.k (.i 0))),
  an 14 (.st 1 (.t 62) (.t 61))]
def r43_11 : List AOper := [ao 0 63 (.mv (.t 0)),
  ao 1 64 (.nck (.t 63)),
  ao 2 65 (.fa 13 (.t 64)),
  ao 3 66 (.ld 1 false (.t 65)),
  ao 4 67 (.bin .eql (.t 66) (.k (.i 0))),
  ao 5 68 (.mv (.t 67)),
  ag 6 69 68 true [] (.mv (.t 0)),
  ag 7 70 68 true [] (.nck (.t 69)),
  ag 8 71 68 true [] (.fa 12 (.t 70)),
  ag 9 72 68 true [] (.ld 1 false (.t 71)),
  ag 10 73 68 true [] (.len (.t 72)),
  ag 11 74 68 true [] (.bin .eql (.t 73) (.k (.i 0))),
  ao 12 75 (.pick (.t 68) (.t 74) (.k (.b false))),
  ao 13 76 (.mv (.t 75)),
  ag 14 77 76 true [] (.mv (.t 0)),
  ag 15 78 76 true [] (.nck (.t 77)),
  ag 16 79 76 true [] (.fa 16 (.t 78)),
  ag 17 80 76 true [] (.ld 1 false (.t 79)),
  ag 18 81 76 true [] (.ia 1 (.t 80) (.k (.i 2))),
  ag 19 82 76 true [] (.ld 1 false (.t 81)),
  ag 20 83 76 true [] (.bin .eql (.t 82) (.k (.i 1))),
  ao 21 84 (.pick (.t 76) (.t 83) (.k (.b false))),
  ao 22 85 (.iap 3 1 (.t 5) (.k (.i 1))),
  an 23 (.st 1 (.t 85) (.t 84))]
def c43_12 : ACode := .seq (.reg r43_10) (.reg r43_11)
def r43_13 : List AOper := [ao 0 11 (.mv (.t 0)),
  ao 1 12 (.mv (.t 0)),
  ao 2 13 (.nck (.t 12)),
  ao 3 14 (.fa 6 (.t 13)),
  ao 4 15 (.ld 1 false (.t 14)),
  ao 5 16 (.mv (.t 1)),
  ao 6 17 (.bin .sub (.t 16) (.k (.i 1))),
  ao 7 18 (.ia 2 (.t 15) (.t 17)),
  ao 8 19 (.ld 2 true (.t 18)),
  ao 9 20 (.call (.k (.c (.fn 74 []))) [(.t 11), (.t 19)]),
  an 10 (.st 3 (.t 5) (.t 20))]
def c43_14 : ACode := .cond (.t 45) c43_12 (.reg r43_13)
def c43_15 : ACode := .seq (.reg r43_9) c43_14
def c43_16 : ACode := .cond (.t 39) (.reg r43_8) c43_15
def c43_17 : ACode := .seq (.reg r43_7) c43_16
def c43_18 : ACode := .cond (.t 25) (.reg r43_6) c43_17
def c43_19 : ACode := .seq (.reg r43_5) c43_18
def c43_20 : ACode := .cond (.t 21) (.reg r43_4) c43_19
def c43_21 : ACode := .seq (.reg r43_3) c43_20
def c43_22 : ACode := .block 0 c43_21
def c43_23 : ACode := .seq (.reg r43_2) c43_22
def r43_24 : List AOper := [ao 0 86 (.bsl 1 3 []),
  ao 1 6 (.mv (.t 86))]
def r43_25 : List AOper := [ao 0 87 (.ld 3 true (.t 5)),
  ao 1 88 (.mv (.k (.i 0)))]
def r43_26 : List AOper := [ao 0 89 (.bin .lss (.t 88) (.k (.i 3)))]
def c43_27 : ACode := .cond (.t 89) .skip (.exit 1)
def r43_28 : List AOper := [ao 0 90 (.mv (.t 88)),
  ao 1 91 (.ixA 3 1 false (.t 87) (.t 88)),
  ao 2 7 (.mv (.t 90)),
  ao 3 8 (.mv (.t 91))]
def r43_29 : List AOper := [ao 0 92 (.mv (.t 8))]
def r43_30 : List AOper := [ao 0 93 (.mv (.t 6)),
  ao 1 94 (.mv (.t 7)),
  ao 2 95 (.bsl 1 3 [(.t 94)]),
  ao 3 96 (.app 1 3 8 (.t 93) (.t 95)),
  ao 4 6 (.mv (.t 96))]
def c43_31 : ACode := .cond (.t 92) (.reg r43_30) .skip
def c43_32 : ACode := .seq (.reg r43_28) (.seq (.reg r43_29) c43_31)
def c43_33 : ACode := .block 2 c43_32
def r43_34 : List AOper := [ao 0 97 (.bin .add (.t 88) (.k (.i 1))),
  ao 1 88 (.mv (.t 97))]
def c43_35 : ACode := .seq (.reg r43_26) (.seq c43_27 (.seq c43_33 (.reg r43_34)))
def c43_36 : ACode := .loop c43_35
def c43_37 : ACode := .block 1 c43_36
def c43_38 : ACode := .seq (.reg r43_25) c43_37
def r43_39 : List AOper := [ao 0 98 (.mv (.t 6)),
  ao 1 4 (.mv (.t 98))]
def c43 : ACode := .seq (.reg r43_0) (.seq (.reg r43_1) (.seq c43_23 (.seq (.reg r43_24) (.seq c43_38 (.seq (.reg r43_39) .ret)))))
def s43 : List ARes := [.tmp 4]
theorem ok43 : okF Try.prog 43 99 c43 s43 := ⟨Try.f43, Try.func43, Try.ntmps43, by kernel_rfl, by kernel_rfl, by kernel_rfl⟩
def inv43 (w : CW) (x : Bool × Bool × Bool) (i : Nat) (σ : St) : Prop := σ.H 1000 = some (cwB 0 w) ∧ σ.t 87 = tB3 x ∧ σ.t 88 = .i i ∧ ∃ v, σ.t 6 = .c (.own 86 v (opnN (l3 x) i).length) ∧ σ.H 86 = some (.arr v true 1 3 (en eI (opnN (l3 x) i)))
def UEh_1 := Bx.mk <|
  aN (uA c43.eq_1) <| aN (uR r43_0.eq_1) <| aN (uR r43_1.eq_1) <| aN (uA c43_23.eq_1) <| aN (uR r43_2.eq_1) <| aN (uA c43_22.eq_1) <| aN (uA c43_21.eq_1) <| aN (uR r43_3.eq_1) <| aN (uA c43_20.eq_1) <| aN (uR r43_4.eq_1) <| aN (uA c43_19.eq_1) <| aN (uR r43_5.eq_1) <| aN (uA c43_18.eq_1) <| aN (uR r43_6.eq_1) <| aN (uA c43_17.eq_1) <| aN (uR r43_7.eq_1) <| aN (uA c43_16.eq_1) <| aN (uR r43_8.eq_1) <| aN (uA c43_15.eq_1) <| aN (uR r43_9.eq_1) <| aN (uA c43_14.eq_1) <| aN (uA c43_12.eq_1) <| aN (uR r43_10.eq_1) <| aN (uR r43_11.eq_1) <| aN (uR r43_13.eq_1) <| aN (uR r43_24.eq_1) <| aN (uA c43_38.eq_1) <| aN (uR r43_25.eq_1) <| aN (uA c43_37.eq_1) <| aN (uA c43_36.eq_1) <| aN (uR r43_39.eq_1) <| s43.eq_1
def UEh_2 := Bx.mk <|
  aN (uA c43.eq_1) <| aN (uR r43_0.eq_1) <| aN (uR r43_1.eq_1) <| aN (uA c43_23.eq_1) <| aN (uR r43_2.eq_1) <| aN (uA c43_22.eq_1) <| aN (uA c43_21.eq_1) <| aN (uR r43_3.eq_1) <| aN (uA c43_20.eq_1) <| aN (uR r43_4.eq_1) <| aN (uA c43_19.eq_1) <| aN (uR r43_5.eq_1) <| aN (uA c43_18.eq_1) <| aN (uR r43_6.eq_1) <| aN (uA c43_17.eq_1) <| aN (uR r43_7.eq_1) <| aN (uA c43_16.eq_1) <| aN (uR r43_8.eq_1) <| aN (uA c43_15.eq_1) <| aN (uR r43_9.eq_1) <| aN (uA c43_14.eq_1) <| aN (uA c43_12.eq_1) <| aN (uR r43_10.eq_1) <| aN (uR r43_11.eq_1) <| aN (uR r43_13.eq_1) <| aN (uA c43_38.eq_1) <| aN (uR r43_25.eq_1) <| aN (uA c43_37.eq_1) <| aN (uA c43_36.eq_1) <| aN (uR r43_39.eq_1) <| s43.eq_1
def UEh_6 := Bx.mk <|
  aN (uA c43_35.eq_1) <| aN (uR r43_26.eq_1) <| aN (uA c43_27.eq_1) <| aN (uA c43_33.eq_1) <| aN (uA c43_32.eq_1) <| aN (uR r43_28.eq_1) <| aN (uR r43_29.eq_1) <| aN (uA c43_31.eq_1) <| aN (uR r43_30.eq_1) <| aN (uR r43_34.eq_1) <| aN (uA c43.eq_1) <| aN (uR r43_0.eq_1) <| aN (uR r43_1.eq_1) <| aN (uA c43_23.eq_1) <| aN (uR r43_2.eq_1) <| aN (uA c43_22.eq_1) <| aN (uA c43_21.eq_1) <| aN (uR r43_3.eq_1) <| aN (uA c43_20.eq_1) <| aN (uR r43_4.eq_1) <| aN (uA c43_19.eq_1) <| aN (uR r43_5.eq_1) <| aN (uA c43_18.eq_1) <| aN (uR r43_6.eq_1) <| aN (uA c43_17.eq_1) <| aN (uR r43_7.eq_1) <| aN (uA c43_16.eq_1) <| aN (uR r43_8.eq_1) <| aN (uA c43_15.eq_1) <| aN (uR r43_9.eq_1) <| aN (uA c43_14.eq_1) <| aN (uA c43_12.eq_1) <| aN (uR r43_10.eq_1) <| aN (uR r43_11.eq_1) <| aN (uR r43_13.eq_1) <| aN (uR r43_24.eq_1) <| aN (uA c43_38.eq_1) <| aN (uR r43_25.eq_1) <| aN (uA c43_37.eq_1) <| aN (uA c43_36.eq_1) <| aN (uR r43_39.eq_1) <| s43.eq_1
set_option maxHeartbeats 2000000 in
theorem cases_ok {w : CW} (h : Form w) (who : Int) (h0 : 0 ≤ who) (h4 : who ≤ w.workers + 3) : WC 43 [.i who] w (fun ks : List Int => ks = opn (ways w who)) (fun ks => tL (en eI ks)) := by
  obtain ⟨nc, rfl, Cc⟩ := closer_ok h
  obtain ⟨nk, rfl, Ck⟩ := keeper_ok h
  obtain ⟨nu, rfl, Cu⟩ := user_ok h
  obtain ⟨xr, hxr, Cr⟩ := readerCases_ok h
  obtain ⟨xk, hxk, Cp⟩ := keeperCases_ok h
  obtain ⟨be, hbe, Ce⟩ := haveEnded_ok h
  have hk := h.st.k
  have hh := h.lh
  have hus := h.us
  have w1 : IntKind.i64.wrap (who - 1) = who - 1 := wrap64 ⟨by omega, by omega⟩
  refine WC.intro ok43 rfl (fun _ => rfl) fun X => ?_
  have fin : ∀ (x : Bool × Bool × Bool), x = pad3 (ways w who) → ∀ (t : Nat → T) (H : HMap) (c u : Nat), t 5 = .c (.ptr 5 u 0) → H 5 = some (.var u 84 (cB3 x)) → H 1000 = some (cwB 0 w) → DRun Try.prog r43_24 [] (Kont (thenW Try.prog X (.seq c43_38 (.seq (.reg r43_39) .ret)) (endE (fun ks : List Int => ks = opn (ways w who)) (fun ks => tL (en eI ks)) (fun _ => [rV 0 29 (cwC w) (cwC w)]) [.tmp 4])) r43_24) ⟨t, H, c⟩ := by
    intro x hx t H c u e5 eH5 eW
    simp only [T.c] at e5
    simp only [RUX, Nat.reduceAdd, reduceIte, Nat.reduceEqDiff, Nat.reduceLT, Nat.reduceLeDiff, reduceCtorEq, eq_self, rV, FIX, forall_const, endE_n, endE_r, CHT, disj, Nat.reduceBEq, beq_self_eq_true, APT, APX, forall_eq, ALT, KI, UEh_1.d, e5, eH5, eW]
    refine AW.upto 3 (inv43 w x) ⟨eW, rfl, rfl, _, rfl, rfl⟩ fun i t H c hi h' => ?_
    clear e5 eH5 eW
    obtain ⟨eW, e87, e88, v, e6, e86⟩ := h'
    simp only [T.c, T.i, tB3] at eW e87 e88 e6 e86
    have hl := opnN_len (l3 x) i
    by_cases k1 : (i : Int) < 3
    · obtain ⟨b, hb, hc⟩ := l3_at x (i := i) (by omega)
      have gz : (0 : Int) ≤ i := by omega
      have g3 : i < 3 := by omega
      have gw := w1_ok (i := i) (by omega)
      have hn := opnN_next hb
      have q1 : ((opnN (l3 x) i).length + 1) * 8 ≤ 140737488355328 := by omega
      have q2 : (opnN (l3 x) i).length + 1 ≤ 9223372036854775807 := by omega
      cases b with
      | true =>
        rw [if_pos rfl] at hn
        simp only [RUX, Nat.reduceAdd, reduceIte, Nat.reduceEqDiff, Nat.reduceLT, Nat.reduceLeDiff, reduceCtorEq, eq_self, rV, FIX, forall_const, endE_n, endE_r, CHT, disj, Nat.reduceBEq, beq_self_eq_true, APT, APX, forall_eq, ALT, KI, UEh_6.d, eW, e87, e88, e6, e86, k1, gz, g3, Int.toNat_natCast, hc, gw, q1, q2]
        exact ⟨eW, e87, rfl, _, own_len (by rw [hn, List.length_append]; rfl), arr_snoc hn⟩
      | false =>
        rw [if_neg (by decide), List.append_nil] at hn
        simp only [RUX, Nat.reduceAdd, reduceIte, Nat.reduceEqDiff, Nat.reduceLT, Nat.reduceLeDiff, reduceCtorEq, eq_self, rV, FIX, forall_const, endE_n, endE_r, CHT, disj, Nat.reduceBEq, beq_self_eq_true, APT, APX, forall_eq, ALT, KI, UEh_6.d, eW, e87, e88, e6, e86, k1, gz, g3, Int.toNat_natCast, hc, gw, q1, q2]
        exact ⟨eW, e87, rfl, v, by show t 6 = _; rw [hn]; exact e6, by show H 86 = _; rw [hn]; exact e86⟩
    · have hi2 : i = 3 := by omega
      subst hi2
      simp only [RUX, Nat.reduceAdd, reduceIte, Nat.reduceEqDiff, Nat.reduceLT, Nat.reduceLeDiff, reduceCtorEq, eq_self, rV, FIX, forall_const, endE_n, endE_r, CHT, disj, Nat.reduceBEq, beq_self_eq_true, APT, APX, forall_eq, ALT, KI, UEh_6.d, eW, e87, e88, e6, e86, k1]
      refine ES.mk (opnN (l3 x) 3) (by rw [hx, opn_pad]) ?_
      simp only [RUX, Nat.reduceAdd, reduceIte, Nat.reduceEqDiff, Nat.reduceLT, Nat.reduceLeDiff, reduceCtorEq, eq_self, rV, FIX, forall_const, endE_n, endE_r, CHT, disj, Nat.reduceBEq, beq_self_eq_true, APT, APX, forall_eq, ALT, KI, UEh_6.d, eW, e87, e88, e6, e86, k1]
  by_cases c0 : who = 0
  · have k0 := eqb c0
    have e : ways w who = waysR w := by rw [ways, if_pos c0]
    simp only [RUX, Nat.reduceAdd, reduceIte, Nat.reduceEqDiff, Nat.reduceLT, Nat.reduceLeDiff, reduceCtorEq, eq_self, rV, FIX, forall_const, endE_n, endE_r, CHT, disj, Nat.reduceBEq, beq_self_eq_true, APT, APX, forall_eq, ALT, KI, UEh_2.d, Nat.reduceMul, Nat.zero_le, k0]
    refine callP (v := 0) (w := w) Cr rfl rfl rfl rfl rfl ⟨rfl, ?_⟩
    simp only [RUX, Nat.reduceAdd, reduceIte, Nat.reduceEqDiff, Nat.reduceLT, Nat.reduceLeDiff, reduceCtorEq, eq_self, rV, FIX, forall_const, endE_n, endE_r, CHT, disj, Nat.reduceBEq, beq_self_eq_true, APT, APX, forall_eq, ALT, KI, UEh_2.d, Nat.reduceMul, Nat.zero_le, k0]
    refine fin xr (by rw [e]; exact hxr) _ _ _ 3 ?_ ?_ ?_ <;> rfl
  have k0 := neqb c0
  by_cases c2 : who = w.workers + 1
  · have k2 := eqb c2
    have e : ways w who = [(w.closer == 0) && allB w] := by rw [ways, if_neg c0, if_neg (by omega), if_pos c2]
    have ebe : be = allB w := by rw [Bool.eq_iff_iff, hbe]; exact (all_iff w.hands).symm
    simp only [RUX, Nat.reduceAdd, reduceIte, Nat.reduceEqDiff, Nat.reduceLT, Nat.reduceLeDiff, reduceCtorEq, eq_self, rV, FIX, forall_const, endE_n, endE_r, CHT, disj, Nat.reduceBEq, beq_self_eq_true, APT, APX, forall_eq, ALT, KI, UEh_2.d, Nat.reduceMul, Nat.zero_le, k0]
    refine callP (v := 0) (w := w) Cc rfl rfl rfl rfl rfl ⟨rfl, ?_⟩
    by_cases c3 : w.closer = 0
    · have k3 := eqb c3
      simp only [RUX, Nat.reduceAdd, reduceIte, Nat.reduceEqDiff, Nat.reduceLT, Nat.reduceLeDiff, reduceCtorEq, eq_self, rV, FIX, forall_const, endE_n, endE_r, CHT, disj, Nat.reduceBEq, beq_self_eq_true, APT, APX, forall_eq, ALT, KI, UEh_2.d, Nat.reduceMul, Nat.zero_le, k0, k2, k3]
      refine callP (v := 0) (w := w) Ce rfl rfl rfl rfl rfl ⟨rfl, ?_⟩
      simp only [RUX, Nat.reduceAdd, reduceIte, Nat.reduceEqDiff, Nat.reduceLT, Nat.reduceLeDiff, reduceCtorEq, eq_self, rV, FIX, forall_const, endE_n, endE_r, CHT, disj, Nat.reduceBEq, beq_self_eq_true, APT, APX, forall_eq, ALT, KI, UEh_2.d, Nat.reduceMul, Nat.zero_le, k0, k2, k3]
      refine fin (be, false, false) (by rw [e, k3, ← ebe]; rfl) _ _ _ 3 ?_ ?_ ?_ <;> rfl
    · have k3 := neqb c3
      simp only [RUX, Nat.reduceAdd, reduceIte, Nat.reduceEqDiff, Nat.reduceLT, Nat.reduceLeDiff, reduceCtorEq, eq_self, rV, FIX, forall_const, endE_n, endE_r, CHT, disj, Nat.reduceBEq, beq_self_eq_true, APT, APX, forall_eq, ALT, KI, UEh_2.d, Nat.reduceMul, Nat.zero_le, k0, k2, k3]
      refine fin (false, false, false) (by rw [e, k3]; rfl) _ _ _ 3 ?_ ?_ ?_ <;> rfl
  have k2 := neqb c2
  by_cases c3 : who = w.workers + 2
  · have k3 := eqb c3
    have e : ways w who = waysK w := by rw [ways, if_neg c0, if_neg (by omega), if_neg c2, if_pos c3]
    simp only [RUX, Nat.reduceAdd, reduceIte, Nat.reduceEqDiff, Nat.reduceLT, Nat.reduceLeDiff, reduceCtorEq, eq_self, rV, FIX, forall_const, endE_n, endE_r, CHT, disj, Nat.reduceBEq, beq_self_eq_true, APT, APX, forall_eq, ALT, KI, UEh_2.d, Nat.reduceMul, Nat.zero_le, k0]
    refine callP (v := 0) (w := w) Cc rfl rfl rfl rfl rfl ⟨rfl, ?_⟩
    simp only [RUX, Nat.reduceAdd, reduceIte, Nat.reduceEqDiff, Nat.reduceLT, Nat.reduceLeDiff, reduceCtorEq, eq_self, rV, FIX, forall_const, endE_n, endE_r, CHT, disj, Nat.reduceBEq, beq_self_eq_true, APT, APX, forall_eq, ALT, KI, UEh_2.d, Nat.reduceMul, Nat.zero_le, k0, k2]
    refine callP (v := 0) (w := w) Ck rfl rfl rfl rfl rfl ⟨rfl, ?_⟩
    simp only [RUX, Nat.reduceAdd, reduceIte, Nat.reduceEqDiff, Nat.reduceLT, Nat.reduceLeDiff, reduceCtorEq, eq_self, rV, FIX, forall_const, endE_n, endE_r, CHT, disj, Nat.reduceBEq, beq_self_eq_true, APT, APX, forall_eq, ALT, KI, UEh_2.d, Nat.reduceMul, Nat.zero_le, k0, k2, k3]
    refine callP (v := 0) (w := w) Cp rfl rfl rfl rfl rfl ⟨rfl, ?_⟩
    simp only [RUX, Nat.reduceAdd, reduceIte, Nat.reduceEqDiff, Nat.reduceLT, Nat.reduceLeDiff, reduceCtorEq, eq_self, rV, FIX, forall_const, endE_n, endE_r, CHT, disj, Nat.reduceBEq, beq_self_eq_true, APT, APX, forall_eq, ALT, KI, UEh_2.d, Nat.reduceMul, Nat.zero_le, k0, k2, k3]
    refine fin xk (by rw [e]; exact hxk) _ _ _ 3 ?_ ?_ ?_ <;> rfl
  have k3 := neqb c3
  by_cases c4 : who = w.workers + 3
  · have k4 := eqb c4
    have s2 := en_at eI (sh_at h (i := 2) (by omega))
    simp only [RUX, Nat.reduceAdd, reduceIte, Nat.reduceEqDiff, Nat.reduceLT, Nat.reduceLeDiff, reduceCtorEq, eq_self, rV, FIX, forall_const, endE_n, endE_r, CHT, disj, Nat.reduceBEq, beq_self_eq_true, APT, APX, forall_eq, ALT, KI, UEh_2.d, Nat.reduceMul, Nat.zero_le, k0]
    refine callP (v := 0) (w := w) Cc rfl rfl rfl rfl rfl ⟨rfl, ?_⟩
    simp only [RUX, Nat.reduceAdd, reduceIte, Nat.reduceEqDiff, Nat.reduceLT, Nat.reduceLeDiff, reduceCtorEq, eq_self, rV, FIX, forall_const, endE_n, endE_r, CHT, disj, Nat.reduceBEq, beq_self_eq_true, APT, APX, forall_eq, ALT, KI, UEh_2.d, Nat.reduceMul, Nat.zero_le, k0, k2]
    refine callP (v := 0) (w := w) Ck rfl rfl rfl rfl rfl ⟨rfl, ?_⟩
    simp only [RUX, Nat.reduceAdd, reduceIte, Nat.reduceEqDiff, Nat.reduceLT, Nat.reduceLeDiff, reduceCtorEq, eq_self, rV, FIX, forall_const, endE_n, endE_r, CHT, disj, Nat.reduceBEq, beq_self_eq_true, APT, APX, forall_eq, ALT, KI, UEh_2.d, Nat.reduceMul, Nat.zero_le, k0, k2, k3]
    refine callP (v := 0) (w := w) Cu rfl rfl rfl rfl rfl ⟨rfl, ?_⟩
    by_cases c5 : w.user = 0
    · have k5 := eqb c5
      have e : ways w who = [decide ((w.out.length : Int) > 0), ((w.out.length : Int) == 0) && (sh w 2 == 1)] := by rw [ways, if_neg c0, if_neg (by omega), if_neg c2, if_neg c3, if_neg (by omega)]
      by_cases c6 : (w.out.length : Int) = 0
      · have k6 := eqb c6
        simp only [RUX, Nat.reduceAdd, reduceIte, Nat.reduceEqDiff, Nat.reduceLT, Nat.reduceLeDiff, reduceCtorEq, eq_self, rV, FIX, forall_const, endE_n, endE_r, CHT, disj, Nat.reduceBEq, beq_self_eq_true, APT, APX, forall_eq, ALT, KI, UEh_2.d, Nat.reduceMul, Nat.zero_le, k0, k2, k3, k4, k5, k6, s2, eI, en_len]
        refine fin (decide ((w.out.length : Int) > 0), sh w 2 == 1, false) (by rw [e, k6]; rfl) _ _ _ 3 ?_ ?_ ?_ <;> rfl
      · have k6 := neqb c6
        simp only [RUX, Nat.reduceAdd, reduceIte, Nat.reduceEqDiff, Nat.reduceLT, Nat.reduceLeDiff, reduceCtorEq, eq_self, rV, FIX, forall_const, endE_n, endE_r, CHT, disj, Nat.reduceBEq, beq_self_eq_true, APT, APX, forall_eq, ALT, KI, UEh_2.d, Nat.reduceMul, Nat.zero_le, k0, k2, k3, k4, k5, k6, s2, eI, en_len]
        refine fin (decide ((w.out.length : Int) > 0), false, false) (by rw [e, k6]; rfl) _ _ _ 3 ?_ ?_ ?_ <;> rfl
    · have k5 := neqb c5
      have e : ways w who = [] := by rw [ways, if_neg c0, if_neg (by omega), if_neg c2, if_neg c3, if_pos (by omega)]
      simp only [RUX, Nat.reduceAdd, reduceIte, Nat.reduceEqDiff, Nat.reduceLT, Nat.reduceLeDiff, reduceCtorEq, eq_self, rV, FIX, forall_const, endE_n, endE_r, CHT, disj, Nat.reduceBEq, beq_self_eq_true, APT, APX, forall_eq, ALT, KI, UEh_2.d, Nat.reduceMul, Nat.zero_le, k0, k2, k3, k4, k5]
      refine fin (false, false, false) (by rw [e]; rfl) _ _ _ 3 ?_ ?_ ?_ <;> rfl
  have k4 := neqb c4
  have c1 : who ≤ w.workers := by omega
  have e : ways w who = waysH w (hdAt w (who - 1).toNat) := by rw [ways, if_neg c0, if_pos c1]
  have ex := en_at eH (hdAt_at (w := w) (i := (who - 1).toNat) (by omega))
  have gz : 0 ≤ who - 1 := by omega
  obtain ⟨xh, hxh, Ch⟩ := handCases_ok h (hdAt w (who - 1).toNat)
  simp only [RUX, Nat.reduceAdd, reduceIte, Nat.reduceEqDiff, Nat.reduceLT, Nat.reduceLeDiff, reduceCtorEq, eq_self, rV, FIX, forall_const, endE_n, endE_r, CHT, disj, Nat.reduceBEq, beq_self_eq_true, APT, APX, forall_eq, ALT, KI, UEh_2.d, Nat.reduceMul, Nat.zero_le, k0]
  refine callP (v := 0) (w := w) Cc rfl rfl rfl rfl rfl ⟨rfl, ?_⟩
  simp only [RUX, Nat.reduceAdd, reduceIte, Nat.reduceEqDiff, Nat.reduceLT, Nat.reduceLeDiff, reduceCtorEq, eq_self, rV, FIX, forall_const, endE_n, endE_r, CHT, disj, Nat.reduceBEq, beq_self_eq_true, APT, APX, forall_eq, ALT, KI, UEh_2.d, Nat.reduceMul, Nat.zero_le, k0, k2]
  refine callP (v := 0) (w := w) Ck rfl rfl rfl rfl rfl ⟨rfl, ?_⟩
  simp only [RUX, Nat.reduceAdd, reduceIte, Nat.reduceEqDiff, Nat.reduceLT, Nat.reduceLeDiff, reduceCtorEq, eq_self, rV, FIX, forall_const, endE_n, endE_r, CHT, disj, Nat.reduceBEq, beq_self_eq_true, APT, APX, forall_eq, ALT, KI, UEh_2.d, Nat.reduceMul, Nat.zero_le, k0, k2, k3]
  refine callP (v := 0) (w := w) Cu rfl rfl rfl rfl rfl ⟨rfl, ?_⟩
  simp only [RUX, Nat.reduceAdd, reduceIte, Nat.reduceEqDiff, Nat.reduceLT, Nat.reduceLeDiff, reduceCtorEq, eq_self, rV, FIX, forall_const, endE_n, endE_r, CHT, disj, Nat.reduceBEq, beq_self_eq_true, APT, APX, forall_eq, ALT, KI, UEh_2.d, Nat.reduceMul, Nat.zero_le, k0, k2, k3, k4, ex, gz, w1, eH]
  refine callP (v := 0) (w := w) Ch rfl rfl rfl rfl rfl ⟨rfl, ?_⟩
  simp only [RUX, Nat.reduceAdd, reduceIte, Nat.reduceEqDiff, Nat.reduceLT, Nat.reduceLeDiff, reduceCtorEq, eq_self, rV, FIX, forall_const, endE_n, endE_r, CHT, disj, Nat.reduceBEq, beq_self_eq_true, APT, APX, forall_eq, ALT, KI, UEh_2.d, Nat.reduceMul, Nat.zero_le, k0, k2, k3, k4]
  refine fin xh (by rw [e]; exact hxh) _ _ _ 3 ?_ ?_ ?_ <;> rfl
/- loop.example/teagle/impl.isPlace -/
def r41_0 : List AOper := [ao 0 4 (.mv (.k (.b false)))]
def r41_1 : List AOper := [ao 0 5 (.mv (.t 0)),
  ao 1 6 (.mv (.t 1)),
  ao 2 7 (.bin .sub (.t 6) (.k (.i 1))),
  ao 3 8 (.call (.k (.c (.fn 66 []))) [(.t 5), (.k (.i 0)), (.t 7)]),
  ao 4 4 (.mv (.t 8))]
def c41 : ACode := .seq (.reg r41_0) (.seq (.reg r41_1) .ret)
def s41 : List ARes := [.tmp 4]
theorem ok41 : okF Try.prog 41 9 c41 s41 := ⟨Try.f41, Try.func41, Try.ntmps41, by kernel_rfl, by kernel_rfl, by kernel_rfl⟩
def UEh_3 := Bx.mk <|
  aN (uA c41.eq_1) <| aN (uR r41_0.eq_1) <| aN (uR r41_1.eq_1) <| s41.eq_1
theorem isPlace_ok (n m : Int) (hm : 0 ≤ m ∧ m ≤ 1000000) : ACallsF Try.prog 41 [.i n, .i m] [] (.b (decide (0 ≤ n) && decide (n ≤ m - 1))) := by
  have w1 : IntKind.i64.wrap (m - 1) = m - 1 := wrap64 ⟨by omega, by omega⟩
  refine ACallsF.intro ok41 follows fun X c0 => ?_
  simp only [RUX, Nat.reduceAdd, reduceIte, Nat.reduceEqDiff, Nat.reduceLT, Nat.reduceLeDiff, reduceCtorEq, eq_self, FIX, forall_const, endE_n, endE_r, CHT, disj, Nat.reduceBEq, beq_self_eq_true, APT, APX, forall_eq, ALT, KI, UEh_3.d, w1]
  refine callC (inRange_ok n 0 (m - 1)) rfl rfl rfl rfl ?_
  simp only [RUX, Nat.reduceAdd, reduceIte, Nat.reduceEqDiff, Nat.reduceLT, Nat.reduceLeDiff, reduceCtorEq, eq_self, FIX, forall_const, endE_n, endE_r, CHT, disj, Nat.reduceBEq, beq_self_eq_true, APT, APX, forall_eq, ALT, KI, UEh_3.d, w1]
/- slices.Index[[]int,int] -/
def r67_0 : List AOper := [ao 0 4 (.mv (.k (.i 0)))]
def r67_1 : List AOper := [ao 0 6 (.mv (.t 0)),
  ao 1 7 (.len (.t 6)),
  ao 2 8 (.mv (.k (.i 0)))]
def r67_2 : List AOper := [ao 0 9 (.bin .lss (.t 8) (.t 7))]
def c67_3 : ACode := .cond (.t 9) .skip (.exit 0)
def r67_4 : List AOper := [ao 0 10 (.mv (.t 8)),
  ao 1 5 (.mv (.t 10))]
def r67_5 : List AOper := [ao 0 11 (.mv (.t 1)),
  ao 1 12 (.mv (.t 0)),
  ao 2 13 (.mv (.t 5)),
  ao 3 14 (.ia 1 (.t 12) (.t 13)),
  ao 4 15 (.ld 1 false (.t 14)),
  ao 5 16 (.bin .eql (.t 11) (.t 15))]
def r67_6 : List AOper := [ao 0 17 (.mv (.t 5)),
  ao 1 4 (.mv (.t 17))]
def c67_7 : ACode := .seq (.reg r67_6) .ret
def c67_8 : ACode := .cond (.t 16) c67_7 .skip
def c67_9 : ACode := .seq (.reg r67_4) (.seq (.reg r67_5) c67_8)
def c67_10 : ACode := .block 1 c67_9
def r67_11 : List AOper := [ao 0 18 (.bin .add (.t 8) (.k (.i 1))),
  ao 1 8 (.mv (.t 18))]
def c67_12 : ACode := .seq (.reg r67_2) (.seq c67_3 (.seq c67_10 (.reg r67_11)))
def c67_13 : ACode := .loop c67_12
def c67_14 : ACode := .block 0 c67_13
def c67_15 : ACode := .seq (.reg r67_1) c67_14
def r67_16 : List AOper := [ao 0 4 (.mv (.k (.i (-1))))]
def c67 : ACode := .seq (.reg r67_0) (.seq c67_15 (.seq (.reg r67_16) .ret))
def s67 : List ARes := [.tmp 4]
theorem ok67 : okF Try.prog 67 19 c67 s67 := ⟨Try.f67, Try.func67, Try.ntmps67, by kernel_rfl, by kernel_rfl, by kernel_rfl⟩
def inv67 (xs : List Int) (y : Int) (i : Nat) (σ : St) : Prop := (∀ j : Nat, j < i → ∀ x, xs[j]? = some x → (x == y) = false) ∧ σ.t 0 = tL (en eI xs) ∧ σ.t 1 = .i y ∧ σ.t 7 = .i xs.length ∧ σ.t 8 = .i i
def UEh_4 := Bx.mk <|
  aN (uA c67.eq_1) <| aN (uR r67_0.eq_1) <| aN (uA c67_15.eq_1) <| aN (uR r67_1.eq_1) <| aN (uA c67_14.eq_1) <| aN (uA c67_13.eq_1) <| aN (uR r67_16.eq_1) <| s67.eq_1
def UEh_7 := Bx.mk <|
  aN (uA c67_12.eq_1) <| aN (uR r67_2.eq_1) <| aN (uA c67_3.eq_1) <| aN (uA c67_10.eq_1) <| aN (uA c67_9.eq_1) <| aN (uR r67_4.eq_1) <| aN (uR r67_5.eq_1) <| aN (uA c67_8.eq_1) <| aN (uA c67_7.eq_1) <| aN (uR r67_6.eq_1) <| aN (uR r67_11.eq_1) <| aN (uA c67.eq_1) <| aN (uR r67_0.eq_1) <| aN (uA c67_15.eq_1) <| aN (uR r67_1.eq_1) <| aN (uA c67_14.eq_1) <| aN (uA c67_13.eq_1) <| aN (uR r67_16.eq_1) <| s67.eq_1
theorem index_int (xs : List Int) (y : Int) (hl : xs.length ≤ 2000000) : ACallsF Try.prog 67 [tL (en eI xs), .i y] [] (.i (ixf (fun x => x == y) xs)) := by
  refine ACallsF.intro ok67 follows fun X c0 => ?_
  simp only [RUX, Nat.reduceAdd, reduceIte, Nat.reduceEqDiff, Nat.reduceLT, Nat.reduceLeDiff, reduceCtorEq, eq_self, FIX, forall_const, endE_n, endE_r, CHT, disj, Nat.reduceBEq, beq_self_eq_true, APT, APX, forall_eq, ALT, KI, UEh_4.d]
  refine AW.upto xs.length (inv67 xs y) ⟨fun j hj => absurd hj (Nat.not_lt_zero j), rfl, rfl, rfl, rfl⟩ fun i t H c hi h => ?_
  obtain ⟨a, e0, e1, e7, e8⟩ := h
  simp only [T.c, T.i, tL] at e0 e1 e7 e8
  by_cases k1 : (i : Int) < xs.length
  · obtain ⟨x, hx⟩ : ∃ x, xs[i]? = some x := ⟨_, List.getElem?_eq_getElem (by omega)⟩
    have ex := en_at eI hx
    have gz : (0 : Int) ≤ i := by omega
    have gw := w1_ok (i := i) (by omega)
    by_cases c1 : y = x
    · have k2 := eqb c1
      rw [ixf_at hx (show (x == y) = true from eqb c1.symm) a]
      simp only [RUX, Nat.reduceAdd, reduceIte, Nat.reduceEqDiff, Nat.reduceLT, Nat.reduceLeDiff, reduceCtorEq, eq_self, FIX, forall_const, endE_n, endE_r, CHT, disj, Nat.reduceBEq, beq_self_eq_true, APT, APX, forall_eq, ALT, KI, UEh_7.d, e0, e1, e7, e8, k1, ex, gz, gw, eI, k2]
    · have k2 := neqb c1
      simp only [RUX, Nat.reduceAdd, reduceIte, Nat.reduceEqDiff, Nat.reduceLT, Nat.reduceLeDiff, reduceCtorEq, eq_self, FIX, forall_const, endE_n, endE_r, CHT, disj, Nat.reduceBEq, beq_self_eq_true, APT, APX, forall_eq, ALT, KI, UEh_7.d, e0, e1, e7, e8, k1, ex, gz, gw, eI, k2]
      exact ⟨by omega, upto_next a hx (neqb fun e => c1 e.symm), e0, e1, e7, rfl⟩
  · have e : ixf (fun x => x == y) xs = -1 := ixf_no fun j z hz => a j (by have := (List.getElem?_eq_some_iff.1 hz).1; omega) z hz
    rw [e]
    simp only [RUX, Nat.reduceAdd, reduceIte, Nat.reduceEqDiff, Nat.reduceLT, Nat.reduceLeDiff, reduceCtorEq, eq_self, FIX, forall_const, endE_n, endE_r, CHT, disj, Nat.reduceBEq, beq_self_eq_true, APT, APX, forall_eq, ALT, KI, UEh_7.d, UEh_4.d, e0, e1, e7, e8, k1]
/- slices.Contains[[]int,int] -/
def r42_0 : List AOper := [ao 0 4 (.mv (.k (.b false)))]
def r42_1 : List AOper := [ao 0 5 (.mv (.t 0)),
  ao 1 6 (.mv (.t 1)),
  ao 2 7 (.call (.k (.c (.fn 67 []))) [(.t 5), (.t 6)]),
  ao 3 8 (.bin .geq (.t 7) (.k (.i 0))),
  ao 4 4 (.mv (.t 8))]
def c42 : ACode := .seq (.reg r42_0) (.seq (.reg r42_1) .ret)
def s42 : List ARes := [.tmp 4]
theorem ok42 : okF Try.prog 42 9 c42 s42 := ⟨Try.f42, Try.func42, Try.ntmps42, by kernel_rfl, by kernel_rfl, by kernel_rfl⟩
def UEh_5 := Bx.mk <|
  aN (uA c42.eq_1) <| aN (uR r42_0.eq_1) <| aN (uR r42_1.eq_1) <| s42.eq_1
theorem contains_int (xs : List Int) (y : Int) (hl : xs.length ≤ 2000000) : ACallsF Try.prog 42 [tL (en eI xs), .i y] [] (.b (xs.any fun x => x == y)) := by
  refine ACallsF.intro ok42 follows fun X c0 => ?_
  rw [← ixf_any]
  simp only [RUX, Nat.reduceAdd, reduceIte, Nat.reduceEqDiff, Nat.reduceLT, Nat.reduceLeDiff, reduceCtorEq, eq_self, FIX, forall_const, endE_n, endE_r, CHT, disj, Nat.reduceBEq, beq_self_eq_true, APT, APX, forall_eq, ALT, KI, UEh_5.d]
  refine callC (index_int xs y hl) rfl rfl rfl rfl ?_
  simp only [RUX, Nat.reduceAdd, reduceIte, Nat.reduceEqDiff, Nat.reduceLT, Nat.reduceLeDiff, reduceCtorEq, eq_self, FIX, forall_const, endE_n, endE_r, CHT, disj, Nat.reduceBEq, beq_self_eq_true, APT, APX, forall_eq, ALT, KI, UEh_5.d, ge_iff_le]
theorem opn_has {w : CW} (who k : Int) : ((opn (ways w who)).any fun x => x == k) = true ↔ 0 ≤ k ∧ (ways w who)[k.toNat]? = some true := by
  have hl := ways_len w who
  simp only [opn, opnN, List.any_eq_true, List.mem_map, List.mem_filter, List.mem_range, beq_iff_eq]
  constructor
  · rintro ⟨x, ⟨j, ⟨h1, h2⟩, rfl⟩, rfl⟩
    refine ⟨by omega, ?_⟩
    rw [List.getD_eq_getElem?_getD] at h2
    rw [Int.toNat_natCast]
    cases hq : (ways w who)[j]? with
    | none => rw [hq] at h2; cases h2
    | some b => rw [hq] at h2; rw [show b = true from h2]
  · rintro ⟨h1, h2⟩
    refine ⟨k, ⟨k.toNat, ⟨by have := (List.getElem?_eq_some_iff.1 h2).1; omega, ?_⟩, by omega⟩, rfl⟩
    rw [List.getD_eq_getElem?_getD, h2]; rfl
end Go.V
set_option linter.unusedVariables false
set_option linter.unusedSimpArgs false
namespace Go.V
open Go.Proofs
abbrev sI (v : Nat) (xs : List Int) : Blk := .arr v false 1 3 (en eI xs)
abbrev sH (v : Nat) (xs : List Hd) : Blk := .arr v false 2 70 (en eH xs)
/-- a1 a2 a3 a4 a5 a6 a7 world of own arrays behind a pointer: what stands there behind the call. -/
abbrev inH (v a1 a2 a3 a4 a5 a6 a7 m0 m : Nat) (w : CW) (B b1 b2 b3 b4 b5 b6 b7 : Blk) (k : Bool) : List Hand := [⟨1000, m0, some (.var v 29 (oC 1001 1002 1003 1004 1005 1006 1007 a1 a2 a3 a4 a5 a6 a7 w)), B, true⟩, ⟨1001, m + 1, some (bI a1 w.queue), b1, k⟩, ⟨1002, m + 2, some (bH a2 w.hands), b2, k⟩, ⟨1003, m + 3, some (bI a3 w.results), b3, k⟩, ⟨1004, m + 4, some (bI a4 w.ring), b4, k⟩, ⟨1005, m + 5, some (bI a5 w.out), b5, k⟩, ⟨1006, m + 6, some (bI a6 w.got), b6, k⟩, ⟨1007, m + 7, some (bI a7 w.shut), b7, k⟩]
abbrev kH (v a1 a2 a3 a4 a5 a6 a7 m0 m : Nat) (w : CW) : List Hand := inH v a1 a2 a3 a4 a5 a6 a7 m0 m w (.var v 29 (oC 1001 1002 1003 1004 1005 1006 1007 a1 a2 a3 a4 a5 a6 a7 w)) (bI a1 w.queue) (bH a2 w.hands) (bI a3 w.results) (bI a4 w.ring) (bI a5 w.out) (bI a6 w.got) (bI a7 w.shut) true
/-- .. all of it given over: it is closed behind the call. -/
abbrev iZ (v a1 a2 a3 a4 a5 a6 a7 m0 m : Nat) (w w' w'' : CW) : List Hand := inH v a1 a2 a3 a4 a5 a6 a7 m0 m w (cwB v w') (sI 0 w''.queue) (sH 0 w''.hands) (sI 0 w''.results) (sI 0 w''.ring) (sI 0 w''.out) (sI 0 w''.got) (sI 0 w''.shut) false
abbrev iZo (v m0 m n : Nat) (w' w'' : CW) : List (Nat × Blk) := [(m0, cwB v w'), (m + 1, (sI n w''.queue)), (m + 2, (sH n w''.hands)), (m + 3, (sI n w''.results)), (m + 4, (sI n w''.ring)), (m + 5, (sI n w''.out)), (m + 6, (sI n w''.got)), (m + 7, (sI n w''.shut))]
theorem callB {P : Program} {t : Nat → T} {H : HMap} {c : Nat} {f : Opd} {args : List Opd} {fid : FuncId} {k : Nat} {d : Option Nat} {un : List Nat} {l : List AOper} {prev : List (Nat × List Nat × List Nat)} {K : St → Prop} {argsC «as» : List T} {hs : List Hand} {r r' : T} {ob : List (Nat × Blk)}
    (hC : ACallsF P fid argsC hs r) (hf : ev t f = .pt (.one (.fn fid []))) (hl : lendTs H argsC (args.map (ev t)) = some («as», [], [])) (ha : renITs hs argsC = some «as») (hi : handsIn H hs hs) (hm : (hs.map (·.m)).Nodup) (hc : (hs.map (·.c)).Nodup) (hr : renOT hs (c + k) r = some r') (ho : renOBs hs (c + k) hs = some ob)
    (hk : chk prev un ⟨r', ob, hs.map (·.m), hs.map (·.m)⟩ = true ∧ DRun P l ((k, hs.map (·.m), hs.map (·.m)) :: prev) K ⟨updD t d r', updH H ob, c⟩) :
    step P k d un (.call f args) l prev K t H c := by
  refine callW (caps := []) («as» := «as») (ws := []) (ns := []) (r' := r') (ob := ob) hs hC hf (by simpa using hl) ha hi hm hc hr ho ?_
  simpa only [ite_self, List.nil_append] using hk
def UEi_1 := Bx.mk <|
  aN (uA c69.eq_1) <| aN (uR r69_0.eq_1) <| aN (uR r69_1.eq_1) <| s69.eq_1
theorem closerO_ok {w : CW} (h : Form w) (v a1 a2 a3 a4 a5 a6 a7 m0 m : Nat) : ACallsF Try.prog 69 [wP 1000 v] (kH v a1 a2 a3 a4 a5 a6 a7 m0 m w) (.i (w.workers + 1)) := by
  have hk := h.st.k
  have w1 : IntKind.i64.wrap (w.workers + 1) = w.workers + 1 := wrap64 ⟨by omega, by omega⟩
  refine ACallsF.intro ok69 follows fun X c0 => ?_
  simp only [RUX, Nat.reduceAdd, reduceIte, Nat.reduceEqDiff, Nat.reduceLT, Nat.reduceLeDiff, reduceCtorEq, eq_self, kH, inH, wP, FIX, forall_const, endE_n, endE_r, CHT, disj, Nat.reduceBEq, beq_self_eq_true, APT, APX, forall_eq, ALT, KI, UEi_1.d, w1, imp_self, forall_const, and_self]
def UEi_2 := Bx.mk <|
  aN (uA c71.eq_1) <| aN (uR r71_0.eq_1) <| aN (uR r71_1.eq_1) <| s71.eq_1
theorem keeperO_ok {w : CW} (h : Form w) (v a1 a2 a3 a4 a5 a6 a7 m0 m : Nat) : ACallsF Try.prog 71 [wP 1000 v] (kH v a1 a2 a3 a4 a5 a6 a7 m0 m w) (.i (w.workers + 2)) := by
  have hk := h.st.k
  have w1 : IntKind.i64.wrap (w.workers + 2) = w.workers + 2 := wrap64 ⟨by omega, by omega⟩
  refine ACallsF.intro ok71 follows fun X c0 => ?_
  simp only [RUX, Nat.reduceAdd, reduceIte, Nat.reduceEqDiff, Nat.reduceLT, Nat.reduceLeDiff, reduceCtorEq, eq_self, kH, inH, wP, FIX, forall_const, endE_n, endE_r, CHT, disj, Nat.reduceBEq, beq_self_eq_true, APT, APX, forall_eq, ALT, KI, UEi_2.d, w1, imp_self, forall_const, and_self]
def UEi_3 := Bx.mk <|
  aN (uA c73.eq_1) <| aN (uR r73_0.eq_1) <| aN (uR r73_1.eq_1) <| s73.eq_1
theorem userO_ok {w : CW} (h : Form w) (v a1 a2 a3 a4 a5 a6 a7 m0 m : Nat) : ACallsF Try.prog 73 [wP 1000 v] (kH v a1 a2 a3 a4 a5 a6 a7 m0 m w) (.i (w.workers + 3)) := by
  have hk := h.st.k
  have w1 : IntKind.i64.wrap (w.workers + 3) = w.workers + 3 := wrap64 ⟨by omega, by omega⟩
  refine ACallsF.intro ok73 follows fun X c0 => ?_
  simp only [RUX, Nat.reduceAdd, reduceIte, Nat.reduceEqDiff, Nat.reduceLT, Nat.reduceLeDiff, reduceCtorEq, eq_self, kH, inH, wP, FIX, forall_const, endE_n, endE_r, CHT, disj, Nat.reduceBEq, beq_self_eq_true, APT, APX, forall_eq, ALT, KI, UEi_3.d, w1, imp_self, forall_const, and_self]
def UEi_4 := Bx.mk <|
  aN (uA c53.eq_1) <| aN (uR r53_0.eq_1) <| aN (uR r53_1.eq_1) <| s53.eq_1
theorem hasDueO_ok {w : CW} (h : Form w) (v a1 a2 a3 a4 a5 a6 a7 m0 m : Nat) : ACallsF Try.prog 53 [wP 1000 v] (kH v a1 a2 a3 a4 a5 a6 a7 m0 m w) (.b (decide (Due w))) := by
  have hn := h.st.n
  have hs := slot_lt h
  have ht := slot_int h
  have hz : ¬ w.window = 0 := by omega
  have gz : (0 : Int) ≤ slot w := by omega
  have g2 : (slot w : Int) < w.ring.length := by omega
  obtain ⟨x, hx⟩ : ∃ x, w.ring[slot w]? = some x := ⟨_, List.getElem?_eq_getElem (by omega)⟩
  have ex := en_at eI hx
  have e : decide (Due w) = (x == w.due) := by rw [Bool.eq_iff_iff, decide_eq_true_eq, Due, hx, beq_iff_eq, Option.some.injEq]
  rw [e]
  refine ACallsF.intro ok53 follows fun X c0 => ?_
  simp only [RUX, Nat.reduceAdd, reduceIte, Nat.reduceEqDiff, Nat.reduceLT, Nat.reduceLeDiff, reduceCtorEq, eq_self, kH, inH, wP, FIX, forall_const, endE_n, endE_r, CHT, disj, Nat.reduceBEq, beq_self_eq_true, APT, APX, forall_eq, ALT, KI, UEi_4.d, hz, ht, gz, g2, ex, eI, Int.toNat_natCast, imp_self, forall_const, and_self]
def UEi_5 := Bx.mk <|
  aN (uA c55.eq_1) <| aN (uR r55_0.eq_1) <| aN (uA c55_5.eq_1) <| aN (uR r55_1.eq_1) <| aN (uA c55_4.eq_1) <| aN (uA c55_3.eq_1) <| aN (uR r55_2.eq_1) <| aN (uR r55_6.eq_1) <| s55.eq_1
theorem clone0_ok (xs : List Int) (hl : xs.length ≤ 2000000) : ACallsF Try.prog 55 [tL (en eI xs)] [] (tL (en eI xs)) := by
  have q1 : xs.length * 8 ≤ 140737488355328 := by omega
  have q2 : xs.length ≤ 9223372036854775807 := by omega
  have hb1 : (true != false) = true := rfl
  have hb2 : (false != false) = false := rfl
  cases xs with
  | nil =>
    refine nilArgH fun ad c => ?_
    cases ad with
    | none =>
      refine ACallsF.intro ok55 follows fun X c0 => ?_
      simp only [RUX, Nat.reduceAdd, reduceIte, Nat.reduceEqDiff, Nat.reduceLT, Nat.reduceLeDiff, reduceCtorEq, eq_self, FIX, forall_const, endE_n, endE_r, CHT, disj, Nat.reduceBEq, beq_self_eq_true, APT, APX, forall_eq, ALT, KI, UEi_5.d, Option.isNone_none, hb1]
    | some a =>
      refine ACallsF.intro ok55 follows fun X c0 => ?_
      simp only [RUX, Nat.reduceAdd, reduceIte, Nat.reduceEqDiff, Nat.reduceLT, Nat.reduceLeDiff, reduceCtorEq, eq_self, FIX, forall_const, endE_n, endE_r, CHT, disj, Nat.reduceBEq, beq_self_eq_true, APT, APX, forall_eq, ALT, KI, UEi_5.d, Option.isNone_some, hb2, Nat.zero_mul, Nat.zero_le, List.not_mem_nil, false_implies, implies_true, imp_self]
  | cons y ys =>
    refine ACallsF.intro ok55 follows fun X c0 => ?_
    obtain ⟨x, es, he⟩ : ∃ x es, en eI (y :: ys) = x :: es := ⟨_, _, rfl⟩
    have hall := en_all eI eI_len (y :: ys)
    have hlen := en_len eI (y :: ys)
    rw [he] at hall hlen ⊢
    simp only [List.length_cons] at hlen q1 q2
    have hlen' : es.length = ys.length := by omega
    have ht : es.take ys.length = es := by rw [← hlen', List.take_length]
    simp only [RUX, Nat.reduceAdd, reduceIte, Nat.reduceEqDiff, Nat.reduceLT, Nat.reduceLeDiff, reduceCtorEq, eq_self, FIX, forall_const, endE_n, endE_r, CHT, disj, Nat.reduceBEq, beq_self_eq_true, APT, srcOf, sealPs, sealCs, sealC, UEi_5.d, hall, hlen', ht, q1, q2, Nat.zero_add, imp_self]
theorem scL (es : List (List V)) : scalarT (.pt (.one (.v (.sl es)))) = false := rfl
/- loop.example/teagle/impl.first -/
def r77_0 : List AOper := [ao 0 2 (.mv (.k (.i 0)))]
def r77_1 : List AOper := [ao 0 4 (.mv (.t 0)),
  ao 1 5 (.nck (.t 4)),
  ao 2 6 (.ld 1 false (.t 5)),
  ao 3 7 (.ia 1 (.t 6) (.k (.i 0))),
  ao 4 8 (.ld 1 false (.t 7)),
  ao 5 3 (.mv (.t 8))]
def r77_2 : List AOper := [ao 0 9 (.mv (.t 0)),
  ao 1 10 (.mv (.t 0)),
  ao 2 11 (.nck (.t 10)),
  ao 3 12 (.ld 1 false (.t 11)),
  ao 4 13 (.slc 1 (.t 12) (some (.k (.i 1))) none),
  ao 5 14 (.call (.k (.c (.fn 55 []))) [(.t 13)]),
  ao 6 15 (.nck (.t 9)),
  an 7 (.st 1 (.t 15) (.t 14))]
def r77_3 : List AOper := [ao 0 16 (.mv (.t 3)),
  ao 1 2 (.mv (.t 16))]
def c77 : ACode := .seq (.reg r77_0) (.seq (.reg r77_1) (.seq (.reg r77_2) (.seq (.reg r77_3) .ret)))
def s77 : List ARes := [.tmp 2]
theorem ok77 : okF Try.prog 77 17 c77 s77 := ⟨Try.f77, Try.func77, Try.ntmps77, by kernel_rfl, by kernel_rfl, by kernel_rfl⟩
abbrev fC1 (c1 c2 c3 c4 c5 c6 c7 v1 v2 v3 v4 v5 v6 v7 : Nat) (w : CW) : List C := [iC w.jobs, iC w.workers, iC w.window, iC w.next, iC w.reader, lC (w.queue.drop 1), .own c2 v2 w.hands.length, iC w.closer, .own c3 v3 w.results.length, iC w.keeper, .own c4 v4 w.ring.length, iC w.due, .own c5 v5 w.out.length, iC w.user, .own c6 v6 w.got.length, iC w.room, .own c7 v7 w.shut.length, iC w.ops]
abbrev fH1 (v a1 a2 a3 a4 a5 a6 a7 m0 m : Nat) (w : CW) : List Hand := inH v a1 a2 a3 a4 a5 a6 a7 m0 m w (.var v 29 (fC1 1001 1002 1003 1004 1005 1006 1007 a1 a2 a3 a4 a5 a6 a7 w)) (sI a1 w.queue) (bH a2 w.hands) (bI a3 w.results) (bI a4 w.ring) (bI a5 w.out) (bI a6 w.got) (bI a7 w.shut) true
def UEi_6 := Bx.mk <|
  aN (uA c77.eq_1) <| aN (uR r77_0.eq_1) <| aN (uR r77_1.eq_1) <| aN (uR r77_2.eq_1) <| aN (uR r77_3.eq_1) <| s77.eq_1
set_option maxHeartbeats 1000000 in
theorem first1_ok {w : CW} (h0 : 0 < w.queue.length) (hl : w.queue.length ≤ 2000000) (v a1 a2 a3 a4 a5 a6 a7 m0 m : Nat) : ACallsF Try.prog 77 [.c (.ptr 1000 v 5)] (fH1 v a1 a2 a3 a4 a5 a6 a7 m0 m w) (.i (w.queue.getD 0 0)) := by
  have g1 : (0 : Int) < (w.queue.length : Int) := by omega
  have g2 : (1 : Int) ≤ (w.queue.length : Int) := by omega
  have g3 : 1 + (w.queue.length - 1) ≤ w.queue.length := by omega
  have e0 := q_at h0
  refine ACallsF.intro ok77 follows fun X c0 => ?_
  simp only [RUX, Nat.reduceAdd, reduceIte, Nat.reduceEqDiff, Nat.reduceLT, Nat.reduceLeDiff, reduceCtorEq, eq_self, fH1, fC1, inH, wP, FIX, forall_const, endE_n, endE_r, CHT, disj, Nat.reduceBEq, beq_self_eq_true, APT, APX, forall_eq, ALT, KI, UEi_6.d, g1, g2, g3, e0, eI, lohi, Int.le_refl, Nat.le_refl, SNT]
  refine callL (ws := [(1001, sI a1 w.queue)]) (ns := [1001]) (clone0_ok (w.queue.drop 1) (by rw [List.length_drop]; omega)) rfl ?_ rfl rfl ⟨rfl, ?_⟩
  · simp only [lendTs, lendT, lendC, sealC, List.map_cons, List.map_nil, ev, upd, Nat.reduceEqDiff, reduceIte, hinOf, renN, List.find?, Nat.reduceBEq, Option.bind_some, en_len, g3, and_self, Option.map_some, q_drop, List.append_nil]
  simp only [RUX, Nat.reduceAdd, reduceIte, Nat.reduceEqDiff, Nat.reduceLT, Nat.reduceLeDiff, reduceCtorEq, eq_self, fH1, fC1, inH, wP, FIX, forall_const, endE_n, endE_r, CHT, disj, Nat.reduceBEq, beq_self_eq_true, APT, APX, forall_eq, ALT, KI, UEi_6.d, scL, imp_self, forall_const, and_self]
abbrev fC3 (c1 c2 c3 c4 c5 c6 c7 v1 v2 v3 v4 v5 v6 v7 : Nat) (w : CW) : List C := [iC w.jobs, iC w.workers, iC w.window, iC w.next, iC w.reader, .own c1 v1 w.queue.length, .own c2 v2 w.hands.length, iC w.closer, lC (w.results.drop 1), iC w.keeper, .own c4 v4 w.ring.length, iC w.due, .own c5 v5 w.out.length, iC w.user, .own c6 v6 w.got.length, iC w.room, .own c7 v7 w.shut.length, iC w.ops]
abbrev fH3 (v a1 a2 a3 a4 a5 a6 a7 m0 m : Nat) (w : CW) : List Hand := inH v a1 a2 a3 a4 a5 a6 a7 m0 m w (.var v 29 (fC3 1001 1002 1003 1004 1005 1006 1007 a1 a2 a3 a4 a5 a6 a7 w)) (bI a1 w.queue) (bH a2 w.hands) (sI a3 w.results) (bI a4 w.ring) (bI a5 w.out) (bI a6 w.got) (bI a7 w.shut) true
set_option maxHeartbeats 1000000 in
theorem first3_ok {w : CW} (h0 : 0 < w.results.length) (hl : w.results.length ≤ 2000000) (v a1 a2 a3 a4 a5 a6 a7 m0 m : Nat) : ACallsF Try.prog 77 [.c (.ptr 1000 v 8)] (fH3 v a1 a2 a3 a4 a5 a6 a7 m0 m w) (.i (w.results.getD 0 0)) := by
  have g1 : (0 : Int) < (w.results.length : Int) := by omega
  have g2 : (1 : Int) ≤ (w.results.length : Int) := by omega
  have g3 : 1 + (w.results.length - 1) ≤ w.results.length := by omega
  have e0 := q_at h0
  refine ACallsF.intro ok77 follows fun X c0 => ?_
  simp only [RUX, Nat.reduceAdd, reduceIte, Nat.reduceEqDiff, Nat.reduceLT, Nat.reduceLeDiff, reduceCtorEq, eq_self, fH3, fC3, inH, wP, FIX, forall_const, endE_n, endE_r, CHT, disj, Nat.reduceBEq, beq_self_eq_true, APT, APX, forall_eq, ALT, KI, UEi_6.d, g1, g2, g3, e0, eI, lohi, Int.le_refl, Nat.le_refl, SNT]
  refine callL (ws := [(1003, sI a3 w.results)]) (ns := [1003]) (clone0_ok (w.results.drop 1) (by rw [List.length_drop]; omega)) rfl ?_ rfl rfl ⟨rfl, ?_⟩
  · simp only [lendTs, lendT, lendC, sealC, List.map_cons, List.map_nil, ev, upd, Nat.reduceEqDiff, reduceIte, hinOf, renN, List.find?, Nat.reduceBEq, Option.bind_some, en_len, g3, and_self, Option.map_some, q_drop, List.append_nil]
  simp only [RUX, Nat.reduceAdd, reduceIte, Nat.reduceEqDiff, Nat.reduceLT, Nat.reduceLeDiff, reduceCtorEq, eq_self, fH3, fC3, inH, wP, FIX, forall_const, endE_n, endE_r, CHT, disj, Nat.reduceBEq, beq_self_eq_true, APT, APX, forall_eq, ALT, KI, UEi_6.d, scL, imp_self, forall_const, and_self]
abbrev fC5 (c1 c2 c3 c4 c5 c6 c7 v1 v2 v3 v4 v5 v6 v7 : Nat) (w : CW) : List C := [iC w.jobs, iC w.workers, iC w.window, iC w.next, iC w.reader, .own c1 v1 w.queue.length, .own c2 v2 w.hands.length, iC w.closer, .own c3 v3 w.results.length, iC w.keeper, .own c4 v4 w.ring.length, iC w.due, lC (w.out.drop 1), iC w.user, .own c6 v6 w.got.length, iC w.room, .own c7 v7 w.shut.length, iC w.ops]
abbrev fH5 (v a1 a2 a3 a4 a5 a6 a7 m0 m : Nat) (w : CW) : List Hand := inH v a1 a2 a3 a4 a5 a6 a7 m0 m w (.var v 29 (fC5 1001 1002 1003 1004 1005 1006 1007 a1 a2 a3 a4 a5 a6 a7 w)) (bI a1 w.queue) (bH a2 w.hands) (bI a3 w.results) (bI a4 w.ring) (sI a5 w.out) (bI a6 w.got) (bI a7 w.shut) true
set_option maxHeartbeats 1000000 in
theorem first5_ok {w : CW} (h0 : 0 < w.out.length) (hl : w.out.length ≤ 2000000) (v a1 a2 a3 a4 a5 a6 a7 m0 m : Nat) : ACallsF Try.prog 77 [.c (.ptr 1000 v 12)] (fH5 v a1 a2 a3 a4 a5 a6 a7 m0 m w) (.i (w.out.getD 0 0)) := by
  have g1 : (0 : Int) < (w.out.length : Int) := by omega
  have g2 : (1 : Int) ≤ (w.out.length : Int) := by omega
  have g3 : 1 + (w.out.length - 1) ≤ w.out.length := by omega
  have e0 := q_at h0
  refine ACallsF.intro ok77 follows fun X c0 => ?_
  simp only [RUX, Nat.reduceAdd, reduceIte, Nat.reduceEqDiff, Nat.reduceLT, Nat.reduceLeDiff, reduceCtorEq, eq_self, fH5, fC5, inH, wP, FIX, forall_const, endE_n, endE_r, CHT, disj, Nat.reduceBEq, beq_self_eq_true, APT, APX, forall_eq, ALT, KI, UEi_6.d, g1, g2, g3, e0, eI, lohi, Int.le_refl, Nat.le_refl, SNT]
  refine callL (ws := [(1005, sI a5 w.out)]) (ns := [1005]) (clone0_ok (w.out.drop 1) (by rw [List.length_drop]; omega)) rfl ?_ rfl rfl ⟨rfl, ?_⟩
  · simp only [lendTs, lendT, lendC, sealC, List.map_cons, List.map_nil, ev, upd, Nat.reduceEqDiff, reduceIte, hinOf, renN, List.find?, Nat.reduceBEq, Option.bind_some, en_len, g3, and_self, Option.map_some, q_drop, List.append_nil]
  simp only [RUX, Nat.reduceAdd, reduceIte, Nat.reduceEqDiff, Nat.reduceLT, Nat.reduceLeDiff, reduceCtorEq, eq_self, fH5, fC5, inH, wP, FIX, forall_const, endE_n, endE_r, CHT, disj, Nat.reduceBEq, beq_self_eq_true, APT, APX, forall_eq, ALT, KI, UEi_6.d, scL, imp_self, forall_const, and_self]
end Go.V
set_option linter.unusedVariables false
set_option linter.unusedSimpArgs false
namespace Go.V
open Go.Proofs
theorem nd8 : [1000, 1001, 1002, 1003, 1004, 1005, 1006, 1007].Nodup := by decide
/- (*loop.example/teagle/impl.CrewWorld).moveReader -/
def r75_0 : List AOper := [ao 0 29 (.mv (.t 0)),
  ao 1 30 (.nck (.t 29)),
  ao 2 31 (.fa 4 (.t 30)),
  ao 3 32 (.ld 1 false (.t 31)),
  ao 4 33 (.bin .eql (.t 32) (.k (.i 2))),
  ao 5 28 (.mv (.t 33))]
def r75_1 : List AOper := [ao 0 34 (.mv (.t 0)),
  ao 1 35 (.call (.k (.c (.fn 57 []))) [(.t 34), (.k (.i 0))])]
def r75_2 : List AOper := [ao 0 36 (.mv (.t 0)),
  ao 1 37 (.nck (.t 36)),
  ao 2 38 (.fa 4 (.t 37)),
  an 3 (.st 1 (.t 38) (.k (.i 3)))]
def c75_3 : ACode := .seq (.reg r75_1) (.reg r75_2)
def r75_4 : List AOper := [ao 0 40 (.mv (.t 1)),
  ao 1 41 (.bin .gtr (.t 40) (.k (.i 0))),
  ao 2 39 (.mv (.t 41))]
def r75_5 : List AOper := [ao 0 42 (.mv (.t 0)),
  ao 1 43 (.nck (.t 42)),
  ao 2 44 (.fa 4 (.t 43)),
  an 3 (.st 1 (.t 44) (.k (.i 2)))]
def r75_6 : List AOper := [ao 0 46 (.mv (.t 0)),
  ao 1 47 (.nck (.t 46)),
  ao 2 48 (.fa 4 (.t 47)),
  ao 3 49 (.ld 1 false (.t 48)),
  ao 4 50 (.bin .eql (.t 49) (.k (.i 0))),
  ao 5 45 (.mv (.t 50))]
def r75_7 : List AOper := [ao 0 51 (.mv (.t 0)),
  ao 1 52 (.nck (.t 51)),
  ao 2 53 (.fa 15 (.t 52)),
  ao 3 54 (.ld 1 false (.t 53)),
  ao 4 55 (.bin .sub (.t 54) (.k (.i 1))),
  ao 5 56 (.nck (.t 51)),
  ao 6 57 (.fa 15 (.t 56)),
  an 7 (.st 1 (.t 57) (.t 55))]
def r75_8 : List AOper := [ao 0 58 (.mv (.t 0)),
  ao 1 59 (.nck (.t 58)),
  ao 2 60 (.fa 3 (.t 59)),
  ao 3 61 (.ld 1 false (.t 60)),
  ao 4 62 (.bin .add (.t 61) (.k (.i 1))),
  ao 5 63 (.nck (.t 58)),
  ao 6 64 (.fa 3 (.t 63)),
  an 7 (.st 1 (.t 64) (.t 62))]
def r75_9 : List AOper := [ao 0 65 (.mv (.t 0)),
  ao 1 66 (.nck (.t 65)),
  ao 2 67 (.fa 17 (.t 66)),
  ao 3 68 (.ld 1 false (.t 67)),
  ao 4 69 (.bin .add (.t 68) (.k (.i 1))),
  ao 5 70 (.nck (.t 65)),
  ao 6 71 (.fa 17 (.t 70)),
  an 7 (.st 1 (.t 71) (.t 69))]
def r75_10 : List AOper := [ao 0 72 (.mv (.t 0)),
  ao 1 73 (.nck (.t 72)),
  ao 2 74 (.fa 4 (.t 73)),
  an 3 (.st 1 (.t 74) (.k (.i 1)))]
def c75_11 : ACode := .seq (.reg r75_7) (.seq (.reg r75_8) (.seq (.reg r75_9) (.reg r75_10)))
def r75_12 : List AOper := [ao 0 4 (.mv (.t 0)),
  au 1 5 [0] (.mv (.t 0)),
  au 2 6 [0] (.nck (.t 5)),
  au 3 7 [0] (.fa 5 (.t 6)),
  au 4 8 [0] (.ld 1 false (.t 7)),
  au 5 9 (ru 5) (.mv (.t 0)),
  au 6 10 (ru 5) (.nck (.t 9)),
  au 7 11 (ru 5) (.fa 3 (.t 10)),
  au 8 12 (ru 5) (.ld 1 false (.t 11)),
  au 9 13 (ru 5) (.bin .sub (.t 12) (.k (.i 1))),
  au 10 14 (ru 5) (.bsl 1 3 [(.t 13)]),
  au 11 15 [0] (.app 1 3 8 (.t 8) (.t 14)),
  ao 12 16 (.nck (.t 4)),
  ao 13 17 (.fa 5 (.t 16)),
  an 14 (.st 1 (.t 17) (.t 15))]
def r75_13 : List AOper := [ao 0 18 (.mv (.t 0)),
  ao 1 19 (.nck (.t 18)),
  ao 2 20 (.fa 17 (.t 19)),
  ao 3 21 (.ld 1 false (.t 20)),
  ao 4 22 (.bin .add (.t 21) (.k (.i 1))),
  ao 5 23 (.nck (.t 18)),
  ao 6 24 (.fa 17 (.t 23)),
  an 7 (.st 1 (.t 24) (.t 22))]
def r75_14 : List AOper := [ao 0 25 (.mv (.t 0)),
  ao 1 26 (.nck (.t 25)),
  ao 2 27 (.fa 4 (.t 26)),
  an 3 (.st 1 (.t 27) (.k (.i 0)))]
def c75_15 : ACode := .seq (.reg r75_12) (.seq (.reg r75_13) (.reg r75_14))
def c75_16 : ACode := .cond (.t 45) c75_11 c75_15
def c75_17 : ACode := .seq (.reg r75_6) c75_16
def c75_18 : ACode := .cond (.t 39) (.reg r75_5) c75_17
def c75_19 : ACode := .seq (.reg r75_4) c75_18
def c75_20 : ACode := .cond (.t 28) c75_3 c75_19
def c75_21 : ACode := .seq (.reg r75_0) c75_20
def c75 : ACode := .block 0 c75_21
def s75 : List ARes := []
theorem ok75 : okF Try.prog 75 75 c75 s75 := ⟨Try.f75, Try.func75, Try.ntmps75, by kernel_rfl, by kernel_rfl, by kernel_rfl⟩
def UEj_1 := Bx.mk <|
  aN (uA c75.eq_1) <| aN (uA c75_21.eq_1) <| aN (uR r75_0.eq_1) <| aN (uA c75_20.eq_1) <| aN (uA c75_3.eq_1) <| aN (uR r75_1.eq_1) <| aN (uR r75_2.eq_1) <| aN (uA c75_19.eq_1) <| aN (uR r75_4.eq_1) <| aN (uA c75_18.eq_1) <| aN (uR r75_5.eq_1) <| aN (uA c75_17.eq_1) <| aN (uR r75_6.eq_1) <| aN (uA c75_16.eq_1) <| aN (uA c75_11.eq_1) <| aN (uR r75_7.eq_1) <| aN (uR r75_8.eq_1) <| aN (uR r75_9.eq_1) <| aN (uR r75_10.eq_1) <| aN (uA c75_15.eq_1) <| aN (uR r75_12.eq_1) <| aN (uR r75_13.eq_1) <| aN (uR r75_14.eq_1) <| s75.eq_1
set_option maxHeartbeats 2000000 in
theorem moveReader_ok {w : CW} (f : Form w) (way : Int) (v a1 a2 a3 a4 a5 a6 a7 m0 m : Nat) : ACallsF Try.prog 75 [wP 1000 v, .i way] (iZ v a1 a2 a3 a4 a5 a6 a7 m0 m w (doR w way) (doR w way)) (.tup []) := by
  have hls : w.shut.length = 4 := by have := f.ls; omega
  have ho := f.ops0
  have ho2 := f.ops1
  have hn := f.next
  have hj := f.st.j
  have hr := f.room
  have hw := f.st.n
  have hq := f.small.q
  have w1 : IntKind.i64.wrap (w.ops + 1) = w.ops + 1 := wrap64 ⟨by omega, by omega⟩
  have w2 : IntKind.i64.wrap (w.next + 1) = w.next + 1 := wrap64 ⟨by omega, by omega⟩
  have w3 : IntKind.i64.wrap (w.next - 1) = w.next - 1 := wrap64 ⟨by omega, by omega⟩
  have w4 : IntKind.i64.wrap (w.room - 1) = w.room - 1 := wrap64 ⟨by omega, by omega⟩
  have q1 : (w.queue.length + 1) * 8 ≤ 140737488355328 := by omega
  have q2 : w.queue.length + 1 ≤ 9223372036854775807 := by omega
  refine ACallsF.intro ok75 follows fun X c0 => ?_
  by_cases c0 : w.reader = 2
  · have k0 := eqb c0
    rw [show doR w way = { w with reader := 3, shut := w.shut.set 0 1, ops := w.ops + 1 } by rw [doR, if_pos c0]]
    simp only [RUX, Nat.reduceAdd, reduceIte, Nat.reduceEqDiff, Nat.reduceLT, Nat.reduceLeDiff, reduceCtorEq, eq_self, kH, iZ, inH, wP, FIX, forall_const, endE_n, endE_r, CHT, disj, Nat.reduceBEq, beq_self_eq_true, APT, APX, forall_eq, ALT, KI, UEj_1.d, k0]
    refine callIn (m := 1000) (shut_ok hls ⟨ho, ho2⟩ 0 (by decide)) rfl rfl rfl (fun _ _ => rfl) rfl rfl rfl rfl rfl rfl rfl rfl (by decide) ⟨rfl, ?_⟩
    simp only [RUX, Nat.reduceAdd, reduceIte, Nat.reduceEqDiff, Nat.reduceLT, Nat.reduceLeDiff, reduceCtorEq, eq_self, kH, iZ, inH, wP, FIX, forall_const, endE_n, endE_r, CHT, disj, Nat.reduceBEq, beq_self_eq_true, APT, APX, forall_eq, ALT, KI, UEj_1.d, k0, shutW, SNT]
  have k0 := neqb c0
  by_cases c1 : way > 0
  · rw [show doR w way = { w with reader := 2 } by rw [doR, if_neg c0, if_pos c1]]
    simp only [RUX, Nat.reduceAdd, reduceIte, Nat.reduceEqDiff, Nat.reduceLT, Nat.reduceLeDiff, reduceCtorEq, eq_self, kH, iZ, inH, wP, FIX, forall_const, endE_n, endE_r, CHT, disj, Nat.reduceBEq, beq_self_eq_true, APT, APX, forall_eq, ALT, KI, UEj_1.d, k0, c1, SNT]
  by_cases c2 : w.reader = 0
  · have k2 := eqb c2
    rw [show doR w way = { w with room := w.room - 1, next := w.next + 1, reader := 1, ops := w.ops + 1 } by rw [doR, if_neg c0, if_neg c1, if_pos c2]]
    simp only [RUX, Nat.reduceAdd, reduceIte, Nat.reduceEqDiff, Nat.reduceLT, Nat.reduceLeDiff, reduceCtorEq, eq_self, kH, iZ, inH, wP, FIX, forall_const, endE_n, endE_r, CHT, disj, Nat.reduceBEq, beq_self_eq_true, APT, APX, forall_eq, ALT, KI, UEj_1.d, k0, c1, k2, SNT, w1, w2, w4]
  have k2 := neqb c2
  rw [show doR w way = { w with queue := w.queue ++ [w.next - 1], reader := 0, ops := w.ops + 1 } by rw [doR, if_neg c0, if_neg c1, if_neg c2]]
  simp only [RUX, Nat.reduceAdd, reduceIte, Nat.reduceEqDiff, Nat.reduceLT, Nat.reduceLeDiff, reduceCtorEq, eq_self, kH, iZ, inH, wP, FIX, forall_const, endE_n, endE_r, CHT, disj, Nat.reduceBEq, beq_self_eq_true, APT, APX, forall_eq, ALT, KI, UEj_1.d, k0, c1, k2, SNT, w1, w3, q1, q2]
/- (*loop.example/teagle/impl.CrewWorld).moveHand -/
def r78_0 : List AOper := [ao 0 30 (.mv (.t 2)),
  ao 1 31 (.bin .gtr (.t 30) (.k (.i 0))),
  ao 2 29 (.mv (.t 31))]
def r78_1 : List AOper := [ao 0 32 (.mv (.t 0)),
  ao 1 33 (.nck (.t 32)),
  ao 2 34 (.fa 17 (.t 33)),
  ao 3 35 (.ld 1 false (.t 34)),
  au 4 36 (ru 4) (.mv (.t 2)),
  au 5 37 (ru 4) (.bin .eql (.t 36) (.k (.i 2))),
  au 6 38 (ru 4) (.call (.k (.c (.fn 90 []))) [(.t 37)]),
  ao 7 39 (.bin .add (.t 35) (.t 38)),
  ao 8 40 (.nck (.t 32)),
  ao 9 41 (.fa 17 (.t 40)),
  an 10 (.st 1 (.t 41) (.t 39))]
def r78_2 : List AOper := [ao 0 42 (.mv (.t 1)),
  ao 1 43 (.build [(.v (.s (.int .i64 0))), (.v (.s (.int .i64 0)))] [(0, 1, (.k (.i 3)))]),
  ao 2 44 (.nck (.t 42)),
  an 3 (.st 2 (.t 44) (.t 43))]
def c78_3 : ACode := .seq (.reg r78_1) (.reg r78_2)
def r78_4 : List AOper := [ao 0 46 (.mv (.t 1)),
  ao 1 47 (.nck (.t 46)),
  ao 2 48 (.fa 0 (.t 47)),
  ao 3 49 (.ld 1 false (.t 48)),
  ao 4 50 (.bin .eql (.t 49) (.k (.i 0))),
  ao 5 45 (.mv (.t 50))]
def r78_5 : List AOper := [ao 0 51 (.mv (.t 1)),
  ao 1 52 (.mv (.t 0)),
  ao 2 53 (.nck (.t 52)),
  ao 3 54 (.fa 5 (.t 53)),
  ao 4 55 (.call (.k (.c (.fn 77 []))) [(.t 54)]),
  ao 5 56 (.build [(.v (.s (.int .i64 0))), (.v (.s (.int .i64 0)))] [(0, 1, (.k (.i 1))), (1, 1, (.t 55))]),
  ao 6 57 (.nck (.t 51)),
  an 7 (.st 2 (.t 57) (.t 56))]
def r78_6 : List AOper := [ao 0 58 (.mv (.t 0)),
  ao 1 59 (.nck (.t 58)),
  ao 2 60 (.fa 17 (.t 59)),
  ao 3 61 (.ld 1 false (.t 60)),
  ao 4 62 (.bin .add (.t 61) (.k (.i 1))),
  ao 5 63 (.nck (.t 58)),
  ao 6 64 (.fa 17 (.t 63)),
  an 7 (.st 1 (.t 64) (.t 62))]
def c78_7 : ACode := .seq (.reg r78_5) (.reg r78_6)
def r78_8 : List AOper := [ao 0 66 (.mv (.t 1)),
  ao 1 67 (.nck (.t 66)),
  ao 2 68 (.fa 0 (.t 67)),
  ao 3 69 (.ld 1 false (.t 68)),
  ao 4 70 (.bin .eql (.t 69) (.k (.i 1))),
  ao 5 65 (.mv (.t 70))]
def r78_9 : List AOper := [ao 0 71 (.mv (.t 1)),
  ao 1 72 (.nck (.t 71)),
  ao 2 73 (.fa 0 (.t 72)),
  an 3 (.st 1 (.t 73) (.k (.i 2)))]
def r78_10 : List AOper := [ao 0 6 (.mv (.t 0)),
  au 1 7 [0] (.mv (.t 0)),
  au 2 8 [0] (.nck (.t 7)),
  au 3 9 [0] (.fa 8 (.t 8)),
  au 4 10 [0] (.ld 1 false (.t 9)),
  au 5 11 (ru 5) (.mv (.t 1)),
  au 6 12 (ru 5) (.nck (.t 11)),
  au 7 13 (ru 5) (.fa 1 (.t 12)),
  au 8 14 (ru 5) (.ld 1 false (.t 13)),
  au 9 15 (ru 5) (.bsl 1 3 [(.t 14)]),
  au 10 16 [0] (.app 1 3 8 (.t 10) (.t 15)),
  ao 11 17 (.nck (.t 6)),
  ao 12 18 (.fa 8 (.t 17)),
  an 13 (.st 1 (.t 18) (.t 16))]
def r78_11 : List AOper := [ao 0 19 (.mv (.t 0)),
  ao 1 20 (.nck (.t 19)),
  ao 2 21 (.fa 17 (.t 20)),
  ao 3 22 (.ld 1 false (.t 21)),
  ao 4 23 (.bin .add (.t 22) (.k (.i 1))),
  ao 5 24 (.nck (.t 19)),
  ao 6 25 (.fa 17 (.t 24)),
  an 7 (.st 1 (.t 25) (.t 23))]
def r78_12 : List AOper := [ao 0 26 (.mv (.t 1)),
  ao 1 27 (.build [(.v (.s (.int .i64 0))), (.v (.s (.int .i64 0)))] []),
  ao 2 28 (.nck (.t 26)),
  an 3 (.st 2 (.t 28) (.t 27))]
def c78_13 : ACode := .seq (.reg r78_10) (.seq (.reg r78_11) (.reg r78_12))
def c78_14 : ACode := .cond (.t 65) (.reg r78_9) c78_13
def c78_15 : ACode := .seq (.reg r78_8) c78_14
def c78_16 : ACode := .cond (.t 45) c78_7 c78_15
def c78_17 : ACode := .seq (.reg r78_4) c78_16
def c78_18 : ACode := .cond (.t 29) c78_3 c78_17
def c78_19 : ACode := .seq (.reg r78_0) c78_18
def c78 : ACode := .block 0 c78_19
def s78 : List ARes := []
theorem ok78 : okF Try.prog 78 74 c78 s78 := ⟨Try.f78, Try.func78, Try.ntmps78, by kernel_rfl, by kernel_rfl, by kernel_rfl⟩
def UEj_2 := Bx.mk <|
  aN (uA c78.eq_1) <| aN (uA c78_19.eq_1) <| aN (uR r78_0.eq_1) <| aN (uA c78_18.eq_1) <| aN (uA c78_3.eq_1) <| aN (uR r78_1.eq_1) <| aN (uR r78_2.eq_1) <| aN (uA c78_17.eq_1) <| aN (uR r78_4.eq_1) <| aN (uA c78_16.eq_1) <| aN (uA c78_7.eq_1) <| aN (uR r78_5.eq_1) <| aN (uR r78_6.eq_1) <| aN (uA c78_15.eq_1) <| aN (uR r78_8.eq_1) <| aN (uA c78_14.eq_1) <| aN (uR r78_9.eq_1) <| aN (uA c78_13.eq_1) <| aN (uR r78_10.eq_1) <| aN (uR r78_11.eq_1) <| aN (uR r78_12.eq_1) <| s78.eq_1
set_option maxHeartbeats 2000000 in
theorem moveHand_ok {w : CW} (f : Form w) (i : Nat) (hi : i < w.hands.length) (way : Int) (hq : ¬ way > 0 → (hdAt w i).state = 0 → 0 < w.queue.length) (v a1 a2 a3 a4 a5 a6 a7 m0 m : Nat) : ACallsF Try.prog 78 [wP 1000 v, .c (.aptr 1002 a2 i 0), .i way] (iZ v a1 a2 a3 a4 a5 a6 a7 m0 m w (doH w i way) { doH w i way with queue := w.queue }) (.tup []) := by
  have eh := en_at eH (hdAt_at hi)
  have ho := f.ops0
  have ho2 := f.ops1
  have hrl := f.small.r
  have hql := f.small.q
  have w1 : IntKind.i64.wrap (w.ops + 1) = w.ops + 1 := wrap64 ⟨by omega, by omega⟩
  have w0 : IntKind.i64.wrap (w.ops + 0) = w.ops := by rw [Int.add_zero]; exact wrap64 ⟨by omega, by omega⟩
  have q1 : (w.results.length + 1) * 8 ≤ 140737488355328 := by omega
  have q2 : w.results.length + 1 ≤ 9223372036854775807 := by omega
  obtain ⟨x, hx⟩ : ∃ x, hdAt w i = x := ⟨_, rfl⟩
  rw [hx] at hq eh
  refine ACallsF.intro ok78 follows fun X c0 => ?_
  by_cases c1 : way > 0
  · by_cases c2 : way = 2
    · have k2 := eqb c2
      rw [show doH w i way = { w with hands := w.hands.set i ⟨3, 0⟩, ops := w.ops + 1 } by rw [doH, if_pos c1, if_pos c2]]
      simp only [RUX, Nat.reduceAdd, reduceIte, Nat.reduceEqDiff, Nat.reduceLT, Nat.reduceLeDiff, reduceCtorEq, eq_self, kH, iZ, inH, wP, FIX, forall_const, endE_n, endE_r, CHT, disj, Nat.reduceBEq, beq_self_eq_true, APT, APX, forall_eq, ALT, KI, UEj_2.d, c1, k2]
      refine callC (bit_ok true) rfl rfl rfl rfl ?_
      simp only [RUX, Nat.reduceAdd, reduceIte, Nat.reduceEqDiff, Nat.reduceLT, Nat.reduceLeDiff, reduceCtorEq, eq_self, kH, iZ, inH, wP, FIX, forall_const, endE_n, endE_r, CHT, disj, Nat.reduceBEq, beq_self_eq_true, APT, APX, forall_eq, ALT, KI, UEj_2.d, c1, k2, eh, eH, w1, SNT]
    · have k2 := neqb c2
      rw [show doH w i way = { w with hands := w.hands.set i ⟨3, 0⟩, ops := w.ops } by rw [doH, if_pos c1, if_neg c2]]
      simp only [RUX, Nat.reduceAdd, reduceIte, Nat.reduceEqDiff, Nat.reduceLT, Nat.reduceLeDiff, reduceCtorEq, eq_self, kH, iZ, inH, wP, FIX, forall_const, endE_n, endE_r, CHT, disj, Nat.reduceBEq, beq_self_eq_true, APT, APX, forall_eq, ALT, KI, UEj_2.d, c1, k2]
      refine callC (bit_ok false) rfl rfl rfl rfl ?_
      simp only [RUX, Nat.reduceAdd, reduceIte, Nat.reduceEqDiff, Nat.reduceLT, Nat.reduceLeDiff, reduceCtorEq, eq_self, kH, iZ, inH, wP, FIX, forall_const, endE_n, endE_r, CHT, disj, Nat.reduceBEq, beq_self_eq_true, APT, APX, forall_eq, ALT, KI, UEj_2.d, c1, k2, eh, eH, w0, Bool.false_eq_true, SNT]
  by_cases c2 : x.state = 0
  · have k2 := eqb c2
    rw [show doH w i way = { w with hands := w.hands.set i ⟨1, w.queue.getD 0 0⟩, queue := w.queue.drop 1, ops := w.ops + 1 } by rw [doH, hx, if_neg c1, if_pos c2]]
    simp only [RUX, Nat.reduceAdd, reduceIte, Nat.reduceEqDiff, Nat.reduceLT, Nat.reduceLeDiff, reduceCtorEq, eq_self, kH, iZ, inH, wP, FIX, forall_const, endE_n, endE_r, CHT, disj, Nat.reduceBEq, beq_self_eq_true, APT, APX, forall_eq, ALT, KI, UEj_2.d, c1, k2, eh, eH]
    refine callB (hs := fH1 v a1 a2 a3 a4 a5 a6 a7 1000 1000 w) («as» := [.c (.ptr 1000 v 5)]) (ob := [(1000, .var v 29 (fC1 1001 1002 1003 1004 1005 1006 1007 a1 a2 a3 a4 a5 a6 a7 w)), (1001, (sI a1 w.queue)), (1002, (bH a2 w.hands)), (1003, (bI a3 w.results)), (1004, (bI a4 w.ring)), (1005, (bI a5 w.out)), (1006, (bI a6 w.got)), (1007, (bI a7 w.shut))]) (first1_ok (hq c1 c2) hql v a1 a2 a3 a4 a5 a6 a7 1000 1000) rfl rfl rfl ⟨rfl, rfl, rfl, rfl, rfl, rfl, rfl, rfl, trivial⟩ nd8 nd8 rfl rfl ⟨rfl, ?_⟩
    simp only [RUX, Nat.reduceAdd, reduceIte, Nat.reduceEqDiff, Nat.reduceLT, Nat.reduceLeDiff, reduceCtorEq, eq_self, kH, iZ, inH, wP, FIX, forall_const, endE_n, endE_r, CHT, disj, Nat.reduceBEq, beq_self_eq_true, APT, APX, forall_eq, ALT, KI, UEj_2.d, c1, k2, eh, eH, w1, fC1, SNT]
  have k2 := neqb c2
  by_cases c3 : x.state = 1
  · have k3 := eqb c3
    rw [show doH w i way = { w with hands := w.hands.set i ⟨2, x.job⟩ } by rw [doH, hx, if_neg c1, if_neg c2, if_pos c3]]
    simp only [RUX, Nat.reduceAdd, reduceIte, Nat.reduceEqDiff, Nat.reduceLT, Nat.reduceLeDiff, reduceCtorEq, eq_self, kH, iZ, inH, wP, FIX, forall_const, endE_n, endE_r, CHT, disj, Nat.reduceBEq, beq_self_eq_true, APT, APX, forall_eq, ALT, KI, UEj_2.d, c1, k2, k3, eh, eH, SNT]
  have k3 := neqb c3
  rw [show doH w i way = { w with results := w.results ++ [x.job], hands := w.hands.set i ⟨0, 0⟩, ops := w.ops + 1 } by rw [doH, hx, if_neg c1, if_neg c2, if_neg c3]]
  simp only [RUX, Nat.reduceAdd, reduceIte, Nat.reduceEqDiff, Nat.reduceLT, Nat.reduceLeDiff, reduceCtorEq, eq_self, kH, iZ, inH, wP, FIX, forall_const, endE_n, endE_r, CHT, disj, Nat.reduceBEq, beq_self_eq_true, APT, APX, forall_eq, ALT, KI, UEj_2.d, c1, k2, k3, eh, eH, w1, q1, q2, SNT]
/- (*loop.example/teagle/impl.CrewWorld).moveKeeper -/
def r76_0 : List AOper := [ao 0 11 (.mv (.t 1)),
  ao 1 12 (.bin .gtr (.t 11) (.k (.i 0))),
  ao 2 10 (.mv (.t 12))]
def r76_1 : List AOper := [ao 0 13 (.mv (.t 0)),
  ao 1 14 (.nck (.t 13)),
  ao 2 15 (.fa 17 (.t 14)),
  ao 3 16 (.ld 1 false (.t 15)),
  au 4 17 (ru 4) (.mv (.t 1)),
  au 5 18 (ru 4) (.bin .eql (.t 17) (.k (.i 2))),
  au 6 19 (ru 4) (.call (.k (.c (.fn 90 []))) [(.t 18)]),
  ao 7 20 (.bin .add (.t 16) (.t 19)),
  ao 8 21 (.nck (.t 13)),
  ao 9 22 (.fa 17 (.t 21)),
  an 10 (.st 1 (.t 22) (.t 20))]
def r76_2 : List AOper := [ao 0 23 (.mv (.t 0)),
  ao 1 24 (.nck (.t 23)),
  ao 2 25 (.fa 9 (.t 24)),
  an 3 (.st 1 (.t 25) (.k (.i 4)))]
def c76_3 : ACode := .seq (.reg r76_1) (.reg r76_2)
def r76_4 : List AOper := [ao 0 27 (.mv (.t 0)),
  ao 1 28 (.nck (.t 27)),
  ao 2 29 (.fa 9 (.t 28)),
  ao 3 30 (.ld 1 false (.t 29)),
  ao 4 31 (.bin .eql (.t 30) (.k (.i 0))),
  ao 5 26 (.mv (.t 31))]
def r76_5 : List AOper := [ao 0 32 (.mv (.t 0)),
  ao 1 33 (.nck (.t 32)),
  ao 2 34 (.fa 8 (.t 33)),
  ao 3 35 (.call (.k (.c (.fn 77 []))) [(.t 34)]),
  ao 4 4 (.mv (.t 35))]
def r76_6 : List AOper := [ao 0 36 (.mv (.t 0)),
  ao 1 37 (.nck (.t 36)),
  ao 2 38 (.fa 10 (.t 37)),
  ao 3 39 (.ld 1 false (.t 38)),
  au 4 40 (ru 4) (.mv (.t 4)),
  au 5 41 (ru 5) (.mv (.t 0)),
  au 6 42 (ru 5) (.nck (.t 41)),
  au 7 43 (ru 5) (.fa 2 (.t 42)),
  au 8 44 (ru 5) (.ld 1 false (.t 43)),
  au 9 45 (ru 4) (.bin .rem (.t 40) (.t 44)),
  au 10 46 (ru 10) (.mv (.t 4)),
  ao 11 47 (.ia 1 (.t 39) (.t 45)),
  an 12 (.st 1 (.t 47) (.t 46))]
def r76_7 : List AOper := [ao 0 48 (.mv (.t 0)),
  ao 1 49 (.nck (.t 48)),
  ao 2 50 (.fa 17 (.t 49)),
  ao 3 51 (.ld 1 false (.t 50)),
  ao 4 52 (.bin .add (.t 51) (.k (.i 1))),
  ao 5 53 (.nck (.t 48)),
  ao 6 54 (.fa 17 (.t 53)),
  an 7 (.st 1 (.t 54) (.t 52))]
def r76_8 : List AOper := [ao 0 55 (.mv (.t 0)),
  ao 1 56 (.nck (.t 55)),
  ao 2 57 (.fa 9 (.t 56)),
  an 3 (.st 1 (.t 57) (.k (.i 1)))]
def c76_9 : ACode := .seq (.reg r76_5) (.seq (.reg r76_6) (.seq (.reg r76_7) (.reg r76_8)))
def r76_10 : List AOper := [ao 0 59 (.mv (.t 0)),
  ao 1 60 (.nck (.t 59)),
  ao 2 61 (.fa 9 (.t 60)),
  ao 3 62 (.ld 1 false (.t 61)),
  ao 4 63 (.bin .eql (.t 62) (.k (.i 1))),
  ao 5 64 (.mv (.t 63)),
  ag 6 65 64 true [] (.mv (.t 0)),
  ag 7 66 64 true [] (.call (.k (.c (.fn 53 []))) [(.t 65)]),
  ao 8 67 (.pick (.t 64) (.t 66) (.k (.b false))),
  ao 9 58 (.mv (.t 67))]
def r76_11 : List AOper := [ao 0 68 (.mv (.t 0)),
  ao 1 69 (.nck (.t 68)),
  ao 2 70 (.fa 9 (.t 69)),
  an 3 (.st 1 (.t 70) (.k (.i 2)))]
def r76_12 : List AOper := [ao 0 72 (.mv (.t 0)),
  ao 1 73 (.nck (.t 72)),
  ao 2 74 (.fa 9 (.t 73)),
  ao 3 75 (.ld 1 false (.t 74)),
  ao 4 76 (.bin .eql (.t 75) (.k (.i 1))),
  ao 5 71 (.mv (.t 76))]
def r76_13 : List AOper := [ao 0 77 (.mv (.t 0)),
  ao 1 78 (.nck (.t 77)),
  ao 2 79 (.fa 9 (.t 78)),
  an 3 (.st 1 (.t 79) (.k (.i 0)))]
def r76_14 : List AOper := [ao 0 81 (.mv (.t 0)),
  ao 1 82 (.nck (.t 81)),
  ao 2 83 (.fa 9 (.t 82)),
  ao 3 84 (.ld 1 false (.t 83)),
  ao 4 85 (.bin .eql (.t 84) (.k (.i 2))),
  ao 5 80 (.mv (.t 85))]
def r76_15 : List AOper := [ao 0 86 (.mv (.t 0)),
  ao 1 87 (.nck (.t 86)),
  ao 2 88 (.fa 10 (.t 87)),
  ao 3 89 (.ld 1 false (.t 88)),
  au 4 90 (ru 4) (.mv (.t 0)),
  au 5 91 (ru 4) (.nck (.t 90)),
  au 6 92 (ru 4) (.fa 11 (.t 91)),
  au 7 93 (ru 4) (.ld 1 false (.t 92)),
  au 8 94 (ru 8) (.mv (.t 0)),
  au 9 95 (ru 8) (.nck (.t 94)),
  au 10 96 (ru 8) (.fa 2 (.t 95)),
  au 11 97 (ru 8) (.ld 1 false (.t 96)),
  au 12 98 (ru 4) (.bin .rem (.t 93) (.t 97)),
  ao 13 99 (.ia 1 (.t 89) (.t 98)),
  an 14 (.st 1 (.t 99) (.k (.i (-1))))]
def r76_16 : List AOper := [ao 0 100 (.mv (.t 0)),
  au 1 101 [0] (.mv (.t 0)),
  au 2 102 [0] (.nck (.t 101)),
  au 3 103 [0] (.fa 12 (.t 102)),
  au 4 104 [0] (.ld 1 false (.t 103)),
  au 5 105 (ru 5) (.mv (.t 0)),
  au 6 106 (ru 5) (.nck (.t 105)),
  au 7 107 (ru 5) (.fa 11 (.t 106)),
  au 8 108 (ru 5) (.ld 1 false (.t 107)),
  au 9 109 (ru 5) (.bsl 1 3 [(.t 108)]),
  au 10 110 [0] (.app 1 3 8 (.t 104) (.t 109)),
  ao 11 111 (.nck (.t 100)),
  ao 12 112 (.fa 12 (.t 111)),
  an 13 (.st 1 (.t 112) (.t 110))]
def r76_17 : List AOper := [ao 0 113 (.mv (.t 0)),
  ao 1 114 (.nck (.t 113)),
  ao 2 115 (.fa 11 (.t 114)),
  ao 3 116 (.ld 1 false (.t 115)),
  ao 4 117 (.bin .add (.t 116) (.k (.i 1))),
  ao 5 118 (.nck (.t 113)),
  ao 6 119 (.fa 11 (.t 118)),
  an 7 (.st 1 (.t 119) (.t 117))]
def r76_18 : List AOper := [ao 0 120 (.mv (.t 0)),
  ao 1 121 (.nck (.t 120)),
  ao 2 122 (.fa 17 (.t 121)),
  ao 3 123 (.ld 1 false (.t 122)),
  ao 4 124 (.bin .add (.t 123) (.k (.i 1))),
  ao 5 125 (.nck (.t 120)),
  ao 6 126 (.fa 17 (.t 125)),
  an 7 (.st 1 (.t 126) (.t 124))]
def r76_19 : List AOper := [ao 0 127 (.mv (.t 0)),
  ao 1 128 (.nck (.t 127)),
  ao 2 129 (.fa 9 (.t 128)),
  an 3 (.st 1 (.t 129) (.k (.i 3)))]
def c76_20 : ACode := .seq (.reg r76_15) (.seq (.reg r76_16) (.seq (.reg r76_17) (.seq (.reg r76_18) (.reg r76_19))))
def r76_21 : List AOper := [ao 0 131 (.mv (.t 0)),
  ao 1 132 (.nck (.t 131)),
  ao 2 133 (.fa 9 (.t 132)),
  ao 3 134 (.ld 1 false (.t 133)),
  ao 4 135 (.bin .eql (.t 134) (.k (.i 3))),
  ao 5 130 (.mv (.t 135))]
def r76_22 : List AOper := [ao 0 136 (.mv (.t 0)),
  ao 1 137 (.nck (.t 136)),
  ao 2 138 (.fa 15 (.t 137)),
  ao 3 139 (.ld 1 false (.t 138)),
  ao 4 140 (.bin .add (.t 139) (.k (.i 1))),
  ao 5 141 (.nck (.t 136)),
  ao 6 142 (.fa 15 (.t 141)),
  an 7 (.st 1 (.t 142) (.t 140))]
def r76_23 : List AOper := [ao 0 143 (.mv (.t 0)),
  ao 1 144 (.nck (.t 143)),
  ao 2 145 (.fa 17 (.t 144)),
  ao 3 146 (.ld 1 false (.t 145)),
  ao 4 147 (.bin .add (.t 146) (.k (.i 1))),
  ao 5 148 (.nck (.t 143)),
  ao 6 149 (.fa 17 (.t 148)),
  an 7 (.st 1 (.t 149) (.t 147))]
def r76_24 : List AOper := [ao 0 150 (.mv (.t 0)),
  ao 1 151 (.nck (.t 150)),
  ao 2 152 (.fa 9 (.t 151)),
  an 3 (.st 1 (.t 152) (.k (.i 1)))]
def c76_25 : ACode := .seq (.reg r76_22) (.seq (.reg r76_23) (.reg r76_24))
def r76_26 : List AOper := [ao 0 5 (.mv (.t 0)),
  ao 1 6 (.call (.k (.c (.fn 57 []))) [(.t 5), (.k (.i 2))])]
def r76_27 : List AOper := [ao 0 7 (.mv (.t 0)),
  ao 1 8 (.nck (.t 7)),
  ao 2 9 (.fa 9 (.t 8)),
  an 3 (.st 1 (.t 9) (.k (.i 5)))]
def c76_28 : ACode := .seq (.reg r76_26) (.reg r76_27)
def c76_29 : ACode := .cond (.t 130) c76_25 c76_28
def c76_30 : ACode := .seq (.reg r76_21) c76_29
def c76_31 : ACode := .cond (.t 80) c76_20 c76_30
def c76_32 : ACode := .seq (.reg r76_14) c76_31
def c76_33 : ACode := .cond (.t 71) (.reg r76_13) c76_32
def c76_34 : ACode := .seq (.reg r76_12) c76_33
def c76_35 : ACode := .cond (.t 58) (.reg r76_11) c76_34
def c76_36 : ACode := .seq (.reg r76_10) c76_35
def c76_37 : ACode := .cond (.t 26) c76_9 c76_36
def c76_38 : ACode := .seq (.reg r76_4) c76_37
def c76_39 : ACode := .cond (.t 10) c76_3 c76_38
def c76_40 : ACode := .seq (.reg r76_0) c76_39
def c76 : ACode := .block 0 c76_40
def s76 : List ARes := []
theorem ok76 : okF Try.prog 76 153 c76 s76 := ⟨Try.f76, Try.func76, Try.ntmps76, by kernel_rfl, by kernel_rfl, by kernel_rfl⟩
def UEj_3 := Bx.mk <|
  aN (uA c76.eq_1) <| aN (uA c76_40.eq_1) <| aN (uR r76_0.eq_1) <| aN (uA c76_39.eq_1) <| aN (uA c76_3.eq_1) <| aN (uR r76_1.eq_1) <| aN (uR r76_2.eq_1) <| aN (uA c76_38.eq_1) <| aN (uR r76_4.eq_1) <| aN (uA c76_37.eq_1) <| aN (uA c76_9.eq_1) <| aN (uR r76_5.eq_1) <| aN (uR r76_6.eq_1) <| aN (uR r76_7.eq_1) <| aN (uR r76_8.eq_1) <| aN (uA c76_36.eq_1) <| aN (uR r76_10.eq_1) <| aN (uA c76_35.eq_1) <| aN (uR r76_11.eq_1) <| aN (uA c76_34.eq_1) <| aN (uR r76_12.eq_1) <| aN (uA c76_33.eq_1) <| aN (uR r76_13.eq_1) <| aN (uA c76_32.eq_1) <| aN (uR r76_14.eq_1) <| aN (uA c76_31.eq_1) <| aN (uA c76_20.eq_1) <| aN (uR r76_15.eq_1) <| aN (uR r76_16.eq_1) <| aN (uR r76_17.eq_1) <| aN (uR r76_18.eq_1) <| aN (uR r76_19.eq_1) <| aN (uA c76_30.eq_1) <| aN (uR r76_21.eq_1) <| aN (uA c76_29.eq_1) <| aN (uA c76_25.eq_1) <| aN (uR r76_22.eq_1) <| aN (uR r76_23.eq_1) <| aN (uR r76_24.eq_1) <| aN (uA c76_28.eq_1) <| aN (uR r76_26.eq_1) <| aN (uR r76_27.eq_1) <| s76.eq_1
set_option maxRecDepth 8000 in
set_option maxHeartbeats 4000000 in
theorem moveKeeper_ok {w : CW} (f : Form w) (way : Int) (hq : ¬ way > 0 → w.keeper = 0 → 0 < w.results.length ∧ 0 ≤ w.results.getD 0 0) (v a1 a2 a3 a4 a5 a6 a7 m0 m : Nat) : ACallsF Try.prog 76 [wP 1000 v, .i way] (iZ v a1 a2 a3 a4 a5 a6 a7 m0 m w (doK w way) { doK w way with results := w.results }) (.tup []) := by
  have hls : w.shut.length = 4 := by have := f.ls; omega
  have hn := f.st.n
  have hz : ¬ w.window = 0 := by omega
  have ho := f.ops0
  have ho2 := f.ops1
  have hd := f.due
  have hnx := f.next
  have hj := f.st.j
  have hr := f.room
  have hol := f.small.o
  have hs := slot_lt f
  have ht := slot_int f
  have gs : (0 : Int) ≤ slot w := by omega
  have gs2 : (slot w : Int) < w.ring.length := by omega
  have w1 : IntKind.i64.wrap (w.ops + 1) = w.ops + 1 := wrap64 ⟨by omega, by omega⟩
  have w0 : IntKind.i64.wrap (w.ops + 0) = w.ops := by rw [Int.add_zero]; exact wrap64 ⟨by omega, by omega⟩
  have w2 : IntKind.i64.wrap (w.due + 1) = w.due + 1 := wrap64 ⟨by omega, by omega⟩
  have w3 : IntKind.i64.wrap (w.room + 1) = w.room + 1 := wrap64 ⟨by omega, by omega⟩
  have q1 : (w.out.length + 1) * 8 ≤ 140737488355328 := by omega
  have q2 : w.out.length + 1 ≤ 9223372036854775807 := by omega
  refine ACallsF.intro ok76 follows fun X c0 => ?_
  by_cases c1 : way > 0
  · by_cases c2 : way = 2
    · have k2 := eqb c2
      rw [show doK w way = { w with keeper := 4, ops := w.ops + 1 } by rw [doK, if_pos c1, if_pos c2]]
      simp only [RUX, Nat.reduceAdd, reduceIte, Nat.reduceEqDiff, Nat.reduceLT, Nat.reduceLeDiff, reduceCtorEq, eq_self, kH, iZ, inH, wP, FIX, forall_const, endE_n, endE_r, CHT, disj, Nat.reduceBEq, beq_self_eq_true, APT, APX, forall_eq, ALT, KI, UEj_3.d, c1, k2]
      refine callC (bit_ok true) rfl rfl rfl rfl ?_
      simp only [RUX, Nat.reduceAdd, reduceIte, Nat.reduceEqDiff, Nat.reduceLT, Nat.reduceLeDiff, reduceCtorEq, eq_self, kH, iZ, inH, wP, FIX, forall_const, endE_n, endE_r, CHT, disj, Nat.reduceBEq, beq_self_eq_true, APT, APX, forall_eq, ALT, KI, UEj_3.d, c1, k2, w1, SNT]
    · have k2 := neqb c2
      rw [show doK w way = { w with keeper := 4, ops := w.ops } by rw [doK, if_pos c1, if_neg c2]]
      simp only [RUX, Nat.reduceAdd, reduceIte, Nat.reduceEqDiff, Nat.reduceLT, Nat.reduceLeDiff, reduceCtorEq, eq_self, kH, iZ, inH, wP, FIX, forall_const, endE_n, endE_r, CHT, disj, Nat.reduceBEq, beq_self_eq_true, APT, APX, forall_eq, ALT, KI, UEj_3.d, c1, k2]
      refine callC (bit_ok false) rfl rfl rfl rfl ?_
      simp only [RUX, Nat.reduceAdd, reduceIte, Nat.reduceEqDiff, Nat.reduceLT, Nat.reduceLeDiff, reduceCtorEq, eq_self, kH, iZ, inH, wP, FIX, forall_const, endE_n, endE_r, CHT, disj, Nat.reduceBEq, beq_self_eq_true, APT, APX, forall_eq, ALT, KI, UEj_3.d, c1, k2, w0, Bool.false_eq_true, SNT]
  by_cases c2 : w.keeper = 0
  · have k2 := eqb c2
    obtain ⟨hrl, h0⟩ := hq c1 c2
    rw [show doK w way = { w with results := w.results.drop 1, ring := w.ring.set (rslot w) (w.results.getD 0 0), keeper := 1, ops := w.ops + 1 } by rw [doK, if_neg c1, if_pos c2]]
    have hrs : rslot w < w.ring.length ∧ (w.results.getD 0 0).tmod w.window = (rslot w : Int) := by
      have h2 := f.lr
      have h3 := Int.emod_lt_of_pos (w.results.getD 0 0) (show 0 < w.window by omega)
      have h4 := Int.emod_nonneg (w.results.getD 0 0) (show w.window ≠ 0 by omega)
      rw [Int.tmod_eq_emod_of_nonneg h0]
      unfold rslot
      omega
    obtain ⟨hrs, ht2⟩ := hrs
    have F := first3_ok hrl f.small.r v a1 a2 a3 a4 a5 a6 a7 1000 1000
    generalize rslot w = sl at *
    generalize w.results.getD 0 0 = x at *
    have gs : (0 : Int) ≤ sl := by omega
    have gs2 : (sl : Int) < w.ring.length := by omega
    obtain ⟨y, hy⟩ : ∃ y, w.ring[sl]? = some y := ⟨_, List.getElem?_eq_getElem hrs⟩
    have ey := en_at eI hy
    simp only [RUX, Nat.reduceAdd, reduceIte, Nat.reduceEqDiff, Nat.reduceLT, Nat.reduceLeDiff, reduceCtorEq, eq_self, kH, iZ, inH, wP, FIX, forall_const, endE_n, endE_r, CHT, disj, Nat.reduceBEq, beq_self_eq_true, APT, APX, forall_eq, ALT, KI, UEj_3.d, c1, k2]
    refine callB (hs := fH3 v a1 a2 a3 a4 a5 a6 a7 1000 1000 w) («as» := [.c (.ptr 1000 v 8)]) (ob := [(1000, .var v 29 (fC3 1001 1002 1003 1004 1005 1006 1007 a1 a2 a3 a4 a5 a6 a7 w)), (1001, (bI a1 w.queue)), (1002, (bH a2 w.hands)), (1003, (sI a3 w.results)), (1004, (bI a4 w.ring)), (1005, (bI a5 w.out)), (1006, (bI a6 w.got)), (1007, (bI a7 w.shut))]) F rfl rfl rfl ⟨rfl, rfl, rfl, rfl, rfl, rfl, rfl, rfl, trivial⟩ nd8 nd8 rfl rfl ⟨rfl, ?_⟩
    simp only [RUX, Nat.reduceAdd, reduceIte, Nat.reduceEqDiff, Nat.reduceLT, Nat.reduceLeDiff, reduceCtorEq, eq_self, kH, iZ, inH, wP, FIX, forall_const, endE_n, endE_r, CHT, disj, Nat.reduceBEq, beq_self_eq_true, APT, APX, forall_eq, ALT, KI, UEj_3.d, c1, k2, gs, gs2, ht2, hz, ey, Int.toNat_natCast, eI, w1, fC3, SNT]
  have k2 := neqb c2
  obtain ⟨y, hy⟩ : ∃ y, w.ring[slot w]? = some y := ⟨_, List.getElem?_eq_getElem hs⟩
  have ey := en_at eI hy
  by_cases c3 : w.keeper = 1
  · have k3 := eqb c3
    have e : doK w way = { w with keeper := if Due w then 2 else 0 } := by rw [doK, if_neg c1, if_neg c2, if_pos c3]
    rw [e]
    simp only [RUX, Nat.reduceAdd, reduceIte, Nat.reduceEqDiff, Nat.reduceLT, Nat.reduceLeDiff, reduceCtorEq, eq_self, kH, iZ, inH, wP, FIX, forall_const, endE_n, endE_r, CHT, disj, Nat.reduceBEq, beq_self_eq_true, APT, APX, forall_eq, ALT, KI, UEj_3.d, c1, k2, k3]
    refine callB (hs := kH v a1 a2 a3 a4 a5 a6 a7 1000 1000 w) («as» := [wP 1000 v]) (ob := [(1000, .var v 29 (oC 1001 1002 1003 1004 1005 1006 1007 a1 a2 a3 a4 a5 a6 a7 w)), (1001, (bI a1 w.queue)), (1002, (bH a2 w.hands)), (1003, (bI a3 w.results)), (1004, (bI a4 w.ring)), (1005, (bI a5 w.out)), (1006, (bI a6 w.got)), (1007, (bI a7 w.shut))]) (hasDueO_ok f v a1 a2 a3 a4 a5 a6 a7 1000 1000) rfl rfl rfl ⟨rfl, rfl, rfl, rfl, rfl, rfl, rfl, rfl, trivial⟩ nd8 nd8 rfl rfl ⟨rfl, ?_⟩
    by_cases c4 : Due w
    · rw [if_pos c4]
      simp only [RUX, Nat.reduceAdd, reduceIte, Nat.reduceEqDiff, Nat.reduceLT, Nat.reduceLeDiff, reduceCtorEq, eq_self, kH, iZ, inH, wP, FIX, forall_const, endE_n, endE_r, CHT, disj, Nat.reduceBEq, beq_self_eq_true, APT, APX, forall_eq, ALT, KI, UEj_3.d, c1, k2, k3, c4, decide_true, SNT]
    · rw [if_neg c4]
      simp only [RUX, Nat.reduceAdd, reduceIte, Nat.reduceEqDiff, Nat.reduceLT, Nat.reduceLeDiff, reduceCtorEq, eq_self, kH, iZ, inH, wP, FIX, forall_const, endE_n, endE_r, CHT, disj, Nat.reduceBEq, beq_self_eq_true, APT, APX, forall_eq, ALT, KI, UEj_3.d, c1, k2, k3, c4, decide_false, SNT]
  have k3 := neqb c3
  by_cases c4 : w.keeper = 2
  · have k4 := eqb c4
    rw [show doK w way = { w with ring := w.ring.set (slot w) (-1), out := w.out ++ [w.due], due := w.due + 1, keeper := 3, ops := w.ops + 1 } by rw [doK, if_neg c1, if_neg c2, if_neg c3, if_pos c4]]
    generalize slot w = sl at *
    simp only [RUX, Nat.reduceAdd, reduceIte, Nat.reduceEqDiff, Nat.reduceLT, Nat.reduceLeDiff, reduceCtorEq, eq_self, kH, iZ, inH, wP, FIX, forall_const, endE_n, endE_r, CHT, disj, Nat.reduceBEq, beq_self_eq_true, APT, APX, forall_eq, ALT, KI, UEj_3.d, c1, k2, k3, k4, gs, gs2, ht, hz, ey, Int.toNat_natCast, eI, w1, w2, q1, q2, SNT]
  have k4 := neqb c4
  by_cases c5 : w.keeper = 3
  · have k5 := eqb c5
    rw [show doK w way = { w with room := w.room + 1, keeper := 1, ops := w.ops + 1 } by rw [doK, if_neg c1, if_neg c2, if_neg c3, if_neg c4, if_pos c5]]
    simp only [RUX, Nat.reduceAdd, reduceIte, Nat.reduceEqDiff, Nat.reduceLT, Nat.reduceLeDiff, reduceCtorEq, eq_self, kH, iZ, inH, wP, FIX, forall_const, endE_n, endE_r, CHT, disj, Nat.reduceBEq, beq_self_eq_true, APT, APX, forall_eq, ALT, KI, UEj_3.d, c1, k2, k3, k4, k5, w1, w3, SNT]
  have k5 := neqb c5
  rw [show doK w way = { w with keeper := 5, shut := w.shut.set 2 1, ops := w.ops + 1 } by rw [doK, if_neg c1, if_neg c2, if_neg c3, if_neg c4, if_neg c5]]
  simp only [RUX, Nat.reduceAdd, reduceIte, Nat.reduceEqDiff, Nat.reduceLT, Nat.reduceLeDiff, reduceCtorEq, eq_self, kH, iZ, inH, wP, FIX, forall_const, endE_n, endE_r, CHT, disj, Nat.reduceBEq, beq_self_eq_true, APT, APX, forall_eq, ALT, KI, UEj_3.d, c1, k2, k3, k4, k5]
  refine callIn (m := 1000) (shut_ok hls ⟨ho, ho2⟩ 2 (by decide)) rfl rfl rfl (fun _ _ => rfl) rfl rfl rfl rfl rfl rfl rfl rfl (by decide) ⟨rfl, ?_⟩
  simp only [RUX, Nat.reduceAdd, reduceIte, Nat.reduceEqDiff, Nat.reduceLT, Nat.reduceLeDiff, reduceCtorEq, eq_self, kH, iZ, inH, wP, FIX, forall_const, endE_n, endE_r, CHT, disj, Nat.reduceBEq, beq_self_eq_true, APT, APX, forall_eq, ALT, KI, UEj_3.d, c1, k2, k3, k4, k5, shutW, SNT]
end Go.V
set_option linter.unusedVariables false
set_option linter.unusedSimpArgs false
namespace Go.V
open Go.Proofs
section
variable {P : Program} {K : St → Prop}
theorem DRunL_pure : ∀ (l : List AOper) (prev prev' : List Pv) (σ : St), (∀ p' ∈ prev', p' ∈ prev ∨ (p'.rn = [] ∧ p'.wn = [])) → DRunL P l prev K σ → DRunL P l prev' K σ
  | [], _, _, _, _, h => h
  | o :: l, prev, prev', σ, hs, h => by
    obtain ⟨e, h1, h2, h3⟩ := h
    refine ⟨e, h1, fun p' hp' => ?_, DRunL_pure l _ _ _ (fun p hp => ?_) h3⟩
    · rcases hs p' hp' with h | ⟨a, b⟩
      · exact h2 p' h
      · intro _; left; rw [a, b]; exact ⟨rfl, rfl⟩
    · rcases List.mem_cons.1 hp with rfl | hp
      · exact .inl (List.mem_cons_self ..)
      · exact (hs p hp).imp (List.mem_cons_of_mem _) id
variable {t : Nat → T} {H : HMap} {c k : Nat} {d : Option Nat} {un : List Nat} {l : List AOper} {prev : List Pv}
theorem DRunL_core {op : AOp} {e : Ef} (hop : ∀ f a, op ≠ .call f a) (h : core op (d.getD 0) (c + k) t H = some e) (hp : ∀ p ∈ prev, okP un e p) (hk : DRunL P l (⟨k, e.rn, e.wn, still P ⟨k, d, none, un, op⟩ e t c⟩ :: prev) K (St.app ⟨t, H, c⟩ d e)) : DRunL P (⟨k, d, none, un, op⟩ :: l) prev K ⟨t, H, c⟩ := by
  refine ⟨e, ?_, hp, hk⟩
  unfold Eff
  cases op <;> first | exact h | exact absurd rfl (hop _ _)
theorem disj_r (a : List Nat) : disj a [] = true := by simp [disj]
theorem DRunL_p {op : AOp} {v : T} (hop : ∀ f a, op ≠ .call f a) (h : core op (d.getD 0) (c + k) t H = some (Ef.pure v)) (hk : DRunL P l prev K ⟨updD t d v, H, c⟩) : DRunL P (⟨k, d, none, un, op⟩ :: l) prev K ⟨t, H, c⟩ :=
  DRunL_core hop h (fun p _ _ => .inl ⟨disj_r _, disj_r _⟩) (DRunL_pure l prev _ _ (fun p hp => by
    rcases List.mem_cons.1 hp with rfl | hp
    · exact .inr ⟨rfl, rfl⟩
    · exact .inl hp) hk)
theorem DRunL_of : ∀ (l : List AOper) (prev : List Pv) (σ : St), DRun P l (prev.map fun p => (p.k, p.rn, p.wn)) K σ → DRunL P l prev K σ
  | [], _, _, h => h
  | o :: l, prev, σ, h => by
    obtain ⟨e, h1, h2, h3⟩ := h
    exact ⟨e, h1, fun p hp hu => .inl (chk_mem h2 (p := (p.k, p.rn, p.wn)) (List.mem_map.2 ⟨p, hp, rfl⟩) hu), DRunL_of l _ _ h3⟩
theorem DRunL_call {f : Opd} {args : List Opd} {fid : FuncId} {argsC «as» : List T} {hs : List Hand} {r r' : T} {ob : List (Nat × Blk)}
    (hC : ACallsF P fid argsC hs r) (hf : ev t f = .pt (.one (.fn fid []))) (hl : lendTs H argsC (args.map (ev t)) = some («as», [], [])) (ha : renITs hs argsC = some «as») (hi : handsIn H hs hs) (hm : (hs.map (·.m)).Nodup) (hc : (hs.map (·.c)).Nodup) (hr : renOT hs (c + k) r = some r') (ho : renOBs hs (c + k) hs = some ob)
    (hp : ∀ p ∈ prev, okP un ⟨r', ob, hs.map (·.m), hs.map (·.m)⟩ p) (hk : ∀ ok, DRunL P l (⟨k, hs.map (·.m), hs.map (·.m), ok⟩ :: prev) K ⟨updD t d r', updH H ob, c⟩) : DRunL P (⟨k, d, none, un, .call f args⟩ :: l) prev K ⟨t, H, c⟩ := by
  refine ⟨⟨r', ob, hs.map (·.m), hs.map (·.m)⟩, ?_, hp, hk _⟩
  show CallEff P f args (c + k) ⟨t, H, c⟩ _
  exact .inl ⟨fid, [], «as», [], [], hs, argsC, r, r', ob, hf, by simpa using hl, ha, hi, hm, hc, hC, hr, ho, by simp only [ite_self, List.nil_append]⟩
theorem ACallsF.introA {f n : Nat} {ac : ACode} {rs : List ARes} {args : List T} {hs : List Hand} {r : T} (ho : okF P f n ac rs) (hm : P.follows .mixedOrders = true)
    (h : ∀ (X : Ctx) c0, AW P X ac (endA (FinC rs r hs)) ⟨argsT args, hinOf hs, c0⟩) : ACallsF P f args hs r := by
  obtain ⟨fn, h1, rfl, h3, h4, h5⟩ := ho
  cases hb : fn.body with
  | none => simp [hb] at h4
  | some cd =>
    rw [hb] at h4
    refine ⟨by simp [isFn, h1, h3, hb], ACalls.intro h1 hb h4 h5 hm fun X c0 _ => AW.mono (h X c0) fun e σ hq => ?_⟩
    have key : FinC rs r hs σ → _ := FinC.fin
    cases e with
    | normal => exact key hq
    | ret => exact key hq
    | _ => exact hq
end
/-- What stands in the arrays behind a move. -/
def blkW (w : CW) (m : Mv) : CW := if m.who = 0 then doR w m.way else if m.who ≤ w.workers then { doH w (m.who - 1).toNat m.way with queue := w.queue } else if m.who = w.workers + 1 then doC w else if m.who = w.workers + 2 then { doK w m.way with results := w.results } else { doU w m.way with out := w.out }
/- (*loop.example/teagle/impl.CrewWorld).move -/
def r44_0 : List AOper := [ao 0 3 (.box 38 (.t 1))]
def r44_1 : List AOper := [ao 0 4 (.fa 0 (.t 3)),
  ao 1 5 (.ld 1 false (.t 4))]
def r44_2 : List AOper := [ao 0 19 (.bin .eql (.t 5) (.k (.i 0))),
  ao 1 18 (.mv (.t 19))]
def r44_3 : List AOper := [ao 0 20 (.mv (.t 0)),
  ao 1 21 (.fa 1 (.t 3)),
  ao 2 22 (.ld 1 false (.t 21)),
  ao 3 23 (.call (.k (.c (.fn 75 []))) [(.t 20), (.t 22)])]
def r44_4 : List AOper := [ao 0 25 (.mv (.t 0)),
  ao 1 26 (.call (.k (.c (.fn 69 []))) [(.t 25)]),
  ao 2 27 (.bin .eql (.t 5) (.t 26)),
  ao 3 24 (.mv (.t 27))]
def r44_5 : List AOper := [ao 0 28 (.mv (.t 0)),
  ao 1 29 (.call (.k (.c (.fn 57 []))) [(.t 28), (.k (.i 1))])]
def r44_6 : List AOper := [ao 0 30 (.mv (.t 0)),
  ao 1 31 (.nck (.t 30)),
  ao 2 32 (.fa 7 (.t 31)),
  an 3 (.st 1 (.t 32) (.k (.i 1)))]
def c44_7 : ACode := .seq (.reg r44_5) (.reg r44_6)
def r44_8 : List AOper := [ao 0 34 (.mv (.t 0)),
  ao 1 35 (.call (.k (.c (.fn 71 []))) [(.t 34)]),
  ao 2 36 (.bin .eql (.t 5) (.t 35)),
  ao 3 33 (.mv (.t 36))]
def r44_9 : List AOper := [ao 0 37 (.mv (.t 0)),
  ao 1 38 (.fa 1 (.t 3)),
  ao 2 39 (.ld 1 false (.t 38)),
  ao 3 40 (.call (.k (.c (.fn 76 []))) [(.t 37), (.t 39)])]
def r44_10 : List AOper := [ao 0 42 (.mv (.t 0)),
  ao 1 43 (.call (.k (.c (.fn 73 []))) [(.t 42)]),
  ao 2 44 (.bin .eql (.t 5) (.t 43)),
  ao 3 41 (.mv (.t 44))]
def r44_11 : List AOper := [ao 0 45 (.mv (.t 0)),
  ao 1 46 (.nck (.t 45)),
  ao 2 47 (.fa 17 (.t 46)),
  ao 3 48 (.ld 1 false (.t 47)),
  ao 4 49 (.bin .add (.t 48) (.k (.i 1))),
  ao 5 50 (.nck (.t 45)),
  ao 6 51 (.fa 17 (.t 50)),
  an 7 (.st 1 (.t 51) (.t 49))]
def r44_12 : List AOper := [ao 0 52 (.fa 1 (.t 3)),
  ao 1 53 (.ld 1 false (.t 52)),
  ao 2 54 (.bin .eql (.t 53) (.k (.i 0)))]
def r44_13 : List AOper := [ao 0 55 (.mv (.t 0)),
  au 1 56 [0] (.mv (.t 0)),
  au 2 57 [0] (.nck (.t 56)),
  au 3 58 [0] (.fa 14 (.t 57)),
  au 4 59 [0] (.ld 1 false (.t 58)),
  au 5 60 (ru 5) (.mv (.t 0)),
  au 6 61 (ru 5) (.nck (.t 60)),
  au 7 62 (ru 5) (.fa 12 (.t 61)),
  au 8 63 (ru 5) (.call (.k (.c (.fn 77 []))) [(.t 62)]),
  au 9 64 (ru 5) (.bsl 1 3 [(.t 63)]),
  au 10 65 [0] (.app 1 3 8 (.t 59) (.t 64)),
  ao 11 66 (.nck (.t 55)),
  ao 12 67 (.fa 14 (.t 66)),
  an 13 (.st 1 (.t 67) (.t 65))]
def r44_14 : List AOper := [ao 0 68 (.mv (.t 0)),
  ao 1 69 (.nck (.t 68)),
  ao 2 70 (.fa 13 (.t 69)),
  an 3 (.st 1 (.t 70) (.k (.i 1)))]
def c44_15 : ACode := .cond (.t 54) (.reg r44_13) (.reg r44_14)
def c44_16 : ACode := .seq (.reg r44_11) (.seq (.reg r44_12) c44_15)
def r44_17 : List AOper := [ao 0 6 (.mv (.t 0)),
  au 1 7 [0] (.mv (.t 0)),
  au 2 8 [0] (.nck (.t 7)),
  au 3 9 [0] (.fa 6 (.t 8)),
  au 4 10 [0] (.ld 1 false (.t 9)),
  au 5 11 (ru 5) (.fa 0 (.t 3)),
  au 6 12 (ru 5) (.ld 1 false (.t 11)),
  au 7 13 (ru 5) (.bin .sub (.t 12) (.k (.i 1))),
  au 8 14 [0] (.ia 2 (.t 10) (.t 13)),
  au 9 15 (ru 9) (.fa 1 (.t 3)),
  au 10 16 (ru 9) (.ld 1 false (.t 15)),
  ao 11 17 (.call (.k (.c (.fn 78 []))) [(.t 6), (.t 14), (.t 16)])]
def c44_18 : ACode := .cond (.t 41) c44_16 (.reg r44_17)
def c44_19 : ACode := .seq (.reg r44_10) c44_18
def c44_20 : ACode := .cond (.t 33) (.reg r44_9) c44_19
def c44_21 : ACode := .seq (.reg r44_8) c44_20
def c44_22 : ACode := .cond (.t 24) c44_7 c44_21
def c44_23 : ACode := .seq (.reg r44_4) c44_22
def c44_24 : ACode := .cond (.t 18) (.reg r44_3) c44_23
def c44_25 : ACode := .seq (.reg r44_2) c44_24
def c44_26 : ACode := .block 0 c44_25
def c44 : ACode := .seq (.reg r44_0) (.seq (.reg r44_1) c44_26)
def s44 : List ARes := []
theorem ok44 : okF Try.prog 44 71 c44 s44 := ⟨Try.f44, Try.func44, Try.ntmps44, by kernel_rfl, by kernel_rfl, by kernel_rfl⟩
def UEk_1 := Bx.mk <|
  aN (uA c44.eq_1) <| aN (uR r44_0.eq_1) <| aN (uR r44_1.eq_1) <| aN (uA c44_26.eq_1) <| aN (uA c44_25.eq_1) <| aN (uR r44_2.eq_1) <| aN (uA c44_24.eq_1) <| aN (uR r44_3.eq_1) <| aN (uA c44_23.eq_1) <| aN (uR r44_4.eq_1) <| aN (uA c44_22.eq_1) <| aN (uA c44_7.eq_1) <| aN (uR r44_5.eq_1) <| aN (uR r44_6.eq_1) <| aN (uA c44_21.eq_1) <| aN (uR r44_8.eq_1) <| aN (uA c44_20.eq_1) <| aN (uR r44_9.eq_1) <| aN (uA c44_19.eq_1) <| aN (uR r44_10.eq_1) <| aN (uA c44_18.eq_1) <| aN (uA c44_16.eq_1) <| aN (uR r44_11.eq_1) <| aN (uR r44_12.eq_1) <| aN (uA c44_15.eq_1) <| aN (uR r44_13.eq_1) <| aN (uR r44_14.eq_1) <| aN (uR r44_17.eq_1) <| s44.eq_1
set_option maxRecDepth 8000 in
set_option maxHeartbeats 4000000 in
theorem move_ok {w : CW} {m : Mv} (h : Can w m) (hu : ¬ (w.workers + 2 < m.who ∧ m.way = 0)) (v a1 a2 a3 a4 a5 a6 a7 m0 m' : Nat) : ACallsF Try.prog 44 [wP 1000 v, tM m] (iZ v a1 a2 a3 a4 a5 a6 a7 m0 m' w (stepW w m) (blkW w m)) (.tup []) := by
  have ok := h.ok
  have f := ok.form
  have hk := f.st.k
  have hlh := f.lh
  have ho := f.ops0
  have ho2 := f.ops1
  have h1 := h.who
  have w1 : IntKind.i64.wrap (w.ops + 1) = w.ops + 1 := wrap64 ⟨by omega, by omega⟩
  have w7 : IntKind.i64.wrap (m.who - 1) = m.who - 1 := wrap64 ⟨by omega, by omega⟩
  have hls : w.shut.length = 4 := by have := f.ls; omega
  refine ACallsF.intro ok44 follows fun X c0 => ?_
  by_cases c0 : m.who = 0
  · have k0 := eqb c0
    rw [show stepW w m = doR w m.way by rw [stepW, if_pos c0], show blkW w m = doR w m.way by rw [blkW, if_pos c0]]
    simp only [RUX, Nat.reduceAdd, reduceIte, Nat.reduceEqDiff, Nat.reduceLT, Nat.reduceLeDiff, reduceCtorEq, eq_self, kH, iZ, inH, wP, FIX, forall_const, endE_n, endE_r, CHT, disj, Nat.reduceBEq, beq_self_eq_true, APT, APX, forall_eq, ALT, KI, UEk_1.d, k0]
    refine callB (hs := iZ v a1 a2 a3 a4 a5 a6 a7 1000 1000 w (doR w m.way) (doR w m.way)) («as» := wP 1000 v :: [.i m.way]) (ob := iZo v 1000 1000 _ (doR w m.way) (doR w m.way)) (moveReader_ok f m.way v a1 a2 a3 a4 a5 a6 a7 1000 1000) rfl rfl rfl ⟨rfl, rfl, rfl, rfl, rfl, rfl, rfl, rfl, trivial⟩ nd8 nd8 rfl rfl ⟨rfl, ?_⟩
    simp only [RUX, Nat.reduceAdd, reduceIte, Nat.reduceEqDiff, Nat.reduceLT, Nat.reduceLeDiff, reduceCtorEq, eq_self, kH, iZ, inH, wP, FIX, forall_const, endE_n, endE_r, CHT, disj, Nat.reduceBEq, beq_self_eq_true, APT, APX, forall_eq, ALT, KI, UEk_1.d, k0, SNT]
  have k0 := neqb c0
  by_cases c2 : m.who = w.workers + 1
  · have k2 := eqb c2
    rw [show stepW w m = doC w by rw [stepW, if_neg c0, if_neg (by omega), if_pos c2], show blkW w m = doC w by rw [blkW, if_neg c0, if_neg (by omega), if_pos c2]]
    simp only [RUX, Nat.reduceAdd, reduceIte, Nat.reduceEqDiff, Nat.reduceLT, Nat.reduceLeDiff, reduceCtorEq, eq_self, kH, iZ, inH, wP, FIX, forall_const, endE_n, endE_r, CHT, disj, Nat.reduceBEq, beq_self_eq_true, APT, APX, forall_eq, ALT, KI, UEk_1.d, k0]
    refine callB (hs := kH v a1 a2 a3 a4 a5 a6 a7 1000 1000 w) («as» := [wP 1000 v]) (ob := [(1000, .var v 29 (oC 1001 1002 1003 1004 1005 1006 1007 a1 a2 a3 a4 a5 a6 a7 w)), (1001, (bI a1 w.queue)), (1002, (bH a2 w.hands)), (1003, (bI a3 w.results)), (1004, (bI a4 w.ring)), (1005, (bI a5 w.out)), (1006, (bI a6 w.got)), (1007, (bI a7 w.shut))]) (closerO_ok f v a1 a2 a3 a4 a5 a6 a7 1000 1000) rfl rfl rfl ⟨rfl, rfl, rfl, rfl, rfl, rfl, rfl, rfl, trivial⟩ nd8 nd8 rfl rfl ⟨rfl, ?_⟩
    simp only [RUX, Nat.reduceAdd, reduceIte, Nat.reduceEqDiff, Nat.reduceLT, Nat.reduceLeDiff, reduceCtorEq, eq_self, kH, iZ, inH, wP, FIX, forall_const, endE_n, endE_r, CHT, disj, Nat.reduceBEq, beq_self_eq_true, APT, APX, forall_eq, ALT, KI, UEk_1.d, k0, k2]
    refine callIn (m := 1000) (shut_ok hls ⟨ho, ho2⟩ 1 (by decide)) rfl rfl rfl (fun _ _ => rfl) rfl rfl rfl rfl rfl rfl rfl rfl (by decide) ⟨rfl, ?_⟩
    simp only [RUX, Nat.reduceAdd, reduceIte, Nat.reduceEqDiff, Nat.reduceLT, Nat.reduceLeDiff, reduceCtorEq, eq_self, kH, iZ, inH, wP, FIX, forall_const, endE_n, endE_r, CHT, disj, Nat.reduceBEq, beq_self_eq_true, APT, APX, forall_eq, ALT, KI, UEk_1.d, k0, k2, shutW, doC, SNT]
  have k2 := neqb c2
  by_cases c3 : m.who = w.workers + 2
  · have k3 := eqb c3
    rw [show stepW w m = doK w m.way by rw [stepW, if_neg c0, if_neg (by omega), if_neg c2, if_pos c3], show blkW w m = { doK w m.way with results := w.results } by rw [blkW, if_neg c0, if_neg (by omega), if_neg c2, if_pos c3]]
    simp only [RUX, Nat.reduceAdd, reduceIte, Nat.reduceEqDiff, Nat.reduceLT, Nat.reduceLeDiff, reduceCtorEq, eq_self, kH, iZ, inH, wP, FIX, forall_const, endE_n, endE_r, CHT, disj, Nat.reduceBEq, beq_self_eq_true, APT, APX, forall_eq, ALT, KI, UEk_1.d, k0]
    refine callB (hs := kH v a1 a2 a3 a4 a5 a6 a7 1000 1000 w) («as» := [wP 1000 v]) (ob := [(1000, .var v 29 (oC 1001 1002 1003 1004 1005 1006 1007 a1 a2 a3 a4 a5 a6 a7 w)), (1001, (bI a1 w.queue)), (1002, (bH a2 w.hands)), (1003, (bI a3 w.results)), (1004, (bI a4 w.ring)), (1005, (bI a5 w.out)), (1006, (bI a6 w.got)), (1007, (bI a7 w.shut))]) (closerO_ok f v a1 a2 a3 a4 a5 a6 a7 1000 1000) rfl rfl rfl ⟨rfl, rfl, rfl, rfl, rfl, rfl, rfl, rfl, trivial⟩ nd8 nd8 rfl rfl ⟨rfl, ?_⟩
    simp only [RUX, Nat.reduceAdd, reduceIte, Nat.reduceEqDiff, Nat.reduceLT, Nat.reduceLeDiff, reduceCtorEq, eq_self, kH, iZ, inH, wP, FIX, forall_const, endE_n, endE_r, CHT, disj, Nat.reduceBEq, beq_self_eq_true, APT, APX, forall_eq, ALT, KI, UEk_1.d, k0, k2]
    refine callB (hs := kH v a1 a2 a3 a4 a5 a6 a7 1000 1000 w) («as» := [wP 1000 v]) (ob := [(1000, .var v 29 (oC 1001 1002 1003 1004 1005 1006 1007 a1 a2 a3 a4 a5 a6 a7 w)), (1001, (bI a1 w.queue)), (1002, (bH a2 w.hands)), (1003, (bI a3 w.results)), (1004, (bI a4 w.ring)), (1005, (bI a5 w.out)), (1006, (bI a6 w.got)), (1007, (bI a7 w.shut))]) (keeperO_ok f v a1 a2 a3 a4 a5 a6 a7 1000 1000) rfl rfl rfl ⟨rfl, rfl, rfl, rfl, rfl, rfl, rfl, rfl, trivial⟩ nd8 nd8 rfl rfl ⟨rfl, ?_⟩
    simp only [RUX, Nat.reduceAdd, reduceIte, Nat.reduceEqDiff, Nat.reduceLT, Nat.reduceLeDiff, reduceCtorEq, eq_self, kH, iZ, inH, wP, FIX, forall_const, endE_n, endE_r, CHT, disj, Nat.reduceBEq, beq_self_eq_true, APT, APX, forall_eq, ALT, KI, UEk_1.d, k0, k2, k3]
    refine callB (hs := iZ v a1 a2 a3 a4 a5 a6 a7 1000 1000 w (doK w m.way) ({ doK w m.way with results := w.results })) («as» := wP 1000 v :: [.i m.way]) (ob := iZo v 1000 1000 _ (doK w m.way) ({ doK w m.way with results := w.results })) (moveKeeper_ok f m.way (can_K h c3) v a1 a2 a3 a4 a5 a6 a7 1000 1000) rfl rfl rfl ⟨rfl, rfl, rfl, rfl, rfl, rfl, rfl, rfl, trivial⟩ nd8 nd8 rfl rfl ⟨rfl, ?_⟩
    simp only [RUX, Nat.reduceAdd, reduceIte, Nat.reduceEqDiff, Nat.reduceLT, Nat.reduceLeDiff, reduceCtorEq, eq_self, kH, iZ, inH, wP, FIX, forall_const, endE_n, endE_r, CHT, disj, Nat.reduceBEq, beq_self_eq_true, APT, APX, forall_eq, ALT, KI, UEk_1.d, k0, k2, k3, SNT]
  have k3 := neqb c3
  by_cases c4 : m.who = w.workers + 3
  · have k4 := eqb c4
    have c5 : ¬ m.way = 0 := fun e => hu ⟨by omega, e⟩
    have k5 := neqb c5
    rw [show stepW w m = { w with user := 1, ops := w.ops + 1 } by rw [stepW, if_neg c0, if_neg (by omega), if_neg c2, if_neg c3, doU, if_neg c5], show blkW w m = { w with user := 1, ops := w.ops + 1 } by rw [blkW, if_neg c0, if_neg (by omega), if_neg c2, if_neg c3, doU, if_neg c5]]
    simp only [RUX, Nat.reduceAdd, reduceIte, Nat.reduceEqDiff, Nat.reduceLT, Nat.reduceLeDiff, reduceCtorEq, eq_self, kH, iZ, inH, wP, FIX, forall_const, endE_n, endE_r, CHT, disj, Nat.reduceBEq, beq_self_eq_true, APT, APX, forall_eq, ALT, KI, UEk_1.d, k0]
    refine callB (hs := kH v a1 a2 a3 a4 a5 a6 a7 1000 1000 w) («as» := [wP 1000 v]) (ob := [(1000, .var v 29 (oC 1001 1002 1003 1004 1005 1006 1007 a1 a2 a3 a4 a5 a6 a7 w)), (1001, (bI a1 w.queue)), (1002, (bH a2 w.hands)), (1003, (bI a3 w.results)), (1004, (bI a4 w.ring)), (1005, (bI a5 w.out)), (1006, (bI a6 w.got)), (1007, (bI a7 w.shut))]) (closerO_ok f v a1 a2 a3 a4 a5 a6 a7 1000 1000) rfl rfl rfl ⟨rfl, rfl, rfl, rfl, rfl, rfl, rfl, rfl, trivial⟩ nd8 nd8 rfl rfl ⟨rfl, ?_⟩
    simp only [RUX, Nat.reduceAdd, reduceIte, Nat.reduceEqDiff, Nat.reduceLT, Nat.reduceLeDiff, reduceCtorEq, eq_self, kH, iZ, inH, wP, FIX, forall_const, endE_n, endE_r, CHT, disj, Nat.reduceBEq, beq_self_eq_true, APT, APX, forall_eq, ALT, KI, UEk_1.d, k0, k2]
    refine callB (hs := kH v a1 a2 a3 a4 a5 a6 a7 1000 1000 w) («as» := [wP 1000 v]) (ob := [(1000, .var v 29 (oC 1001 1002 1003 1004 1005 1006 1007 a1 a2 a3 a4 a5 a6 a7 w)), (1001, (bI a1 w.queue)), (1002, (bH a2 w.hands)), (1003, (bI a3 w.results)), (1004, (bI a4 w.ring)), (1005, (bI a5 w.out)), (1006, (bI a6 w.got)), (1007, (bI a7 w.shut))]) (keeperO_ok f v a1 a2 a3 a4 a5 a6 a7 1000 1000) rfl rfl rfl ⟨rfl, rfl, rfl, rfl, rfl, rfl, rfl, rfl, trivial⟩ nd8 nd8 rfl rfl ⟨rfl, ?_⟩
    simp only [RUX, Nat.reduceAdd, reduceIte, Nat.reduceEqDiff, Nat.reduceLT, Nat.reduceLeDiff, reduceCtorEq, eq_self, kH, iZ, inH, wP, FIX, forall_const, endE_n, endE_r, CHT, disj, Nat.reduceBEq, beq_self_eq_true, APT, APX, forall_eq, ALT, KI, UEk_1.d, k0, k2, k3]
    refine callB (hs := kH v a1 a2 a3 a4 a5 a6 a7 1000 1000 w) («as» := [wP 1000 v]) (ob := [(1000, .var v 29 (oC 1001 1002 1003 1004 1005 1006 1007 a1 a2 a3 a4 a5 a6 a7 w)), (1001, (bI a1 w.queue)), (1002, (bH a2 w.hands)), (1003, (bI a3 w.results)), (1004, (bI a4 w.ring)), (1005, (bI a5 w.out)), (1006, (bI a6 w.got)), (1007, (bI a7 w.shut))]) (userO_ok f v a1 a2 a3 a4 a5 a6 a7 1000 1000) rfl rfl rfl ⟨rfl, rfl, rfl, rfl, rfl, rfl, rfl, rfl, trivial⟩ nd8 nd8 rfl rfl ⟨rfl, ?_⟩
    simp only [RUX, Nat.reduceAdd, reduceIte, Nat.reduceEqDiff, Nat.reduceLT, Nat.reduceLeDiff, reduceCtorEq, eq_self, kH, iZ, inH, wP, FIX, forall_const, endE_n, endE_r, CHT, disj, Nat.reduceBEq, beq_self_eq_true, APT, APX, forall_eq, ALT, KI, UEk_1.d, k0, k2, k3, k4, k5, w1, SNT]
  have k4 := neqb c4
  have c1 : m.who ≤ w.workers := by omega
  obtain ⟨i, hi⟩ : ∃ i : Nat, m.who - 1 = i := ⟨(m.who - 1).toNat, by omega⟩
  have hcan := can_H h c0 c1
  rw [show stepW w m = doH w i m.way by rw [stepW, if_neg c0, if_pos c1, hi, Int.toNat_natCast], show blkW w m = { doH w i m.way with queue := w.queue } by rw [blkW, if_neg c0, if_pos c1, hi, Int.toNat_natCast]]
  rw [hi, Int.toNat_natCast] at hcan
  rw [hi] at w7
  have gi : (0 : Int) ≤ i := by omega
  have gi2 : (i : Int) < w.hands.length := by omega
  simp only [RUX, Nat.reduceAdd, reduceIte, Nat.reduceEqDiff, Nat.reduceLT, Nat.reduceLeDiff, reduceCtorEq, eq_self, kH, iZ, inH, wP, FIX, forall_const, endE_n, endE_r, CHT, disj, Nat.reduceBEq, beq_self_eq_true, APT, APX, forall_eq, ALT, KI, UEk_1.d, k0]
  refine callB (hs := kH v a1 a2 a3 a4 a5 a6 a7 1000 1000 w) («as» := [wP 1000 v]) (ob := [(1000, .var v 29 (oC 1001 1002 1003 1004 1005 1006 1007 a1 a2 a3 a4 a5 a6 a7 w)), (1001, (bI a1 w.queue)), (1002, (bH a2 w.hands)), (1003, (bI a3 w.results)), (1004, (bI a4 w.ring)), (1005, (bI a5 w.out)), (1006, (bI a6 w.got)), (1007, (bI a7 w.shut))]) (closerO_ok f v a1 a2 a3 a4 a5 a6 a7 1000 1000) rfl rfl rfl ⟨rfl, rfl, rfl, rfl, rfl, rfl, rfl, rfl, trivial⟩ nd8 nd8 rfl rfl ⟨rfl, ?_⟩
  simp only [RUX, Nat.reduceAdd, reduceIte, Nat.reduceEqDiff, Nat.reduceLT, Nat.reduceLeDiff, reduceCtorEq, eq_self, kH, iZ, inH, wP, FIX, forall_const, endE_n, endE_r, CHT, disj, Nat.reduceBEq, beq_self_eq_true, APT, APX, forall_eq, ALT, KI, UEk_1.d, k0, k2]
  refine callB (hs := kH v a1 a2 a3 a4 a5 a6 a7 1000 1000 w) («as» := [wP 1000 v]) (ob := [(1000, .var v 29 (oC 1001 1002 1003 1004 1005 1006 1007 a1 a2 a3 a4 a5 a6 a7 w)), (1001, (bI a1 w.queue)), (1002, (bH a2 w.hands)), (1003, (bI a3 w.results)), (1004, (bI a4 w.ring)), (1005, (bI a5 w.out)), (1006, (bI a6 w.got)), (1007, (bI a7 w.shut))]) (keeperO_ok f v a1 a2 a3 a4 a5 a6 a7 1000 1000) rfl rfl rfl ⟨rfl, rfl, rfl, rfl, rfl, rfl, rfl, rfl, trivial⟩ nd8 nd8 rfl rfl ⟨rfl, ?_⟩
  simp only [RUX, Nat.reduceAdd, reduceIte, Nat.reduceEqDiff, Nat.reduceLT, Nat.reduceLeDiff, reduceCtorEq, eq_self, kH, iZ, inH, wP, FIX, forall_const, endE_n, endE_r, CHT, disj, Nat.reduceBEq, beq_self_eq_true, APT, APX, forall_eq, ALT, KI, UEk_1.d, k0, k2, k3]
  refine callB (hs := kH v a1 a2 a3 a4 a5 a6 a7 1000 1000 w) («as» := [wP 1000 v]) (ob := [(1000, .var v 29 (oC 1001 1002 1003 1004 1005 1006 1007 a1 a2 a3 a4 a5 a6 a7 w)), (1001, (bI a1 w.queue)), (1002, (bH a2 w.hands)), (1003, (bI a3 w.results)), (1004, (bI a4 w.ring)), (1005, (bI a5 w.out)), (1006, (bI a6 w.got)), (1007, (bI a7 w.shut))]) (userO_ok f v a1 a2 a3 a4 a5 a6 a7 1000 1000) rfl rfl rfl ⟨rfl, rfl, rfl, rfl, rfl, rfl, rfl, rfl, trivial⟩ nd8 nd8 rfl rfl ⟨rfl, ?_⟩
  simp only [RUX, Nat.reduceAdd, reduceIte, Nat.reduceEqDiff, Nat.reduceLT, Nat.reduceLeDiff, reduceCtorEq, eq_self, kH, iZ, inH, wP, FIX, forall_const, endE_n, endE_r, CHT, disj, Nat.reduceBEq, beq_self_eq_true, APT, APX, forall_eq, ALT, KI, UEk_1.d, k0, k2, k3, k4, hi, w7, gi, gi2, Int.toNat_natCast]
  refine callB (hs := iZ v a1 a2 a3 a4 a5 a6 a7 1000 1000 w (doH w i m.way) ({ doH w i m.way with queue := w.queue })) («as» := wP 1000 v :: [.c (.aptr 1002 a2 i 0), .i m.way]) (ob := iZo v 1000 1000 _ (doH w i m.way) ({ doH w i m.way with queue := w.queue })) (moveHand_ok f i (by omega) m.way hcan v a1 a2 a3 a4 a5 a6 a7 1000 1000) rfl rfl rfl ⟨rfl, rfl, rfl, rfl, rfl, rfl, rfl, rfl, trivial⟩ nd8 nd8 rfl rfl ⟨rfl, ?_⟩
  simp only [RUX, Nat.reduceAdd, reduceIte, Nat.reduceEqDiff, Nat.reduceLT, Nat.reduceLeDiff, reduceCtorEq, eq_self, kH, iZ, inH, wP, FIX, forall_const, endE_n, endE_r, CHT, disj, Nat.reduceBEq, beq_self_eq_true, APT, APX, forall_eq, ALT, KI, UEk_1.d, k0, k2, k3, k4, SNT]
set_option maxRecDepth 8000 in
set_option maxHeartbeats 4000000 in
theorem move_user {w : CW} {m : Mv} (h : Can w m) (c4 : m.who = w.workers + 3) (c5 : m.way = 0) (v a1 a2 a3 a4 a5 a6 a7 m0 m' : Nat) : ACallsF Try.prog 44 [wP 1000 v, tM m] (iZ v a1 a2 a3 a4 a5 a6 a7 m0 m' w (stepW w m) (blkW w m)) (.tup []) := by
  have ok := h.ok
  have f := ok.form
  have hk := f.st.k
  have hlh := f.lh
  have ho := f.ops0
  have ho2 := f.ops1
  have h1 := h.who
  have w1 : IntKind.i64.wrap (w.ops + 1) = w.ops + 1 := wrap64 ⟨by omega, by omega⟩
  have w7 : IntKind.i64.wrap (m.who - 1) = m.who - 1 := wrap64 ⟨by omega, by omega⟩
  have hou := can_U h (by omega) c5
  have hgl := f.small.t
  have q1 : (w.got.length + 1) * 8 ≤ 140737488355328 := by omega
  have q2 : w.got.length + 1 ≤ 9223372036854775807 := by omega
  have hol := f.small.o
  have hlo := f.lo
  have hdr : w.out.drop 1 = [] := List.drop_eq_nil_of_le (by omega)
  rw [show stepW w m = { w with got := w.got ++ [w.out.getD 0 0], out := [], ops := w.ops + 1 } by rw [stepW, if_neg (by omega), if_neg (by omega), if_neg (by omega), if_neg (by omega), doU, if_pos c5], show blkW w m = { w with got := w.got ++ [w.out.getD 0 0], ops := w.ops + 1 } by rw [blkW, if_neg (by omega), if_neg (by omega), if_neg (by omega), if_neg (by omega), doU, if_pos c5]]
  have k0 : (m.who == 0) = false := neqb (by omega)
  have k2 : (m.who == w.workers + 1) = false := neqb (by omega)
  have k3 : (m.who == w.workers + 2) = false := neqb (by omega)
  have k4 := eqb c4
  have k5 := eqb c5
  have F := first5_ok (w := { w with ops := w.ops + 1 }) hou hol v a1 a2 a3 a4 a5 a6 a7 1000 1000
  refine ACallsF.introA ok44 follows fun X c0 => ?_
  refine AW.seq (x := .reg r44_0) (AW.of ?_)
  simp only [RUX, Nat.reduceAdd, reduceIte, Nat.reduceEqDiff, Nat.reduceLT, Nat.reduceLeDiff, reduceCtorEq, eq_self, kH, iZ, inH, wP, FIX, forall_const, endE_n, endE_r, CHT, disj, Nat.reduceBEq, beq_self_eq_true, APT, APX, forall_eq, ALT, KI, UEk_1.d, thenA]
  refine AW.seq (x := .reg r44_1) (AW.of ?_)
  simp only [RUX, Nat.reduceAdd, reduceIte, Nat.reduceEqDiff, Nat.reduceLT, Nat.reduceLeDiff, reduceCtorEq, eq_self, kH, iZ, inH, wP, FIX, forall_const, endE_n, endE_r, CHT, disj, Nat.reduceBEq, beq_self_eq_true, APT, APX, forall_eq, ALT, KI, UEk_1.d, thenA]
  refine AW.block (id := 0) (x := c44_25) ?_
  refine AW.seq (x := .reg r44_2) (y := c44_24) (AW.of ?_)
  simp only [RUX, Nat.reduceAdd, reduceIte, Nat.reduceEqDiff, Nat.reduceLT, Nat.reduceLeDiff, reduceCtorEq, eq_self, kH, iZ, inH, wP, FIX, forall_const, endE_n, endE_r, CHT, disj, Nat.reduceBEq, beq_self_eq_true, APT, APX, forall_eq, ALT, KI, UEk_1.d, thenA, k0]
  refine AW.cond (x := .t 18) (y := .reg r44_3) (z := c44_23) (b := false) rfl ?_
  refine AW.seq (x := .reg r44_4) (y := c44_22) (AW.of ?_)
  simp only [RUX, Nat.reduceAdd, reduceIte, Nat.reduceEqDiff, Nat.reduceLT, Nat.reduceLeDiff, reduceCtorEq, eq_self, kH, iZ, inH, wP, FIX, forall_const, endE_n, endE_r, CHT, disj, Nat.reduceBEq, beq_self_eq_true, APT, APX, forall_eq, ALT, KI, UEk_1.d, thenA]
  refine callB (hs := kH v a1 a2 a3 a4 a5 a6 a7 1000 1000 w) («as» := [wP 1000 v]) (ob := [(1000, .var v 29 (oC 1001 1002 1003 1004 1005 1006 1007 a1 a2 a3 a4 a5 a6 a7 w)), (1001, (bI a1 w.queue)), (1002, (bH a2 w.hands)), (1003, (bI a3 w.results)), (1004, (bI a4 w.ring)), (1005, (bI a5 w.out)), (1006, (bI a6 w.got)), (1007, (bI a7 w.shut))]) (closerO_ok f v a1 a2 a3 a4 a5 a6 a7 1000 1000) rfl rfl rfl ⟨rfl, rfl, rfl, rfl, rfl, rfl, rfl, rfl, trivial⟩ nd8 nd8 rfl rfl ⟨rfl, ?_⟩
  simp only [RUX, Nat.reduceAdd, reduceIte, Nat.reduceEqDiff, Nat.reduceLT, Nat.reduceLeDiff, reduceCtorEq, eq_self, kH, iZ, inH, wP, FIX, forall_const, endE_n, endE_r, CHT, disj, Nat.reduceBEq, beq_self_eq_true, APT, APX, forall_eq, ALT, KI, UEk_1.d, thenA, k2]
  refine AW.cond (x := .t 24) (y := c44_7) (z := c44_21) (b := false) rfl ?_
  refine AW.seq (x := .reg r44_8) (y := c44_20) (AW.of ?_)
  simp only [RUX, Nat.reduceAdd, reduceIte, Nat.reduceEqDiff, Nat.reduceLT, Nat.reduceLeDiff, reduceCtorEq, eq_self, kH, iZ, inH, wP, FIX, forall_const, endE_n, endE_r, CHT, disj, Nat.reduceBEq, beq_self_eq_true, APT, APX, forall_eq, ALT, KI, UEk_1.d, thenA]
  refine callB (hs := kH v a1 a2 a3 a4 a5 a6 a7 1000 1000 w) («as» := [wP 1000 v]) (ob := [(1000, .var v 29 (oC 1001 1002 1003 1004 1005 1006 1007 a1 a2 a3 a4 a5 a6 a7 w)), (1001, (bI a1 w.queue)), (1002, (bH a2 w.hands)), (1003, (bI a3 w.results)), (1004, (bI a4 w.ring)), (1005, (bI a5 w.out)), (1006, (bI a6 w.got)), (1007, (bI a7 w.shut))]) (keeperO_ok f v a1 a2 a3 a4 a5 a6 a7 1000 1000) rfl rfl rfl ⟨rfl, rfl, rfl, rfl, rfl, rfl, rfl, rfl, trivial⟩ nd8 nd8 rfl rfl ⟨rfl, ?_⟩
  simp only [RUX, Nat.reduceAdd, reduceIte, Nat.reduceEqDiff, Nat.reduceLT, Nat.reduceLeDiff, reduceCtorEq, eq_self, kH, iZ, inH, wP, FIX, forall_const, endE_n, endE_r, CHT, disj, Nat.reduceBEq, beq_self_eq_true, APT, APX, forall_eq, ALT, KI, UEk_1.d, thenA, k3]
  refine AW.cond (x := .t 33) (y := .reg r44_9) (z := c44_19) (b := false) rfl ?_
  refine AW.seq (x := .reg r44_10) (y := c44_18) (AW.of ?_)
  simp only [RUX, Nat.reduceAdd, reduceIte, Nat.reduceEqDiff, Nat.reduceLT, Nat.reduceLeDiff, reduceCtorEq, eq_self, kH, iZ, inH, wP, FIX, forall_const, endE_n, endE_r, CHT, disj, Nat.reduceBEq, beq_self_eq_true, APT, APX, forall_eq, ALT, KI, UEk_1.d, thenA]
  refine callB (hs := kH v a1 a2 a3 a4 a5 a6 a7 1000 1000 w) («as» := [wP 1000 v]) (ob := [(1000, .var v 29 (oC 1001 1002 1003 1004 1005 1006 1007 a1 a2 a3 a4 a5 a6 a7 w)), (1001, (bI a1 w.queue)), (1002, (bH a2 w.hands)), (1003, (bI a3 w.results)), (1004, (bI a4 w.ring)), (1005, (bI a5 w.out)), (1006, (bI a6 w.got)), (1007, (bI a7 w.shut))]) (userO_ok f v a1 a2 a3 a4 a5 a6 a7 1000 1000) rfl rfl rfl ⟨rfl, rfl, rfl, rfl, rfl, rfl, rfl, rfl, trivial⟩ nd8 nd8 rfl rfl ⟨rfl, ?_⟩
  simp only [RUX, Nat.reduceAdd, reduceIte, Nat.reduceEqDiff, Nat.reduceLT, Nat.reduceLeDiff, reduceCtorEq, eq_self, kH, iZ, inH, wP, FIX, forall_const, endE_n, endE_r, CHT, disj, Nat.reduceBEq, beq_self_eq_true, APT, APX, forall_eq, ALT, KI, UEk_1.d, thenA, k4]
  refine AW.cond (x := .t 41) (y := c44_16) (z := .reg r44_17) (b := true) rfl ?_
  refine AW.seq (x := .reg r44_11) (y := .seq (.reg r44_12) c44_15) (AW.of ?_)
  simp only [RUX, Nat.reduceAdd, reduceIte, Nat.reduceEqDiff, Nat.reduceLT, Nat.reduceLeDiff, reduceCtorEq, eq_self, kH, iZ, inH, wP, FIX, forall_const, endE_n, endE_r, CHT, disj, Nat.reduceBEq, beq_self_eq_true, APT, APX, forall_eq, ALT, KI, UEk_1.d, thenA, w1]
  refine AW.seq (x := .reg r44_12) (y := c44_15) (AW.of ?_)
  simp only [RUX, Nat.reduceAdd, reduceIte, Nat.reduceEqDiff, Nat.reduceLT, Nat.reduceLeDiff, reduceCtorEq, eq_self, kH, iZ, inH, wP, FIX, forall_const, endE_n, endE_r, CHT, disj, Nat.reduceBEq, beq_self_eq_true, APT, APX, forall_eq, ALT, KI, UEk_1.d, thenA, k5]
  refine AW.cond (x := .t 54) (y := .reg r44_13) (z := .reg r44_14) (b := true) rfl ?_
  refine AW.regL (l := r44_13) ?_
  refine DRunL_p (v := wP 1000 v) (fun _ _ => by simp) rfl ?_
  refine DRunL_p (v := wP 1000 v) (fun _ _ => by simp) rfl ?_
  refine DRunL_p (v := wP 1000 v) (fun _ _ => by simp) rfl ?_
  refine DRunL_p (v := .c (.ptr 1000 v 14)) (fun _ _ => by simp) rfl ?_
  refine DRunL_core (e := ⟨.c (.own 1006 a6 w.got.length), [], [1000], []⟩) (fun _ _ => by simp) (by simp only [RUX, Nat.reduceAdd, reduceIte, Nat.reduceEqDiff, Nat.reduceLT, Nat.reduceLeDiff, reduceCtorEq, eq_self, kH, iZ, inH, wP, FIX, forall_const, endE_n, endE_r, CHT, disj, Nat.reduceBEq, beq_self_eq_true, APT, APX, forall_eq, ALT, KI, UEk_1.d, updD]) (fun p hp => by cases hp) ?_
  refine DRunL_p (v := wP 1000 v) (fun _ _ => by simp) rfl ?_
  refine DRunL_p (v := wP 1000 v) (fun _ _ => by simp) rfl ?_
  refine DRunL_p (v := .c (.ptr 1000 v 12)) (fun _ _ => by simp) rfl ?_
  refine DRunL_call (hs := fH5 v a1 a2 a3 a4 a5 a6 a7 1000 1000 { w with ops := w.ops + 1 }) («as» := [.c (.ptr 1000 v 12)]) (ob := [(1000, .var v 29 (fC5 1001 1002 1003 1004 1005 1006 1007 a1 a2 a3 a4 a5 a6 a7 { w with ops := w.ops + 1 })), (1001, (bI a1 w.queue)), (1002, (bH a2 w.hands)), (1003, (bI a3 w.results)), (1004, (bI a4 w.ring)), (1005, (sI a5 w.out)), (1006, (bI a6 w.got)), (1007, (bI a7 w.shut))]) F rfl rfl rfl ⟨rfl, rfl, rfl, rfl, rfl, rfl, rfl, rfl, trivial⟩ nd8 nd8 rfl rfl (fun p hp hu => ?_) fun ok => ?_
  · rw [List.mem_singleton] at hp
    subst hp
    refine .inr ⟨rfl, fun H _ => ?_⟩
    show core (.ld 1 false (.t 58)) _ _ _ _ = some _
    simp only [RUX, Nat.reduceAdd, reduceIte, Nat.reduceEqDiff, Nat.reduceLT, Nat.reduceLeDiff, reduceCtorEq, eq_self, kH, iZ, inH, wP, FIX, forall_const, endE_n, endE_r, CHT, disj, Nat.reduceBEq, beq_self_eq_true, APT, APX, forall_eq, ALT, KI, UEk_1.d, updD, fC5, updH]
  refine DRunL_of _ _ _ ?_
  simp only [List.map_cons, List.map_nil]
  show DRun Try.prog (au 9 64 (ru 5) (.bsl 1 3 [(.t 63)]) :: au 10 65 [0] (.app 1 3 8 (.t 59) (.t 64)) :: ao 11 66 (.nck (.t 55)) :: ao 12 67 (.fa 14 (.t 66)) :: an 13 (.st 1 (.t 67) (.t 65)) :: []) _ _ _
  simp only [RUX, Nat.reduceAdd, reduceIte, Nat.reduceEqDiff, Nat.reduceLT, Nat.reduceLeDiff, reduceCtorEq, eq_self, kH, iZ, inH, wP, FIX, forall_const, endE_n, endE_r, CHT, disj, Nat.reduceBEq, beq_self_eq_true, APT, APX, forall_eq, ALT, KI, UEk_1.d, St.app, updD, thenA, inBlockA, endA, fC5, q1, q2, hdr, en_nil, SNT]
/-- A move, in place. -/
theorem move_all {w : CW} {m : Mv} (h : Can w m) (v a1 a2 a3 a4 a5 a6 a7 m0 m' : Nat) : ACallsF Try.prog 44 [wP 1000 v, tM m] (iZ v a1 a2 a3 a4 a5 a6 a7 m0 m' w (stepW w m) (blkW w m)) (.tup []) := by
  by_cases hu : w.workers + 2 < m.who ∧ m.way = 0
  · exact move_user h (by have := h.who; omega) hu.2 v a1 a2 a3 a4 a5 a6 a7 m0 m'
  · exact move_ok h hu v a1 a2 a3 a4 a5 a6 a7 m0 m'
end Go.V
set_option linter.unusedVariables false
set_option linter.unusedSimpArgs false
namespace Go.V
open Go.Proofs
theorem czC0 : ([iC 0, iC 0, iC 0, iC 0, iC 0, .nil0, .nil0, iC 0, .nil0, iC 0, .nil0, iC 0, .nil0, iC 0, .nil0, iC 0, .nil0, iC 0] : List C) = czC := rfl
theorem nd6 : [6, 2001, 2002, 2003, 2004, 2005, 2006, 2007].Nodup := by decide
/- loop.example/teagle/impl.CrewStep -/
def r14_0 : List AOper := [ao 0 2 (.box 29 (.t 0)),
  ao 1 3 (.box 38 (.t 1)),
  ao 2 4 (.alloc 29 [(.v (.s (.int .i64 0))), (.v (.s (.int .i64 0))), (.v (.s (.int .i64 0))), (.v (.s (.int .i64 0))), (.v (.s (.int .i64 0))), .nil0, .nil0, (.v (.s (.int .i64 0))), .nil0, (.v (.s (.int .i64 0))), .nil0, (.v (.s (.int .i64 0))), .nil0, (.v (.s (.int .i64 0))), .nil0, (.v (.s (.int .i64 0))), .nil0, (.v (.s (.int .i64 0)))]),
  ao 3 5 (.mv (.k (.b false)))]
def r14_1 : List AOper := [ao 0 7 (.call (.k (.c (.fn 23 []))) [(.t 2)]),
  ao 1 8 (.un .not (.t 7)),
  ao 2 9 (.mv (.t 8)),
  ag 3 10 9 false [] (.fa 0 (.t 3)),
  ag 4 11 9 false [] (.ld 1 false (.t 10)),
  ag 5 12 9 false [3, 4] (.fa 1 (.t 2)),
  ag 6 13 9 false [3, 4] (.ld 1 false (.t 12)),
  ag 7 14 9 false [3, 4] (.bin .add (.t 13) (.k (.i 4))),
  ag 8 15 9 false [] (.call (.k (.c (.fn 41 []))) [(.t 11), (.t 14)]),
  ag 9 16 9 false [] (.un .not (.t 15)),
  ao 10 17 (.pick (.t 9) (.k (.b true)) (.t 16)),
  ao 11 18 (.mv (.t 17)),
  ag 12 19 18 false [] (.fa 0 (.t 3)),
  ag 13 20 18 false [] (.ld 1 false (.t 19)),
  ag 14 21 18 false [] (.call (.k (.c (.fn 43 []))) [(.t 2), (.t 20)]),
  ag 15 22 18 false [12, 13, 14] (.fa 1 (.t 3)),
  ag 16 23 18 false [12, 13, 14] (.ld 1 false (.t 22)),
  ag 17 24 18 false [] (.call (.k (.c (.fn 42 []))) [(.t 21), (.t 23)]),
  ag 18 25 18 false [] (.un .not (.t 24)),
  ao 19 26 (.pick (.t 18) (.k (.b true)) (.t 25))]
def r14_2 : List AOper := [ao 0 27 (.build [(.v (.s (.int .i64 0))), (.v (.s (.int .i64 0))), (.v (.s (.int .i64 0))), (.v (.s (.int .i64 0))), (.v (.s (.int .i64 0))), .nil0, .nil0, (.v (.s (.int .i64 0))), .nil0, (.v (.s (.int .i64 0))), .nil0, (.v (.s (.int .i64 0))), .nil0, (.v (.s (.int .i64 0))), .nil0, (.v (.s (.int .i64 0))), .nil0, (.v (.s (.int .i64 0)))] []),
  an 1 (.st 18 (.t 4) (.t 27)),
  ao 2 5 (.mv (.k (.b false)))]
def c14_3 : ACode := .seq (.reg r14_2) .ret
def c14_4 : ACode := .cond (.t 26) c14_3 .skip
def c14_5 : ACode := .seq (.reg r14_1) c14_4
def r14_6 : List AOper := [ao 0 28 (.call (.k (.c (.fn 24 []))) [(.t 2)]),
  ao 1 6 (.alloc 29 [(.v (.s (.int .i64 0))), (.v (.s (.int .i64 0))), (.v (.s (.int .i64 0))), (.v (.s (.int .i64 0))), (.v (.s (.int .i64 0))), .nil0, .nil0, (.v (.s (.int .i64 0))), .nil0, (.v (.s (.int .i64 0))), .nil0, (.v (.s (.int .i64 0))), .nil0, (.v (.s (.int .i64 0))), .nil0, (.v (.s (.int .i64 0))), .nil0, (.v (.s (.int .i64 0)))]),
  an 2 (.st 18 (.t 6) (.t 28))]
def r14_7 : List AOper := [ao 0 29 (.ld 2 true (.t 3)),
  ao 1 30 (.call (.k (.c (.fn 44 []))) [(.t 6), (.t 29)])]
def r14_8 : List AOper := [ao 0 31 (.call (.k (.c (.fn 24 []))) [(.t 6)]),
  an 1 (.st 18 (.t 4) (.t 31)),
  ao 2 5 (.mv (.k (.b true)))]
def c14 : ACode := .seq (.reg r14_0) (.seq c14_5 (.seq (.reg r14_6) (.seq (.reg r14_7) (.seq (.reg r14_8) .ret))))
def s14 : List ARes := [.cell 4 18 true, .tmp 5]
theorem ok14 : okF Try.prog 14 32 c14 s14 := ⟨Try.f14, Try.func14, Try.ntmps14, by kernel_rfl, by kernel_rfl, by kernel_rfl⟩
def UEl_1 := Bx.mk <|
  aN (uA c14.eq_1) <| aN (uR r14_0.eq_1) <| aN (uA c14_5.eq_1) <| aN (uR r14_1.eq_1) <| aN (uA c14_4.eq_1) <| aN (uA c14_3.eq_1) <| aN (uR r14_2.eq_1) <| aN (uR r14_6.eq_1) <| aN (uR r14_7.eq_1) <| aN (uR r14_8.eq_1) <| s14.eq_1
set_option maxHeartbeats 2000000 in
theorem stepI_no {w : CW} (hs : Small w) {m : Mv} (h : ¬ Can w m) : ACallsF Try.prog 14 [tCW w, tM m] [] (.tup [.agg czC, .one (.v (.s (.bool false)))]) := by
  obtain ⟨b, hb, C⟩ := isOk_ok w hs.t
  refine ACallsF.intro ok14 follows fun X c0 => ?_
  simp only [RUX, Nat.reduceAdd, reduceIte, Nat.reduceEqDiff, Nat.reduceLT, Nat.reduceLeDiff, reduceCtorEq, eq_self, wnH, FIX, forall_const, endE_n, endE_r, CHT, disj, Nat.reduceBEq, beq_self_eq_true, APT, APX, forall_eq, ALT, KI, UEl_1.d]
  refine callP (m := 2) (w := w) C rfl rfl rfl rfl rfl ⟨rfl, ?_⟩
  cases b with
  | false => simp only [RUX, Nat.reduceAdd, reduceIte, Nat.reduceEqDiff, Nat.reduceLT, Nat.reduceLeDiff, reduceCtorEq, eq_self, wnH, FIX, forall_const, endE_n, endE_r, CHT, disj, Nat.reduceBEq, beq_self_eq_true, APT, APX, forall_eq, ALT, KI, UEl_1.d]
  | true =>
  have ok := hb.1 rfl
  have f := ok.form
  have hk := f.st.k
  have w3 : IntKind.i64.wrap (w.workers + 4) = w.workers + 4 := wrap64 ⟨by omega, by omega⟩
  simp only [RUX, Nat.reduceAdd, reduceIte, Nat.reduceEqDiff, Nat.reduceLT, Nat.reduceLeDiff, reduceCtorEq, eq_self, wnH, FIX, forall_const, endE_n, endE_r, CHT, disj, Nat.reduceBEq, beq_self_eq_true, APT, APX, forall_eq, ALT, KI, UEl_1.d, w3]
  refine callC (isPlace_ok m.who (w.workers + 4) (by omega)) rfl rfl rfl rfl ?_
  by_cases h1 : 0 ≤ m.who ∧ m.who ≤ w.workers + 3
  rotate_left
  · have e : (decide (0 ≤ m.who) && decide (m.who ≤ w.workers + 4 - 1)) = false := by
      rw [← Bool.decide_and]; exact decide_eq_false fun g => h1 ⟨g.1, by omega⟩
    simp only [RUX, Nat.reduceAdd, reduceIte, Nat.reduceEqDiff, Nat.reduceLT, Nat.reduceLeDiff, reduceCtorEq, eq_self, wnH, FIX, forall_const, endE_n, endE_r, CHT, disj, Nat.reduceBEq, beq_self_eq_true, APT, APX, forall_eq, ALT, KI, UEl_1.d, w3, e]
  have e : (decide (0 ≤ m.who) && decide (m.who ≤ w.workers + 4 - 1)) = true := by
    rw [← Bool.decide_and]; exact decide_eq_true ⟨h1.1, by omega⟩
  obtain ⟨ks, rfl, Ck⟩ := cases_ok f m.who h1.1 h1.2
  simp only [RUX, Nat.reduceAdd, reduceIte, Nat.reduceEqDiff, Nat.reduceLT, Nat.reduceLeDiff, reduceCtorEq, eq_self, wnH, FIX, forall_const, endE_n, endE_r, CHT, disj, Nat.reduceBEq, beq_self_eq_true, APT, APX, forall_eq, ALT, KI, UEl_1.d, w3, e]
  refine callP (m := 2) (w := w) Ck rfl rfl rfl rfl rfl ⟨rfl, ?_⟩
  have e2 : ((opn (ways w m.who)).any fun x => x == m.way) = false := by
    cases hq : ((opn (ways w m.who)).any fun x => x == m.way) with
    | false => rfl
    | true => obtain ⟨g1, g2⟩ := (opn_has m.who m.way).1 hq; exact absurd ⟨ok, h1, g1, g2⟩ h
  simp only [RUX, Nat.reduceAdd, reduceIte, Nat.reduceEqDiff, Nat.reduceLT, Nat.reduceLeDiff, reduceCtorEq, eq_self, wnH, FIX, forall_const, endE_n, endE_r, CHT, disj, Nat.reduceBEq, beq_self_eq_true, APT, APX, forall_eq, ALT, KI, UEl_1.d, w3, e]
  refine callC (contains_int _ m.way (by have := opnN_len (ways w m.who) 3; rw [opn]; omega)) rfl rfl rfl rfl ?_
  simp only [RUX, Nat.reduceAdd, reduceIte, Nat.reduceEqDiff, Nat.reduceLT, Nat.reduceLeDiff, reduceCtorEq, eq_self, wnH, FIX, forall_const, endE_n, endE_r, CHT, disj, Nat.reduceBEq, beq_self_eq_true, APT, APX, forall_eq, ALT, KI, UEl_1.d, w3, e, e2]
set_option maxHeartbeats 2000000 in
theorem stepI_yesC {w : CW} {m : Mv} (h : Can w m) (hsm : Small (stepW w m)) : ACallsF Try.prog 14 [tCW w, tM m] [] (.tup [.agg (cwC (stepW w m)), .one (.v (.s (.bool true)))]) := by
  have ok := h.ok
  have f := ok.form
  have hk := f.st.k
  have h1 := h.who
  obtain ⟨b, hb, C⟩ := isOk_ok w f.small.t
  have w3 : IntKind.i64.wrap (w.workers + 4) = w.workers + 4 := wrap64 ⟨by omega, by omega⟩
  have e : (decide (0 ≤ m.who) && decide (m.who ≤ w.workers + 4 - 1)) = true := by
    rw [← Bool.decide_and]; exact decide_eq_true ⟨h1.1, by omega⟩
  have e2 : ((opn (ways w m.who)).any fun x => x == m.way) = true := (opn_has m.who m.way).2 ⟨h.way, h.open'⟩
  obtain ⟨ks, rfl, Ck⟩ := cases_ok f m.who h1.1 h1.2
  have M := move_all h
  generalize stepW w m = w' at *
  generalize blkW w m = w'' at *
  refine ACallsF.intro ok14 follows fun X c0 => ?_
  simp only [RUX, Nat.reduceAdd, reduceIte, Nat.reduceEqDiff, Nat.reduceLT, Nat.reduceLeDiff, reduceCtorEq, eq_self, wnH, FIX, forall_const, endE_n, endE_r, CHT, disj, Nat.reduceBEq, beq_self_eq_true, APT, APX, forall_eq, ALT, KI, UEl_1.d]
  refine callP (m := 2) (w := w) C rfl rfl rfl rfl rfl ⟨rfl, ?_⟩
  cases b with
  | false => cases hb.2 ok
  | true =>
  simp only [RUX, Nat.reduceAdd, reduceIte, Nat.reduceEqDiff, Nat.reduceLT, Nat.reduceLeDiff, reduceCtorEq, eq_self, wnH, FIX, forall_const, endE_n, endE_r, CHT, disj, Nat.reduceBEq, beq_self_eq_true, APT, APX, forall_eq, ALT, KI, UEl_1.d, w3]
  refine callC (isPlace_ok m.who (w.workers + 4) (by omega)) rfl rfl rfl rfl ?_
  simp only [RUX, Nat.reduceAdd, reduceIte, Nat.reduceEqDiff, Nat.reduceLT, Nat.reduceLeDiff, reduceCtorEq, eq_self, wnH, FIX, forall_const, endE_n, endE_r, CHT, disj, Nat.reduceBEq, beq_self_eq_true, APT, APX, forall_eq, ALT, KI, UEl_1.d, w3, e]
  refine callP (m := 2) (w := w) Ck rfl rfl rfl rfl rfl ⟨rfl, ?_⟩
  simp only [RUX, Nat.reduceAdd, reduceIte, Nat.reduceEqDiff, Nat.reduceLT, Nat.reduceLeDiff, reduceCtorEq, eq_self, wnH, FIX, forall_const, endE_n, endE_r, CHT, disj, Nat.reduceBEq, beq_self_eq_true, APT, APX, forall_eq, ALT, KI, UEl_1.d, w3, e]
  refine callC (contains_int _ m.way (by have := opnN_len (ways w m.who) 3; rw [opn]; omega)) rfl rfl rfl rfl ?_
  simp only [RUX, Nat.reduceAdd, reduceIte, Nat.reduceEqDiff, Nat.reduceLT, Nat.reduceLeDiff, reduceCtorEq, eq_self, wnH, FIX, forall_const, endE_n, endE_r, CHT, disj, Nat.reduceBEq, beq_self_eq_true, APT, APX, forall_eq, ALT, KI, UEl_1.d, w3, e, e2]
  refine callP7 (m0 := 2) (m := 2000) (fun m0 v m => clone_ok f.small m0 v m) rfl rfl rfl (by decide) (by decide) (by decide) ⟨rfl, ?_⟩
  simp only [RUX, Nat.reduceAdd, reduceIte, Nat.reduceEqDiff, Nat.reduceLT, Nat.reduceLeDiff, reduceCtorEq, eq_self, wnH, FIX, forall_const, endE_n, endE_r, CHT, disj, Nat.reduceBEq, beq_self_eq_true, APT, APX, forall_eq, ALT, KI, UEl_1.d, w3, e]
  refine callB (hs := iZ _ _ _ _ _ _ _ _ 6 2000 w w' w'') («as» := [wP 6 _, tM m]) (ob := iZo _ 6 2000 _ w' w'') (M _ _ _ _ _ _ _ _ 6 2000) rfl rfl rfl ⟨rfl, rfl, rfl, rfl, rfl, rfl, rfl, rfl, trivial⟩ nd6 nd8 rfl rfl ⟨rfl, ?_⟩
  simp only [RUX, Nat.reduceAdd, reduceIte, Nat.reduceEqDiff, Nat.reduceLT, Nat.reduceLeDiff, reduceCtorEq, eq_self, wnH, FIX, forall_const, endE_n, endE_r, CHT, disj, Nat.reduceBEq, beq_self_eq_true, APT, APX, forall_eq, ALT, KI, UEl_1.d, w3, e, iZ, inH]
  refine callP7 (m0 := 6) (m := 5000) (fun m0 v m => clone_ok hsm m0 v m) rfl rfl rfl (by decide) (by decide) (by decide) ⟨rfl, ?_⟩
  simp only [RUX, Nat.reduceAdd, reduceIte, Nat.reduceEqDiff, Nat.reduceLT, Nat.reduceLeDiff, reduceCtorEq, eq_self, wnH, FIX, forall_const, endE_n, endE_r, CHT, disj, Nat.reduceBEq, beq_self_eq_true, APT, APX, forall_eq, ALT, KI, UEl_1.d, w3, e, imp_self, false_implies, and_self]
end Go.V

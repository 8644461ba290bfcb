/- It is proved that the law FnDiskDo returns true for every input and leaves its input as it was; no condition. -/
import Derived.Test.YtfemebnmlclibaaHR1
import Derived.Test.YtfemebnmlclibaaHP3
set_option linter.unusedSimpArgs false
namespace Go.V
open Go.Proofs
structure smF (d : Dk) : Prop where
  l : d.files.length ≤ 4000000
  f : ∀ f ∈ d.files, f.name.size ≤ 2000000
theorem fineDk.sm {d : Dk} (h : fineDk d) : smF d := ⟨by have := h.s.f; omega, fun f hf => by have := (h.f f hf).1; omega⟩
theorem allW_nil : ∀ w ∈ ([] : List DW), fineDW w := fun _ h => by cases h
theorem allW_cons {w : DW} {ws : List DW} (h : fineDW w) (hs : ∀ w ∈ ws, fineDW w) : ∀ x ∈ w :: ws, fineDW x := fun x hx => by
  rcases List.mem_cons.1 hx with rfl | hx
  · exact h
  · exact hs x hx
theorem allW_app {us ws : List DW} (hu : ∀ w ∈ us, fineDW w) (hs : ∀ w ∈ ws, fineDW w) : ∀ x ∈ us ++ ws, fineDW x := fun x hx => by
  rcases List.mem_append.1 hx with hx | hx
  · exact hu x hx
  · exact hs x hx
structure okWs (ws : List DW) : Prop where
  l : ws.length ≤ 8000000
  w : ∀ w ∈ ws, fineDW w
theorem okWs_nil : okWs [] := ⟨Nat.zero_le _, fun _ h => by cases h⟩
abbrev tWI (ws : List DW) (n : Int) : T := .tup [.one (.v (.sl (en eW ws))), .one (.v (.s (.int .i64 n)))]
abbrev cDk (d : Dk) : List C := [.v (.sl (en eF d.files)), .v (.sl (en eS d.names)), .v (.sl (en eM d.moves))]
def okT (n : Int) : Prop := 0 ≤ n ∧ n ≤ 2000000
/- loop.example/teagle/spec.l44Top -/
def r79_0 : List AOper := [ao 0 1 (.box 27 (.t 0)),
  ao 1 2 (.mv (.k (.i 0)))]
def r79_1 : List AOper := [ao 0 3 (.mv (.k (.i 0)))]
def r79_2 : List AOper := [ao 0 4 (.mv (.k (.i 0)))]
def r79_3 : List AOper := [ao 0 6 (.mv (.t 4)),
  ao 1 7 (.fa 0 (.t 1)),
  ao 2 8 (.ld 1 false (.t 7)),
  ao 3 9 (.len (.t 8)),
  ao 4 10 (.bin .lss (.t 6) (.t 9))]
def c79_4 : ACode := .cond (.t 10) .skip (.exit 0)
def c79_5 : ACode := .seq (.reg r79_3) c79_4
def r79_6 : List AOper := [ao 0 13 (.fa 0 (.t 1)),
  ao 1 14 (.ld 1 false (.t 13)),
  au 2 15 [0, 1] (.mv (.t 4)),
  ao 3 16 (.ia 3 (.t 14) (.t 15)),
  ao 4 17 (.fa 0 (.t 16)),
  ao 5 18 (.ld 1 false (.t 17)),
  ao 6 19 (.call (.k (.c (.fn 77 []))) [(.t 18), (.k (.s (.int .u8 109)))]),
  au 7 20 (ru 7) (.fa 0 (.t 1)),
  au 8 21 (ru 7) (.ld 1 false (.t 20)),
  au 9 22 (ru 9) (.mv (.t 4)),
  au 10 23 (ru 7) (.ia 3 (.t 21) (.t 22)),
  au 11 24 (ru 7) (.fa 0 (.t 23)),
  au 12 25 (ru 7) (.ld 1 false (.t 24)),
  ao 13 26 (.call (.k (.c (.fn 77 []))) [(.t 25), (.k (.s (.int .u8 115)))]),
  ao 14 27 (.bin .add (.t 19) (.t 26)),
  ao 15 5 (.mv (.t 27))]
def r79_7 : List AOper := [ao 0 28 (.mv (.t 5)),
  ao 1 29 (.mv (.t 3)),
  ao 2 30 (.bin .gtr (.t 28) (.t 29))]
def r79_8 : List AOper := [ao 0 31 (.mv (.t 5)),
  ao 1 3 (.mv (.t 31))]
def c79_9 : ACode := .cond (.t 30) (.reg r79_8) .skip
def c79_10 : ACode := .seq (.reg r79_6) (.seq (.reg r79_7) c79_9)
def c79_11 : ACode := .block 1 c79_10
def r79_12 : List AOper := [ao 0 11 (.mv (.t 4)),
  ao 1 12 (.bin .add (.t 11) (.k (.i 1))),
  ao 2 4 (.mv (.t 12))]
def c79_13 : ACode := .seq c79_5 (.seq c79_11 (.reg r79_12))
def c79_14 : ACode := .loop c79_13
def c79_15 : ACode := .block 0 c79_14
def c79_16 : ACode := .seq (.reg r79_2) c79_15
def r79_17 : List AOper := [ao 0 32 (.mv (.t 3)),
  ao 1 2 (.mv (.t 32))]
def c79 : ACode := .seq (.reg r79_0) (.seq (.reg r79_1) (.seq c79_16 (.seq (.reg r79_17) .ret)))
def s79 : List ARes := [.tmp 2]
theorem ok79 : okF Try.prog 79 33 c79 s79 := ⟨Try.f79, Try.func79, Try.ntmps79, by kernel_rfl, by kernel_rfl, by kernel_rfl⟩
def inv79 (d : Dk) (i : Nat) (σ : St) : Prop := ∃ n, okT n ∧ (∃ u, σ.t 1 = .c (.ptr 1 u 0) ∧ σ.H 1 = some (.var u 27 (cDk d))) ∧ σ.t 3 = .i n ∧ σ.t 4 = .i i
def URn_1 := Bx.mk <|
  aN (uA c79.eq_1) <| aN (uR r79_0.eq_1) <| aN (uR r79_1.eq_1) <| aN (uA c79_16.eq_1) <| aN (uR r79_2.eq_1) <| aN (uA c79_15.eq_1) <| aN (uA c79_14.eq_1) <| aN (uR r79_17.eq_1) <| s79.eq_1
def URn_3 := Bx.mk <|
  aN (uA c79_13.eq_1) <| aN (uA c79_5.eq_1) <| aN (uR r79_3.eq_1) <| aN (uA c79_4.eq_1) <| aN (uA c79_11.eq_1) <| aN (uA c79_10.eq_1) <| aN (uR r79_6.eq_1) <| aN (uR r79_7.eq_1) <| aN (uA c79_9.eq_1) <| aN (uR r79_8.eq_1) <| aN (uR r79_12.eq_1) <| aN (uA c79.eq_1) <| aN (uR r79_0.eq_1) <| aN (uR r79_1.eq_1) <| aN (uA c79_16.eq_1) <| aN (uR r79_2.eq_1) <| aN (uA c79_15.eq_1) <| aN (uA c79_14.eq_1) <| aN (uR r79_17.eq_1) <| s79.eq_1
theorem top_ok (d : Dk) (hd : smF d) : PC 79 [tDk d] okT .i := by
  have hl := hd.l
  refine PC.intro ok79 rfl (fun _ => rfl) fun X => ?_
  simp only [RUX, Nat.reduceAdd, reduceIte, Nat.reduceEqDiff, Nat.reduceLT, Nat.reduceLeDiff, reduceCtorEq, eq_self, FIX, forall_const, endE_n, endE_r, CHT, disj, Nat.reduceBEq, beq_self_eq_true, APT, APX, forall_eq, ALT, ALU, URn_1.d]
  refine AW.upto d.files.length (inv79 d) ⟨0, ⟨Int.le_refl _, by decide⟩, ⟨_, rfl, rfl⟩, rfl, rfl⟩ fun i t H c hi h => ?_
  obtain ⟨n, hn, ⟨u1, e1, eH1⟩, e3, e4⟩ := h
  simp only [T.c, T.i] at e1 eH1 e3 e4
  by_cases k1 : (i : Int) < d.files.length
  rotate_left
  · simp only [RUX, Nat.reduceAdd, reduceIte, Nat.reduceEqDiff, Nat.reduceLT, Nat.reduceLeDiff, reduceCtorEq, eq_self, FIX, forall_const, endE_n, endE_r, CHT, disj, Nat.reduceBEq, beq_self_eq_true, APT, APX, forall_eq, ALT, ALU, URn_3.d, URn_1.d, e1, eH1, e3, e4, en_len, k1]
    refine ES.mk n hn ?_
    simp only [RUX, Nat.reduceAdd, reduceIte, Nat.reduceEqDiff, Nat.reduceLT, Nat.reduceLeDiff, reduceCtorEq, eq_self, FIX, forall_const, endE_n, endE_r, CHT, disj, Nat.reduceBEq, beq_self_eq_true, APT, APX, forall_eq, ALT, ALU, URn_1.d]
  obtain ⟨x, hx⟩ : ∃ x, d.files[i]? = some x := ⟨_, List.getElem?_eq_getElem (by omega)⟩
  have ex := en_at eF hx
  have gz : (0 : Int) ≤ i := by omega
  have w2 : IntKind.i64.wrap ((i : Int) + 1) = ((i + 1 : Nat) : Int) := wrap64 (x := (i : Int) + 1) ⟨by omega, by omega⟩
  obtain ⟨a, ha, C1⟩ := num43_ok x.name 109 (hd.f x (List.mem_of_getElem? hx))
  obtain ⟨b, hb, C2⟩ := num43_ok x.name 115 (hd.f x (List.mem_of_getElem? hx))
  obtain ⟨a0, a1⟩ := ha
  obtain ⟨b0, b1⟩ := hb
  have wa : IntKind.i64.wrap (a + b) = a + b := wrap64 ⟨by omega, by omega⟩
  simp only [RUX, Nat.reduceAdd, reduceIte, Nat.reduceEqDiff, Nat.reduceLT, Nat.reduceLeDiff, reduceCtorEq, eq_self, FIX, forall_const, endE_n, endE_r, CHT, disj, Nat.reduceBEq, beq_self_eq_true, APT, APX, forall_eq, ALT, ALU, URn_3.d, e1, eH1, e3, e4, en_len, k1, ex, gz, Int.toNat_natCast, eF]
  refine callC C1 rfl rfl rfl rfl ?_
  simp only [RUX, Nat.reduceAdd, reduceIte, Nat.reduceEqDiff, Nat.reduceLT, Nat.reduceLeDiff, reduceCtorEq, eq_self, FIX, forall_const, endE_n, endE_r, CHT, disj, Nat.reduceBEq, beq_self_eq_true, APT, APX, forall_eq, ALT, ALU, URn_3.d, e1, eH1, e3, e4, en_len, k1, ex, gz, Int.toNat_natCast, eF]
  refine callC C2 rfl rfl rfl rfl ?_
  by_cases f1 : a + b > n
  · simp only [RUX, Nat.reduceAdd, reduceIte, Nat.reduceEqDiff, Nat.reduceLT, Nat.reduceLeDiff, reduceCtorEq, eq_self, FIX, forall_const, endE_n, endE_r, CHT, disj, Nat.reduceBEq, beq_self_eq_true, APT, APX, forall_eq, ALT, ALU, URn_3.d, e1, eH1, e3, e4, en_len, k1, ex, gz, Int.toNat_natCast, eF, wa, f1, w2]
    exact ⟨by omega, a + b, ⟨by omega, by omega⟩, ⟨u1, e1, eH1⟩, rfl, rfl⟩
  · simp only [RUX, Nat.reduceAdd, reduceIte, Nat.reduceEqDiff, Nat.reduceLT, Nat.reduceLeDiff, reduceCtorEq, eq_self, FIX, forall_const, endE_n, endE_r, CHT, disj, Nat.reduceBEq, beq_self_eq_true, APT, APX, forall_eq, ALT, ALU, URn_3.d, e1, eH1, e3, e4, en_len, k1, ex, gz, Int.toNat_natCast, eF, wa, f1, w2]
    exact ⟨by omega, n, hn, ⟨u1, e1, eH1⟩, e3, rfl⟩
/- loop.example/teagle/spec.l44Close -/
def r73_0 : List AOper := [ao 0 2 (.box 27 (.t 0)),
  ao 1 3 (.box 99 (.t 1)),
  ao 2 4 (.mv (.k (.c .nil0))),
  ao 3 5 (.mv (.k (.i 0)))]
def r73_1 : List AOper := [ao 0 10 (.ld 3 true (.t 2)),
  ao 1 11 (.call (.k (.c (.fn 79 []))) [(.t 10)]),
  ao 2 6 (.mv (.t 11))]
def r73_2 : List AOper := [ao 0 12 (.mv (.t 6)),
  ao 1 13 (.bin .geq (.t 12) (.k (.i 999999))),
  ao 2 14 (.mv (.t 13)),
  ag 3 15 14 false [] (.fa 2 (.t 3)),
  ag 4 16 14 false [] (.fa 0 (.t 15)),
  ag 5 17 14 false [] (.ld 1 false (.t 16)),
  ag 6 18 14 false [] (.len (.t 17)),
  ag 7 19 14 false [] (.bin .geq (.t 18) (.k (.i 40))),
  ao 8 20 (.pick (.t 14) (.k (.b true)) (.t 19)),
  ao 9 21 (.mv (.t 20)),
  ag 10 22 21 false [] (.fa 0 (.t 2)),
  ag 11 23 21 false [] (.ld 1 false (.t 22)),
  ag 12 24 21 false [] (.len (.t 23)),
  ag 13 25 21 false [] (.bin .add (.t 24) (.k (.i 2))),
  ag 14 26 21 false [] (.bin .gtr (.t 25) (.k (.i 64))),
  ao 15 27 (.pick (.t 21) (.k (.b true)) (.t 26))]
def r73_3 : List AOper := [ao 0 28 (.bsl 3 29 []),
  ao 1 4 (.mv (.t 28)),
  ao 2 5 (.mv (.k (.i 4)))]
def c73_4 : ACode := .seq (.reg r73_3) .ret
def c73_5 : ACode := .cond (.t 27) c73_4 .skip
def c73_6 : ACode := .seq (.reg r73_2) c73_5
def r73_7 : List AOper := [ao 0 29 (.mv (.t 6)),
  ao 1 30 (.bin .add (.t 29) (.k (.i 1))),
  ao 2 31 (.call (.k (.c (.fn 64 []))) [(.t 30)]),
  ao 3 32 (.bin .add (.k (.s (.string ⟨#[115]⟩))) (.t 31)),
  ao 4 7 (.mv (.t 32))]
def r73_8 : List AOper := [ao 0 33 (.mv (.t 6)),
  ao 1 34 (.bin .add (.t 33) (.k (.i 1))),
  ao 2 35 (.call (.k (.c (.fn 64 []))) [(.t 34)]),
  ao 3 36 (.bin .add (.k (.s (.string ⟨#[109]⟩))) (.t 35)),
  ao 4 8 (.mv (.t 36))]
def r73_9 : List AOper := [ao 0 37 (.mv (.t 6)),
  ao 1 38 (.bin .add (.t 37) (.k (.i 1))),
  ao 2 39 (.fa 7 (.t 3)),
  ao 3 40 (.ld 1 false (.t 39)),
  ao 4 41 (.build [.nil0, (.v (.s (.int .i64 0))), (.v (.s (.int .i64 0)))] [(1, 1, (.t 38)), (2, 1, (.t 40))]),
  ao 5 9 (.alloc 96 [.nil0, (.v (.s (.int .i64 0))), (.v (.s (.int .i64 0)))]),
  an 6 (.st 3 (.t 9) (.t 41))]
def r73_10 : List AOper := [ao 0 42 (.bsl 4 112 []),
  au 1 43 [0] (.fa 2 (.t 3)),
  au 2 44 [0] (.fa 0 (.t 43)),
  au 3 45 [0] (.ld 1 false (.t 44)),
  ao 4 46 (.app 4 112 32 (.t 42) (.t 45)),
  au 5 47 (ru 5) (.fa 2 (.t 3)),
  au 6 48 (ru 5) (.fa 1 (.t 47)),
  au 7 49 (ru 5) (.ld 1 false (.t 48)),
  au 8 50 (ru 8) (.fa 2 (.t 3)),
  au 9 51 (ru 8) (.fa 2 (.t 50)),
  au 10 52 (ru 8) (.ld 1 false (.t 51)),
  au 11 53 (ru 11) (.fa 7 (.t 3)),
  au 12 54 (ru 11) (.ld 1 false (.t 53)),
  au 13 55 (ru 13) (.fa 5 (.t 3)),
  au 14 56 (ru 13) (.ld 1 false (.t 55)),
  au 15 57 (ru 5) (.build [(.v (.s (.int .i64 0))), (.v (.s (.int .i64 0))), (.v (.s (.int .i64 0))), (.v (.s (.int .i64 0)))] [(0, 1, (.t 49)), (1, 1, (.t 52)), (2, 1, (.t 54)), (3, 1, (.t 56))]),
  au 16 58 (ru 5) (.bsl 4 112 [(.t 57)]),
  ao 17 59 (.app 4 112 32 (.t 46) (.t 58)),
  ao 18 60 (.fa 0 (.t 9)),
  an 19 (.st 1 (.t 60) (.t 59))]
def r73_11 : List AOper := [ao 0 61 (.mv (.t 7)),
  ao 1 62 (.build [(.v (.s (.int .i64 0))), (.v (.s (.string ⟨#[]⟩))), (.v (.s (.string ⟨#[]⟩)))] [(0, 1, (.k (.i 1))), (1, 1, (.t 61))]),
  au 2 63 [0, 1] (.mv (.t 8)),
  au 3 64 [0, 1] (.build [(.v (.s (.int .i64 0))), (.v (.s (.string ⟨#[]⟩))), (.v (.s (.string ⟨#[]⟩)))] [(0, 1, (.k (.i 1))), (1, 1, (.t 63))]),
  au 4 65 (ru 4) (.mv (.t 8)),
  au 5 66 (ru 5) (.ld 3 true (.t 9)),
  au 6 67 (ru 5) (.call (.k (.c (.fn 61 []))) [(.t 66)]),
  au 7 68 (ru 4) (.build [(.v (.s (.int .i64 0))), (.v (.s (.string ⟨#[]⟩))), (.v (.s (.string ⟨#[]⟩)))] [(0, 1, (.k (.i 2))), (1, 1, (.t 65)), (2, 1, (.t 67))]),
  au 8 69 (ru 8) (.mv (.t 8)),
  au 9 70 (ru 8) (.build [(.v (.s (.int .i64 0))), (.v (.s (.string ⟨#[]⟩))), (.v (.s (.string ⟨#[]⟩)))] [(0, 1, (.k (.i 3))), (1, 1, (.t 69))]),
  au 10 71 (ru 10) (.build [(.v (.s (.int .i64 0))), (.v (.s (.string ⟨#[]⟩))), (.v (.s (.string ⟨#[]⟩)))] [(0, 1, (.k (.i 5)))]),
  au 11 72 (ru 11) (.fa 1 (.t 3)),
  au 12 73 (ru 11) (.ld 1 false (.t 72)),
  au 13 74 (ru 5 ++ [7, 8, 9, 10]) (.call (.k (.c (.fn 64 []))) [(.t 73)]),
  au 14 75 (ru 5 ++ [7, 8, 9, 10]) (.bin .add (.k (.s (.string ⟨#[109]⟩))) (.t 74)),
  au 15 76 (ru 5 ++ [7, 8, 9, 10]) (.build [(.v (.s (.int .i64 0))), (.v (.s (.string ⟨#[]⟩))), (.v (.s (.string ⟨#[]⟩)))] [(0, 1, (.k (.i 4))), (1, 1, (.t 75))]),
  au 16 77 (ru 16) (.build [(.v (.s (.int .i64 0))), (.v (.s (.string ⟨#[]⟩))), (.v (.s (.string ⟨#[]⟩)))] [(0, 1, (.k (.i 5)))]),
  ao 17 78 (.bsl 3 29 [(.t 62), (.t 64), (.t 68), (.t 70), (.t 71), (.t 76), (.t 77)]),
  ao 18 4 (.mv (.t 78)),
  ao 19 5 (.mv (.k (.i 0)))]
def c73 : ACode := .seq (.reg r73_0) (.seq (.reg r73_1) (.seq c73_6 (.seq (.reg r73_7) (.seq (.reg r73_8) (.seq (.reg r73_9) (.seq (.reg r73_10) (.seq (.reg r73_11) .ret)))))))
def s73 : List ARes := [.tmp 4, .tmp 5]
theorem ok73 : okF Try.prog 73 79 c73 s73 := ⟨Try.f73, Try.func73, Try.ntmps73, by kernel_rfl, by kernel_rfl, by kernel_rfl⟩
def URn_2 := Bx.mk <|
  aN (uA c73.eq_1) <| aN (uR r73_0.eq_1) <| aN (uR r73_1.eq_1) <| aN (uA c73_6.eq_1) <| aN (uR r73_2.eq_1) <| aN (uA c73_5.eq_1) <| aN (uA c73_4.eq_1) <| aN (uR r73_3.eq_1) <| aN (uR r73_7.eq_1) <| aN (uR r73_8.eq_1) <| aN (uR r73_9.eq_1) <| aN (uR r73_10.eq_1) <| aN (uR r73_11.eq_1) <| s73.eq_1
set_option maxHeartbeats 1000000 in
theorem close_ok (d : Dk) (hd : smF d) (s : LS) (hs : okLS s) : PC 73 [tDk d, tLS s] (fun x : List DW × Int => okWs x.1 ∧ x.1.length ≤ 10) (fun x => tWI x.1 x.2) := by
  obtain ⟨top, ⟨t0, t1⟩, C1⟩ := top_ok d hd
  have hl := hd.l
  have hpl := hs.plan.len
  refine PC.intro ok73 rfl (fun _ => rfl) fun X => ?_
  simp only [RUX, Nat.reduceAdd, reduceIte, Nat.reduceEqDiff, Nat.reduceLT, Nat.reduceLeDiff, reduceCtorEq, eq_self, FIX, forall_const, endE_n, endE_r, CHT, disj, Nat.reduceBEq, beq_self_eq_true, APT, APX, forall_eq, ALT, ALU, URn_2.d]
  refine callC C1 rfl rfl rfl rfl ?_
  by_cases g1 : top ≥ 999999
  · simp only [RUX, Nat.reduceAdd, reduceIte, Nat.reduceEqDiff, Nat.reduceLT, Nat.reduceLeDiff, reduceCtorEq, eq_self, FIX, forall_const, endE_n, endE_r, CHT, disj, Nat.reduceBEq, beq_self_eq_true, APT, APX, forall_eq, ALT, ALU, URn_2.d, g1]
    refine ES.mk ([], 4) ⟨okWs_nil, Nat.zero_le _⟩ ?_
    simp only [RUX, Nat.reduceAdd, reduceIte, Nat.reduceEqDiff, Nat.reduceLT, Nat.reduceLeDiff, reduceCtorEq, eq_self, FIX, forall_const, endE_n, endE_r, CHT, disj, Nat.reduceBEq, beq_self_eq_true, APT, APX, forall_eq, ALT, ALU, URn_2.d, en_nil]
  by_cases g2 : (s.plan.parts.length : Int) ≥ 40
  · simp only [RUX, Nat.reduceAdd, reduceIte, Nat.reduceEqDiff, Nat.reduceLT, Nat.reduceLeDiff, reduceCtorEq, eq_self, FIX, forall_const, endE_n, endE_r, CHT, disj, Nat.reduceBEq, beq_self_eq_true, APT, APX, forall_eq, ALT, ALU, URn_2.d, g1, en_len, g2]
    refine ES.mk ([], 4) ⟨okWs_nil, Nat.zero_le _⟩ ?_
    simp only [RUX, Nat.reduceAdd, reduceIte, Nat.reduceEqDiff, Nat.reduceLT, Nat.reduceLeDiff, reduceCtorEq, eq_self, FIX, forall_const, endE_n, endE_r, CHT, disj, Nat.reduceBEq, beq_self_eq_true, APT, APX, forall_eq, ALT, ALU, URn_2.d, en_nil]
  have wl : IntKind.i64.wrap ((d.files.length : Int) + 2) = (d.files.length : Int) + 2 := wrap64 ⟨by omega, by omega⟩
  by_cases g3 : (d.files.length : Int) + 2 > 64
  · simp only [RUX, Nat.reduceAdd, reduceIte, Nat.reduceEqDiff, Nat.reduceLT, Nat.reduceLeDiff, reduceCtorEq, eq_self, FIX, forall_const, endE_n, endE_r, CHT, disj, Nat.reduceBEq, beq_self_eq_true, APT, APX, forall_eq, ALT, ALU, URn_2.d, g1, en_len, g2, wl, g3]
    refine ES.mk ([], 4) ⟨okWs_nil, Nat.zero_le _⟩ ?_
    simp only [RUX, Nat.reduceAdd, reduceIte, Nat.reduceEqDiff, Nat.reduceLT, Nat.reduceLeDiff, reduceCtorEq, eq_self, FIX, forall_const, endE_n, endE_r, CHT, disj, Nat.reduceBEq, beq_self_eq_true, APT, APX, forall_eq, ALT, ALU, URn_2.d, en_nil]
  have wt : IntKind.i64.wrap (top + 1) = top + 1 := wrap64 ⟨by omega, by omega⟩
  obtain ⟨w, hw, C2⟩ := decB (n := top + 1) ⟨by omega, by omega⟩
  obtain ⟨w3, hw3, C3⟩ := decB (n := s.num) ⟨hs.num.1, by have := hs.num.2; omega⟩
  have z1 : (⟨#[115]⟩ : ByteArray).size = 1 := rfl
  have z2 : (⟨#[109]⟩ : ByteArray).size = 1 := rfl
  have q1 : (⟨#[115]⟩ : ByteArray).size + w.size ≤ 9223372036854775807 := by omega
  have q2 : (⟨#[109]⟩ : ByteArray).size + w.size ≤ 9223372036854775807 := by omega
  have q3 : (⟨#[109]⟩ : ByteArray).size + w3.size ≤ 9223372036854775807 := by omega
  have l1 : s.plan.parts.length * 32 ≤ 140737488355328 := by omega
  have l2 : s.plan.parts.length ≤ 9223372036854775807 := by omega
  simp only [RUX, Nat.reduceAdd, reduceIte, Nat.reduceEqDiff, Nat.reduceLT, Nat.reduceLeDiff, reduceCtorEq, eq_self, FIX, forall_const, endE_n, endE_r, CHT, disj, Nat.reduceBEq, beq_self_eq_true, APT, APX, forall_eq, ALT, ALU, URn_2.d, g1, en_len, g2, wl, g3, wt]
  refine callC C2 rfl rfl rfl rfl ?_
  simp only [RUX, Nat.reduceAdd, reduceIte, Nat.reduceEqDiff, Nat.reduceLT, Nat.reduceLeDiff, reduceCtorEq, eq_self, FIX, forall_const, endE_n, endE_r, CHT, disj, Nat.reduceBEq, beq_self_eq_true, APT, APX, forall_eq, ALT, ALU, URn_2.d, wt, sStr, q1]
  refine callC C2 rfl rfl rfl rfl ?_
  have l3 : (s.plan.parts.length + 1) * 32 ≤ 140737488355328 := by omega
  have l4 : s.plan.parts.length ≤ 9223372036854775806 := by omega
  have ht1 : (en eP s.plan.parts).take s.plan.parts.length = en eP s.plan.parts := en_take eP _
  obtain ⟨o, ho, C4⟩ := planWrite_ok ⟨s.plan.parts ++ [⟨s.plan.opn, s.plan.first, s.next, s.size⟩], top + 1, s.next⟩ ⟨by simp only [List.length_append, List.length_singleton]; omega, fun x hx => by
    rcases List.mem_append.1 hx with h | h
    · exact hs.plan.part x h
    · rw [List.mem_singleton.1 h]; exact ⟨hs.plan.opn, hs.plan.first, hs.next, ⟨hs.size.1, by have := hs.size.2; simp only; omega⟩⟩, ⟨by simp only; omega, by simp only; omega⟩, hs.next⟩
  simp only [RUX, Nat.reduceAdd, reduceIte, Nat.reduceEqDiff, Nat.reduceLT, Nat.reduceLeDiff, reduceCtorEq, eq_self, FIX, forall_const, endE_n, endE_r, CHT, disj, Nat.reduceBEq, beq_self_eq_true, APT, APX, forall_eq, ALT, ALU, URn_2.d, wt, sStr, q2, l1, l2, l3, l4, ht1, en_len, Nat.zero_add]
  refine callL (ws := [(42, .arr 57 false 4 112 (en eP s.plan.parts ++ [[.s (.int .i64 s.plan.opn), .s (.int .i64 s.plan.first), .s (.int .i64 s.next), .s (.int .i64 s.size)]]))]) (ns := [42]) C4 rfl ?_ rfl rfl ?_
  · have ht2 : (en eP s.plan.parts ++ [[V.s (.int .i64 s.plan.opn), V.s (.int .i64 s.plan.first), V.s (.int .i64 s.next), V.s (.int .i64 s.size)]]).take (s.plan.parts.length + 1) = en eP (s.plan.parts ++ [⟨s.plan.opn, s.plan.first, s.next, s.size⟩]) := by rw [en_snoc]; exact en_take1 eP _ _
    simp only [RUX, Nat.reduceAdd, reduceIte, Nat.reduceEqDiff, Nat.reduceLT, Nat.reduceLeDiff, reduceCtorEq, eq_self, FIX, forall_const, endE_n, endE_r, CHT, disj, Nat.reduceBEq, beq_self_eq_true, APT, APX, forall_eq, ALT, ALU, URn_2.d, lendTs, lendT, ht2, en_len]
  simp only [RUX, Nat.reduceAdd, reduceIte, Nat.reduceEqDiff, Nat.reduceLT, Nat.reduceLeDiff, reduceCtorEq, eq_self, FIX, forall_const, endE_n, endE_r, CHT, disj, Nat.reduceBEq, beq_self_eq_true, APT, APX, forall_eq, ALT, ALU, URn_2.d, scalarT, scalarP, scalarC]
  refine callC C3 rfl rfl rfl rfl ?_
  simp only [RUX, Nat.reduceAdd, reduceIte, Nat.reduceEqDiff, Nat.reduceLT, Nat.reduceLeDiff, reduceCtorEq, eq_self, FIX, forall_const, endE_n, endE_r, CHT, disj, Nat.reduceBEq, beq_self_eq_true, APT, APX, forall_eq, ALT, ALU, URn_2.d, sStr, q3]
  have b1 : ((⟨#[115]⟩ : ByteArray) ++ w).size ≤ 1048576 := by rw [ByteArray.size_append]; omega
  have b2 : ((⟨#[109]⟩ : ByteArray) ++ w).size ≤ 1048576 := by rw [ByteArray.size_append]; omega
  have b3 : ((⟨#[109]⟩ : ByteArray) ++ w3).size ≤ 1048576 := by rw [ByteArray.size_append]; omega
  have b0 : (⟨#[]⟩ : ByteArray).size ≤ 1048576 := by decide
  refine ES.mk ([⟨1, ⟨#[115]⟩ ++ w, ⟨#[]⟩⟩, ⟨1, ⟨#[109]⟩ ++ w, ⟨#[]⟩⟩, ⟨2, ⟨#[109]⟩ ++ w, o⟩, ⟨3, ⟨#[109]⟩ ++ w, ⟨#[]⟩⟩, ⟨5, ⟨#[]⟩, ⟨#[]⟩⟩, ⟨4, ⟨#[109]⟩ ++ w3, ⟨#[]⟩⟩, ⟨5, ⟨#[]⟩, ⟨#[]⟩⟩], 0) ⟨⟨by simp, allW_cons ⟨b1, b0⟩ (allW_cons ⟨b2, b0⟩ (allW_cons ⟨b2, by simp only; omega⟩ (allW_cons ⟨b2, b0⟩ (allW_cons ⟨b0, b0⟩ (allW_cons ⟨b3, b0⟩ (allW_cons ⟨b0, b0⟩ allW_nil))))))⟩, by simp⟩ ?_
  simp only [RUX, Nat.reduceAdd, reduceIte, Nat.reduceEqDiff, Nat.reduceLT, Nat.reduceLeDiff, reduceCtorEq, eq_self, FIX, forall_const, endE_n, endE_r, CHT, disj, Nat.reduceBEq, beq_self_eq_true, APT, APX, forall_eq, ALT, ALU, URn_2.d, en_cons2, en_nil, eW]
end Go.V
set_option linter.unusedSimpArgs false
namespace Go.V
open Go.Proofs
/- loop.example/teagle/spec.l44Birth -/
def r71_0 : List AOper := [ao 0 1 (.box 27 (.t 0)),
  ao 1 2 (.mv (.k (.c .nil0))),
  ao 2 3 (.mv (.k (.i 0)))]
def r71_1 : List AOper := [ao 0 10 (.ld 3 true (.t 1)),
  ao 1 11 (.call (.k (.c (.fn 79 []))) [(.t 10)]),
  ao 2 4 (.mv (.t 11))]
def r71_2 : List AOper := [ao 0 12 (.mv (.t 4)),
  ao 1 13 (.bin .geq (.t 12) (.k (.i 999999))),
  ao 2 14 (.mv (.t 13)),
  ag 3 15 14 false [] (.fa 0 (.t 1)),
  ag 4 16 14 false [] (.ld 1 false (.t 15)),
  ag 5 17 14 false [] (.len (.t 16)),
  ag 6 18 14 false [] (.bin .add (.t 17) (.k (.i 2))),
  ag 7 19 14 false [] (.bin .gtr (.t 18) (.k (.i 64))),
  ao 8 20 (.pick (.t 14) (.k (.b true)) (.t 19))]
def r71_3 : List AOper := [ao 0 21 (.bsl 3 29 []),
  ao 1 2 (.mv (.t 21)),
  ao 2 3 (.mv (.k (.i 4)))]
def c71_4 : ACode := .seq (.reg r71_3) .ret
def c71_5 : ACode := .cond (.t 20) c71_4 .skip
def c71_6 : ACode := .seq (.reg r71_2) c71_5
def r71_7 : List AOper := [ao 0 22 (.bsl 3 29 []),
  ao 1 5 (.mv (.t 22))]
def r71_8 : List AOper := [ao 0 23 (.ld 3 true (.t 1)),
  ao 1 24 (.call (.k (.c (.fn 27 []))) [(.t 23)]),
  ao 2 6 (.mv (.t 24))]
def r71_9 : List AOper := [ao 0 7 (.mv (.k (.i 0)))]
def r71_10 : List AOper := [ao 0 25 (.mv (.t 7)),
  ao 1 26 (.mv (.t 6)),
  ao 2 27 (.len (.t 26)),
  ao 3 28 (.bin .lss (.t 25) (.t 27))]
def c71_11 : ACode := .cond (.t 28) .skip (.exit 0)
def c71_12 : ACode := .seq (.reg r71_10) c71_11
def r71_13 : List AOper := [ao 0 31 (.mv (.t 5)),
  ao 1 32 (.mv (.t 6)),
  ao 2 33 (.mv (.t 7)),
  ao 3 34 (.ia 1 (.t 32) (.t 33)),
  ao 4 35 (.ld 1 false (.t 34)),
  ao 5 36 (.build [(.v (.s (.int .i64 0))), (.v (.s (.string ⟨#[]⟩))), (.v (.s (.string ⟨#[]⟩)))] [(0, 1, (.k (.i 4))), (1, 1, (.t 35))]),
  ao 6 37 (.bsl 3 29 [(.t 36)]),
  ao 7 38 (.app 3 29 40 (.t 31) (.t 37)),
  ao 8 5 (.mv (.t 38))]
def c71_14 : ACode := .block 1 (.reg r71_13)
def r71_15 : List AOper := [ao 0 29 (.mv (.t 7)),
  ao 1 30 (.bin .add (.t 29) (.k (.i 1))),
  ao 2 7 (.mv (.t 30))]
def c71_16 : ACode := .seq c71_12 (.seq c71_14 (.reg r71_15))
def c71_17 : ACode := .loop c71_16
def c71_18 : ACode := .block 0 c71_17
def c71_19 : ACode := .seq (.reg r71_9) c71_18
def r71_20 : List AOper := [ao 0 39 (.mv (.t 4)),
  ao 1 40 (.bin .add (.t 39) (.k (.i 1))),
  ao 2 41 (.call (.k (.c (.fn 64 []))) [(.t 40)]),
  ao 3 42 (.bin .add (.k (.s (.string ⟨#[115]⟩))) (.t 41)),
  ao 4 8 (.mv (.t 42))]
def r71_21 : List AOper := [ao 0 43 (.mv (.t 4)),
  ao 1 44 (.bin .add (.t 43) (.k (.i 1))),
  ao 2 45 (.call (.k (.c (.fn 64 []))) [(.t 44)]),
  ao 3 46 (.bin .add (.k (.s (.string ⟨#[109]⟩))) (.t 45)),
  ao 4 9 (.mv (.t 46))]
def r71_22 : List AOper := [ao 0 47 (.mv (.t 5)),
  ao 1 48 (.mv (.t 8)),
  ao 2 49 (.build [(.v (.s (.int .i64 0))), (.v (.s (.string ⟨#[]⟩))), (.v (.s (.string ⟨#[]⟩)))] [(0, 1, (.k (.i 1))), (1, 1, (.t 48))]),
  ao 3 50 (.mv (.t 9)),
  ao 4 51 (.build [(.v (.s (.int .i64 0))), (.v (.s (.string ⟨#[]⟩))), (.v (.s (.string ⟨#[]⟩)))] [(0, 1, (.k (.i 1))), (1, 1, (.t 50))]),
  ao 5 52 (.mv (.t 9)),
  ao 6 53 (.mv (.t 4)),
  ao 7 54 (.bin .add (.t 53) (.k (.i 1))),
  ao 8 55 (.build [.nil0, (.v (.s (.int .i64 0))), (.v (.s (.int .i64 0)))] [(1, 1, (.t 54)), (2, 1, (.k (.i 1)))]),
  ao 9 56 (.call (.k (.c (.fn 61 []))) [(.t 55)]),
  ao 10 57 (.build [(.v (.s (.int .i64 0))), (.v (.s (.string ⟨#[]⟩))), (.v (.s (.string ⟨#[]⟩)))] [(0, 1, (.k (.i 2))), (1, 1, (.t 52)), (2, 1, (.t 56))]),
  ao 11 58 (.mv (.t 9)),
  ao 12 59 (.build [(.v (.s (.int .i64 0))), (.v (.s (.string ⟨#[]⟩))), (.v (.s (.string ⟨#[]⟩)))] [(0, 1, (.k (.i 3))), (1, 1, (.t 58))]),
  ao 13 60 (.build [(.v (.s (.int .i64 0))), (.v (.s (.string ⟨#[]⟩))), (.v (.s (.string ⟨#[]⟩)))] [(0, 1, (.k (.i 5)))]),
  ao 14 61 (.bsl 3 29 [(.t 49), (.t 51), (.t 57), (.t 59), (.t 60)]),
  ao 15 62 (.app 3 29 40 (.t 47) (.t 61)),
  ao 16 2 (.mv (.t 62)),
  ao 17 3 (.mv (.k (.i 0)))]
def c71 : ACode := .seq (.reg r71_0) (.seq (.reg r71_1) (.seq c71_6 (.seq (.reg r71_7) (.seq (.reg r71_8) (.seq c71_19 (.seq (.reg r71_20) (.seq (.reg r71_21) (.seq (.reg r71_22) .ret))))))))
def s71 : List ARes := [.tmp 2, .tmp 3]
theorem ok71 : okF Try.prog 71 63 c71 s71 := ⟨Try.f71, Try.func71, Try.ntmps71, by kernel_rfl, by kernel_rfl, by kernel_rfl⟩
def inv71 (_d : Dk) (ns : List ByteArray) (top : Int) (i : Nat) (σ : St) : Prop := ∃ (ws : List DW) (v : Nat), ws.length = i ∧ (∀ w ∈ ws, fineDW w) ∧ σ.t 4 = .i top ∧ σ.t 6 = tL (en eS ns) ∧ σ.t 7 = .i i ∧ σ.t 5 = .c (.own 22 v ws.length) ∧ σ.H 22 = some (.arr v true 3 29 (en eW ws))
def URo_1 := Bx.mk <|
  aN (uA c71.eq_1) <| aN (uR r71_0.eq_1) <| aN (uR r71_1.eq_1) <| aN (uA c71_6.eq_1) <| aN (uR r71_2.eq_1) <| aN (uA c71_5.eq_1) <| aN (uA c71_4.eq_1) <| aN (uR r71_3.eq_1) <| aN (uR r71_7.eq_1) <| aN (uR r71_8.eq_1) <| aN (uA c71_19.eq_1) <| aN (uR r71_9.eq_1) <| aN (uA c71_18.eq_1) <| aN (uA c71_17.eq_1) <| aN (uR r71_20.eq_1) <| aN (uR r71_21.eq_1) <| aN (uR r71_22.eq_1) <| s71.eq_1
def URo_3 := Bx.mk <|
  aN (uA c71_16.eq_1) <| aN (uA c71_12.eq_1) <| aN (uR r71_10.eq_1) <| aN (uA c71_11.eq_1) <| aN (uA c71_14.eq_1) <| aN (uR r71_13.eq_1) <| aN (uR r71_15.eq_1) <| aN (uA c71.eq_1) <| aN (uR r71_0.eq_1) <| aN (uR r71_1.eq_1) <| aN (uA c71_6.eq_1) <| aN (uR r71_2.eq_1) <| aN (uA c71_5.eq_1) <| aN (uA c71_4.eq_1) <| aN (uR r71_3.eq_1) <| aN (uR r71_7.eq_1) <| aN (uR r71_8.eq_1) <| aN (uA c71_19.eq_1) <| aN (uR r71_9.eq_1) <| aN (uA c71_18.eq_1) <| aN (uA c71_17.eq_1) <| aN (uR r71_20.eq_1) <| aN (uR r71_21.eq_1) <| aN (uR r71_22.eq_1) <| s71.eq_1
set_option maxHeartbeats 1000000 in
theorem birth_ok (d : Dk) (hd : fineDk d) : PC 71 [tDk d] (fun x : List DW × Int => okWs x.1) (fun x => tWI x.1 x.2) := by
  obtain ⟨top, ⟨t0, t1⟩, C1⟩ := top_ok d hd.sm
  have hl := hd.s.f
  refine PC.intro ok71 rfl (fun _ => rfl) fun X => ?_
  simp only [RUX, Nat.reduceAdd, reduceIte, Nat.reduceEqDiff, Nat.reduceLT, Nat.reduceLeDiff, reduceCtorEq, eq_self, FIX, forall_const, endE_n, endE_r, CHT, disj, Nat.reduceBEq, beq_self_eq_true, APT, APX, forall_eq, ALT, ALU, URo_1.d]
  refine callC C1 rfl rfl rfl rfl ?_
  by_cases g1 : top ≥ 999999
  · simp only [RUX, Nat.reduceAdd, reduceIte, Nat.reduceEqDiff, Nat.reduceLT, Nat.reduceLeDiff, reduceCtorEq, eq_self, FIX, forall_const, endE_n, endE_r, CHT, disj, Nat.reduceBEq, beq_self_eq_true, APT, APX, forall_eq, ALT, ALU, URo_1.d, g1]
    refine ES.mk ([], 4) okWs_nil ?_
    simp only [RUX, Nat.reduceAdd, reduceIte, Nat.reduceEqDiff, Nat.reduceLT, Nat.reduceLeDiff, reduceCtorEq, eq_self, FIX, forall_const, endE_n, endE_r, CHT, disj, Nat.reduceBEq, beq_self_eq_true, APT, APX, forall_eq, ALT, ALU, URo_1.d, en_nil]
  have wl : IntKind.i64.wrap ((d.files.length : Int) + 2) = (d.files.length : Int) + 2 := wrap64 ⟨by omega, by omega⟩
  by_cases g3 : (d.files.length : Int) + 2 > 64
  · simp only [RUX, Nat.reduceAdd, reduceIte, Nat.reduceEqDiff, Nat.reduceLT, Nat.reduceLeDiff, reduceCtorEq, eq_self, FIX, forall_const, endE_n, endE_r, CHT, disj, Nat.reduceBEq, beq_self_eq_true, APT, APX, forall_eq, ALT, ALU, URo_1.d, g1, en_len, wl, g3]
    refine ES.mk ([], 4) okWs_nil ?_
    simp only [RUX, Nat.reduceAdd, reduceIte, Nat.reduceEqDiff, Nat.reduceLT, Nat.reduceLeDiff, reduceCtorEq, eq_self, FIX, forall_const, endE_n, endE_r, CHT, disj, Nat.reduceBEq, beq_self_eq_true, APT, APX, forall_eq, ALT, ALU, URo_1.d, en_nil]
  obtain ⟨ns, hns, C2⟩ := namesC_ok d hd
  have hnl := nm_len hd hns
  simp only [RUX, Nat.reduceAdd, reduceIte, Nat.reduceEqDiff, Nat.reduceLT, Nat.reduceLeDiff, reduceCtorEq, eq_self, FIX, forall_const, endE_n, endE_r, CHT, disj, Nat.reduceBEq, beq_self_eq_true, APT, APX, forall_eq, ALT, ALU, URo_1.d, g1, en_len, wl, g3]
  refine callC C2 rfl rfl rfl rfl ?_
  simp only [RUX, Nat.reduceAdd, reduceIte, Nat.reduceEqDiff, Nat.reduceLT, Nat.reduceLeDiff, reduceCtorEq, eq_self, FIX, forall_const, endE_n, endE_r, CHT, disj, Nat.reduceBEq, beq_self_eq_true, APT, APX, forall_eq, ALT, ALU, URo_1.d]
  refine AW.upto ns.length (inv71 d ns top) ⟨[], _, rfl, allW_nil, rfl, rfl, rfl, rfl, rfl⟩ fun i t H c hi h => ?_
  obtain ⟨ws, v, hw1, hw2, e4, e6, e7, e5, eH⟩ := h
  simp only [T.c, T.i, tL] at e4 e6 e7 e5 eH
  have ht1 : (en eW ws).take ws.length = en eW ws := en_take eW ws
  by_cases k1 : (i : Int) < ns.length
  · obtain ⟨nm, hx⟩ : ∃ x, ns[i]? = some x := ⟨_, List.getElem?_eq_getElem (by omega)⟩
    have ex := en_at eS hx
    have hsz := nm_size hd hns nm (List.mem_of_getElem? hx)
    have gz : (0 : Int) ≤ i := by omega
    have w2 : IntKind.i64.wrap ((i : Int) + 1) = ((i + 1 : Nat) : Int) := wrap64 (x := (i : Int) + 1) ⟨by omega, by omega⟩
    have q1 : (ws.length + 1) * 40 ≤ 140737488355328 := by omega
    have q2 : ws.length ≤ 9223372036854775806 := by omega
    simp only [RUX, Nat.reduceAdd, reduceIte, Nat.reduceEqDiff, Nat.reduceLT, Nat.reduceLeDiff, reduceCtorEq, eq_self, FIX, forall_const, endE_n, endE_r, CHT, disj, Nat.reduceBEq, beq_self_eq_true, APT, APX, forall_eq, ALT, ALU, URo_3.d, e4, e6, e7, e5, eH, en_len, k1, ex, gz, Int.toNat_natCast, eS, w2, ht1, q1, q2]
    refine ⟨by omega, ws ++ [⟨4, nm, ⟨#[]⟩⟩], c + 4 + 7, by rw [List.length_append, hw1]; rfl, allW_app hw2 (allW_cons ⟨hsz, Nat.zero_le _⟩ allW_nil), e4, e6, rfl, ?_, ?_⟩
    · rw [List.length_append]; rfl
    · rw [en_snoc]; rfl
  · have wt : IntKind.i64.wrap (top + 1) = top + 1 := wrap64 ⟨by omega, by omega⟩
    obtain ⟨w, hw, C3⟩ := decB (n := top + 1) ⟨by omega, by omega⟩
    obtain ⟨o, ho, C4⟩ := planWrite_ok ⟨[], top + 1, 1⟩ ⟨Nat.zero_le _, (fun x h => by cases h), ⟨by simp only; omega, by simp only; omega⟩, ⟨by simp only; omega, by simp only; omega⟩⟩
    have z1 : (⟨#[115]⟩ : ByteArray).size = 1 := rfl
    have z2 : (⟨#[109]⟩ : ByteArray).size = 1 := rfl
    have y1 : (⟨#[115]⟩ : ByteArray).size + w.size ≤ 9223372036854775807 := by omega
    have y2 : (⟨#[109]⟩ : ByteArray).size + w.size ≤ 9223372036854775807 := by omega
    have q1 : (ws.length + 5) * 40 ≤ 140737488355328 := by omega
    have q2 : ws.length + 5 ≤ 9223372036854775807 := by omega
    have q3 : ws.length ≤ 9223372036854775802 := by omega
    have b1 : ((⟨#[115]⟩ : ByteArray) ++ w).size ≤ 1048576 := by rw [ByteArray.size_append]; omega
    have b2 : ((⟨#[109]⟩ : ByteArray) ++ w).size ≤ 1048576 := by rw [ByteArray.size_append]; omega
    have b0 : (⟨#[]⟩ : ByteArray).size ≤ 1048576 := by decide
    simp only [RUX, Nat.reduceAdd, reduceIte, Nat.reduceEqDiff, Nat.reduceLT, Nat.reduceLeDiff, reduceCtorEq, eq_self, FIX, forall_const, endE_n, endE_r, CHT, disj, Nat.reduceBEq, beq_self_eq_true, APT, APX, forall_eq, ALT, ALU, URo_3.d, URo_1.d, e4, e6, e7, e5, eH, en_len, k1, wt]
    refine callC C3 rfl rfl rfl rfl ?_
    simp only [RUX, Nat.reduceAdd, reduceIte, Nat.reduceEqDiff, Nat.reduceLT, Nat.reduceLeDiff, reduceCtorEq, eq_self, FIX, forall_const, endE_n, endE_r, CHT, disj, Nat.reduceBEq, beq_self_eq_true, APT, APX, forall_eq, ALT, ALU, URo_1.d, wt, sStr, y1, e4]
    refine callC C3 rfl rfl rfl rfl ?_
    simp only [RUX, Nat.reduceAdd, reduceIte, Nat.reduceEqDiff, Nat.reduceLT, Nat.reduceLeDiff, reduceCtorEq, eq_self, FIX, forall_const, endE_n, endE_r, CHT, disj, Nat.reduceBEq, beq_self_eq_true, APT, APX, forall_eq, ALT, ALU, URo_1.d, wt, sStr, y2, e4, e5]
    refine callL (ws := []) (ns := []) C4 rfl ?_ rfl rfl ?_
    · simp only [RUX, Nat.reduceAdd, reduceIte, Nat.reduceEqDiff, Nat.reduceLT, Nat.reduceLeDiff, reduceCtorEq, eq_self, FIX, forall_const, endE_n, endE_r, CHT, disj, Nat.reduceBEq, beq_self_eq_true, APT, APX, forall_eq, ALT, ALU, URo_1.d, lendTs, lendT, en_nil]
      rfl
    simp only [RUX, Nat.reduceAdd, reduceIte, Nat.reduceEqDiff, Nat.reduceLT, Nat.reduceLeDiff, reduceCtorEq, eq_self, FIX, forall_const, endE_n, endE_r, CHT, disj, Nat.reduceBEq, beq_self_eq_true, APT, APX, forall_eq, ALT, ALU, URo_1.d, scalarT, scalarP, scalarC, e5, eH, ht1, q1, q2, q3, List.forall_mem_cons, List.not_mem_nil, false_implies, implies_true, and_self]
    obtain ⟨L, hL⟩ : ∃ L : List DW, L = [⟨1, ⟨#[115]⟩ ++ w, ⟨#[]⟩⟩, ⟨1, ⟨#[109]⟩ ++ w, ⟨#[]⟩⟩, ⟨2, ⟨#[109]⟩ ++ w, o⟩, ⟨3, ⟨#[109]⟩ ++ w, ⟨#[]⟩⟩, ⟨5, ⟨#[]⟩, ⟨#[]⟩⟩] := ⟨_, rfl⟩
    have hLw : ∀ w ∈ L, fineDW w := by
      rw [hL]
      exact allW_cons ⟨b1, b0⟩ (allW_cons ⟨b2, b0⟩ (allW_cons ⟨b2, by simp only; omega⟩ (allW_cons ⟨b2, b0⟩ (allW_cons ⟨b0, b0⟩ allW_nil))))
    have hLl : L.length = 5 := by rw [hL]; rfl
    refine ES.mk (α := List DW × Int) (ws ++ L, 0) ⟨by simp only [List.length_append, hLl]; omega, allW_app hw2 hLw⟩ ?_
    simp only [RUX, Nat.reduceAdd, reduceIte, Nat.reduceEqDiff, Nat.reduceLT, Nat.reduceLeDiff, reduceCtorEq, eq_self, FIX, forall_const, endE_n, endE_r, CHT, disj, Nat.reduceBEq, beq_self_eq_true, APT, APX, forall_eq, ALT, ALU, URo_1.d, en_app, hL, en_cons2, en_nil, eW]
    rw [List.take_of_length_le (by simp only [List.length_append, en_len, List.length_cons, List.length_nil]; omega)]
/- loop.example/teagle/spec.l44Ours -/
def r80_0 : List AOper := [ao 0 2 (.box 99 (.t 0)),
  ao 1 4 (.mv (.k (.b false)))]
def r80_1 : List AOper := [ao 0 6 (.mv (.t 1)),
  ao 1 7 (.fa 1 (.t 2)),
  ao 2 8 (.ld 1 false (.t 7)),
  ao 3 9 (.call (.k (.c (.fn 64 []))) [(.t 8)]),
  ao 4 10 (.bin .add (.k (.s (.string ⟨#[109]⟩))) (.t 9)),
  ao 5 11 (.bin .eql (.t 6) (.t 10)),
  ao 6 12 (.mv (.t 11)),
  ag 7 13 12 false [] (.mv (.t 1)),
  ag 8 14 12 false [] (.fa 2 (.t 2)),
  ag 9 15 12 false [] (.fa 1 (.t 14)),
  ag 10 16 12 false [] (.ld 1 false (.t 15)),
  ag 11 17 12 false [] (.call (.k (.c (.fn 64 []))) [(.t 16)]),
  ag 12 18 12 false [] (.bin .add (.k (.s (.string ⟨#[115]⟩))) (.t 17)),
  ag 13 19 12 false [] (.bin .eql (.t 13) (.t 18)),
  ao 14 20 (.pick (.t 12) (.k (.b true)) (.t 19))]
def r80_2 : List AOper := [ao 0 4 (.mv (.k (.b true)))]
def c80_3 : ACode := .seq (.reg r80_2) .ret
def c80_4 : ACode := .cond (.t 20) c80_3 .skip
def c80_5 : ACode := .seq (.reg r80_1) c80_4
def r80_6 : List AOper := [ao 0 5 (.mv (.k (.i 0)))]
def r80_7 : List AOper := [ao 0 21 (.mv (.t 5)),
  ao 1 22 (.fa 2 (.t 2)),
  ao 2 23 (.fa 0 (.t 22)),
  ao 3 24 (.ld 1 false (.t 23)),
  ao 4 25 (.len (.t 24)),
  ao 5 26 (.bin .lss (.t 21) (.t 25))]
def c80_8 : ACode := .cond (.t 26) .skip (.exit 0)
def c80_9 : ACode := .seq (.reg r80_7) c80_8
def r80_10 : List AOper := [ao 0 29 (.mv (.t 1)),
  ao 1 30 (.fa 2 (.t 2)),
  ao 2 31 (.fa 0 (.t 30)),
  ao 3 32 (.ld 1 false (.t 31)),
  ao 4 33 (.mv (.t 5)),
  ao 5 34 (.ia 4 (.t 32) (.t 33)),
  ao 6 35 (.fa 0 (.t 34)),
  ao 7 36 (.ld 1 false (.t 35)),
  ao 8 37 (.call (.k (.c (.fn 64 []))) [(.t 36)]),
  ao 9 38 (.bin .add (.k (.s (.string ⟨#[115]⟩))) (.t 37)),
  ao 10 39 (.bin .eql (.t 29) (.t 38))]
def r80_11 : List AOper := [ao 0 4 (.mv (.k (.b true)))]
def c80_12 : ACode := .seq (.reg r80_11) .ret
def c80_13 : ACode := .cond (.t 39) c80_12 .skip
def c80_14 : ACode := .seq (.reg r80_10) c80_13
def c80_15 : ACode := .block 1 c80_14
def r80_16 : List AOper := [ao 0 27 (.mv (.t 5)),
  ao 1 28 (.bin .add (.t 27) (.k (.i 1))),
  ao 2 5 (.mv (.t 28))]
def c80_17 : ACode := .seq c80_9 (.seq c80_15 (.reg r80_16))
def c80_18 : ACode := .loop c80_17
def c80_19 : ACode := .block 0 c80_18
def c80_20 : ACode := .seq (.reg r80_6) c80_19
def r80_21 : List AOper := [ao 0 4 (.mv (.k (.b false)))]
def c80 : ACode := .seq (.reg r80_0) (.seq c80_5 (.seq c80_20 (.seq (.reg r80_21) .ret)))
def s80 : List ARes := [.tmp 4]
theorem ok80 : okF Try.prog 80 40 c80 s80 := ⟨Try.f80, Try.func80, Try.ntmps80, by kernel_rfl, by kernel_rfl, by kernel_rfl⟩
def inv80 (s : LS) (nm : ByteArray) (i : Nat) (σ : St) : Prop := (∃ u, σ.t 2 = .c (.ptr 2 u 0) ∧ σ.H 2 = some (.var u 99 (cLS s))) ∧ σ.t 1 = tS nm ∧ σ.t 5 = .i i
def URo_2 := Bx.mk <|
  aN (uA c80.eq_1) <| aN (uR r80_0.eq_1) <| aN (uA c80_5.eq_1) <| aN (uR r80_1.eq_1) <| aN (uA c80_4.eq_1) <| aN (uA c80_3.eq_1) <| aN (uR r80_2.eq_1) <| aN (uA c80_20.eq_1) <| aN (uR r80_6.eq_1) <| aN (uA c80_19.eq_1) <| aN (uA c80_18.eq_1) <| aN (uR r80_21.eq_1) <| s80.eq_1
def URo_4 := Bx.mk <|
  aN (uA c80_17.eq_1) <| aN (uA c80_9.eq_1) <| aN (uR r80_7.eq_1) <| aN (uA c80_8.eq_1) <| aN (uA c80_15.eq_1) <| aN (uA c80_14.eq_1) <| aN (uR r80_10.eq_1) <| aN (uA c80_13.eq_1) <| aN (uA c80_12.eq_1) <| aN (uR r80_11.eq_1) <| aN (uR r80_16.eq_1) <| aN (uA c80.eq_1) <| aN (uR r80_0.eq_1) <| aN (uA c80_5.eq_1) <| aN (uR r80_1.eq_1) <| aN (uA c80_4.eq_1) <| aN (uA c80_3.eq_1) <| aN (uR r80_2.eq_1) <| aN (uA c80_20.eq_1) <| aN (uR r80_6.eq_1) <| aN (uA c80_19.eq_1) <| aN (uA c80_18.eq_1) <| aN (uR r80_21.eq_1) <| s80.eq_1
theorem ours_ok (s : LS) (hs : okLS s) (nm : ByteArray) : PC 80 [tLS s, tS nm] (fun _ : Bool => True) .b := by
  have hpl := hs.plan.len
  obtain ⟨w1, hw1, C1⟩ := decB (n := s.num) ⟨hs.num.1, by have := hs.num.2; omega⟩
  obtain ⟨w2, hw2, C2⟩ := decB hs.plan.opn
  have z1 : (⟨#[115]⟩ : ByteArray).size = 1 := rfl
  have z2 : (⟨#[109]⟩ : ByteArray).size = 1 := rfl
  have y1 : (⟨#[109]⟩ : ByteArray).size + w1.size ≤ 9223372036854775807 := by omega
  have y2 : (⟨#[115]⟩ : ByteArray).size + w2.size ≤ 9223372036854775807 := by omega
  refine PC.intro ok80 rfl (fun _ => rfl) fun X => ?_
  simp only [RUX, Nat.reduceAdd, reduceIte, Nat.reduceEqDiff, Nat.reduceLT, Nat.reduceLeDiff, reduceCtorEq, eq_self, FIX, forall_const, endE_n, endE_r, CHT, disj, Nat.reduceBEq, beq_self_eq_true, APT, APX, forall_eq, ALT, ALU, URo_2.d]
  refine callC C1 rfl rfl rfl rfl ?_
  by_cases f1 : (nm.toList == ((⟨#[109]⟩ : ByteArray) ++ w1).toList) = true
  · simp only [RUX, Nat.reduceAdd, reduceIte, Nat.reduceEqDiff, Nat.reduceLT, Nat.reduceLeDiff, reduceCtorEq, eq_self, FIX, forall_const, endE_n, endE_r, CHT, disj, Nat.reduceBEq, beq_self_eq_true, APT, APX, forall_eq, ALT, ALU, URo_2.d, sStr, y1, f1]
    refine ES.mk true trivial ?_
    simp only [RUX, Nat.reduceAdd, reduceIte, Nat.reduceEqDiff, Nat.reduceLT, Nat.reduceLeDiff, reduceCtorEq, eq_self, FIX, forall_const, endE_n, endE_r, CHT, disj, Nat.reduceBEq, beq_self_eq_true, APT, APX, forall_eq, ALT, ALU, URo_2.d]
  rw [Bool.not_eq_true] at f1
  simp only [RUX, Nat.reduceAdd, reduceIte, Nat.reduceEqDiff, Nat.reduceLT, Nat.reduceLeDiff, reduceCtorEq, eq_self, FIX, forall_const, endE_n, endE_r, CHT, disj, Nat.reduceBEq, beq_self_eq_true, APT, APX, forall_eq, ALT, ALU, URo_2.d, sStr, y1, f1]
  refine callC C2 rfl rfl rfl rfl ?_
  by_cases f2 : (nm.toList == ((⟨#[115]⟩ : ByteArray) ++ w2).toList) = true
  · simp only [RUX, Nat.reduceAdd, reduceIte, Nat.reduceEqDiff, Nat.reduceLT, Nat.reduceLeDiff, reduceCtorEq, eq_self, FIX, forall_const, endE_n, endE_r, CHT, disj, Nat.reduceBEq, beq_self_eq_true, APT, APX, forall_eq, ALT, ALU, URo_2.d, sStr, y1, f1, y2, f2]
    refine ES.mk true trivial ?_
    simp only [RUX, Nat.reduceAdd, reduceIte, Nat.reduceEqDiff, Nat.reduceLT, Nat.reduceLeDiff, reduceCtorEq, eq_self, FIX, forall_const, endE_n, endE_r, CHT, disj, Nat.reduceBEq, beq_self_eq_true, APT, APX, forall_eq, ALT, ALU, URo_2.d]
  rw [Bool.not_eq_true] at f2
  simp only [RUX, Nat.reduceAdd, reduceIte, Nat.reduceEqDiff, Nat.reduceLT, Nat.reduceLeDiff, reduceCtorEq, eq_self, FIX, forall_const, endE_n, endE_r, CHT, disj, Nat.reduceBEq, beq_self_eq_true, APT, APX, forall_eq, ALT, ALU, URo_2.d, sStr, y1, f1, y2, f2]
  refine AW.upto s.plan.parts.length (inv80 s nm) ⟨⟨_, rfl, rfl⟩, rfl, rfl⟩ fun i t H c hi h => ?_
  obtain ⟨⟨u, e2, eH⟩, e1, e5⟩ := h
  simp only [T.c, T.i, T.s] at e2 eH e1 e5
  by_cases k1 : (i : Int) < s.plan.parts.length
  rotate_left
  · simp only [RUX, Nat.reduceAdd, reduceIte, Nat.reduceEqDiff, Nat.reduceLT, Nat.reduceLeDiff, reduceCtorEq, eq_self, FIX, forall_const, endE_n, endE_r, CHT, disj, Nat.reduceBEq, beq_self_eq_true, APT, APX, forall_eq, ALT, ALU, URo_4.d, URo_2.d, e2, eH, e1, e5, en_len, k1]
    refine ES.mk false trivial ?_
    simp only [RUX, Nat.reduceAdd, reduceIte, Nat.reduceEqDiff, Nat.reduceLT, Nat.reduceLeDiff, reduceCtorEq, eq_self, FIX, forall_const, endE_n, endE_r, CHT, disj, Nat.reduceBEq, beq_self_eq_true, APT, APX, forall_eq, ALT, ALU, URo_2.d]
  obtain ⟨x, hx⟩ : ∃ x, s.plan.parts[i]? = some x := ⟨_, List.getElem?_eq_getElem (by omega)⟩
  have ex := en_at eP hx
  have gz : (0 : Int) ≤ i := by omega
  have wi : IntKind.i64.wrap ((i : Int) + 1) = ((i + 1 : Nat) : Int) := wrap64 (x := (i : Int) + 1) ⟨by omega, by omega⟩
  obtain ⟨w3, hw3, C3⟩ := decB (hs.plan.part x (List.mem_of_getElem? hx)).1
  have y3 : (⟨#[115]⟩ : ByteArray).size + w3.size ≤ 9223372036854775807 := by omega
  simp only [RUX, Nat.reduceAdd, reduceIte, Nat.reduceEqDiff, Nat.reduceLT, Nat.reduceLeDiff, reduceCtorEq, eq_self, FIX, forall_const, endE_n, endE_r, CHT, disj, Nat.reduceBEq, beq_self_eq_true, APT, APX, forall_eq, ALT, ALU, URo_4.d, e2, eH, e1, e5, en_len, k1, ex, gz, Int.toNat_natCast, eP]
  refine callC C3 rfl rfl rfl rfl ?_
  by_cases f3 : (nm.toList == ((⟨#[115]⟩ : ByteArray) ++ w3).toList) = true
  · simp only [RUX, Nat.reduceAdd, reduceIte, Nat.reduceEqDiff, Nat.reduceLT, Nat.reduceLeDiff, reduceCtorEq, eq_self, FIX, forall_const, endE_n, endE_r, CHT, disj, Nat.reduceBEq, beq_self_eq_true, APT, APX, forall_eq, ALT, ALU, URo_4.d, e2, eH, e1, e5, sStr, y3, f3]
    refine ES.mk true trivial ?_
    simp only [RUX, Nat.reduceAdd, reduceIte, Nat.reduceEqDiff, Nat.reduceLT, Nat.reduceLeDiff, reduceCtorEq, eq_self, FIX, forall_const, endE_n, endE_r, CHT, disj, Nat.reduceBEq, beq_self_eq_true, APT, APX, forall_eq, ALT, ALU, s80]
  rw [Bool.not_eq_true] at f3
  simp only [RUX, Nat.reduceAdd, reduceIte, Nat.reduceEqDiff, Nat.reduceLT, Nat.reduceLeDiff, reduceCtorEq, eq_self, FIX, forall_const, endE_n, endE_r, CHT, disj, Nat.reduceBEq, beq_self_eq_true, APT, APX, forall_eq, ALT, ALU, URo_4.d, e2, eH, e1, e5, sStr, y3, f3, wi]
  exact ⟨by omega, ⟨u, e2, eH⟩, e1, rfl⟩
end Go.V
set_option linter.unusedSimpArgs false
namespace Go.V
open Go.Proofs
theorem smF_keep {d : Dk} (hd : fineDk d) (hD : DOk d) {ns : List ByteArray} (hn : ns.length ≤ 3000000) (hm : ∀ x ∈ ns, x ∈ made d) : smF (keepD d ns) := by
  refine ⟨by show (ns.map _).length ≤ _; rw [List.length_map]; omega, fun f hf => ?_⟩
  obtain ⟨x, hx, rfl⟩ := List.mem_map.1 (show f ∈ ns.map (fileOf d.files) from hf)
  obtain ⟨i, _, k2, _⟩ := hD.find (hm x hx)
  have := (hd.f _ (List.mem_of_getElem? k2)).1
  omega
/- loop.example/teagle/spec.l44Mend -/
def r72_0 : List AOper := [ao 0 2 (.box 27 (.t 0)),
  ao 1 3 (.box 99 (.t 1)),
  ao 2 4 (.mv (.k (.c .nil0))),
  ao 3 5 (.mv (.k (.i 0)))]
def r72_1 : List AOper := [ao 0 12 (.fa 2 (.t 3)),
  ao 1 13 (.fa 1 (.t 12)),
  ao 2 14 (.ld 1 false (.t 13)),
  ao 3 15 (.call (.k (.c (.fn 64 []))) [(.t 14)]),
  ao 4 16 (.bin .add (.k (.s (.string ⟨#[115]⟩))) (.t 15)),
  ao 5 17 (.build [(.v (.s (.int .i64 0))), (.v (.s (.string ⟨#[]⟩))), (.v (.s (.string ⟨#[]⟩)))] [(0, 1, (.k (.i 3))), (1, 1, (.t 16))]),
  ao 6 18 (.bsl 3 29 [(.t 17)]),
  ao 7 6 (.mv (.t 18))]
def r72_2 : List AOper := [ao 0 19 (.ld 3 true (.t 2)),
  ao 1 20 (.call (.k (.c (.fn 27 []))) [(.t 19)]),
  ao 2 7 (.mv (.t 20))]
def r72_3 : List AOper := [ao 0 21 (.bsl 1 9 []),
  ao 1 8 (.mv (.t 21))]
def r72_4 : List AOper := [ao 0 9 (.mv (.k (.i 0)))]
def r72_5 : List AOper := [ao 0 22 (.mv (.t 9)),
  ao 1 23 (.mv (.t 7)),
  ao 2 24 (.len (.t 23)),
  ao 3 25 (.bin .lss (.t 22) (.t 24))]
def c72_6 : ACode := .cond (.t 25) .skip (.exit 0)
def c72_7 : ACode := .seq (.reg r72_5) c72_6
def r72_8 : List AOper := [ao 0 28 (.ld 9 true (.t 3)),
  au 1 29 [0] (.mv (.t 7)),
  au 2 30 [0, 1] (.mv (.t 9)),
  au 3 31 [0] (.ia 1 (.t 29) (.t 30)),
  au 4 32 [0] (.ld 1 false (.t 31)),
  ao 5 33 (.call (.k (.c (.fn 80 []))) [(.t 28), (.t 32)])]
def r72_9 : List AOper := [ao 0 34 (.mv (.t 8)),
  ao 1 35 (.mv (.t 7)),
  ao 2 36 (.mv (.t 9)),
  ao 3 37 (.ia 1 (.t 35) (.t 36)),
  ao 4 38 (.ld 1 false (.t 37)),
  ao 5 39 (.bsl 1 9 [(.t 38)]),
  ao 6 40 (.app 1 9 16 (.t 34) (.t 39)),
  ao 7 8 (.mv (.t 40))]
def r72_10 : List AOper := [ao 0 41 (.mv (.t 6)),
  ao 1 42 (.mv (.t 7)),
  ao 2 43 (.mv (.t 9)),
  ao 3 44 (.ia 1 (.t 42) (.t 43)),
  ao 4 45 (.ld 1 false (.t 44)),
  ao 5 46 (.build [(.v (.s (.int .i64 0))), (.v (.s (.string ⟨#[]⟩))), (.v (.s (.string ⟨#[]⟩)))] [(0, 1, (.k (.i 4))), (1, 1, (.t 45))]),
  ao 6 47 (.bsl 3 29 [(.t 46)]),
  ao 7 48 (.app 3 29 40 (.t 41) (.t 47)),
  ao 8 6 (.mv (.t 48))]
def c72_11 : ACode := .cond (.t 33) (.reg r72_9) (.reg r72_10)
def c72_12 : ACode := .seq (.reg r72_8) c72_11
def c72_13 : ACode := .block 1 c72_12
def r72_14 : List AOper := [ao 0 26 (.mv (.t 9)),
  ao 1 27 (.bin .add (.t 26) (.k (.i 1))),
  ao 2 9 (.mv (.t 27))]
def c72_15 : ACode := .seq c72_7 (.seq c72_13 (.reg r72_14))
def c72_16 : ACode := .loop c72_15
def c72_17 : ACode := .block 0 c72_16
def c72_18 : ACode := .seq (.reg r72_4) c72_17
def r72_19 : List AOper := [ao 0 49 (.mv (.t 6)),
  ao 1 50 (.build [(.v (.s (.int .i64 0))), (.v (.s (.string ⟨#[]⟩))), (.v (.s (.string ⟨#[]⟩)))] [(0, 1, (.k (.i 5)))]),
  ao 2 51 (.bsl 3 29 [(.t 50)]),
  ao 3 52 (.app 3 29 40 (.t 49) (.t 51)),
  ao 4 6 (.mv (.t 52))]
def r72_20 : List AOper := [ao 0 53 (.fa 6 (.t 3)),
  ao 1 54 (.ld 1 false (.t 53)),
  ao 2 55 (.un .not (.t 54))]
def r72_21 : List AOper := [ao 0 56 (.mv (.t 6)),
  ao 1 4 (.mv (.t 56)),
  ao 2 5 (.mv (.k (.i 0)))]
def c72_22 : ACode := .seq (.reg r72_21) .ret
def c72_23 : ACode := .cond (.t 55) c72_22 .skip
def c72_24 : ACode := .seq (.reg r72_20) c72_23
def r72_25 : List AOper := [ao 0 58 (.ld 3 true (.t 2)),
  au 1 59 [0] (.mv (.t 8)),
  ao 2 60 (.call (.k (.c (.fn 26 []))) [(.t 58), (.t 59)]),
  au 3 61 (ru 3) (.ld 9 true (.t 3)),
  ao 4 62 (.call (.k (.c (.fn 73 []))) [(.t 60), (.t 61)]),
  ao 5 57 (.mv (.t 62)),
  ao 6 63 (.ext 0 (.t 57)),
  au 7 64 [6] (.ext 1 (.t 57)),
  au 8 10 [7] (.mv (.t 63)),
  ao 9 11 (.mv (.t 64))]
def r72_26 : List AOper := [ao 0 65 (.mv (.t 11)),
  ao 1 66 (.bin .neq (.t 65) (.k (.i 0)))]
def r72_27 : List AOper := [ao 0 67 (.bsl 3 29 []),
  ao 1 68 (.mv (.t 11)),
  ao 2 4 (.mv (.t 67)),
  ao 3 5 (.mv (.t 68))]
def c72_28 : ACode := .seq (.reg r72_27) .ret
def c72_29 : ACode := .cond (.t 66) c72_28 .skip
def c72_30 : ACode := .seq (.reg r72_26) c72_29
def r72_31 : List AOper := [ao 0 69 (.mv (.t 6)),
  ao 1 70 (.mv (.t 10)),
  ao 2 71 (.app 3 29 40 (.t 69) (.t 70)),
  ao 3 4 (.mv (.t 71)),
  ao 4 5 (.mv (.k (.i 0)))]
def c72 : ACode := .seq (.reg r72_0) (.seq (.reg r72_1) (.seq (.reg r72_2) (.seq (.reg r72_3) (.seq c72_18 (.seq (.reg r72_19) (.seq c72_24 (.seq (.reg r72_25) (.seq c72_30 (.seq (.reg r72_31) .ret)))))))))
def s72 : List ARes := [.tmp 4, .tmp 5]
theorem ok72 : okF Try.prog 72 72 c72 s72 := ⟨Try.f72, Try.func72, Try.ntmps72, by kernel_rfl, by kernel_rfl, by kernel_rfl⟩
def inv72 (d : Dk) (s : LS) (ns : List ByteArray) (i : Nat) (σ : St) : Prop := ∃ (ws : List DW) (ls : List ByteArray) (v v2 : Nat), ws.length ≤ i + 1 ∧ ls.length ≤ i ∧ (∀ w ∈ ws, fineDW w) ∧ (∀ x ∈ ls, x ∈ ns) ∧ (∃ u, σ.t 2 = .c (.ptr 2 u 0) ∧ σ.H 2 = some (.var u 27 (cDk d))) ∧ (∃ u, σ.t 3 = .c (.ptr 3 u 0) ∧ σ.H 3 = some (.var u 99 (cLS s))) ∧ σ.t 7 = tL (en eS ns) ∧ σ.t 9 = .i i ∧ (σ.t 6 = .c (.own 18 v ws.length) ∧ σ.H 18 = some (.arr v true 3 29 (en eW ws))) ∧ (σ.t 8 = .c (.own 21 v2 ls.length) ∧ σ.H 21 = some (.arr v2 true 1 9 (en eS ls)))
def URp_1 := Bx.mk <|
  aN (uA c72.eq_1) <| aN (uR r72_0.eq_1) <| aN (uR r72_1.eq_1) <| aN (uR r72_2.eq_1) <| aN (uR r72_3.eq_1) <| aN (uA c72_18.eq_1) <| aN (uR r72_4.eq_1) <| aN (uA c72_17.eq_1) <| aN (uA c72_16.eq_1) <| aN (uR r72_19.eq_1) <| aN (uA c72_24.eq_1) <| aN (uR r72_20.eq_1) <| aN (uA c72_23.eq_1) <| aN (uA c72_22.eq_1) <| aN (uR r72_21.eq_1) <| aN (uR r72_25.eq_1) <| aN (uA c72_30.eq_1) <| aN (uR r72_26.eq_1) <| aN (uA c72_29.eq_1) <| aN (uA c72_28.eq_1) <| aN (uR r72_27.eq_1) <| aN (uR r72_31.eq_1) <| s72.eq_1
def URp_2 := Bx.mk <|
  aN (uA c72_15.eq_1) <| aN (uA c72_7.eq_1) <| aN (uR r72_5.eq_1) <| aN (uA c72_6.eq_1) <| aN (uA c72_13.eq_1) <| aN (uA c72_12.eq_1) <| aN (uR r72_8.eq_1) <| aN (uA c72_11.eq_1) <| aN (uR r72_9.eq_1) <| aN (uR r72_10.eq_1) <| aN (uR r72_14.eq_1) <| aN (uA c72.eq_1) <| aN (uR r72_0.eq_1) <| aN (uR r72_1.eq_1) <| aN (uR r72_2.eq_1) <| aN (uR r72_3.eq_1) <| aN (uA c72_18.eq_1) <| aN (uR r72_4.eq_1) <| aN (uA c72_17.eq_1) <| aN (uA c72_16.eq_1) <| aN (uR r72_19.eq_1) <| aN (uA c72_24.eq_1) <| aN (uR r72_20.eq_1) <| aN (uA c72_23.eq_1) <| aN (uA c72_22.eq_1) <| aN (uR r72_21.eq_1) <| aN (uR r72_25.eq_1) <| aN (uA c72_30.eq_1) <| aN (uR r72_26.eq_1) <| aN (uA c72_29.eq_1) <| aN (uA c72_28.eq_1) <| aN (uR r72_27.eq_1) <| aN (uR r72_31.eq_1) <| s72.eq_1
set_option maxHeartbeats 1000000 in
theorem mend_ok (d : Dk) (hd : fineDk d) (hD : DOk d) (s : LS) (hs : okLS s) : PC 72 [tDk d, tLS s] (fun x : List DW × Int => okWs x.1) (fun x => tWI x.1 x.2) := by
  obtain ⟨w1, hw1, C1⟩ := decB hs.plan.opn
  obtain ⟨ns, hns, C2⟩ := namesC_ok d hd
  have hnl := nm_len hd hns
  have hne : ns = aft d.names d.moves := by
    rcases hns with ⟨_, h⟩ | ⟨h, _⟩
    · exact h
    · exact absurd hD h
  have z1 : (⟨#[115]⟩ : ByteArray).size = 1 := rfl
  have y1 : (⟨#[115]⟩ : ByteArray).size + w1.size ≤ 9223372036854775807 := by omega
  have b1 : ((⟨#[115]⟩ : ByteArray) ++ w1).size ≤ 1048576 := by rw [ByteArray.size_append]; omega
  refine PC.intro ok72 rfl (fun _ => rfl) fun X => ?_
  simp only [RUX, Nat.reduceAdd, reduceIte, Nat.reduceEqDiff, Nat.reduceLT, Nat.reduceLeDiff, reduceCtorEq, eq_self, FIX, forall_const, endE_n, endE_r, CHT, disj, Nat.reduceBEq, beq_self_eq_true, APT, APX, forall_eq, ALT, ALU, URp_1.d]
  refine callC C1 rfl rfl rfl rfl ?_
  simp only [RUX, Nat.reduceAdd, reduceIte, Nat.reduceEqDiff, Nat.reduceLT, Nat.reduceLeDiff, reduceCtorEq, eq_self, FIX, forall_const, endE_n, endE_r, CHT, disj, Nat.reduceBEq, beq_self_eq_true, APT, APX, forall_eq, ALT, ALU, URp_1.d, sStr, y1]
  refine callC C2 rfl rfl rfl rfl ?_
  simp only [RUX, Nat.reduceAdd, reduceIte, Nat.reduceEqDiff, Nat.reduceLT, Nat.reduceLeDiff, reduceCtorEq, eq_self, FIX, forall_const, endE_n, endE_r, CHT, disj, Nat.reduceBEq, beq_self_eq_true, APT, APX, forall_eq, ALT, ALU, URp_1.d]
  refine AW.upto ns.length (inv72 d s ns) ⟨[⟨3, ⟨#[115]⟩ ++ w1, ⟨#[]⟩⟩], [], _, _, Nat.le_refl _, Nat.le_refl _, allW_cons ⟨b1, Nat.zero_le _⟩ allW_nil, (fun x h => by cases h), ⟨_, rfl, rfl⟩, ⟨_, rfl, rfl⟩, rfl, rfl, ⟨rfl, rfl⟩, ⟨rfl, rfl⟩⟩ fun i t H c hi h => ?_
  obtain ⟨ws, ls, v, v2, h1, h2, h3, h4, ⟨u2, e2, eH2⟩, ⟨u3, e3, eH3⟩, e7, e9, ⟨e6, eH6⟩, ⟨e8, eH8⟩⟩ := h
  simp only [T.c, T.i, tL] at e2 eH2 e3 eH3 e7 e9 e6 eH6 e8 eH8
  have ht1 : (en eW ws).take ws.length = en eW ws := en_take eW ws
  have ht2 : (en eS ls).take ls.length = en eS ls := en_take eS ls
  have q1 : (ws.length + 1) * 40 ≤ 140737488355328 := by omega
  have q2 : ws.length ≤ 9223372036854775806 := by omega
  have q3 : (ls.length + 1) * 16 ≤ 140737488355328 := by omega
  have q4 : ls.length ≤ 9223372036854775806 := by omega
  by_cases k1 : (i : Int) < ns.length
  · obtain ⟨nm, hx⟩ : ∃ x, ns[i]? = some x := ⟨_, List.getElem?_eq_getElem (by omega)⟩
    have ex := en_at eS hx
    have hnm := List.mem_of_getElem? hx
    have hsz := nm_size hd hns nm hnm
    have gz : (0 : Int) ≤ i := by omega
    have w2 : IntKind.i64.wrap ((i : Int) + 1) = ((i + 1 : Nat) : Int) := wrap64 (x := (i : Int) + 1) ⟨by omega, by omega⟩
    obtain ⟨b, -, C3⟩ := ours_ok s hs nm
    simp only [RUX, Nat.reduceAdd, reduceIte, Nat.reduceEqDiff, Nat.reduceLT, Nat.reduceLeDiff, reduceCtorEq, eq_self, FIX, forall_const, endE_n, endE_r, CHT, disj, Nat.reduceBEq, beq_self_eq_true, APT, APX, forall_eq, ALT, ALU, URp_2.d, e2, eH2, e3, eH3, e7, e9, e6, eH6, e8, eH8, en_len, k1, ex, gz, Int.toNat_natCast, eS]
    refine callC C3 rfl rfl rfl rfl ?_
    cases b with
    | true =>
      simp only [RUX, Nat.reduceAdd, reduceIte, Nat.reduceEqDiff, Nat.reduceLT, Nat.reduceLeDiff, reduceCtorEq, eq_self, FIX, forall_const, endE_n, endE_r, CHT, disj, Nat.reduceBEq, beq_self_eq_true, APT, APX, forall_eq, ALT, ALU, URp_2.d, e2, eH2, e3, eH3, e7, e9, e6, eH6, e8, eH8, en_len, k1, ex, gz, Int.toNat_natCast, eS, w2, ht2, q3, q4]
      refine ⟨by omega, ws, ls ++ [nm], v, c + 4 + 6 + 6, by omega, by rw [List.length_append]; simp only [List.length_singleton]; omega, h3, fun x hx => ?_, ⟨u2, e2, eH2⟩, ⟨u3, e3, eH3⟩, e7, rfl, ⟨e6, eH6⟩, ?_, ?_⟩
      rotate_left
      · rw [List.length_append]; rfl
      · rw [en_snoc]; rfl
      · rcases List.mem_append.1 hx with h | h
        · exact h4 x h
        · rw [List.mem_singleton.1 h]; exact hnm
    | false =>
      simp only [RUX, Nat.reduceAdd, reduceIte, Nat.reduceEqDiff, Nat.reduceLT, Nat.reduceLeDiff, reduceCtorEq, eq_self, FIX, forall_const, endE_n, endE_r, CHT, disj, Nat.reduceBEq, beq_self_eq_true, APT, APX, forall_eq, ALT, ALU, URp_2.d, e2, eH2, e3, eH3, e7, e9, e6, eH6, e8, eH8, en_len, k1, ex, gz, Int.toNat_natCast, eS, w2, ht1, q1, q2]
      refine ⟨by omega, ws ++ [⟨4, nm, ⟨#[]⟩⟩], ls, c + 4 + 6 + 7, v2, by rw [List.length_append]; simp only [List.length_singleton]; omega, by omega, allW_app h3 (allW_cons ⟨hsz, Nat.zero_le _⟩ allW_nil), h4, ⟨u2, e2, eH2⟩, ⟨u3, e3, eH3⟩, e7, rfl, ⟨?_, ?_⟩, ⟨e8, eH8⟩⟩
      · rw [List.length_append]; rfl
      · rw [en_snoc]; rfl
  · have hmade : ∀ x ∈ ls, x ∈ made d := fun x hx => DOk.aft_made (n := d.moves.length) (by rw [List.take_length, ← hne]; exact h4 x hx)
    have hE : (en eW ws ++ [[V.s (.int .i64 5), V.s (.string ⟨#[]⟩), V.s (.string ⟨#[]⟩)]]) = en eW (ws ++ [⟨5, ⟨#[]⟩, ⟨#[]⟩⟩]) := by rw [en_snoc]; rfl
    have hW2 : ∀ w ∈ ws ++ [⟨5, ⟨#[]⟩, ⟨#[]⟩⟩], fineDW w := allW_app h3 (allW_cons ⟨Nat.zero_le _, Nat.zero_le _⟩ allW_nil)
    have hl2 : (ws ++ [(⟨5, ⟨#[]⟩, ⟨#[]⟩⟩ : DW)]).length = ws.length + 1 := by simp
    have ht3 : (en eW (ws ++ [⟨5, ⟨#[]⟩, ⟨#[]⟩⟩])).take (ws.length + 1) = en eW (ws ++ [⟨5, ⟨#[]⟩, ⟨#[]⟩⟩]) := by rw [← hl2]; exact en_take eW _
    cases hto : s.torn with
    | false =>
      simp only [RUX, Nat.reduceAdd, reduceIte, Nat.reduceEqDiff, Nat.reduceLT, Nat.reduceLeDiff, reduceCtorEq, eq_self, FIX, forall_const, endE_n, endE_r, CHT, disj, Nat.reduceBEq, beq_self_eq_true, APT, APX, forall_eq, ALT, ALU, URp_2.d, URp_1.d, e2, eH2, e3, eH3, e7, e9, e6, eH6, e8, eH8, en_len, k1, ht1, q1, q2, hto]
      refine ES.mk (α := List DW × Int) (ws ++ [⟨5, ⟨#[]⟩, ⟨#[]⟩⟩], 0) ⟨by simp only [List.length_append, List.length_singleton]; omega, hW2⟩ ?_
      simp only [RUX, Nat.reduceAdd, reduceIte, Nat.reduceEqDiff, Nat.reduceLT, Nat.reduceLeDiff, reduceCtorEq, eq_self, FIX, forall_const, endE_n, endE_r, CHT, disj, Nat.reduceBEq, beq_self_eq_true, APT, APX, forall_eq, ALT, ALU, URp_1.d, hE, ht3, en_len, hl2]
    | true =>
      have C4 := keep_ok d hd hD ls (by omega) hmade
      obtain ⟨⟨more, code⟩, ⟨hmo, hm1⟩, C5⟩ := close_ok (keepD d ls) (smF_keep hd hD (by omega) hmade) s hs
      simp only [RUX, Nat.reduceAdd, reduceIte, Nat.reduceEqDiff, Nat.reduceLT, Nat.reduceLeDiff, reduceCtorEq, eq_self, FIX, forall_const, endE_n, endE_r, CHT, disj, Nat.reduceBEq, beq_self_eq_true, APT, APX, forall_eq, ALT, ALU, URp_2.d, URp_1.d, e2, eH2, e3, eH3, e7, e9, e6, eH6, e8, eH8, en_len, k1, ht1, q1, q2, hto]
      refine callL (ws := [(21, .arr v2 false 1 9 (en eS ls))]) (ns := [21]) C4 rfl ?_ rfl rfl ?_
      · simp only [RUX, Nat.reduceAdd, reduceIte, Nat.reduceEqDiff, Nat.reduceLT, Nat.reduceLeDiff, reduceCtorEq, eq_self, FIX, forall_const, endE_n, endE_r, CHT, disj, Nat.reduceBEq, beq_self_eq_true, APT, APX, forall_eq, ALT, ALU, URp_1.d, lendTs, lendT, eH8, ht2, en_len]
      simp only [RUX, Nat.reduceAdd, reduceIte, Nat.reduceEqDiff, Nat.reduceLT, Nat.reduceLeDiff, reduceCtorEq, eq_self, FIX, forall_const, endE_n, endE_r, CHT, disj, Nat.reduceBEq, beq_self_eq_true, APT, APX, forall_eq, ALT, ALU, URp_1.d, scalarT, scalarP, scalarC, List.all_cons, Bool.false_and, e3, eH3]
      refine callC C5 rfl rfl rfl rfl ?_
      by_cases f1 : (code != 0) = true
      · simp only [RUX, Nat.reduceAdd, reduceIte, Nat.reduceEqDiff, Nat.reduceLT, Nat.reduceLeDiff, reduceCtorEq, eq_self, FIX, forall_const, endE_n, endE_r, CHT, disj, Nat.reduceBEq, beq_self_eq_true, APT, APX, forall_eq, ALT, ALU, URp_1.d, f1]
        refine ES.mk ([], code) okWs_nil ?_
        simp only [RUX, Nat.reduceAdd, reduceIte, Nat.reduceEqDiff, Nat.reduceLT, Nat.reduceLeDiff, reduceCtorEq, eq_self, FIX, forall_const, endE_n, endE_r, CHT, disj, Nat.reduceBEq, beq_self_eq_true, APT, APX, forall_eq, ALT, ALU, URp_1.d, en_nil]
      rw [Bool.not_eq_true] at f1
      have hm2 := hmo.l
      simp only at hm1
      have r1 : (ws.length + 1 + more.length) * 40 ≤ 140737488355328 := by omega
      have r2 : ws.length + 1 + more.length ≤ 9223372036854775807 := by omega
      simp only [RUX, Nat.reduceAdd, reduceIte, Nat.reduceEqDiff, Nat.reduceLT, Nat.reduceLeDiff, reduceCtorEq, eq_self, FIX, forall_const, endE_n, endE_r, CHT, disj, Nat.reduceBEq, beq_self_eq_true, APT, APX, forall_eq, ALT, ALU, URp_1.d, f1, hE, ht3, en_len, hl2, r1, r2]
      refine ES.mk (α := List DW × Int) ((ws ++ [⟨5, ⟨#[]⟩, ⟨#[]⟩⟩]) ++ more, 0) ⟨by simp only [List.length_append, List.length_singleton]; omega, allW_app hW2 hmo.w⟩ ?_
      have ht5 : (en eW (ws ++ [⟨5, ⟨#[]⟩, ⟨#[]⟩⟩]) ++ en eW more).take (ws.length + 1 + more.length) = en eW ((ws ++ [⟨5, ⟨#[]⟩, ⟨#[]⟩⟩]) ++ more) := by
        rw [← en_app, ← hl2, ← List.length_append]; exact en_take eW _
      simp only [RUX, Nat.reduceAdd, reduceIte, Nat.reduceEqDiff, Nat.reduceLT, Nat.reduceLeDiff, reduceCtorEq, eq_self, FIX, forall_const, endE_n, endE_r, CHT, disj, Nat.reduceBEq, beq_self_eq_true, APT, APX, forall_eq, ALT, ALU, URp_1.d, ht5]
end Go.V
set_option linter.unusedSimpArgs false
namespace Go.V
open Go.Proofs
abbrev tWII (x : List DW × Int × Int) : T := .tup [.one (.v (.sl (en eW x.1))), .one (.v (.s (.int .i64 x.2.1))), .one (.v (.s (.int .i64 x.2.2)))]
/- loop.example/teagle/spec.LogWrites -/
def r63_0 : List AOper := [ao 0 2 (.box 27 (.t 0)),
  ao 1 3 (.box 105 (.t 1)),
  ao 2 4 (.mv (.k (.c .nil0))),
  ao 3 5 (.mv (.k (.i 0))),
  ao 4 6 (.mv (.k (.i 0)))]
def r63_1 : List AOper := [ao 0 16 (.bsl 3 29 []),
  ao 1 7 (.mv (.t 16))]
def r63_2 : List AOper := [ao 0 17 (.ld 3 true (.t 2)),
  ao 1 18 (.call (.k (.c (.fn 62 []))) [(.t 17)]),
  ao 2 8 (.alloc 99 [(.v (.s (.int .i64 0))), (.v (.s (.int .i64 0))), .nil0, (.v (.s (.int .i64 0))), (.v (.s (.int .i64 0))), (.v (.s (.int .i64 0))), (.v (.s (.bool false))), (.v (.s (.int .i64 0))), .nil0]),
  an 3 (.st 9 (.t 8) (.t 18))]
def r63_3 : List AOper := [ao 0 19 (.fa 0 (.t 8)),
  ao 1 20 (.ld 1 false (.t 19)),
  ao 2 21 (.bin .eql (.t 20) (.k (.i 1))),
  ao 3 22 (.mv (.t 21)),
  ag 4 23 22 true [] (.fa 0 (.t 3)),
  ag 5 24 22 true [] (.ld 1 false (.t 23)),
  ag 6 25 22 true [] (.bin .eql (.t 24) (.k (.i 4))),
  ao 7 26 (.pick (.t 22) (.t 25) (.k (.b false)))]
def r63_4 : List AOper := [ao 0 28 (.ld 3 true (.t 2)),
  ao 1 29 (.call (.k (.c (.fn 71 []))) [(.t 28)]),
  ao 2 27 (.mv (.t 29)),
  ao 3 30 (.ext 0 (.t 27)),
  ao 4 31 (.ext 1 (.t 27)),
  ao 5 9 (.mv (.t 30)),
  ao 6 10 (.mv (.t 31))]
def r63_5 : List AOper := [ao 0 32 (.mv (.t 9)),
  ao 1 33 (.mv (.t 10)),
  ao 2 4 (.mv (.t 32)),
  ao 3 5 (.mv (.k (.i 0))),
  ao 4 6 (.mv (.t 33))]
def c63_6 : ACode := .seq (.reg r63_4) (.seq (.reg r63_5) .ret)
def c63_7 : ACode := .cond (.t 26) c63_6 .skip
def c63_8 : ACode := .seq (.reg r63_3) c63_7
def r63_9 : List AOper := [ao 0 34 (.fa 2 (.t 8)),
  ao 1 35 (.fa 1 (.t 34)),
  ao 2 36 (.ld 1 false (.t 35)),
  ao 3 37 (.call (.k (.c (.fn 64 []))) [(.t 36)]),
  ao 4 38 (.bin .add (.k (.s (.string ⟨#[115]⟩))) (.t 37)),
  ao 5 11 (.mv (.t 38))]
def r63_10 : List AOper := [ao 0 40 (.fa 0 (.t 8)),
  ao 1 41 (.ld 1 false (.t 40)),
  ao 2 42 (.bin .neq (.t 41) (.k (.i 0))),
  ao 3 39 (.mv (.t 42))]
def r63_11 : List AOper := [ao 0 43 (.mv (.t 7)),
  au 1 44 [0] (.fa 0 (.t 8)),
  au 2 45 [0] (.ld 1 false (.t 44)),
  au 3 4 [1, 2] (.mv (.t 43)),
  au 4 5 [1, 2] (.mv (.k (.i 0))),
  ao 5 6 (.mv (.t 45))]
def c63_12 : ACode := .seq (.reg r63_11) .ret
def r63_13 : List AOper := [ao 0 47 (.fa 0 (.t 3)),
  ao 1 48 (.ld 1 false (.t 47)),
  ao 2 49 (.bin .eql (.t 48) (.k (.i 4))),
  ao 3 46 (.mv (.t 49))]
def r63_14 : List AOper := [ao 0 51 (.ld 3 true (.t 2)),
  ao 1 52 (.ld 9 true (.t 8)),
  ao 2 53 (.call (.k (.c (.fn 72 []))) [(.t 51), (.t 52)]),
  ao 3 50 (.mv (.t 53)),
  ao 4 54 (.ext 0 (.t 50)),
  ao 5 55 (.ext 1 (.t 50)),
  ao 6 12 (.mv (.t 54)),
  ao 7 13 (.mv (.t 55))]
def r63_15 : List AOper := [ao 0 56 (.mv (.t 12)),
  ao 1 57 (.mv (.t 13)),
  ao 2 4 (.mv (.t 56)),
  ao 3 5 (.mv (.k (.i 0))),
  ao 4 6 (.mv (.t 57))]
def c63_16 : ACode := .seq (.reg r63_14) (.seq (.reg r63_15) .ret)
def r63_17 : List AOper := [ao 0 59 (.fa 0 (.t 3)),
  ao 1 60 (.ld 1 false (.t 59)),
  ao 2 61 (.call (.k (.c (.fn 28 []))) [(.t 60), (.k (.i 1)), (.k (.i 4))]),
  ao 3 62 (.un .not (.t 61)),
  ao 4 58 (.mv (.t 62))]
def r63_18 : List AOper := [ao 0 63 (.mv (.t 7)),
  ao 1 4 (.mv (.t 63)),
  ao 2 5 (.mv (.k (.i 0))),
  ao 3 6 (.mv (.k (.i 7)))]
def c63_19 : ACode := .seq (.reg r63_18) .ret
def r63_20 : List AOper := [ao 0 65 (.fa 6 (.t 8)),
  ao 1 66 (.ld 1 false (.t 65)),
  ao 2 64 (.mv (.t 66))]
def r63_21 : List AOper := [ao 0 67 (.mv (.t 7)),
  ao 1 4 (.mv (.t 67)),
  ao 2 5 (.mv (.k (.i 0))),
  ao 3 6 (.mv (.k (.i 3)))]
def c63_22 : ACode := .seq (.reg r63_21) .ret
def r63_23 : List AOper := [ao 0 69 (.fa 0 (.t 3)),
  ao 1 70 (.ld 1 false (.t 69)),
  ao 2 71 (.bin .eql (.t 70) (.k (.i 2))),
  ao 3 68 (.mv (.t 71))]
def r63_24 : List AOper := [ao 0 72 (.mv (.t 11)),
  ao 1 73 (.build [(.v (.s (.int .i64 0))), (.v (.s (.string ⟨#[]⟩))), (.v (.s (.string ⟨#[]⟩)))] [(0, 1, (.k (.i 3))), (1, 1, (.t 72))]),
  ao 2 74 (.bsl 3 29 [(.t 73)]),
  ao 3 4 (.mv (.t 74)),
  ao 4 5 (.mv (.k (.i 0))),
  ao 5 6 (.mv (.k (.i 0)))]
def c63_25 : ACode := .seq (.reg r63_24) .ret
def r63_26 : List AOper := [ao 0 76 (.fa 0 (.t 3)),
  ao 1 77 (.ld 1 false (.t 76)),
  ao 2 78 (.bin .eql (.t 77) (.k (.i 3))),
  ao 3 75 (.mv (.t 78))]
def r63_27 : List AOper := [ao 0 80 (.ld 3 true (.t 2)),
  ao 1 81 (.ld 9 true (.t 8)),
  ao 2 82 (.call (.k (.c (.fn 73 []))) [(.t 80), (.t 81)]),
  ao 3 79 (.mv (.t 82)),
  ao 4 83 (.ext 0 (.t 79)),
  ao 5 84 (.ext 1 (.t 79)),
  ao 6 14 (.mv (.t 83)),
  ao 7 15 (.mv (.t 84))]
def r63_28 : List AOper := [ao 0 85 (.mv (.t 15)),
  ao 1 86 (.bin .neq (.t 85) (.k (.i 0)))]
def r63_29 : List AOper := [ao 0 87 (.mv (.t 7)),
  ao 1 88 (.mv (.t 15)),
  ao 2 4 (.mv (.t 87)),
  ao 3 5 (.mv (.k (.i 0))),
  ao 4 6 (.mv (.t 88))]
def c63_30 : ACode := .seq (.reg r63_29) .ret
def c63_31 : ACode := .cond (.t 86) c63_30 .skip
def c63_32 : ACode := .seq (.reg r63_28) c63_31
def r63_33 : List AOper := [ao 0 89 (.mv (.t 11)),
  ao 1 90 (.build [(.v (.s (.int .i64 0))), (.v (.s (.string ⟨#[]⟩))), (.v (.s (.string ⟨#[]⟩)))] [(0, 1, (.k (.i 3))), (1, 1, (.t 89))]),
  ao 2 91 (.bsl 3 29 [(.t 90)]),
  ao 3 92 (.mv (.t 14)),
  ao 4 93 (.app 3 29 40 (.t 91) (.t 92)),
  ao 5 4 (.mv (.t 93)),
  ao 6 5 (.mv (.k (.i 0))),
  ao 7 6 (.mv (.k (.i 0)))]
def c63_34 : ACode := .seq (.reg r63_27) (.seq c63_32 (.seq (.reg r63_33) .ret))
def r63_35 : List AOper := [ao 0 95 (.fa 1 (.t 3)),
  ao 1 96 (.ld 1 false (.t 95)),
  ao 2 97 (.lenS (.t 96)),
  ao 3 98 (.bin .gtr (.t 97) (.k (.i 2000))),
  ao 4 94 (.mv (.t 98))]
def r63_36 : List AOper := [ao 0 99 (.mv (.t 7)),
  ao 1 4 (.mv (.t 99)),
  ao 2 5 (.mv (.k (.i 0))),
  ao 3 6 (.mv (.k (.i 5)))]
def c63_37 : ACode := .seq (.reg r63_36) .ret
def r63_38 : List AOper := [ao 0 101 (.fa 7 (.t 8)),
  ao 1 102 (.ld 1 false (.t 101)),
  ao 2 103 (.bin .gtr (.t 102) (.k (.i 999999))),
  ao 3 104 (.mv (.t 103)),
  ag 4 105 104 false [] (.fa 5 (.t 8)),
  ag 5 106 104 false [] (.ld 1 false (.t 105)),
  ag 6 107 104 false [] (.bin .add (.t 106) (.k (.i 5))),
  ag 7 108 104 false [] (.fa 1 (.t 3)),
  ag 8 109 104 false [] (.ld 1 false (.t 108)),
  ag 9 110 104 false [] (.lenS (.t 109)),
  ag 10 111 104 false [] (.bin .add (.t 107) (.t 110)),
  ag 11 112 104 false [] (.bin .gtr (.t 111) (.k (.i 8000))),
  ao 12 113 (.pick (.t 104) (.k (.b true)) (.t 112)),
  ao 13 100 (.mv (.t 113))]
def r63_39 : List AOper := [ao 0 114 (.mv (.t 7)),
  ao 1 4 (.mv (.t 114)),
  ao 2 5 (.mv (.k (.i 0))),
  ao 3 6 (.mv (.k (.i 4)))]
def c63_40 : ACode := .seq (.reg r63_39) .ret
def c63_41 : ACode := .cond (.t 100) c63_40 .skip
def c63_42 : ACode := .seq (.reg r63_38) c63_41
def c63_43 : ACode := .cond (.t 94) c63_37 c63_42
def c63_44 : ACode := .seq (.reg r63_35) c63_43
def c63_45 : ACode := .cond (.t 75) c63_34 c63_44
def c63_46 : ACode := .seq (.reg r63_26) c63_45
def c63_47 : ACode := .cond (.t 68) c63_25 c63_46
def c63_48 : ACode := .seq (.reg r63_23) c63_47
def c63_49 : ACode := .cond (.t 64) c63_22 c63_48
def c63_50 : ACode := .seq (.reg r63_20) c63_49
def c63_51 : ACode := .cond (.t 58) c63_19 c63_50
def c63_52 : ACode := .seq (.reg r63_17) c63_51
def c63_53 : ACode := .cond (.t 46) c63_16 c63_52
def c63_54 : ACode := .seq (.reg r63_13) c63_53
def c63_55 : ACode := .cond (.t 39) c63_12 c63_54
def c63_56 : ACode := .seq (.reg r63_10) c63_55
def c63_57 : ACode := .block 0 c63_56
def r63_58 : List AOper := [ao 0 115 (.mv (.t 11)),
  au 1 116 [0] (.fa 7 (.t 8)),
  au 2 117 [0] (.ld 1 false (.t 116)),
  au 3 118 (ru 3) (.fa 1 (.t 3)),
  au 4 119 (ru 3) (.ld 1 false (.t 118)),
  au 5 120 [0] (.build [(.v (.s (.int .i64 0))), (.v (.s (.string ⟨#[]⟩)))] [(0, 1, (.t 117)), (1, 1, (.t 119))]),
  au 6 121 [0] (.call (.k (.c (.fn 74 []))) [(.t 120)]),
  ao 7 122 (.build [(.v (.s (.int .i64 0))), (.v (.s (.string ⟨#[]⟩))), (.v (.s (.string ⟨#[]⟩)))] [(0, 1, (.k (.i 2))), (1, 1, (.t 115)), (2, 1, (.t 121))]),
  ao 8 123 (.bsl 3 29 [(.t 122)]),
  au 9 124 (ru 9) (.fa 7 (.t 8)),
  au 10 125 (ru 9) (.ld 1 false (.t 124)),
  au 11 4 [9, 10] (.mv (.t 123)),
  ao 12 5 (.mv (.t 125)),
  ao 13 6 (.mv (.k (.i 0)))]
def c63 : ACode := .seq (.reg r63_0) (.seq (.reg r63_1) (.seq (.reg r63_2) (.seq c63_8 (.seq (.reg r63_9) (.seq c63_57 (.seq (.reg r63_58) .ret))))))
def s63 : List ARes := [.tmp 4, .tmp 5, .tmp 6]
theorem ok63 : okF Try.prog 63 126 c63 s63 := ⟨Try.f63, Try.func63, Try.ntmps63, by kernel_rfl, by kernel_rfl, by kernel_rfl⟩
def URq_1 := Bx.mk <|
  aN (uA c63.eq_1) <| aN (uR r63_0.eq_1) <| aN (uR r63_1.eq_1) <| aN (uR r63_2.eq_1) <| aN (uA c63_8.eq_1) <| aN (uR r63_3.eq_1) <| aN (uA c63_7.eq_1) <| aN (uA c63_6.eq_1) <| aN (uR r63_4.eq_1) <| aN (uR r63_5.eq_1) <| aN (uR r63_9.eq_1) <| aN (uA c63_57.eq_1) <| aN (uA c63_56.eq_1) <| aN (uR r63_10.eq_1) <| aN (uA c63_55.eq_1) <| aN (uA c63_12.eq_1) <| aN (uR r63_11.eq_1) <| aN (uA c63_54.eq_1) <| aN (uR r63_13.eq_1) <| aN (uA c63_53.eq_1) <| aN (uA c63_16.eq_1) <| aN (uR r63_14.eq_1) <| aN (uR r63_15.eq_1) <| aN (uA c63_52.eq_1) <| aN (uR r63_17.eq_1) <| aN (uA c63_51.eq_1) <| aN (uA c63_19.eq_1) <| aN (uR r63_18.eq_1) <| aN (uA c63_50.eq_1) <| aN (uR r63_20.eq_1) <| aN (uA c63_49.eq_1) <| aN (uA c63_22.eq_1) <| aN (uR r63_21.eq_1) <| aN (uA c63_48.eq_1) <| aN (uR r63_23.eq_1) <| aN (uA c63_47.eq_1) <| aN (uA c63_25.eq_1) <| aN (uR r63_24.eq_1) <| aN (uA c63_46.eq_1) <| aN (uR r63_26.eq_1) <| aN (uA c63_45.eq_1) <| aN (uA c63_34.eq_1) <| aN (uR r63_27.eq_1) <| aN (uA c63_32.eq_1) <| aN (uR r63_28.eq_1) <| aN (uA c63_31.eq_1) <| aN (uA c63_30.eq_1) <| aN (uR r63_29.eq_1) <| aN (uR r63_33.eq_1) <| aN (uA c63_44.eq_1) <| aN (uR r63_35.eq_1) <| aN (uA c63_43.eq_1) <| aN (uA c63_37.eq_1) <| aN (uR r63_36.eq_1) <| aN (uA c63_42.eq_1) <| aN (uR r63_38.eq_1) <| aN (uA c63_41.eq_1) <| aN (uA c63_40.eq_1) <| aN (uR r63_39.eq_1) <| aN (uR r63_58.eq_1) <| s63.eq_1
set_option maxHeartbeats 2000000 in
theorem logWrites_ok (d : Dk) (hd : fineDk d) (a : LA) (ha : a.data.size ≤ 1000000) : PC 63 [tDk d, tLA a] (fun x : List DW × Int × Int => okWs x.1) tWII := by
  obtain ⟨s, ⟨hs, hsD⟩, C1⟩ := logOpen_ok d hd
  have none : ∀ p q : Int, okWs (([], p, q) : List DW × Int × Int).1 := fun _ _ => okWs_nil
  refine PC.intro ok63 rfl (fun _ => rfl) fun X => ?_
  simp only [RUX, Nat.reduceAdd, reduceIte, Nat.reduceEqDiff, Nat.reduceLT, Nat.reduceLeDiff, reduceCtorEq, eq_self, FIX, forall_const, endE_n, endE_r, CHT, disj, Nat.reduceBEq, beq_self_eq_true, APT, APX, forall_eq, ALT, ALU, URq_1.d]
  refine callC C1 rfl rfl rfl rfl ?_
  obtain ⟨w1, hw1, C2⟩ := decB hs.plan.opn
  have z1 : (⟨#[115]⟩ : ByteArray).size = 1 := rfl
  have y1 : (⟨#[115]⟩ : ByteArray).size + w1.size ≤ 9223372036854775807 := by omega
  have b1 : ((⟨#[115]⟩ : ByteArray) ++ w1).size ≤ 1048576 := by rw [ByteArray.size_append]; omega
  have b0 : (⟨#[]⟩ : ByteArray).size ≤ 1048576 := by decide
  by_cases g1 : (s.code == 1) = true
  · by_cases g2 : (a.kind == 4) = true
    · obtain ⟨⟨ws, code⟩, hws, C3⟩ := birth_ok d hd
      simp only [RUX, Nat.reduceAdd, reduceIte, Nat.reduceEqDiff, Nat.reduceLT, Nat.reduceLeDiff, reduceCtorEq, eq_self, FIX, forall_const, endE_n, endE_r, CHT, disj, Nat.reduceBEq, beq_self_eq_true, APT, APX, forall_eq, ALT, ALU, URq_1.d, g1, g2]
      refine callC C3 rfl rfl rfl rfl ?_
      simp only [RUX, Nat.reduceAdd, reduceIte, Nat.reduceEqDiff, Nat.reduceLT, Nat.reduceLeDiff, reduceCtorEq, eq_self, FIX, forall_const, endE_n, endE_r, CHT, disj, Nat.reduceBEq, beq_self_eq_true, APT, APX, forall_eq, ALT, ALU, URq_1.d]
      refine ES.mk (ws, 0, code) hws ?_
      simp only [RUX, Nat.reduceAdd, reduceIte, Nat.reduceEqDiff, Nat.reduceLT, Nat.reduceLeDiff, reduceCtorEq, eq_self, FIX, forall_const, endE_n, endE_r, CHT, disj, Nat.reduceBEq, beq_self_eq_true, APT, APX, forall_eq, ALT, ALU, URq_1.d]
    · rw [Bool.not_eq_true] at g2
      have g3 : (s.code != 0) = true := by rw [beq_iff_eq] at g1; rw [g1]; rfl
      simp only [RUX, Nat.reduceAdd, reduceIte, Nat.reduceEqDiff, Nat.reduceLT, Nat.reduceLeDiff, reduceCtorEq, eq_self, FIX, forall_const, endE_n, endE_r, CHT, disj, Nat.reduceBEq, beq_self_eq_true, APT, APX, forall_eq, ALT, ALU, URq_1.d, g1, g2]
      refine callC C2 rfl rfl rfl rfl ?_
      simp only [RUX, Nat.reduceAdd, reduceIte, Nat.reduceEqDiff, Nat.reduceLT, Nat.reduceLeDiff, reduceCtorEq, eq_self, FIX, forall_const, endE_n, endE_r, CHT, disj, Nat.reduceBEq, beq_self_eq_true, APT, APX, forall_eq, ALT, ALU, URq_1.d, sStr, y1, g3]
      refine ES.mk ([], 0, s.code) okWs_nil ?_
      simp only [RUX, Nat.reduceAdd, reduceIte, Nat.reduceEqDiff, Nat.reduceLT, Nat.reduceLeDiff, reduceCtorEq, eq_self, FIX, forall_const, endE_n, endE_r, CHT, disj, Nat.reduceBEq, beq_self_eq_true, APT, APX, forall_eq, ALT, ALU, URq_1.d, en_nil]
  rw [Bool.not_eq_true] at g1
  simp only [RUX, Nat.reduceAdd, reduceIte, Nat.reduceEqDiff, Nat.reduceLT, Nat.reduceLeDiff, reduceCtorEq, eq_self, FIX, forall_const, endE_n, endE_r, CHT, disj, Nat.reduceBEq, beq_self_eq_true, APT, APX, forall_eq, ALT, ALU, URq_1.d, g1]
  refine callC C2 rfl rfl rfl rfl ?_
  by_cases g3 : (s.code != 0) = true
  · simp only [RUX, Nat.reduceAdd, reduceIte, Nat.reduceEqDiff, Nat.reduceLT, Nat.reduceLeDiff, reduceCtorEq, eq_self, FIX, forall_const, endE_n, endE_r, CHT, disj, Nat.reduceBEq, beq_self_eq_true, APT, APX, forall_eq, ALT, ALU, URq_1.d, sStr, y1, g3]
    refine ES.mk ([], 0, s.code) okWs_nil ?_
    simp only [RUX, Nat.reduceAdd, reduceIte, Nat.reduceEqDiff, Nat.reduceLT, Nat.reduceLeDiff, reduceCtorEq, eq_self, FIX, forall_const, endE_n, endE_r, CHT, disj, Nat.reduceBEq, beq_self_eq_true, APT, APX, forall_eq, ALT, ALU, URq_1.d, en_nil]
  rw [Bool.not_eq_true] at g3
  have hD : DOk d := hsD (by simpa using g3)
  by_cases g4 : (a.kind == 4) = true
  · obtain ⟨⟨ws, code⟩, hws, C3⟩ := mend_ok d hd hD s hs
    simp only [RUX, Nat.reduceAdd, reduceIte, Nat.reduceEqDiff, Nat.reduceLT, Nat.reduceLeDiff, reduceCtorEq, eq_self, FIX, forall_const, endE_n, endE_r, CHT, disj, Nat.reduceBEq, beq_self_eq_true, APT, APX, forall_eq, ALT, ALU, URq_1.d, sStr, y1, g3, g4]
    refine callC C3 rfl rfl rfl rfl ?_
    simp only [RUX, Nat.reduceAdd, reduceIte, Nat.reduceEqDiff, Nat.reduceLT, Nat.reduceLeDiff, reduceCtorEq, eq_self, FIX, forall_const, endE_n, endE_r, CHT, disj, Nat.reduceBEq, beq_self_eq_true, APT, APX, forall_eq, ALT, ALU, URq_1.d]
    refine ES.mk (ws, 0, code) hws ?_
    simp only [RUX, Nat.reduceAdd, reduceIte, Nat.reduceEqDiff, Nat.reduceLT, Nat.reduceLeDiff, reduceCtorEq, eq_self, FIX, forall_const, endE_n, endE_r, CHT, disj, Nat.reduceBEq, beq_self_eq_true, APT, APX, forall_eq, ALT, ALU, URq_1.d]
  rw [Bool.not_eq_true] at g4
  simp only [RUX, Nat.reduceAdd, reduceIte, Nat.reduceEqDiff, Nat.reduceLT, Nat.reduceLeDiff, reduceCtorEq, eq_self, FIX, forall_const, endE_n, endE_r, CHT, disj, Nat.reduceBEq, beq_self_eq_true, APT, APX, forall_eq, ALT, ALU, URq_1.d, sStr, y1, g3, g4]
  refine callC (l6In_ok _ _ _) rfl rfl rfl rfl ?_
  by_cases g5 : (decide (1 ≤ a.kind) && decide (a.kind ≤ 4)) = true
  rotate_left
  · rw [Bool.not_eq_true] at g5
    simp only [RUX, Nat.reduceAdd, reduceIte, Nat.reduceEqDiff, Nat.reduceLT, Nat.reduceLeDiff, reduceCtorEq, eq_self, FIX, forall_const, endE_n, endE_r, CHT, disj, Nat.reduceBEq, beq_self_eq_true, APT, APX, forall_eq, ALT, ALU, URq_1.d, g5]
    refine ES.mk ([], 0, 7) okWs_nil ?_
    simp only [RUX, Nat.reduceAdd, reduceIte, Nat.reduceEqDiff, Nat.reduceLT, Nat.reduceLeDiff, reduceCtorEq, eq_self, FIX, forall_const, endE_n, endE_r, CHT, disj, Nat.reduceBEq, beq_self_eq_true, APT, APX, forall_eq, ALT, ALU, URq_1.d, en_nil]
  cases g6 : s.torn with
  | true =>
    simp only [RUX, Nat.reduceAdd, reduceIte, Nat.reduceEqDiff, Nat.reduceLT, Nat.reduceLeDiff, reduceCtorEq, eq_self, FIX, forall_const, endE_n, endE_r, CHT, disj, Nat.reduceBEq, beq_self_eq_true, APT, APX, forall_eq, ALT, ALU, URq_1.d, g5, g6]
    refine ES.mk ([], 0, 3) okWs_nil ?_
    simp only [RUX, Nat.reduceAdd, reduceIte, Nat.reduceEqDiff, Nat.reduceLT, Nat.reduceLeDiff, reduceCtorEq, eq_self, FIX, forall_const, endE_n, endE_r, CHT, disj, Nat.reduceBEq, beq_self_eq_true, APT, APX, forall_eq, ALT, ALU, URq_1.d, en_nil]
  | false =>
  by_cases g7 : (a.kind == 2) = true
  · simp only [RUX, Nat.reduceAdd, reduceIte, Nat.reduceEqDiff, Nat.reduceLT, Nat.reduceLeDiff, reduceCtorEq, eq_self, FIX, forall_const, endE_n, endE_r, CHT, disj, Nat.reduceBEq, beq_self_eq_true, APT, APX, forall_eq, ALT, ALU, URq_1.d, g5, g6, g7]
    refine ES.mk ([⟨3, ⟨#[115]⟩ ++ w1, ⟨#[]⟩⟩], 0, 0) ⟨by simp, allW_cons ⟨b1, b0⟩ allW_nil⟩ ?_
    simp only [RUX, Nat.reduceAdd, reduceIte, Nat.reduceEqDiff, Nat.reduceLT, Nat.reduceLeDiff, reduceCtorEq, eq_self, FIX, forall_const, endE_n, endE_r, CHT, disj, Nat.reduceBEq, beq_self_eq_true, APT, APX, forall_eq, ALT, ALU, URq_1.d, en_cons2, en_nil, eW]
  rw [Bool.not_eq_true] at g7
  by_cases g8 : (a.kind == 3) = true
  · obtain ⟨⟨ws, code⟩, ⟨hws, hl⟩, C3⟩ := close_ok d hd.sm s hs
    simp only at hl
    simp only [tLS, cLS, g6] at C3
    simp only [RUX, Nat.reduceAdd, reduceIte, Nat.reduceEqDiff, Nat.reduceLT, Nat.reduceLeDiff, reduceCtorEq, eq_self, FIX, forall_const, endE_n, endE_r, CHT, disj, Nat.reduceBEq, beq_self_eq_true, APT, APX, forall_eq, ALT, ALU, URq_1.d, g5, g6, g7, g8]
    refine callC C3 rfl rfl rfl rfl ?_
    by_cases f1 : (code != 0) = true
    · simp only [RUX, Nat.reduceAdd, reduceIte, Nat.reduceEqDiff, Nat.reduceLT, Nat.reduceLeDiff, reduceCtorEq, eq_self, FIX, forall_const, endE_n, endE_r, CHT, disj, Nat.reduceBEq, beq_self_eq_true, APT, APX, forall_eq, ALT, ALU, URq_1.d, f1]
      refine ES.mk ([], 0, code) okWs_nil ?_
      simp only [RUX, Nat.reduceAdd, reduceIte, Nat.reduceEqDiff, Nat.reduceLT, Nat.reduceLeDiff, reduceCtorEq, eq_self, FIX, forall_const, endE_n, endE_r, CHT, disj, Nat.reduceBEq, beq_self_eq_true, APT, APX, forall_eq, ALT, ALU, URq_1.d, en_nil]
    rw [Bool.not_eq_true] at f1
    have r1 : (1 + ws.length) * 40 ≤ 140737488355328 := by omega
    have r2 : 1 + ws.length ≤ 9223372036854775807 := by omega
    simp only [RUX, Nat.reduceAdd, reduceIte, Nat.reduceEqDiff, Nat.reduceLT, Nat.reduceLeDiff, reduceCtorEq, eq_self, FIX, forall_const, endE_n, endE_r, CHT, disj, Nat.reduceBEq, beq_self_eq_true, APT, APX, forall_eq, ALT, ALU, URq_1.d, f1, en_len, r1, r2]
    refine ES.mk (⟨3, ⟨#[115]⟩ ++ w1, ⟨#[]⟩⟩ :: ws, 0, 0) ⟨by simp only [List.length_cons]; omega, allW_cons ⟨b1, b0⟩ hws.w⟩ ?_
    have r3 : 1 + ws.length ≤ ws.length + 1 := by omega
    have ht : ∀ x : List V, (x :: en eW ws).take (1 + ws.length) = x :: en eW ws := fun x => List.take_of_length_le (by rw [List.length_cons, en_len]; omega)
    simp only [RUX, Nat.reduceAdd, reduceIte, Nat.reduceEqDiff, Nat.reduceLT, Nat.reduceLeDiff, reduceCtorEq, eq_self, FIX, forall_const, endE_n, endE_r, CHT, disj, Nat.reduceBEq, beq_self_eq_true, APT, APX, forall_eq, ALT, ALU, URq_1.d, en_cons2, eW, en_len, r3, ht]
  rw [Bool.not_eq_true] at g8
  by_cases g9 : (a.data.size : Int) > 2000
  · simp only [RUX, Nat.reduceAdd, reduceIte, Nat.reduceEqDiff, Nat.reduceLT, Nat.reduceLeDiff, reduceCtorEq, eq_self, FIX, forall_const, endE_n, endE_r, CHT, disj, Nat.reduceBEq, beq_self_eq_true, APT, APX, forall_eq, ALT, ALU, URq_1.d, g5, g6, g7, g8, g9]
    refine ES.mk ([], 0, 5) okWs_nil ?_
    simp only [RUX, Nat.reduceAdd, reduceIte, Nat.reduceEqDiff, Nat.reduceLT, Nat.reduceLeDiff, reduceCtorEq, eq_self, FIX, forall_const, endE_n, endE_r, CHT, disj, Nat.reduceBEq, beq_self_eq_true, APT, APX, forall_eq, ALT, ALU, URq_1.d, en_nil]
  by_cases h1 : s.next > 999999
  · simp only [RUX, Nat.reduceAdd, reduceIte, Nat.reduceEqDiff, Nat.reduceLT, Nat.reduceLeDiff, reduceCtorEq, eq_self, FIX, forall_const, endE_n, endE_r, CHT, disj, Nat.reduceBEq, beq_self_eq_true, APT, APX, forall_eq, ALT, ALU, URq_1.d, g5, g6, g7, g8, g9, h1]
    refine ES.mk ([], 0, 4) okWs_nil ?_
    simp only [RUX, Nat.reduceAdd, reduceIte, Nat.reduceEqDiff, Nat.reduceLT, Nat.reduceLeDiff, reduceCtorEq, eq_self, FIX, forall_const, endE_n, endE_r, CHT, disj, Nat.reduceBEq, beq_self_eq_true, APT, APX, forall_eq, ALT, ALU, URq_1.d, en_nil]
  obtain ⟨s0, s1⟩ := hs.size
  have wa : IntKind.i64.wrap (s.size + 5) = s.size + 5 := wrap64 ⟨by omega, by omega⟩
  have wb : IntKind.i64.wrap (s.size + 5 + a.data.size) = s.size + 5 + a.data.size := wrap64 ⟨by omega, by omega⟩
  by_cases h2 : s.size + 5 + a.data.size > 8000
  · simp only [RUX, Nat.reduceAdd, reduceIte, Nat.reduceEqDiff, Nat.reduceLT, Nat.reduceLeDiff, reduceCtorEq, eq_self, FIX, forall_const, endE_n, endE_r, CHT, disj, Nat.reduceBEq, beq_self_eq_true, APT, APX, forall_eq, ALT, ALU, URq_1.d, g5, g6, g7, g8, g9, h1, wa, wb, h2]
    refine ES.mk ([], 0, 4) okWs_nil ?_
    simp only [RUX, Nat.reduceAdd, reduceIte, Nat.reduceEqDiff, Nat.reduceLT, Nat.reduceLeDiff, reduceCtorEq, eq_self, FIX, forall_const, endE_n, endE_r, CHT, disj, Nat.reduceBEq, beq_self_eq_true, APT, APX, forall_eq, ALT, ALU, URq_1.d, en_nil]
  obtain ⟨o, ho, C4⟩ := frame_ok ⟨s.next, a.data⟩ hs.next (by simp only; omega)
  simp only at ho
  simp only [RUX, Nat.reduceAdd, reduceIte, Nat.reduceEqDiff, Nat.reduceLT, Nat.reduceLeDiff, reduceCtorEq, eq_self, FIX, forall_const, endE_n, endE_r, CHT, disj, Nat.reduceBEq, beq_self_eq_true, APT, APX, forall_eq, ALT, ALU, URq_1.d, g5, g6, g7, g8, g9, h1, wa, wb, h2]
  refine callC C4 rfl rfl rfl rfl ?_
  simp only [RUX, Nat.reduceAdd, reduceIte, Nat.reduceEqDiff, Nat.reduceLT, Nat.reduceLeDiff, reduceCtorEq, eq_self, FIX, forall_const, endE_n, endE_r, CHT, disj, Nat.reduceBEq, beq_self_eq_true, APT, APX, forall_eq, ALT, ALU, URq_1.d]
  refine ES.mk ([⟨2, ⟨#[115]⟩ ++ w1, o⟩], s.next, 0) ⟨by simp, allW_cons ⟨b1, by simp only; omega⟩ allW_nil⟩ ?_
  simp only [RUX, Nat.reduceAdd, reduceIte, Nat.reduceEqDiff, Nat.reduceLT, Nat.reduceLeDiff, reduceCtorEq, eq_self, FIX, forall_const, endE_n, endE_r, CHT, disj, Nat.reduceBEq, beq_self_eq_true, APT, APX, forall_eq, ALT, ALU, URq_1.d, en_cons2, en_nil, eW]
end Go.V
set_option linter.unusedSimpArgs false
namespace Go.V
open Go.Proofs
theorem DOk.keep {d : Dk} (h : DOk d) {n : Nat} (hn : n ≤ d.moves.length) : DOk (keepD d (aft d.names (d.moves.take n))) := by
  have h2 := h.two
  apply DOk2.ok
  have hnm : ∀ x ∈ aft d.names (d.moves.take n), x ∈ made d := fun x hx => DOk.aft_made hx
  have hN := (List.nodup_append.1 (nmI_aft h2.nd n hn).2).1
  have hmade : made (keepD d (aft d.names (d.moves.take n))) = aft d.names (d.moves.take n) := by simp [made, keepD, mades]
  have hl : (aft d.names (d.moves.take n)).length ≤ (made d).length := by
    have h1 := aft_len2 (d.moves.take n) d.names
    have h2 : (mades d.moves).length = (mades (d.moves.take n)).length + (mades (d.moves.drop n)).length := by
      conv => lhs; rw [← List.take_append_drop n d.moves]
      simp only [mades, List.filter_append, List.map_append, List.length_append]
    have h3 : (made d).length = d.names.length + (mades d.moves).length := by simp [made]
    omega
  have hml : (made d).length = d.files.length := h.l
  have hf := h2.f
  refine ⟨by simp only [keepD, List.length_map]; omega, by simp only [keepD]; omega, by simp [keepD], ?_, ?_, ?_, fun i m hm => by simp [keepD] at hm⟩
  · rw [hmade]
    simp only [keepD, List.map_map]
    have : (aft d.names (d.moves.take n)).map (DF.name ∘ fileOf d.files) = (aft d.names (d.moves.take n)).map id := List.map_congr_left fun x hx => by
      obtain ⟨_, _, _, h4⟩ := h.find (hnm x hx)
      exact h4
    rw [this, List.map_id]
  · rw [hmade]; exact hN
  · intro f hf
    simp only [keepD, List.mem_map] at hf
    obtain ⟨x, hx, rfl⟩ := hf
    obtain ⟨i, _, h3, _⟩ := h.find (hnm x hx)
    exact h2.good _ (List.mem_of_getElem? h3)
theorem DOk.cut {d : Dk} (h : DOk d) (m : Int) (keep : List Int) : DOk (cutD d m keep) :=
  (h.cutA keep).keep (n := cutN m d) (by show cutN m d ≤ d.moves.length; unfold cutN; omega)
def zDk : Dk := ⟨[], [], []⟩
theorem zDk_ok : DOk zDk := DOk2.ok ⟨by decide, by decide, by decide, rfl, List.nodup_nil, fun f h => (by cases h), fun i m h => by simp [zDk] at h⟩
def URr_1 := Bx.mk <|
  aN (uA c23.eq_1) <| aN (uR r23_0.eq_1) <| aN (uR r23_1.eq_1) <| s23.eq_1
theorem copyC_ok (d : Dk) (hd : smallDk d) : ACallsF Try.prog 23 [tDk d] [] (tDk d) := by
  have h1 := hd.f
  have h2 := hd.n
  have h3 := hd.m
  have q1 : d.files.length * 40 ≤ 140737488355328 := by omega
  have q2 : d.files.length ≤ 9223372036854775807 := by omega
  have q3 : d.names.length * 16 ≤ 140737488355328 := by omega
  have q4 : d.names.length ≤ 9223372036854775807 := by omega
  have q5 : d.moves.length * 24 ≤ 140737488355328 := by omega
  have q6 : d.moves.length ≤ 9223372036854775807 := by omega
  refine ACallsF.intro ok23 follows fun X c0 => ?_
  simp only [RUX, Nat.reduceAdd, reduceIte, Nat.reduceEqDiff, Nat.reduceLT, Nat.reduceLeDiff, reduceCtorEq, eq_self, FIX, forall_const, endE_n, endE_r, CHT, disj, Nat.reduceBEq, beq_self_eq_true, APT, APX, forall_eq, ALT, ALU, URr_1.d, q1, q2, q3, q4, q5, q6, Nat.zero_add, imp_self]
abbrev tDII (x : Dk × Int × Int) : T := .tup [.agg (cDk x.1), .one (.v (.s (.int .i64 x.2.1))), .one (.v (.s (.int .i64 x.2.2)))]
abbrev cLA (a : LA) : List C := [.v (.s (.int .i64 a.kind)), .v (.s (.string a.data)), .v (.s (.bool a.cuts)), .v (.s (.int .i64 a.after)), .v (.s (.int .i64 a.moves)), .v (.sl (en eI a.keep))]
/- loop.example/teagle/spec.LogStep -/
def r65_0 : List AOper := [ao 0 2 (.box 27 (.t 0)),
  ao 1 3 (.box 105 (.t 1)),
  ao 2 4 (.alloc 27 [.nil0, .nil0, .nil0]),
  ao 3 5 (.mv (.k (.i 0))),
  ao 4 6 (.mv (.k (.i 0)))]
def r65_1 : List AOper := [ao 0 13 (.ld 3 true (.t 2)),
  ao 1 14 (.call (.k (.c (.fn 7 []))) [(.t 13)]),
  ao 2 15 (.un .not (.t 14))]
def r65_2 : List AOper := [ao 0 16 (.build [.nil0, .nil0, .nil0] []),
  an 1 (.st 3 (.t 4) (.t 16)),
  ao 2 5 (.mv (.k (.i 0))),
  ao 3 6 (.mv (.k (.i 7)))]
def c65_3 : ACode := .seq (.reg r65_2) .ret
def c65_4 : ACode := .cond (.t 15) c65_3 .skip
def c65_5 : ACode := .seq (.reg r65_1) c65_4
def r65_6 : List AOper := [ao 0 18 (.ld 3 true (.t 2)),
  ao 1 19 (.ld 6 true (.t 3)),
  ao 2 20 (.call (.k (.c (.fn 63 []))) [(.t 18), (.t 19)]),
  ao 3 17 (.mv (.t 20)),
  ao 4 21 (.ext 0 (.t 17)),
  ao 5 22 (.ext 1 (.t 17)),
  ao 6 23 (.ext 2 (.t 17)),
  ao 7 7 (.mv (.t 21)),
  ao 8 8 (.mv (.t 22)),
  ao 9 9 (.mv (.t 23))]
def r65_7 : List AOper := [ao 0 24 (.mv (.t 9)),
  ao 1 25 (.bin .neq (.t 24) (.k (.i 0)))]
def r65_8 : List AOper := [ao 0 26 (.ld 3 true (.t 2)),
  ao 1 27 (.call (.k (.c (.fn 23 []))) [(.t 26)]),
  ao 2 28 (.mv (.t 9)),
  an 3 (.st 3 (.t 4) (.t 27)),
  ao 4 5 (.mv (.k (.i 0))),
  ao 5 6 (.mv (.t 28))]
def c65_9 : ACode := .seq (.reg r65_8) .ret
def c65_10 : ACode := .cond (.t 25) c65_9 .skip
def c65_11 : ACode := .seq (.reg r65_7) c65_10
def r65_12 : List AOper := [ao 0 10 (.mv (.k (.i 0)))]
def r65_13 : List AOper := [ao 0 29 (.mv (.t 10)),
  ao 1 30 (.mv (.t 7)),
  ao 2 31 (.len (.t 30)),
  ao 3 32 (.bin .lss (.t 29) (.t 31))]
def c65_14 : ACode := .cond (.t 32) .skip (.exit 0)
def c65_15 : ACode := .seq (.reg r65_13) c65_14
def r65_16 : List AOper := [ao 0 35 (.fa 2 (.t 3)),
  ao 1 36 (.ld 1 false (.t 35)),
  ao 2 37 (.mv (.t 36)),
  ag 3 38 37 true [] (.mv (.t 10)),
  ag 4 39 37 true [] (.fa 3 (.t 3)),
  ag 5 40 37 true [] (.ld 1 false (.t 39)),
  ag 6 41 37 true [] (.bin .geq (.t 38) (.t 40)),
  ao 7 42 (.pick (.t 37) (.t 41) (.k (.b false)))]
def r65_17 : List AOper := [ao 0 43 (.ld 3 true (.t 2)),
  ao 1 44 (.fa 4 (.t 3)),
  ao 2 45 (.ld 1 false (.t 44)),
  ao 3 46 (.fa 5 (.t 3)),
  ao 4 47 (.ld 1 false (.t 46)),
  ao 5 48 (.call (.k (.c (.fn 75 []))) [(.t 43), (.t 45), (.t 47)]),
  an 6 (.st 3 (.t 4) (.t 48)),
  ao 7 5 (.mv (.k (.i 0))),
  ao 8 6 (.mv (.k (.i 6)))]
def c65_18 : ACode := .seq (.reg r65_17) .ret
def c65_19 : ACode := .cond (.t 42) c65_18 .skip
def c65_20 : ACode := .seq (.reg r65_16) c65_19
def r65_21 : List AOper := [ao 0 50 (.ld 3 true (.t 2)),
  au 1 51 [0] (.mv (.t 7)),
  au 2 52 [0, 1] (.mv (.t 10)),
  au 3 53 [0] (.ia 3 (.t 51) (.t 52)),
  au 4 54 [0] (.ld 3 true (.t 53)),
  ao 5 55 (.call (.k (.c (.fn 6 []))) [(.t 50), (.t 54)]),
  ao 6 49 (.mv (.t 55)),
  ao 7 56 (.ext 0 (.t 49)),
  au 8 57 [7] (.ext 1 (.t 49)),
  au 9 11 (ru 9) (.alloc 27 [.nil0, .nil0, .nil0]),
  ax 10 none none [8] (.st 3 (.t 11) (.t 56)),
  ao 11 12 (.mv (.t 57))]
def r65_22 : List AOper := [ao 0 58 (.mv (.t 12)),
  ao 1 59 (.bin .neq (.t 58) (.k (.i 0)))]
def r65_23 : List AOper := [ao 0 60 (.ld 3 true (.t 11)),
  an 1 (.st 3 (.t 4) (.t 60)),
  ao 2 5 (.mv (.k (.i 0))),
  ao 3 6 (.mv (.k (.i 4)))]
def c65_24 : ACode := .seq (.reg r65_23) .ret
def c65_25 : ACode := .cond (.t 59) c65_24 .skip
def c65_26 : ACode := .seq (.reg r65_22) c65_25
def r65_27 : List AOper := [ao 0 61 (.ld 3 true (.t 11)),
  an 1 (.st 3 (.t 2) (.t 61))]
def c65_28 : ACode := .seq c65_20 (.seq (.reg r65_21) (.seq c65_26 (.reg r65_27)))
def c65_29 : ACode := .block 1 c65_28
def r65_30 : List AOper := [ao 0 33 (.mv (.t 10)),
  ao 1 34 (.bin .add (.t 33) (.k (.i 1))),
  ao 2 10 (.mv (.t 34))]
def c65_31 : ACode := .seq c65_15 (.seq c65_29 (.reg r65_30))
def c65_32 : ACode := .loop c65_31
def c65_33 : ACode := .block 0 c65_32
def c65_34 : ACode := .seq (.reg r65_12) c65_33
def r65_35 : List AOper := [ao 0 62 (.fa 2 (.t 3)),
  ao 1 63 (.ld 1 false (.t 62))]
def r65_36 : List AOper := [ao 0 64 (.ld 3 true (.t 2)),
  ao 1 65 (.fa 4 (.t 3)),
  ao 2 66 (.ld 1 false (.t 65)),
  ao 3 67 (.fa 5 (.t 3)),
  ao 4 68 (.ld 1 false (.t 67)),
  ao 5 69 (.call (.k (.c (.fn 75 []))) [(.t 64), (.t 66), (.t 68)]),
  an 6 (.st 3 (.t 4) (.t 69)),
  ao 7 5 (.mv (.k (.i 0))),
  ao 8 6 (.mv (.k (.i 6)))]
def c65_37 : ACode := .seq (.reg r65_36) .ret
def c65_38 : ACode := .cond (.t 63) c65_37 .skip
def c65_39 : ACode := .seq (.reg r65_35) c65_38
def r65_40 : List AOper := [ao 0 70 (.ld 3 true (.t 2)),
  ao 1 71 (.call (.k (.c (.fn 23 []))) [(.t 70)]),
  ao 2 72 (.mv (.t 8)),
  an 3 (.st 3 (.t 4) (.t 71)),
  ao 4 5 (.mv (.t 72)),
  ao 5 6 (.mv (.k (.i 0)))]
def c65 : ACode := .seq (.reg r65_0) (.seq c65_5 (.seq (.reg r65_6) (.seq c65_11 (.seq c65_34 (.seq c65_39 (.seq (.reg r65_40) .ret))))))
def s65 : List ARes := [.cell 4 3 true, .tmp 5, .tmp 6]
theorem ok65 : okF Try.prog 65 73 c65 s65 := ⟨Try.f65, Try.func65, Try.ntmps65, by kernel_rfl, by kernel_rfl, by kernel_rfl⟩
def Hd65 (d : Dk) (a : LA) (σ : St) : Prop := (∃ u, σ.t 2 = .c (.ptr 2 u 0) ∧ σ.H 2 = some (.var u 27 (cDk d))) ∧ (∃ u, σ.t 3 = .c (.ptr 3 u 0) ∧ σ.H 3 = some (.var u 105 (cLA a))) ∧ (∃ u, σ.t 4 = .c (.ptr 4 u 0) ∧ σ.H 4 = some (.var u 27 [.nil0, .nil0, .nil0]))
def inv65 (ws : List DW) (a : LA) (p : Int) (i : Nat) (σ : St) : Prop := ∃ d, DOk d ∧ Hd65 d a σ ∧ σ.t 7 = tL (en eW ws) ∧ σ.t 8 = .i p ∧ σ.t 10 = .i i
def URr_2 := Bx.mk <|
  aN (uA c65.eq_1) <| aN (uR r65_0.eq_1) <| aN (uA c65_5.eq_1) <| aN (uR r65_1.eq_1) <| aN (uA c65_4.eq_1) <| aN (uA c65_3.eq_1) <| aN (uR r65_2.eq_1) <| aN (uR r65_6.eq_1) <| aN (uA c65_11.eq_1) <| aN (uR r65_7.eq_1) <| aN (uA c65_10.eq_1) <| aN (uA c65_9.eq_1) <| aN (uR r65_8.eq_1) <| aN (uA c65_34.eq_1) <| aN (uR r65_12.eq_1) <| aN (uA c65_33.eq_1) <| aN (uA c65_32.eq_1) <| aN (uA c65_39.eq_1) <| aN (uR r65_35.eq_1) <| aN (uA c65_38.eq_1) <| aN (uA c65_37.eq_1) <| aN (uR r65_36.eq_1) <| aN (uR r65_40.eq_1) <| s65.eq_1
def URr_3 := Bx.mk <|
  aN (uA c65_31.eq_1) <| aN (uA c65_15.eq_1) <| aN (uR r65_13.eq_1) <| aN (uA c65_14.eq_1) <| aN (uA c65_29.eq_1) <| aN (uA c65_28.eq_1) <| aN (uA c65_20.eq_1) <| aN (uR r65_16.eq_1) <| aN (uA c65_19.eq_1) <| aN (uA c65_18.eq_1) <| aN (uR r65_17.eq_1) <| aN (uR r65_21.eq_1) <| aN (uA c65_26.eq_1) <| aN (uR r65_22.eq_1) <| aN (uA c65_25.eq_1) <| aN (uA c65_24.eq_1) <| aN (uR r65_23.eq_1) <| aN (uR r65_27.eq_1) <| aN (uR r65_30.eq_1) <| aN (uA c65.eq_1) <| aN (uR r65_0.eq_1) <| aN (uA c65_5.eq_1) <| aN (uR r65_1.eq_1) <| aN (uA c65_4.eq_1) <| aN (uA c65_3.eq_1) <| aN (uR r65_2.eq_1) <| aN (uR r65_6.eq_1) <| aN (uA c65_11.eq_1) <| aN (uR r65_7.eq_1) <| aN (uA c65_10.eq_1) <| aN (uA c65_9.eq_1) <| aN (uR r65_8.eq_1) <| aN (uA c65_34.eq_1) <| aN (uR r65_12.eq_1) <| aN (uA c65_33.eq_1) <| aN (uA c65_32.eq_1) <| aN (uA c65_39.eq_1) <| aN (uR r65_35.eq_1) <| aN (uA c65_38.eq_1) <| aN (uA c65_37.eq_1) <| aN (uR r65_36.eq_1) <| aN (uR r65_40.eq_1) <| s65.eq_1
set_option maxHeartbeats 1000000 in
theorem logStep_ok (d : Dk) (hD : DOk d) (a : LA) (ha : a.data.size ≤ 1000000) : PC 65 [tDk d, tLA a] (fun x : Dk × Int × Int => DOk x.1) tDII := by
  have hd := hD.fine
  obtain ⟨b, hb, C1⟩ := okS_ok d hd
  rw [hb.2 hD] at C1
  obtain ⟨⟨ws, p, code⟩, hws, C2⟩ := logWrites_ok d hd a ha
  refine PC.intro ok65 rfl (fun _ => rfl) fun X => ?_
  simp only [RUX, Nat.reduceAdd, reduceIte, Nat.reduceEqDiff, Nat.reduceLT, Nat.reduceLeDiff, reduceCtorEq, eq_self, FIX, forall_const, endE_n, endE_r, CHT, disj, Nat.reduceBEq, beq_self_eq_true, APT, APX, forall_eq, ALT, ALU, URr_2.d]
  refine callC C1 rfl rfl rfl rfl ?_
  simp only [RUX, Nat.reduceAdd, reduceIte, Nat.reduceEqDiff, Nat.reduceLT, Nat.reduceLeDiff, reduceCtorEq, eq_self, FIX, forall_const, endE_n, endE_r, CHT, disj, Nat.reduceBEq, beq_self_eq_true, APT, APX, forall_eq, ALT, ALU, URr_2.d]
  refine callC C2 rfl rfl rfl rfl ?_
  by_cases g1 : (code != 0) = true
  · simp only [RUX, Nat.reduceAdd, reduceIte, Nat.reduceEqDiff, Nat.reduceLT, Nat.reduceLeDiff, reduceCtorEq, eq_self, FIX, forall_const, endE_n, endE_r, CHT, disj, Nat.reduceBEq, beq_self_eq_true, APT, APX, forall_eq, ALT, ALU, URr_2.d, g1]
    refine callC (copyC_ok d hd.s) rfl rfl rfl rfl ?_
    simp only [RUX, Nat.reduceAdd, reduceIte, Nat.reduceEqDiff, Nat.reduceLT, Nat.reduceLeDiff, reduceCtorEq, eq_self, FIX, forall_const, endE_n, endE_r, CHT, disj, Nat.reduceBEq, beq_self_eq_true, APT, APX, forall_eq, ALT, ALU, URr_2.d]
    refine ES.mk (d, 0, code) hD ?_
    simp only [RUX, Nat.reduceAdd, reduceIte, Nat.reduceEqDiff, Nat.reduceLT, Nat.reduceLeDiff, reduceCtorEq, eq_self, FIX, forall_const, endE_n, endE_r, CHT, disj, Nat.reduceBEq, beq_self_eq_true, APT, APX, forall_eq, ALT, ALU, URr_2.d]
  rw [Bool.not_eq_true] at g1
  simp only [RUX, Nat.reduceAdd, reduceIte, Nat.reduceEqDiff, Nat.reduceLT, Nat.reduceLeDiff, reduceCtorEq, eq_self, FIX, forall_const, endE_n, endE_r, CHT, disj, Nat.reduceBEq, beq_self_eq_true, APT, APX, forall_eq, ALT, ALU, URr_2.d, g1]
  have hwl := hws.l
  simp only at hwl
  refine AW.upto ws.length (inv65 ws a p) ⟨d, hD, ⟨⟨_, rfl, rfl⟩, ⟨_, rfl, rfl⟩, ⟨_, rfl, rfl⟩⟩, rfl, rfl, rfl⟩ fun i t H c hi h => ?_
  clear hD hd hb C1 C2 d
  obtain ⟨d, hD, ⟨⟨u2, e2, eH2⟩, ⟨u3, e3, eH3⟩, ⟨u4, e4, eH4⟩⟩, e7, e8, e10⟩ := h
  simp only [T.c, T.i, tL] at e2 eH2 e3 eH3 e4 eH4 e7 e8 e10
  have hd := hD.fine
  have C3 := cutS_ok d hD a.moves a.keep
  have hcut := hD.cut a.moves a.keep
  by_cases k1 : (i : Int) < ws.length
  rotate_left
  · cases hc : a.cuts with
    | true =>
      simp only [RUX, Nat.reduceAdd, reduceIte, Nat.reduceEqDiff, Nat.reduceLT, Nat.reduceLeDiff, reduceCtorEq, eq_self, FIX, forall_const, endE_n, endE_r, CHT, disj, Nat.reduceBEq, beq_self_eq_true, APT, APX, forall_eq, ALT, ALU, URr_3.d, e2, eH2, e3, eH3, e4, eH4, e7, e8, e10, en_len, k1, URr_2.d, hc]
      refine callC C3 rfl rfl rfl rfl ?_
      simp only [RUX, Nat.reduceAdd, reduceIte, Nat.reduceEqDiff, Nat.reduceLT, Nat.reduceLeDiff, reduceCtorEq, eq_self, FIX, forall_const, endE_n, endE_r, CHT, disj, Nat.reduceBEq, beq_self_eq_true, APT, APX, forall_eq, ALT, ALU, URr_2.d, e4, eH4]
      refine ES.mk (cutD d a.moves a.keep, 0, 6) hcut ?_
      simp only [RUX, Nat.reduceAdd, reduceIte, Nat.reduceEqDiff, Nat.reduceLT, Nat.reduceLeDiff, reduceCtorEq, eq_self, FIX, forall_const, endE_n, endE_r, CHT, disj, Nat.reduceBEq, beq_self_eq_true, APT, APX, forall_eq, ALT, ALU, URr_2.d, e4]
    | false =>
      simp only [RUX, Nat.reduceAdd, reduceIte, Nat.reduceEqDiff, Nat.reduceLT, Nat.reduceLeDiff, reduceCtorEq, eq_self, FIX, forall_const, endE_n, endE_r, CHT, disj, Nat.reduceBEq, beq_self_eq_true, APT, APX, forall_eq, ALT, ALU, URr_3.d, e2, eH2, e3, eH3, e4, eH4, e7, e8, e10, en_len, k1, URr_2.d, hc]
      refine callC (copyC_ok d hd.s) rfl rfl rfl rfl ?_
      simp only [RUX, Nat.reduceAdd, reduceIte, Nat.reduceEqDiff, Nat.reduceLT, Nat.reduceLeDiff, reduceCtorEq, eq_self, FIX, forall_const, endE_n, endE_r, CHT, disj, Nat.reduceBEq, beq_self_eq_true, APT, APX, forall_eq, ALT, ALU, URr_2.d, e4, eH4, e8]
      refine ES.mk (d, p, 0) hD ?_
      simp only [RUX, Nat.reduceAdd, reduceIte, Nat.reduceEqDiff, Nat.reduceLT, Nat.reduceLeDiff, reduceCtorEq, eq_self, FIX, forall_const, endE_n, endE_r, CHT, disj, Nat.reduceBEq, beq_self_eq_true, APT, APX, forall_eq, ALT, ALU, URr_2.d, e4]
  obtain ⟨w, hx⟩ : ∃ x, ws[i]? = some x := ⟨_, List.getElem?_eq_getElem (by omega)⟩
  have ex := en_at eW hx
  have gz : (0 : Int) ≤ i := by omega
  have w2 : IntKind.i64.wrap ((i : Int) + 1) = ((i + 1 : Nat) : Int) := wrap64 (x := (i : Int) + 1) ⟨by omega, by omega⟩
  obtain ⟨r, hr, C4⟩ := doS_ok d w hd (hws.w w (List.mem_of_getElem? hx))
  have hr1 : DOk r.1 := by
    rcases hr with ⟨_, rfl⟩ | ⟨h, _⟩
    · exact hD.step w
    · exact absurd hD h
  by_cases f0 : a.cuts = true ∧ (i : Int) ≥ a.after
  · obtain ⟨f1, f2⟩ := f0
    simp only [RUX, Nat.reduceAdd, reduceIte, Nat.reduceEqDiff, Nat.reduceLT, Nat.reduceLeDiff, reduceCtorEq, eq_self, FIX, forall_const, endE_n, endE_r, CHT, disj, Nat.reduceBEq, beq_self_eq_true, APT, APX, forall_eq, ALT, ALU, URr_3.d, e2, eH2, e3, eH3, e4, eH4, e7, e8, e10, en_len, k1, f1, f2]
    refine callC C3 rfl rfl rfl rfl ?_
    simp only [RUX, Nat.reduceAdd, reduceIte, Nat.reduceEqDiff, Nat.reduceLT, Nat.reduceLeDiff, reduceCtorEq, eq_self, FIX, forall_const, endE_n, endE_r, CHT, disj, Nat.reduceBEq, beq_self_eq_true, APT, APX, forall_eq, ALT, ALU, s65, e4, eH4]
    refine ES.mk (cutD d a.moves a.keep, 0, 6) hcut ?_
    simp only [RUX, Nat.reduceAdd, reduceIte, Nat.reduceEqDiff, Nat.reduceLT, Nat.reduceLeDiff, reduceCtorEq, eq_self, FIX, forall_const, endE_n, endE_r, CHT, disj, Nat.reduceBEq, beq_self_eq_true, APT, APX, forall_eq, ALT, ALU, s65, e4]
  have hgd : a.cuts = false ∨ (a.cuts = true ∧ ¬ (i : Int) ≥ a.after) := by
    cases hc : a.cuts with
    | false => exact .inl rfl
    | true => exact .inr ⟨rfl, fun h => f0 ⟨hc, h⟩⟩
  rcases hgd with f1 | ⟨f1, f2⟩
  · simp only [RUX, Nat.reduceAdd, reduceIte, Nat.reduceEqDiff, Nat.reduceLT, Nat.reduceLeDiff, reduceCtorEq, eq_self, FIX, forall_const, endE_n, endE_r, CHT, disj, Nat.reduceBEq, beq_self_eq_true, APT, APX, forall_eq, ALT, ALU, URr_3.d, e2, eH2, e3, eH3, e4, eH4, e7, e8, e10, en_len, k1, ex, gz, Int.toNat_natCast, eW, f1]
    refine callC C4 rfl rfl rfl rfl ?_
    by_cases g2 : (r.2 != 0) = true
    · simp only [RUX, Nat.reduceAdd, reduceIte, Nat.reduceEqDiff, Nat.reduceLT, Nat.reduceLeDiff, reduceCtorEq, eq_self, FIX, forall_const, endE_n, endE_r, CHT, disj, Nat.reduceBEq, beq_self_eq_true, APT, APX, forall_eq, ALT, ALU, URr_3.d, e2, eH2, e3, eH3, e4, eH4, e7, e8, e10, en_len, k1, g2]
      refine ES.mk (r.1, 0, 4) hr1 ?_
      simp only [RUX, Nat.reduceAdd, reduceIte, Nat.reduceEqDiff, Nat.reduceLT, Nat.reduceLeDiff, reduceCtorEq, eq_self, FIX, forall_const, endE_n, endE_r, CHT, disj, Nat.reduceBEq, beq_self_eq_true, APT, APX, forall_eq, ALT, ALU, s65, e4]
    · rw [Bool.not_eq_true] at g2
      simp only [RUX, Nat.reduceAdd, reduceIte, Nat.reduceEqDiff, Nat.reduceLT, Nat.reduceLeDiff, reduceCtorEq, eq_self, FIX, forall_const, endE_n, endE_r, CHT, disj, Nat.reduceBEq, beq_self_eq_true, APT, APX, forall_eq, ALT, ALU, URr_3.d, e2, eH2, e3, eH3, e4, eH4, e7, e8, e10, en_len, k1, g2, w2]
      exact ⟨by omega, r.1, hr1, ⟨⟨u2, e2, rfl⟩, ⟨u3, e3, eH3⟩, ⟨u4, e4, eH4⟩⟩, e7, e8, rfl⟩
  · simp only [RUX, Nat.reduceAdd, reduceIte, Nat.reduceEqDiff, Nat.reduceLT, Nat.reduceLeDiff, reduceCtorEq, eq_self, FIX, forall_const, endE_n, endE_r, CHT, disj, Nat.reduceBEq, beq_self_eq_true, APT, APX, forall_eq, ALT, ALU, URr_3.d, e2, eH2, e3, eH3, e4, eH4, e7, e8, e10, en_len, k1, ex, gz, Int.toNat_natCast, eW, f1, f2]
    refine callC C4 rfl rfl rfl rfl ?_
    by_cases g2 : (r.2 != 0) = true
    · simp only [RUX, Nat.reduceAdd, reduceIte, Nat.reduceEqDiff, Nat.reduceLT, Nat.reduceLeDiff, reduceCtorEq, eq_self, FIX, forall_const, endE_n, endE_r, CHT, disj, Nat.reduceBEq, beq_self_eq_true, APT, APX, forall_eq, ALT, ALU, URr_3.d, e2, eH2, e3, eH3, e4, eH4, e7, e8, e10, en_len, k1, g2]
      refine ES.mk (r.1, 0, 4) hr1 ?_
      simp only [RUX, Nat.reduceAdd, reduceIte, Nat.reduceEqDiff, Nat.reduceLT, Nat.reduceLeDiff, reduceCtorEq, eq_self, FIX, forall_const, endE_n, endE_r, CHT, disj, Nat.reduceBEq, beq_self_eq_true, APT, APX, forall_eq, ALT, ALU, s65, e4]
    · rw [Bool.not_eq_true] at g2
      simp only [RUX, Nat.reduceAdd, reduceIte, Nat.reduceEqDiff, Nat.reduceLT, Nat.reduceLeDiff, reduceCtorEq, eq_self, FIX, forall_const, endE_n, endE_r, CHT, disj, Nat.reduceBEq, beq_self_eq_true, APT, APX, forall_eq, ALT, ALU, URr_3.d, e2, eH2, e3, eH3, e4, eH4, e7, e8, e10, en_len, k1, g2, w2]
      exact ⟨by omega, r.1, hr1, ⟨⟨u2, e2, rfl⟩, ⟨u3, e3, eH3⟩, ⟨u4, e4, eH4⟩⟩, e7, e8, rfl⟩
end Go.V
set_option linter.unusedSimpArgs false
namespace Go.V
open Go.Proofs
def eLA (a : LA) : List V := [.s (.int .i64 a.kind), .s (.string a.data), .s (.bool a.cuts), .s (.int .i64 a.after), .s (.int .i64 a.moves), .sl (en eI a.keep)]
theorem eLA_len (a : LA) : (eLA a).length = 6 := rfl
def okA (a : LA) : Prop := a.data.size ≤ 1000000 ∧ a.keep.length ≤ 1000000
abbrev tDIs (x : Dk × List Int) : T := .tup [.agg (cDk x.1), .one (.v (.sl (en eI x.2)))]
/- loop.example/teagle/spec.LogPlay -/
def r59_0 : List AOper := [ao 0 2 (.alloc 27 [.nil0, .nil0, .nil0]),
  ao 1 3 (.mv (.k (.c .nil0)))]
def r59_1 : List AOper := [ao 0 10 (.build [.nil0, .nil0, .nil0] []),
  ao 1 4 (.alloc 27 [.nil0, .nil0, .nil0]),
  an 2 (.st 3 (.t 4) (.t 10))]
def r59_2 : List AOper := [ao 0 11 (.bsl 1 3 []),
  ao 1 5 (.mv (.t 11))]
def r59_3 : List AOper := [ao 0 12 (.mv (.t 0)),
  ao 1 13 (.len (.t 12)),
  ao 2 14 (.bin .gtr (.t 13) (.k (.i 200)))]
def r59_4 : List AOper := [ao 0 15 (.ld 3 true (.t 4)),
  ao 1 16 (.mv (.t 5)),
  an 2 (.st 3 (.t 2) (.t 15)),
  ao 3 3 (.mv (.t 16))]
def c59_5 : ACode := .seq (.reg r59_4) .ret
def c59_6 : ACode := .cond (.t 14) c59_5 .skip
def c59_7 : ACode := .seq (.reg r59_3) c59_6
def r59_8 : List AOper := [ao 0 6 (.mv (.k (.i 0)))]
def r59_9 : List AOper := [ao 0 17 (.mv (.t 6)),
  ao 1 18 (.mv (.t 0)),
  ao 2 19 (.len (.t 18)),
  ao 3 20 (.bin .lss (.t 17) (.t 19))]
def c59_10 : ACode := .cond (.t 20) .skip (.exit 0)
def c59_11 : ACode := .seq (.reg r59_9) c59_10
def r59_12 : List AOper := [ao 0 24 (.ld 3 true (.t 4)),
  au 1 25 [0] (.mv (.t 0)),
  au 2 26 [0, 1] (.mv (.t 6)),
  au 3 27 [0] (.ia 6 (.t 25) (.t 26)),
  au 4 28 [0] (.ld 6 true (.t 27)),
  ao 5 29 (.call (.k (.c (.fn 65 []))) [(.t 24), (.t 28)]),
  ao 6 23 (.mv (.t 29)),
  ao 7 30 (.ext 0 (.t 23)),
  au 8 31 [7] (.ext 1 (.t 23)),
  au 9 32 [7, 8] (.ext 2 (.t 23)),
  au 10 7 (ru 10) (.alloc 27 [.nil0, .nil0, .nil0]),
  ax 11 none none [8, 9] (.st 3 (.t 7) (.t 30)),
  au 12 8 [9] (.mv (.t 31)),
  ao 13 9 (.mv (.t 32))]
def r59_13 : List AOper := [ao 0 33 (.ld 3 true (.t 7)),
  an 1 (.st 3 (.t 4) (.t 33))]
def r59_14 : List AOper := [ao 0 34 (.mv (.t 5)),
  ao 1 35 (.mv (.t 9)),
  ao 2 36 (.bsl 1 3 [(.t 35)]),
  ao 3 37 (.app 1 3 8 (.t 34) (.t 36)),
  ao 4 5 (.mv (.t 37))]
def c59_15 : ACode := .seq (.reg r59_12) (.seq (.reg r59_13) (.reg r59_14))
def c59_16 : ACode := .block 1 c59_15
def r59_17 : List AOper := [ao 0 21 (.mv (.t 6)),
  ao 1 22 (.bin .add (.t 21) (.k (.i 1))),
  ao 2 6 (.mv (.t 22))]
def c59_18 : ACode := .seq c59_11 (.seq c59_16 (.reg r59_17))
def c59_19 : ACode := .loop c59_18
def c59_20 : ACode := .block 0 c59_19
def c59_21 : ACode := .seq (.reg r59_8) c59_20
def r59_22 : List AOper := [ao 0 38 (.ld 3 true (.t 4)),
  ao 1 39 (.mv (.t 5)),
  an 2 (.st 3 (.t 2) (.t 38)),
  ao 3 3 (.mv (.t 39))]
def c59 : ACode := .seq (.reg r59_0) (.seq (.reg r59_1) (.seq (.reg r59_2) (.seq c59_7 (.seq c59_21 (.seq (.reg r59_22) .ret)))))
def s59 : List ARes := [.cell 2 3 true, .tmp 3]
theorem ok59 : okF Try.prog 59 40 c59 s59 := ⟨Try.f59, Try.func59, Try.ntmps59, by kernel_rfl, by kernel_rfl, by kernel_rfl⟩
def isDk (cs : List C) (d : Dk) : Prop := (cs = [.nil0, .nil0, .nil0] ∧ d = zDk) ∨ cs = cDk d
def inv59 (acts : List LA) (i : Nat) (σ : St) : Prop := ∃ d codes cs v, DOk d ∧ isDk cs d ∧ codes.length = i ∧ σ.t 0 = tL (en eLA acts) ∧ (∃ u, σ.t 2 = .c (.ptr 2 u 0) ∧ σ.H 2 = some (.var u 27 [.nil0, .nil0, .nil0])) ∧ (∃ u, σ.t 4 = .c (.ptr 4 u 0) ∧ σ.H 4 = some (.var u 27 cs)) ∧ σ.t 6 = .i i ∧ σ.t 5 = .c (.own 11 v codes.length) ∧ σ.H 11 = some (.arr v true 1 3 (en eI codes))
def URs_1 := Bx.mk <|
  aN (uA c59.eq_1) <| aN (uR r59_0.eq_1) <| aN (uR r59_1.eq_1) <| aN (uR r59_2.eq_1) <| aN (uA c59_7.eq_1) <| aN (uR r59_3.eq_1) <| aN (uA c59_6.eq_1) <| aN (uA c59_5.eq_1) <| aN (uR r59_4.eq_1) <| aN (uA c59_21.eq_1) <| aN (uR r59_8.eq_1) <| aN (uA c59_20.eq_1) <| aN (uA c59_19.eq_1) <| aN (uR r59_22.eq_1) <| s59.eq_1
def URs_2 := Bx.mk <|
  aN (uA c59_18.eq_1) <| aN (uA c59_11.eq_1) <| aN (uR r59_9.eq_1) <| aN (uA c59_10.eq_1) <| aN (uA c59_16.eq_1) <| aN (uA c59_15.eq_1) <| aN (uR r59_12.eq_1) <| aN (uR r59_13.eq_1) <| aN (uR r59_14.eq_1) <| aN (uR r59_17.eq_1) <| aN (uA c59.eq_1) <| aN (uR r59_0.eq_1) <| aN (uR r59_1.eq_1) <| aN (uR r59_2.eq_1) <| aN (uA c59_7.eq_1) <| aN (uR r59_3.eq_1) <| aN (uA c59_6.eq_1) <| aN (uA c59_5.eq_1) <| aN (uR r59_4.eq_1) <| aN (uA c59_21.eq_1) <| aN (uR r59_8.eq_1) <| aN (uA c59_20.eq_1) <| aN (uA c59_19.eq_1) <| aN (uR r59_22.eq_1) <| s59.eq_1
set_option maxHeartbeats 1000000 in
theorem logPlay_ok (acts : List LA) (ha : ∀ a ∈ acts, okA a) : PC 59 [tL (en eLA acts)] (fun x : Dk × List Int => DOk x.1) tDIs := by
  refine PC.intro ok59 rfl (fun _ => rfl) fun X => ?_
  by_cases g1 : (acts.length : Int) > 200
  · simp only [RUX, Nat.reduceAdd, reduceIte, Nat.reduceEqDiff, Nat.reduceLT, Nat.reduceLeDiff, reduceCtorEq, eq_self, FIX, forall_const, endE_n, endE_r, CHT, disj, Nat.reduceBEq, beq_self_eq_true, APT, APX, forall_eq, ALT, ALU, URs_1.d, en_len, g1]
    refine ES.mk (zDk, []) zDk_ok ?_
    simp only [RUX, Nat.reduceAdd, reduceIte, Nat.reduceEqDiff, Nat.reduceLT, Nat.reduceLeDiff, reduceCtorEq, eq_self, FIX, forall_const, endE_n, endE_r, CHT, disj, Nat.reduceBEq, beq_self_eq_true, APT, APX, forall_eq, ALT, ALU, URs_1.d, zDk, en_nil]
  simp only [RUX, Nat.reduceAdd, reduceIte, Nat.reduceEqDiff, Nat.reduceLT, Nat.reduceLeDiff, reduceCtorEq, eq_self, FIX, forall_const, endE_n, endE_r, CHT, disj, Nat.reduceBEq, beq_self_eq_true, APT, APX, forall_eq, ALT, ALU, URs_1.d, en_len, g1]
  refine AW.upto acts.length (inv59 acts) ⟨zDk, [], _, _, zDk_ok, .inl ⟨rfl, rfl⟩, rfl, rfl, ⟨_, rfl, rfl⟩, ⟨_, rfl, rfl⟩, rfl, rfl, rfl⟩ fun i t H c hi h => ?_
  obtain ⟨d, codes, cs, v, hD, hcs, hl, e0, ⟨u2, e2, eH2⟩, ⟨u4, e4, eH4⟩, e6, e5, eH5⟩ := h
  simp only [T.c, T.i, tL] at e0 e2 eH2 e4 eH4 e6 e5 eH5
  have ht1 : (en eI codes).take codes.length = en eI codes := en_take eI codes
  by_cases k1 : (i : Int) < acts.length
  rotate_left
  · rcases hcs with ⟨rfl, rfl⟩ | rfl
    · simp only [RUX, Nat.reduceAdd, reduceIte, Nat.reduceEqDiff, Nat.reduceLT, Nat.reduceLeDiff, reduceCtorEq, eq_self, FIX, forall_const, endE_n, endE_r, CHT, disj, Nat.reduceBEq, beq_self_eq_true, APT, APX, forall_eq, ALT, ALU, URs_2.d, e0, e2, eH2, e4, eH4, e6, e5, eH5, en_len, k1, URs_1.d]
      refine ES.mk (zDk, codes) zDk_ok ?_
      simp only [RUX, Nat.reduceAdd, reduceIte, Nat.reduceEqDiff, Nat.reduceLT, Nat.reduceLeDiff, reduceCtorEq, eq_self, FIX, forall_const, endE_n, endE_r, CHT, disj, Nat.reduceBEq, beq_self_eq_true, APT, APX, forall_eq, ALT, ALU, URs_1.d, e2, eH5, ht1, zDk, en_nil]
    · simp only [RUX, Nat.reduceAdd, reduceIte, Nat.reduceEqDiff, Nat.reduceLT, Nat.reduceLeDiff, reduceCtorEq, eq_self, FIX, forall_const, endE_n, endE_r, CHT, disj, Nat.reduceBEq, beq_self_eq_true, APT, APX, forall_eq, ALT, ALU, URs_2.d, e0, e2, eH2, e4, eH4, e6, e5, eH5, en_len, k1, URs_1.d]
      refine ES.mk (d, codes) hD ?_
      simp only [RUX, Nat.reduceAdd, reduceIte, Nat.reduceEqDiff, Nat.reduceLT, Nat.reduceLeDiff, reduceCtorEq, eq_self, FIX, forall_const, endE_n, endE_r, CHT, disj, Nat.reduceBEq, beq_self_eq_true, APT, APX, forall_eq, ALT, ALU, URs_1.d, e2, eH5, ht1]
  obtain ⟨a, hx⟩ : ∃ x, acts[i]? = some x := ⟨_, List.getElem?_eq_getElem (by omega)⟩
  have ex := en_at eLA hx
  have gz : (0 : Int) ≤ i := by omega
  have w2 : IntKind.i64.wrap ((i : Int) + 1) = ((i + 1 : Nat) : Int) := wrap64 (x := (i : Int) + 1) ⟨by omega, by omega⟩
  obtain ⟨⟨d', p, code⟩, hD', C1⟩ := logStep_ok d hD a (ha a (List.mem_of_getElem? hx)).1
  have q1 : (codes.length + 1) * 8 ≤ 140737488355328 := by omega
  have q2 : codes.length ≤ 9223372036854775806 := by omega
  rcases hcs with ⟨rfl, rfl⟩ | rfl
  · simp only [RUX, Nat.reduceAdd, reduceIte, Nat.reduceEqDiff, Nat.reduceLT, Nat.reduceLeDiff, reduceCtorEq, eq_self, FIX, forall_const, endE_n, endE_r, CHT, disj, Nat.reduceBEq, beq_self_eq_true, APT, APX, forall_eq, ALT, ALU, URs_2.d, e0, e2, eH2, e4, eH4, e6, e5, eH5, en_len, k1, ex, gz, Int.toNat_natCast, eLA]
    refine callL (ws := []) (ns := []) C1 rfl ?_ rfl rfl ?_
    · simp only [RUX, Nat.reduceAdd, reduceIte, Nat.reduceEqDiff, Nat.reduceLT, Nat.reduceLeDiff, reduceCtorEq, eq_self, FIX, forall_const, endE_n, endE_r, CHT, disj, Nat.reduceBEq, beq_self_eq_true, APT, APX, forall_eq, ALT, ALU, URs_1.d, lendTs, lendT, zDk, en_nil]
      rfl
    simp only [RUX, Nat.reduceAdd, reduceIte, Nat.reduceEqDiff, Nat.reduceLT, Nat.reduceLeDiff, reduceCtorEq, eq_self, FIX, forall_const, endE_n, endE_r, CHT, disj, Nat.reduceBEq, beq_self_eq_true, APT, APX, forall_eq, ALT, ALU, URs_2.d, e0, e2, eH2, e4, eH4, e6, e5, eH5, en_len, k1, scalarT, scalarP, scalarC, List.all_cons, Bool.false_and, w2, ht1, q1, q2, ite_self]
    refine ⟨by omega, d', codes ++ [code], cDk d', c + 4 + 14 + 2 + 3, hD', .inr rfl, by rw [List.length_append, hl]; rfl, e0, ⟨u2, e2, eH2⟩, ⟨u4, e4, rfl⟩, rfl, ?_, ?_⟩
    · rw [List.length_append]; rfl
    · rw [en_snoc]; rfl
  · simp only [RUX, Nat.reduceAdd, reduceIte, Nat.reduceEqDiff, Nat.reduceLT, Nat.reduceLeDiff, reduceCtorEq, eq_self, FIX, forall_const, endE_n, endE_r, CHT, disj, Nat.reduceBEq, beq_self_eq_true, APT, APX, forall_eq, ALT, ALU, URs_2.d, e0, e2, eH2, e4, eH4, e6, e5, eH5, en_len, k1, ex, gz, Int.toNat_natCast, eLA]
    refine callL (ws := []) (ns := []) C1 rfl ?_ rfl rfl ?_
    · simp only [RUX, Nat.reduceAdd, reduceIte, Nat.reduceEqDiff, Nat.reduceLT, Nat.reduceLeDiff, reduceCtorEq, eq_self, FIX, forall_const, endE_n, endE_r, CHT, disj, Nat.reduceBEq, beq_self_eq_true, APT, APX, forall_eq, ALT, ALU, URs_1.d, lendTs, lendT, zDk, en_nil]
    simp only [RUX, Nat.reduceAdd, reduceIte, Nat.reduceEqDiff, Nat.reduceLT, Nat.reduceLeDiff, reduceCtorEq, eq_self, FIX, forall_const, endE_n, endE_r, CHT, disj, Nat.reduceBEq, beq_self_eq_true, APT, APX, forall_eq, ALT, ALU, URs_2.d, e0, e2, eH2, e4, eH4, e6, e5, eH5, en_len, k1, scalarT, scalarP, scalarC, List.all_cons, Bool.false_and, w2, ht1, q1, q2, ite_self]
    refine ⟨by omega, d', codes ++ [code], cDk d', c + 4 + 14 + 2 + 3, hD', .inr rfl, by rw [List.length_append, hl]; rfl, e0, ⟨u2, e2, eH2⟩, ⟨u4, e4, rfl⟩, rfl, ?_, ?_⟩
    · rw [List.length_append]; rfl
    · rw [en_snoc]; rfl
end Go.V
set_option linter.unusedSimpArgs false
namespace Go.V
open Go.Proofs
/- loop.example/teagle/spec.l45Data -/
def r76_0 : List AOper := [ao 0 4 (.mv (.k (.s (.string ⟨#[]⟩))))]
def r76_1 : List AOper := [ao 0 5 (.mv (.t 0)),
  ao 1 6 (.call (.k (.c (.fn 22 []))) [(.t 5), (.k (.i 14))])]
def r76_2 : List AOper := [ao 0 8 (.bin .eql (.t 6) (.k (.i 0))),
  ao 1 7 (.mv (.t 8))]
def r76_3 : List AOper := [ao 0 4 (.mv (.k (.s (.string ⟨#[]⟩))))]
def c76_4 : ACode := .seq (.reg r76_3) .ret
def r76_5 : List AOper := [ao 0 10 (.bin .eql (.t 6) (.k (.i 1))),
  ao 1 9 (.mv (.t 10))]
def r76_6 : List AOper := [ao 0 11 (.mv (.t 0)),
  ao 1 12 (.call (.k (.c (.fn 22 []))) [(.t 11), (.k (.i 3))]),
  ao 2 13 (.bin .mul (.t 12) (.k (.i 900))),
  ao 3 14 (.bin .sub (.k (.i 2000)) (.t 13)),
  ao 4 15 (.call (.k (.c (.fn 21 []))) [(.k (.s (.string ⟨#[121]⟩))), (.t 14)]),
  ao 5 4 (.mv (.t 15))]
def c76_7 : ACode := .seq (.reg r76_6) .ret
def r76_8 : List AOper := [ao 0 17 (.bin .eql (.t 6) (.k (.i 2))),
  ao 1 16 (.mv (.t 17))]
def r76_9 : List AOper := [ao 0 18 (.mv (.t 0)),
  ao 1 19 (.call (.k (.c (.fn 22 []))) [(.t 18), (.k (.i 10))]),
  ao 2 20 (.bin .add (.k (.i 250)) (.t 19)),
  ao 3 21 (.call (.k (.c (.fn 21 []))) [(.k (.s (.string ⟨#[122]⟩))), (.t 20)]),
  ao 4 4 (.mv (.t 21))]
def c76_10 : ACode := .seq (.reg r76_9) .ret
def c76_11 : ACode := .cond (.t 16) c76_10 .skip
def c76_12 : ACode := .seq (.reg r76_8) c76_11
def c76_13 : ACode := .cond (.t 9) c76_7 c76_12
def c76_14 : ACode := .seq (.reg r76_5) c76_13
def c76_15 : ACode := .cond (.t 7) c76_4 c76_14
def c76_16 : ACode := .seq (.reg r76_2) c76_15
def c76_17 : ACode := .block 0 c76_16
def c76_18 : ACode := .seq (.reg r76_1) c76_17
def r76_19 : List AOper := [ao 0 22 (.mv (.t 1)),
  ao 1 23 (.call (.k (.c (.fn 64 []))) [(.t 22)]),
  ao 2 24 (.bin .add (.k (.s (.string ⟨#[114]⟩))) (.t 23)),
  ao 3 25 (.mv (.t 0)),
  ao 4 26 (.bsl 1 9 [(.k (.s (.string ⟨#[]⟩))), (.k (.s (.string ⟨#[97]⟩))), (.k (.s (.string ⟨#[10]⟩))), (.k (.s (.string ⟨#[115, 101, 97, 108, 32, 49, 32, 49, 32, 49, 32, 49, 10, 111, 112, 101, 110, 32, 49, 32, 49, 10, 101, 110, 100, 10]⟩))), (.k (.s (.string ⟨#[0, 0]⟩)))]),
  ao 5 27 (.call (.k (.c (.fn 49 []))) [(.t 25), (.t 26)]),
  ao 6 28 (.bin .add (.t 24) (.t 27)),
  ao 7 4 (.mv (.t 28))]
def c76 : ACode := .seq (.reg r76_0) (.seq c76_18 (.seq (.reg r76_19) .ret))
def s76 : List ARes := [.tmp 4]
theorem ok76 : okF Try.prog 76 29 c76 s76 := ⟨Try.f76, Try.func76, Try.ntmps76, by kernel_rfl, by kernel_rfl, by kernel_rfl⟩
def lits : List ByteArray := [⟨#[]⟩, ⟨#[97]⟩, ⟨#[10]⟩, ⟨#[115, 101, 97, 108, 32, 49, 32, 49, 32, 49, 32, 49, 10, 111, 112, 101, 110, 32, 49, 32, 49, 10, 101, 110, 100, 10]⟩, ⟨#[0, 0]⟩]
theorem lits_size : ∀ s ∈ lits, s.size ≤ 100 := by
  intro s hs
  simp only [lits, List.mem_cons, List.not_mem_nil, or_false] at hs
  rcases hs with rfl | rfl | rfl | rfl | rfl <;> decide
def URt_1 := Bx.mk <|
  aN (uA c76.eq_1) <| aN (uR r76_0.eq_1) <| aN (uA c76_18.eq_1) <| aN (uR r76_1.eq_1) <| aN (uA c76_17.eq_1) <| aN (uA c76_16.eq_1) <| aN (uR r76_2.eq_1) <| aN (uA c76_15.eq_1) <| aN (uA c76_4.eq_1) <| aN (uR r76_3.eq_1) <| aN (uA c76_14.eq_1) <| aN (uR r76_5.eq_1) <| aN (uA c76_13.eq_1) <| aN (uA c76_7.eq_1) <| aN (uR r76_6.eq_1) <| aN (uA c76_12.eq_1) <| aN (uR r76_8.eq_1) <| aN (uA c76_11.eq_1) <| aN (uA c76_10.eq_1) <| aN (uR r76_9.eq_1) <| aN (uR r76_19.eq_1) <| s76.eq_1
theorem data_ok (bs : List UInt8) (hb : bs.length ≤ 2000) (p : Int) (hp : 0 ≤ p ∧ p ≤ 900000000000) (i : Int) (hi : okB i) : RC 76 [.i i] bs p 2 (fun s : ByteArray => s.size ≤ 4000) tS := by
  obtain ⟨k, k0, k1, C1⟩ := pick_ok bs hb p 14 (by omega) (by omega)
  by_cases g0 : (k == 0) = true
  · refine RC.intro ok76 rfl (fun _ => rfl) fun X => ?_
    simp only [RUX, Nat.reduceAdd, reduceIte, Nat.reduceEqDiff, Nat.reduceLT, Nat.reduceLeDiff, reduceCtorEq, eq_self, FIX, forall_const, endE_n, endE_r, CHT, disj, Nat.reduceBEq, beq_self_eq_true, APT, APX, forall_eq, ALT, ALU, rH, rV, rdC, rdr, URt_1.d]
    refine callRc (C1 0) rfl rfl rfl rfl rfl ⟨rfl, ?_⟩
    simp only [RUX, Nat.reduceAdd, reduceIte, Nat.reduceEqDiff, Nat.reduceLT, Nat.reduceLeDiff, reduceCtorEq, eq_self, FIX, forall_const, endE_n, endE_r, CHT, disj, Nat.reduceBEq, beq_self_eq_true, APT, APX, forall_eq, ALT, ALU, rH, rV, rdC, rdr, URt_1.d, g0]
    refine ES.mk (p + 1, ⟨#[]⟩) ⟨by omega, by omega, Nat.zero_le _⟩ ?_
    simp only [RUX, Nat.reduceAdd, reduceIte, Nat.reduceEqDiff, Nat.reduceLT, Nat.reduceLeDiff, reduceCtorEq, eq_self, FIX, forall_const, endE_n, endE_r, CHT, disj, Nat.reduceBEq, beq_self_eq_true, APT, APX, forall_eq, ALT, ALU, rH, rV, rdC, rdr, URt_1.d]
  rw [Bool.not_eq_true] at g0
  by_cases g1 : (k == 1) = true
  · obtain ⟨j, j0, j1, C2⟩ := pick_ok bs hb (p + 1) 3 (by omega) (by omega)
    have w1 : IntKind.i64.wrap (j * 900) = j * 900 := wrap64 ⟨by omega, by omega⟩
    have w2 : IntKind.i64.wrap (2000 - j * 900) = ((2000 - j * 900).toNat : Int) := (wrap64 ⟨by omega, by omega⟩).trans (by omega)
    obtain ⟨s, hs, C3⟩ := many_ok ⟨#[121]⟩ (2000 - j * 900).toNat (by omega) (by decide)
    have hz : (⟨#[121]⟩ : ByteArray).size = 1 := rfl
    refine RC.intro ok76 rfl (fun _ => rfl) fun X => ?_
    simp only [RUX, Nat.reduceAdd, reduceIte, Nat.reduceEqDiff, Nat.reduceLT, Nat.reduceLeDiff, reduceCtorEq, eq_self, FIX, forall_const, endE_n, endE_r, CHT, disj, Nat.reduceBEq, beq_self_eq_true, APT, APX, forall_eq, ALT, ALU, rH, rV, rdC, rdr, URt_1.d]
    refine callRc (C1 0) rfl rfl rfl rfl rfl ⟨rfl, ?_⟩
    simp only [RUX, Nat.reduceAdd, reduceIte, Nat.reduceEqDiff, Nat.reduceLT, Nat.reduceLeDiff, reduceCtorEq, eq_self, FIX, forall_const, endE_n, endE_r, CHT, disj, Nat.reduceBEq, beq_self_eq_true, APT, APX, forall_eq, ALT, ALU, rH, rV, rdC, rdr, URt_1.d, g0, g1]
    refine callRc (C2 0) rfl rfl rfl rfl rfl ⟨rfl, ?_⟩
    simp only [RUX, Nat.reduceAdd, reduceIte, Nat.reduceEqDiff, Nat.reduceLT, Nat.reduceLeDiff, reduceCtorEq, eq_self, FIX, forall_const, endE_n, endE_r, CHT, disj, Nat.reduceBEq, beq_self_eq_true, APT, APX, forall_eq, ALT, ALU, rH, rV, rdC, rdr, URt_1.d, w1, w2]
    refine callC C3 rfl rfl rfl rfl ?_
    simp only [RUX, Nat.reduceAdd, reduceIte, Nat.reduceEqDiff, Nat.reduceLT, Nat.reduceLeDiff, reduceCtorEq, eq_self, FIX, forall_const, endE_n, endE_r, CHT, disj, Nat.reduceBEq, beq_self_eq_true, APT, APX, forall_eq, ALT, ALU, rH, rV, rdC, rdr, URt_1.d]
    refine ES.mk (p + 1 + 1, s) ⟨by omega, by omega, by simp only; rw [hs, hz]; omega⟩ ?_
    simp only [RUX, Nat.reduceAdd, reduceIte, Nat.reduceEqDiff, Nat.reduceLT, Nat.reduceLeDiff, reduceCtorEq, eq_self, FIX, forall_const, endE_n, endE_r, CHT, disj, Nat.reduceBEq, beq_self_eq_true, APT, APX, forall_eq, ALT, ALU, rH, rV, rdC, rdr, URt_1.d]
  rw [Bool.not_eq_true] at g1
  by_cases g2 : (k == 2) = true
  · obtain ⟨j, j0, j1, C2⟩ := pick_ok bs hb (p + 1) 10 (by omega) (by omega)
    have w2 : IntKind.i64.wrap (250 + j) = ((250 + j).toNat : Int) := (wrap64 ⟨by omega, by omega⟩).trans (by omega)
    obtain ⟨s, hs, C3⟩ := many_ok ⟨#[122]⟩ (250 + j).toNat (by omega) (by decide)
    have hz : (⟨#[122]⟩ : ByteArray).size = 1 := rfl
    refine RC.intro ok76 rfl (fun _ => rfl) fun X => ?_
    simp only [RUX, Nat.reduceAdd, reduceIte, Nat.reduceEqDiff, Nat.reduceLT, Nat.reduceLeDiff, reduceCtorEq, eq_self, FIX, forall_const, endE_n, endE_r, CHT, disj, Nat.reduceBEq, beq_self_eq_true, APT, APX, forall_eq, ALT, ALU, rH, rV, rdC, rdr, URt_1.d]
    refine callRc (C1 0) rfl rfl rfl rfl rfl ⟨rfl, ?_⟩
    simp only [RUX, Nat.reduceAdd, reduceIte, Nat.reduceEqDiff, Nat.reduceLT, Nat.reduceLeDiff, reduceCtorEq, eq_self, FIX, forall_const, endE_n, endE_r, CHT, disj, Nat.reduceBEq, beq_self_eq_true, APT, APX, forall_eq, ALT, ALU, rH, rV, rdC, rdr, URt_1.d, g0, g1, g2]
    refine callRc (C2 0) rfl rfl rfl rfl rfl ⟨rfl, ?_⟩
    simp only [RUX, Nat.reduceAdd, reduceIte, Nat.reduceEqDiff, Nat.reduceLT, Nat.reduceLeDiff, reduceCtorEq, eq_self, FIX, forall_const, endE_n, endE_r, CHT, disj, Nat.reduceBEq, beq_self_eq_true, APT, APX, forall_eq, ALT, ALU, rH, rV, rdC, rdr, URt_1.d, w2]
    refine callC C3 rfl rfl rfl rfl ?_
    simp only [RUX, Nat.reduceAdd, reduceIte, Nat.reduceEqDiff, Nat.reduceLT, Nat.reduceLeDiff, reduceCtorEq, eq_self, FIX, forall_const, endE_n, endE_r, CHT, disj, Nat.reduceBEq, beq_self_eq_true, APT, APX, forall_eq, ALT, ALU, rH, rV, rdC, rdr, URt_1.d]
    refine ES.mk (p + 1 + 1, s) ⟨by omega, by omega, by simp only; rw [hs, hz]; omega⟩ ?_
    simp only [RUX, Nat.reduceAdd, reduceIte, Nat.reduceEqDiff, Nat.reduceLT, Nat.reduceLeDiff, reduceCtorEq, eq_self, FIX, forall_const, endE_n, endE_r, CHT, disj, Nat.reduceBEq, beq_self_eq_true, APT, APX, forall_eq, ALT, ALU, rH, rV, rdC, rdr, URt_1.d]
  rw [Bool.not_eq_true] at g2
  obtain ⟨w, hw, C2⟩ := decB hi
  obtain ⟨q, s, q0, q1, hs, C3⟩ := of_ok bs hb (p + 1) (by omega) lits (by decide)
  have hsz := lits_size s hs
  have z1 : (⟨#[114]⟩ : ByteArray).size = 1 := rfl
  have l1 : (⟨#[114]⟩ : ByteArray).size + w.size ≤ 9223372036854775807 := by omega
  have l2 : ((⟨#[114]⟩ : ByteArray) ++ w).size + s.size ≤ 9223372036854775807 := by rw [ByteArray.size_append]; omega
  refine RC.intro ok76 rfl (fun _ => rfl) fun X => ?_
  simp only [RUX, Nat.reduceAdd, reduceIte, Nat.reduceEqDiff, Nat.reduceLT, Nat.reduceLeDiff, reduceCtorEq, eq_self, FIX, forall_const, endE_n, endE_r, CHT, disj, Nat.reduceBEq, beq_self_eq_true, APT, APX, forall_eq, ALT, ALU, rH, rV, rdC, rdr, URt_1.d]
  refine callRc (C1 0) rfl rfl rfl rfl rfl ⟨rfl, ?_⟩
  simp only [RUX, Nat.reduceAdd, reduceIte, Nat.reduceEqDiff, Nat.reduceLT, Nat.reduceLeDiff, reduceCtorEq, eq_self, FIX, forall_const, endE_n, endE_r, CHT, disj, Nat.reduceBEq, beq_self_eq_true, APT, APX, forall_eq, ALT, ALU, rH, rV, rdC, rdr, URt_1.d, g0, g1, g2]
  refine callC C2 rfl rfl rfl rfl ?_
  simp only [RUX, Nat.reduceAdd, reduceIte, Nat.reduceEqDiff, Nat.reduceLT, Nat.reduceLeDiff, reduceCtorEq, eq_self, FIX, forall_const, endE_n, endE_r, CHT, disj, Nat.reduceBEq, beq_self_eq_true, APT, APX, forall_eq, ALT, ALU, rH, rV, rdC, rdr, URt_1.d, sStr, l1]
  refine callR (ws := [(26, .arr 14 false 1 9 (en eS lits))]) (ns := [26]) (C3 0) rfl ?_ rfl rfl rfl ⟨rfl, ?_⟩
  · simp only [RUX, Nat.reduceAdd, reduceIte, Nat.reduceEqDiff, Nat.reduceLT, Nat.reduceLeDiff, reduceCtorEq, eq_self, FIX, forall_const, endE_n, endE_r, CHT, disj, Nat.reduceBEq, beq_self_eq_true, APT, APX, forall_eq, ALT, ALU, rH, rV, rdC, rdr, URt_1.d, lendTs, lendT]
    rfl
  simp only [RUX, Nat.reduceAdd, reduceIte, Nat.reduceEqDiff, Nat.reduceLT, Nat.reduceLeDiff, reduceCtorEq, eq_self, FIX, forall_const, endE_n, endE_r, CHT, disj, Nat.reduceBEq, beq_self_eq_true, APT, APX, forall_eq, ALT, ALU, rH, rV, rdC, rdr, URt_1.d, sStr, l2]
  refine ES.mk (q, (⟨#[114]⟩ : ByteArray) ++ w ++ s) ⟨by omega, by omega, by simp only [ByteArray.size_append]; omega⟩ ?_
  simp only [RUX, Nat.reduceAdd, reduceIte, Nat.reduceEqDiff, Nat.reduceLT, Nat.reduceLeDiff, reduceCtorEq, eq_self, FIX, forall_const, endE_n, endE_r, CHT, disj, Nat.reduceBEq, beq_self_eq_true, APT, APX, forall_eq, ALT, ALU, rH, rV, rdC, rdr, URt_1.d]
/- loop.example/teagle/spec.l45Act -/
def r66_0 : List AOper := [ao 0 6 (.alloc 105 [(.v (.s (.int .i64 0))), (.v (.s (.string ⟨#[]⟩))), (.v (.s (.bool false))), (.v (.s (.int .i64 0))), (.v (.s (.int .i64 0))), .nil0])]
def r66_1 : List AOper := [ao 0 9 (.mv (.t 0)),
  ao 1 10 (.mv (.t 1)),
  ao 2 11 (.call (.k (.c (.fn 76 []))) [(.t 9), (.t 10)]),
  ao 3 12 (.build [(.v (.s (.int .i64 0))), (.v (.s (.string ⟨#[]⟩))), (.v (.s (.bool false))), (.v (.s (.int .i64 0))), (.v (.s (.int .i64 0))), .nil0] [(0, 1, (.k (.i 1))), (1, 1, (.t 11))]),
  ao 4 7 (.alloc 105 [(.v (.s (.int .i64 0))), (.v (.s (.string ⟨#[]⟩))), (.v (.s (.bool false))), (.v (.s (.int .i64 0))), (.v (.s (.int .i64 0))), .nil0]),
  an 5 (.st 6 (.t 7) (.t 12))]
def r66_2 : List AOper := [ao 0 13 (.mv (.t 0)),
  ao 1 14 (.call (.k (.c (.fn 22 []))) [(.t 13), (.k (.i 10))])]
def r66_3 : List AOper := [ao 0 16 (.bin .eql (.t 14) (.k (.i 0))),
  ao 1 15 (.mv (.t 16))]
def r66_4 : List AOper := [ao 0 17 (.bin .eql (.t 14) (.k (.i 1))),
  ao 1 15 (.mv (.t 17))]
def c66_5 : ACode := .cond (.t 15) .skip (.reg r66_4)
def c66_6 : ACode := .seq (.reg r66_3) c66_5
def r66_7 : List AOper := [ao 0 18 (.build [(.v (.s (.int .i64 0))), (.v (.s (.string ⟨#[]⟩))), (.v (.s (.bool false))), (.v (.s (.int .i64 0))), (.v (.s (.int .i64 0))), .nil0] [(0, 1, (.k (.i 2)))]),
  an 1 (.st 6 (.t 7) (.t 18))]
def r66_8 : List AOper := [ao 0 20 (.bin .eql (.t 14) (.k (.i 2))),
  ao 1 19 (.mv (.t 20))]
def r66_9 : List AOper := [ao 0 21 (.build [(.v (.s (.int .i64 0))), (.v (.s (.string ⟨#[]⟩))), (.v (.s (.bool false))), (.v (.s (.int .i64 0))), (.v (.s (.int .i64 0))), .nil0] [(0, 1, (.k (.i 3)))]),
  an 1 (.st 6 (.t 7) (.t 21))]
def r66_10 : List AOper := [ao 0 23 (.bin .eql (.t 14) (.k (.i 3))),
  ao 1 22 (.mv (.t 23))]
def r66_11 : List AOper := [ao 0 24 (.build [(.v (.s (.int .i64 0))), (.v (.s (.string ⟨#[]⟩))), (.v (.s (.bool false))), (.v (.s (.int .i64 0))), (.v (.s (.int .i64 0))), .nil0] [(0, 1, (.k (.i 4)))]),
  an 1 (.st 6 (.t 7) (.t 24))]
def c66_12 : ACode := .cond (.t 22) (.reg r66_11) .skip
def c66_13 : ACode := .seq (.reg r66_10) c66_12
def c66_14 : ACode := .cond (.t 19) (.reg r66_9) c66_13
def c66_15 : ACode := .seq (.reg r66_8) c66_14
def c66_16 : ACode := .cond (.t 15) (.reg r66_7) c66_15
def c66_17 : ACode := .seq c66_6 c66_16
def c66_18 : ACode := .block 0 c66_17
def c66_19 : ACode := .seq (.reg r66_2) c66_18
def r66_20 : List AOper := [ao 0 25 (.mv (.t 0)),
  ao 1 26 (.call (.k (.c (.fn 22 []))) [(.t 25), (.k (.i 10))]),
  ao 2 27 (.mv (.t 2)),
  ao 3 28 (.bin .lss (.t 26) (.t 27))]
def r66_21 : List AOper := [ao 0 29 (.fa 2 (.t 7)),
  an 1 (.st 1 (.t 29) (.k (.b true)))]
def r66_22 : List AOper := [ao 0 30 (.mv (.t 0)),
  ao 1 31 (.call (.k (.c (.fn 22 []))) [(.t 30), (.k (.i 10))]),
  ao 2 32 (.fa 3 (.t 7)),
  an 3 (.st 1 (.t 32) (.t 31))]
def r66_23 : List AOper := [ao 0 33 (.mv (.t 0)),
  ao 1 34 (.call (.k (.c (.fn 22 []))) [(.t 33), (.k (.i 5))]),
  ao 2 35 (.fa 4 (.t 7)),
  an 3 (.st 1 (.t 35) (.t 34))]
def r66_24 : List AOper := [ao 0 36 (.mv (.t 0)),
  ao 1 37 (.call (.k (.c (.fn 22 []))) [(.t 36), (.k (.i 6))]),
  ao 2 8 (.mv (.t 37))]
def r66_25 : List AOper := [ao 0 38 (.mv (.t 8)),
  ao 1 39 (.bin .gtr (.t 38) (.k (.i 0)))]
def c66_26 : ACode := .cond (.t 39) .skip (.exit 1)
def c66_27 : ACode := .seq (.reg r66_25) c66_26
def r66_28 : List AOper := [ao 0 42 (.fa 5 (.t 7)),
  ao 1 43 (.ld 1 false (.t 42)),
  au 2 44 [0, 1] (.bsl 1 3 [(.k (.i 0)), (.k (.i 1)), (.k (.i 4)), (.k (.i 7)), (.k (.i 30)), (.k (.i 9999))]),
  au 3 45 (ru 3) (.mv (.t 0)),
  au 4 46 (ru 3) (.call (.k (.c (.fn 22 []))) [(.t 45), (.k (.i 6))]),
  au 5 47 [0, 1] (.ia 1 (.t 44) (.t 46)),
  au 6 48 [0, 1] (.ld 1 false (.t 47)),
  au 7 49 [0, 1] (.bsl 1 3 [(.t 48)]),
  ao 8 50 (.app 1 3 8 (.t 43) (.t 49)),
  ao 9 51 (.fa 5 (.t 7)),
  an 10 (.st 1 (.t 51) (.t 50))]
def c66_29 : ACode := .block 2 (.reg r66_28)
def r66_30 : List AOper := [ao 0 40 (.mv (.t 8)),
  ao 1 41 (.bin .sub (.t 40) (.k (.i 1))),
  ao 2 8 (.mv (.t 41))]
def c66_31 : ACode := .seq c66_27 (.seq c66_29 (.reg r66_30))
def c66_32 : ACode := .loop c66_31
def c66_33 : ACode := .block 1 c66_32
def c66_34 : ACode := .seq (.reg r66_21) (.seq (.reg r66_22) (.seq (.reg r66_23) (.seq (.reg r66_24) c66_33)))
def c66_35 : ACode := .cond (.t 28) c66_34 .skip
def c66_36 : ACode := .seq (.reg r66_20) c66_35
def r66_37 : List AOper := [ao 0 52 (.ld 6 true (.t 7)),
  an 1 (.st 6 (.t 6) (.t 52))]
def c66 : ACode := .seq (.reg r66_0) (.seq (.reg r66_1) (.seq c66_19 (.seq c66_36 (.seq (.reg r66_37) .ret))))
def s66 : List ARes := [.cell 6 6 true]
theorem ok66 : okF Try.prog 66 53 c66 s66 := ⟨Try.f66, Try.func66, Try.ntmps66, by kernel_rfl, by kernel_rfl, by kernel_rfl⟩
def cAct (k : Int) (da : ByteArray) (cu : Bool) (af mo : Int) (ke : C) : List C := [.v (.s (.int .i64 k)), .v (.s (.string da)), .v (.s (.bool cu)), .v (.s (.int .i64 af)), .v (.s (.int .i64 mo)), ke]
def inv66 (bs : List UInt8) (p : Int) (k : Int) (da : ByteArray) (af mo : Int) (n : Nat) (i : Nat) (σ : St) : Prop := ∃ (ke : List Int) (v : Nat), i ≤ n ∧ ke.length = i ∧ σ.t 0 = rP 0 ∧ σ.t 8 = .i ((n - i : Nat) : Int) ∧ (∃ u, σ.t 6 = .c (.ptr 6 u 0) ∧ σ.H 6 = some (.var u 105 (cAct 0 ⟨#[]⟩ false 0 0 .nil0))) ∧ (∃ u, σ.t 7 = .c (.ptr 7 u 0) ∧ σ.H 7 = some (.var u 105 (cAct k da true af mo (.own 1007 v ke.length)))) ∧ σ.H 1007 = some (.arr v true 1 3 (en eI ke)) ∧ σ.H 1000 = some (rdr 0 bs (p + i))
def URt_2 := Bx.mk <|
  aN (uA c66.eq_1) <| aN (uR r66_0.eq_1) <| aN (uR r66_1.eq_1) <| aN (uA c66_19.eq_1) <| aN (uR r66_2.eq_1) <| aN (uA c66_18.eq_1) <| aN (uA c66_17.eq_1) <| aN (uA c66_6.eq_1) <| aN (uR r66_3.eq_1) <| aN (uA c66_5.eq_1) <| aN (uR r66_4.eq_1) <| aN (uA c66_16.eq_1) <| aN (uR r66_7.eq_1) <| aN (uA c66_15.eq_1) <| aN (uR r66_8.eq_1) <| aN (uA c66_14.eq_1) <| aN (uR r66_9.eq_1) <| aN (uA c66_13.eq_1) <| aN (uR r66_10.eq_1) <| aN (uA c66_12.eq_1) <| aN (uR r66_11.eq_1) <| aN (uA c66_36.eq_1) <| aN (uR r66_20.eq_1) <| aN (uA c66_35.eq_1) <| aN (uA c66_34.eq_1) <| aN (uR r66_21.eq_1) <| aN (uR r66_22.eq_1) <| aN (uR r66_23.eq_1) <| aN (uR r66_24.eq_1) <| aN (uA c66_33.eq_1) <| aN (uA c66_32.eq_1) <| aN (uR r66_37.eq_1) <| s66.eq_1
def URt_3 := Bx.mk <|
  aN (uA c66.eq_1) <| aN (uR r66_0.eq_1) <| aN (uR r66_1.eq_1) <| aN (uA c66_19.eq_1) <| aN (uR r66_2.eq_1) <| aN (uA c66_18.eq_1) <| aN (uA c66_17.eq_1) <| aN (uA c66_6.eq_1) <| aN (uR r66_3.eq_1) <| aN (uA c66_5.eq_1) <| aN (uR r66_4.eq_1) <| aN (uA c66_16.eq_1) <| aN (uR r66_7.eq_1) <| aN (uA c66_15.eq_1) <| aN (uR r66_8.eq_1) <| aN (uA c66_14.eq_1) <| aN (uR r66_9.eq_1) <| aN (uA c66_13.eq_1) <| aN (uR r66_10.eq_1) <| aN (uA c66_12.eq_1) <| aN (uR r66_11.eq_1) <| s66.eq_1
def URt_4 := Bx.mk <|
  aN (uA c66_31.eq_1) <| aN (uA c66_27.eq_1) <| aN (uR r66_25.eq_1) <| aN (uA c66_26.eq_1) <| aN (uA c66_29.eq_1) <| aN (uR r66_28.eq_1) <| aN (uR r66_30.eq_1) <| aN (uA c66.eq_1) <| aN (uR r66_0.eq_1) <| aN (uR r66_1.eq_1) <| aN (uA c66_19.eq_1) <| aN (uR r66_2.eq_1) <| aN (uA c66_18.eq_1) <| aN (uA c66_17.eq_1) <| aN (uA c66_6.eq_1) <| aN (uR r66_3.eq_1) <| aN (uA c66_5.eq_1) <| aN (uR r66_4.eq_1) <| aN (uA c66_16.eq_1) <| aN (uR r66_7.eq_1) <| aN (uA c66_15.eq_1) <| aN (uR r66_8.eq_1) <| aN (uA c66_14.eq_1) <| aN (uR r66_9.eq_1) <| aN (uA c66_13.eq_1) <| aN (uR r66_10.eq_1) <| aN (uA c66_12.eq_1) <| aN (uR r66_11.eq_1) <| aN (uA c66_36.eq_1) <| aN (uR r66_20.eq_1) <| aN (uA c66_35.eq_1) <| aN (uA c66_34.eq_1) <| aN (uR r66_21.eq_1) <| aN (uR r66_22.eq_1) <| aN (uR r66_23.eq_1) <| aN (uR r66_24.eq_1) <| aN (uA c66_33.eq_1) <| aN (uA c66_32.eq_1) <| aN (uR r66_37.eq_1) <| s66.eq_1
theorem act_ok (bs : List UInt8) (hb : bs.length ≤ 2000) (p : Int) (hp : 0 ≤ p ∧ p ≤ 900000000000) (i cuts : Int) (hi : okB i) : RC 66 [.i i, .i cuts] bs p 20 okA tLA := by
  obtain ⟨p1, da, p10, p11, hda, C1⟩ := data_ok bs hb p hp i hi
  obtain ⟨k, k0, k1, C2⟩ := pick_ok bs hb p1 10 (by omega) (by omega)
  obtain ⟨cc, c0, c1, C3⟩ := pick_ok bs hb (p1 + 1) 10 (by omega) (by omega)
  obtain ⟨af, f0, f1, C4⟩ := pick_ok bs hb (p1 + 1 + 1) 10 (by omega) (by omega)
  obtain ⟨mo, m0, m1, C5⟩ := pick_ok bs hb (p1 + 1 + 1 + 1) 5 (by omega) (by omega)
  obtain ⟨n, n0, n1, C6⟩ := pick_ok bs hb (p1 + 1 + 1 + 1 + 1) 6 (by omega) (by omega)
  obtain ⟨n, rfl⟩ : ∃ m : Nat, n = m := ⟨n.toNat, (Int.toNat_of_nonneg n0).symm⟩
  refine RC.intro ok66 rfl (fun _ => rfl) fun X => ?_
  simp only [RUX, Nat.reduceAdd, reduceIte, Nat.reduceEqDiff, Nat.reduceLT, Nat.reduceLeDiff, reduceCtorEq, eq_self, FIX, forall_const, endE_n, endE_r, CHT, disj, Nat.reduceBEq, beq_self_eq_true, APT, APX, forall_eq, ALT, ALU, rH, rV, rdC, rdr, URt_2.d]
  refine callRc (C1 0) rfl rfl rfl rfl rfl ⟨rfl, ?_⟩
  simp only [RUX, Nat.reduceAdd, reduceIte, Nat.reduceEqDiff, Nat.reduceLT, Nat.reduceLeDiff, reduceCtorEq, eq_self, FIX, forall_const, endE_n, endE_r, CHT, disj, Nat.reduceBEq, beq_self_eq_true, APT, APX, forall_eq, ALT, ALU, rH, rV, rdC, rdr, URt_2.d]
  refine callRc (C2 0) rfl rfl rfl rfl rfl ⟨rfl, ?_⟩
  have hrest : ∀ t H c (k : Int) (da : ByteArray), da.size ≤ 4000 → t 0 = rP 0 → t 2 = .i cuts → (∃ u, t 6 = .c (.ptr 6 u 0) ∧ H 6 = some (.var u 105 (cAct 0 ⟨#[]⟩ false 0 0 .nil0))) → (∃ u, t 7 = .c (.ptr 7 u 0) ∧ H 7 = some (.var u 105 (cAct k da false 0 0 .nil0))) → H 1000 = some (rdr 0 bs (p1 + 1)) → H 1007 = none →
      wpa Try.prog X (.seq c66_36 (.seq (.reg r66_37) .ret)) (endR p 20 okA tLA bs s66) ⟨t, H, c⟩ := by
    intro t H c k da hda e0 e2 ⟨u6, e6, eH6⟩ ⟨u7, e7, eH7⟩ eR eN
    simp only [T.c, T.i, cAct] at e0 e2 e6 eH6 e7 eH7
    simp only [RUX, Nat.reduceAdd, reduceIte, Nat.reduceEqDiff, Nat.reduceLT, Nat.reduceLeDiff, reduceCtorEq, eq_self, FIX, forall_const, endE_n, endE_r, CHT, disj, Nat.reduceBEq, beq_self_eq_true, APT, APX, forall_eq, ALT, ALU, rH, rV, rdC, rdr, URt_2.d, e0, e2]
    refine callRc (C3 0) rfl rfl rfl rfl eR ⟨rfl, ?_⟩
    by_cases g1 : cc < cuts
    rotate_left
    · simp only [RUX, Nat.reduceAdd, reduceIte, Nat.reduceEqDiff, Nat.reduceLT, Nat.reduceLeDiff, reduceCtorEq, eq_self, FIX, forall_const, endE_n, endE_r, CHT, disj, Nat.reduceBEq, beq_self_eq_true, APT, APX, forall_eq, ALT, ALU, rH, rV, rdC, rdr, URt_2.d, e2, g1, e6, eH6, e7, eH7]
      refine ES.mk (p1 + 1 + 1, ⟨k, da, false, 0, 0, []⟩) ⟨by omega, by omega, by simp only; omega, Nat.zero_le _⟩ ?_
      simp only [RUX, Nat.reduceAdd, reduceIte, Nat.reduceEqDiff, Nat.reduceLT, Nat.reduceLeDiff, reduceCtorEq, eq_self, FIX, forall_const, endE_n, endE_r, CHT, disj, Nat.reduceBEq, beq_self_eq_true, APT, APX, forall_eq, ALT, ALU, rH, rV, rdC, rdr, URt_2.d, e6, en_nil]
    simp only [RUX, Nat.reduceAdd, reduceIte, Nat.reduceEqDiff, Nat.reduceLT, Nat.reduceLeDiff, reduceCtorEq, eq_self, FIX, forall_const, endE_n, endE_r, CHT, disj, Nat.reduceBEq, beq_self_eq_true, APT, APX, forall_eq, ALT, ALU, rH, rV, rdC, rdr, URt_2.d, e2, g1, e6, eH6, e7, eH7, e0]
    refine callRc (C4 0) rfl rfl rfl rfl rfl ⟨rfl, ?_⟩
    simp only [RUX, Nat.reduceAdd, reduceIte, Nat.reduceEqDiff, Nat.reduceLT, Nat.reduceLeDiff, reduceCtorEq, eq_self, FIX, forall_const, endE_n, endE_r, CHT, disj, Nat.reduceBEq, beq_self_eq_true, APT, APX, forall_eq, ALT, ALU, rH, rV, rdC, rdr, URt_2.d, e6, eH6, e7, eH7, e0]
    refine callRc (C5 0) rfl rfl rfl rfl rfl ⟨rfl, ?_⟩
    simp only [RUX, Nat.reduceAdd, reduceIte, Nat.reduceEqDiff, Nat.reduceLT, Nat.reduceLeDiff, reduceCtorEq, eq_self, FIX, forall_const, endE_n, endE_r, CHT, disj, Nat.reduceBEq, beq_self_eq_true, APT, APX, forall_eq, ALT, ALU, rH, rV, rdC, rdr, URt_2.d, e6, eH6, e7, eH7, e0]
    refine callRc (C6 0) rfl rfl rfl rfl rfl ⟨rfl, ?_⟩
    simp only [RUX, Nat.reduceAdd, reduceIte, Nat.reduceEqDiff, Nat.reduceLT, Nat.reduceLeDiff, reduceCtorEq, eq_self, FIX, forall_const, endE_n, endE_r, CHT, disj, Nat.reduceBEq, beq_self_eq_true, APT, APX, forall_eq, ALT, ALU, rH, rV, rdC, rdr, URt_2.d, e6, eH6, e7, eH7, e0]
    refine AW.reify 7 5 1007 1 3 rfl rfl eN (by decide) ?_
    refine AW.upto n (inv66 bs (p1 + 1 + 1 + 1 + 1 + 1) k da af mo n) ⟨[], _, Nat.zero_le _, rfl, e0, rfl, ⟨_, e6, eH6⟩, ⟨_, e7, rfl⟩, rfl, (by show _ = some (rdr 0 bs (p1 + 1 + 1 + 1 + 1 + 1 + ((0 : Nat) : Int))); rw [show ((0 : Nat) : Int) = 0 from rfl, Int.add_zero]; rfl)⟩ fun i t H c hi h => ?_
    clear e0 e2 e6 eH6 e7 eH7 eR eN
    obtain ⟨ke, v, hin, hl, e0, e8, ⟨u6, e6, eH6⟩, ⟨u7, e7, eH7⟩, eHk, eR⟩ := h
    simp only [T.c, T.i, cAct, rdr, rdC] at e0 e8 e6 eH6 e7 eH7 eHk eR
    have ht1 : (en eI ke).take ke.length = en eI ke := en_take eI ke
    by_cases k1 : ((n - i : Nat) : Int) > 0
    rotate_left
    · simp only [RUX, Nat.reduceAdd, reduceIte, Nat.reduceEqDiff, Nat.reduceLT, Nat.reduceLeDiff, reduceCtorEq, eq_self, FIX, forall_const, endE_n, endE_r, CHT, disj, Nat.reduceBEq, beq_self_eq_true, APT, APX, forall_eq, ALT, ALU, rH, rV, rdC, rdr, URt_4.d, URt_2.d, e0, e8, e6, eH6, e7, eH7, eHk, eR, k1]
      refine ES.mk (p1 + 1 + 1 + 1 + 1 + 1 + i, ⟨k, da, true, af, mo, ke⟩) ⟨by simp only; omega, by simp only; omega, by simp only; omega, by simp only; omega⟩ ?_
      simp only [RUX, Nat.reduceAdd, reduceIte, Nat.reduceEqDiff, Nat.reduceLT, Nat.reduceLeDiff, reduceCtorEq, eq_self, FIX, forall_const, endE_n, endE_r, CHT, disj, Nat.reduceBEq, beq_self_eq_true, APT, APX, forall_eq, ALT, ALU, rH, rV, rdC, rdr, URt_2.d, e6, eHk, eR, ht1, en_len]
    obtain ⟨j, j0, j1, C7⟩ := pick_ok bs hb (p1 + 1 + 1 + 1 + 1 + 1 + i) 6 (by omega) (by omega)
    obtain ⟨j, rfl⟩ : ∃ m : Nat, j = m := ⟨j.toNat, (Int.toNat_of_nonneg j0).symm⟩
    have hj6 : (j : Int) < ((6 : Nat) : Int) := j1
    obtain ⟨x, hx⟩ : ∃ x, ([0, 1, 4, 7, 30, 9999] : List Int)[j]? = some x := ⟨_, List.getElem?_eq_getElem (by simp only [List.length_cons, List.length_nil]; omega)⟩
    have ex := en_at eI hx
    simp only [en, List.map_cons, List.map_nil, eI] at ex
    have w2 : IntKind.i64.wrap (((n - i : Nat) : Int) - 1) = ((n - (i + 1) : Nat) : Int) := (wrap64 ⟨by omega, by omega⟩).trans (by omega)
    have q1 : (ke.length + 1) * 8 ≤ 140737488355328 := by omega
    have q2 : ke.length ≤ 9223372036854775806 := by omega
    simp only [RUX, Nat.reduceAdd, reduceIte, Nat.reduceEqDiff, Nat.reduceLT, Nat.reduceLeDiff, reduceCtorEq, eq_self, FIX, forall_const, endE_n, endE_r, CHT, disj, Nat.reduceBEq, beq_self_eq_true, APT, APX, forall_eq, ALT, ALU, rH, rV, rdC, rdr, URt_4.d, e0, e8, e6, eH6, e7, eH7, eHk, eR, k1]
    refine callRc (C7 0) rfl rfl rfl rfl (by simp only [RUX, Nat.reduceAdd, reduceIte, Nat.reduceEqDiff, Nat.reduceLT, Nat.reduceLeDiff, reduceCtorEq, eq_self, FIX, forall_const, endE_n, endE_r, CHT, disj, Nat.reduceBEq, beq_self_eq_true, APT, APX, forall_eq, ALT, ALU, rH, rV, rdC, rdr, s66, eR]) ⟨?_, ?_⟩
    · simp only [RUX, Nat.reduceAdd, reduceIte, Nat.reduceEqDiff, Nat.reduceLT, Nat.reduceLeDiff, reduceCtorEq, eq_self, FIX, forall_const, endE_n, endE_r, CHT, disj, Nat.reduceBEq, beq_self_eq_true, APT, APX, forall_eq, ALT, ALU, rH, rV, rdC, rdr, s66]
    simp only [RUX, Nat.reduceAdd, reduceIte, Nat.reduceEqDiff, Nat.reduceLT, Nat.reduceLeDiff, reduceCtorEq, eq_self, FIX, forall_const, endE_n, endE_r, CHT, disj, Nat.reduceBEq, beq_self_eq_true, APT, APX, forall_eq, ALT, ALU, rH, rV, rdC, rdr, URt_4.d, e0, e8, e6, eH6, e7, eH7, eHk, eR, k1, j0, Int.toNat_natCast, ex, w2, ht1, q1, q2, en_len, hj6]
    refine ⟨by omega, ke ++ [x], c + 2 + 8, by omega, by rw [List.length_append, hl]; rfl, e0, rfl, ⟨u6, e6, eH6⟩, ⟨u7, e7, ?_⟩, ?_, ?_⟩
    · rw [List.length_append]; rfl
    · rw [en_snoc]; rfl
    · show _ = some (rdr 0 bs (p1 + 1 + 1 + 1 + 1 + 1 + ((i + 1 : Nat) : Int)))
      rw [show p1 + 1 + 1 + 1 + 1 + 1 + ((i + 1 : Nat) : Int) = p1 + 1 + 1 + 1 + 1 + 1 + i + 1 from by omega]
      rfl
  simp only [RUX, Nat.reduceAdd, reduceIte, Nat.reduceEqDiff, Nat.reduceLT, Nat.reduceLeDiff, reduceCtorEq, eq_self, FIX, forall_const, endE_n, endE_r, CHT, disj, Nat.reduceBEq, beq_self_eq_true, APT, APX, forall_eq, ALT, ALU, rH, rV, rdC, rdr, URt_3.d]
  by_cases a0 : (k == 0) = true
  · simp only [RUX, Nat.reduceAdd, reduceIte, Nat.reduceEqDiff, Nat.reduceLT, Nat.reduceLeDiff, reduceCtorEq, eq_self, FIX, forall_const, endE_n, endE_r, CHT, disj, Nat.reduceBEq, beq_self_eq_true, APT, APX, forall_eq, ALT, ALU, rH, rV, rdC, rdr, URt_3.d, a0]
    exact hrest _ _ _ 2 ⟨#[]⟩ (Nat.zero_le _) rfl rfl ⟨_, rfl, rfl⟩ ⟨_, rfl, rfl⟩ rfl rfl
  rw [Bool.not_eq_true] at a0
  by_cases a1 : (k == 1) = true
  · simp only [RUX, Nat.reduceAdd, reduceIte, Nat.reduceEqDiff, Nat.reduceLT, Nat.reduceLeDiff, reduceCtorEq, eq_self, FIX, forall_const, endE_n, endE_r, CHT, disj, Nat.reduceBEq, beq_self_eq_true, APT, APX, forall_eq, ALT, ALU, rH, rV, rdC, rdr, URt_3.d, a0, a1]
    exact hrest _ _ _ 2 ⟨#[]⟩ (Nat.zero_le _) rfl rfl ⟨_, rfl, rfl⟩ ⟨_, rfl, rfl⟩ rfl rfl
  rw [Bool.not_eq_true] at a1
  by_cases a2 : (k == 2) = true
  · simp only [RUX, Nat.reduceAdd, reduceIte, Nat.reduceEqDiff, Nat.reduceLT, Nat.reduceLeDiff, reduceCtorEq, eq_self, FIX, forall_const, endE_n, endE_r, CHT, disj, Nat.reduceBEq, beq_self_eq_true, APT, APX, forall_eq, ALT, ALU, rH, rV, rdC, rdr, URt_3.d, a0, a1, a2]
    exact hrest _ _ _ 3 ⟨#[]⟩ (Nat.zero_le _) rfl rfl ⟨_, rfl, rfl⟩ ⟨_, rfl, rfl⟩ rfl rfl
  rw [Bool.not_eq_true] at a2
  by_cases a3 : (k == 3) = true
  · simp only [RUX, Nat.reduceAdd, reduceIte, Nat.reduceEqDiff, Nat.reduceLT, Nat.reduceLeDiff, reduceCtorEq, eq_self, FIX, forall_const, endE_n, endE_r, CHT, disj, Nat.reduceBEq, beq_self_eq_true, APT, APX, forall_eq, ALT, ALU, rH, rV, rdC, rdr, URt_3.d, a0, a1, a2, a3]
    exact hrest _ _ _ 4 ⟨#[]⟩ (Nat.zero_le _) rfl rfl ⟨_, rfl, rfl⟩ ⟨_, rfl, rfl⟩ rfl rfl
  rw [Bool.not_eq_true] at a3
  simp only [RUX, Nat.reduceAdd, reduceIte, Nat.reduceEqDiff, Nat.reduceLT, Nat.reduceLeDiff, reduceCtorEq, eq_self, FIX, forall_const, endE_n, endE_r, CHT, disj, Nat.reduceBEq, beq_self_eq_true, APT, APX, forall_eq, ALT, ALU, rH, rV, rdC, rdr, URt_3.d, a0, a1, a2, a3]
  exact hrest _ _ _ 1 da hda rfl rfl ⟨_, rfl, rfl⟩ ⟨_, rfl, rfl⟩ rfl rfl
end Go.V
set_option linter.unusedSimpArgs false
namespace Go.V
open Go.Proofs
def okActs (acts : List LA) : Prop := acts.length ≤ 100 ∧ ∀ a ∈ acts, okA a
theorem ALV : (type_of% (@en_all LA eLA 6 eLA_len)) ∧ (type_of% @List.forall_mem_cons.{0}) := ⟨@en_all LA eLA 6 eLA_len, @List.forall_mem_cons.{0}⟩
theorem caps {n : Nat} (h : n ≤ 1000) : (n + 1) * 72 ≤ 140737488355328 ∧ n ≤ 9223372036854775806 ∧ (n + 1 + 1) * 72 ≤ 140737488355328 ∧ n ≤ 9223372036854775805 := ⟨by omega, by omega, by omega, by omega⟩
theorem mulw {x : Int} (h : 0 ≤ x ∧ x < 2) : IntKind.i64.wrap (x * 9999) = x * 9999 := wrap64 ⟨by omega, by omega⟩
/- loop.example/teagle/spec.l45Acts -/
def r60_0 : List AOper := [ao 0 6 (.mv (.k (.c .nil0)))]
def r60_1 : List AOper := [ao 0 10 (.build [(.v (.s (.int .i64 0))), (.v (.s (.string ⟨#[]⟩))), (.v (.s (.bool false))), (.v (.s (.int .i64 0))), (.v (.s (.int .i64 0))), .nil0] [(0, 1, (.k (.i 4)))]),
  ao 1 11 (.bsl 6 105 [(.t 10)]),
  ao 2 7 (.mv (.t 11))]
def r60_2 : List AOper := [ao 0 12 (.mv (.t 0)),
  ao 1 13 (.mv (.t 1)),
  ao 2 14 (.call (.k (.c (.fn 22 []))) [(.t 12), (.t 13)]),
  ao 3 8 (.mv (.t 14))]
def r60_3 : List AOper := [ao 0 15 (.mv (.t 8)),
  ao 1 16 (.bin .gtr (.t 15) (.k (.i 0)))]
def c60_4 : ACode := .cond (.t 16) .skip (.exit 0)
def c60_5 : ACode := .seq (.reg r60_3) c60_4
def r60_6 : List AOper := [ao 0 19 (.mv (.t 0)),
  ao 1 20 (.mv (.t 7)),
  ao 2 21 (.len (.t 20)),
  ao 3 22 (.mv (.t 2)),
  ao 4 23 (.call (.k (.c (.fn 66 []))) [(.t 19), (.t 21), (.t 22)]),
  ao 5 9 (.alloc 105 [(.v (.s (.int .i64 0))), (.v (.s (.string ⟨#[]⟩))), (.v (.s (.bool false))), (.v (.s (.int .i64 0))), (.v (.s (.int .i64 0))), .nil0]),
  an 6 (.st 6 (.t 9) (.t 23))]
def r60_7 : List AOper := [ao 0 24 (.mv (.t 7)),
  ao 1 25 (.ld 6 true (.t 9)),
  ao 2 26 (.bsl 6 105 [(.t 25)]),
  ao 3 27 (.app 6 105 72 (.t 24) (.t 26)),
  ao 4 7 (.mv (.t 27))]
def r60_8 : List AOper := [ao 0 28 (.fa 2 (.t 9)),
  ao 1 29 (.ld 1 false (.t 28)),
  ao 2 30 (.mv (.t 29)),
  ag 3 31 30 true [] (.mv (.t 0)),
  ag 4 32 30 true [] (.call (.k (.c (.fn 22 []))) [(.t 31), (.k (.i 3))]),
  ag 5 33 30 true [] (.bin .gtr (.t 32) (.k (.i 0))),
  ao 6 34 (.pick (.t 30) (.t 33) (.k (.b false)))]
def r60_9 : List AOper := [ao 0 35 (.mv (.t 7)),
  ao 1 36 (.mv (.t 0)),
  ao 2 37 (.call (.k (.c (.fn 22 []))) [(.t 36), (.k (.i 3))]),
  ao 3 38 (.bin .eql (.t 37) (.k (.i 0))),
  ao 4 39 (.mv (.t 0)),
  ao 5 40 (.call (.k (.c (.fn 22 []))) [(.t 39), (.k (.i 9))]),
  ao 6 41 (.mv (.t 0)),
  ao 7 42 (.call (.k (.c (.fn 22 []))) [(.t 41), (.k (.i 4))]),
  ao 8 43 (.mv (.t 0)),
  ao 9 44 (.call (.k (.c (.fn 22 []))) [(.t 43), (.k (.i 2))]),
  ao 10 45 (.bin .mul (.t 44) (.k (.i 9999))),
  ao 11 46 (.mv (.t 0)),
  ao 12 47 (.call (.k (.c (.fn 22 []))) [(.t 46), (.k (.i 2))]),
  ao 13 48 (.bin .mul (.t 47) (.k (.i 9999))),
  ao 14 49 (.mv (.t 0)),
  ao 15 50 (.call (.k (.c (.fn 22 []))) [(.t 49), (.k (.i 3))]),
  ao 16 51 (.mv (.t 0)),
  ao 17 52 (.call (.k (.c (.fn 22 []))) [(.t 51), (.k (.i 2))]),
  ao 18 53 (.bin .mul (.t 52) (.k (.i 9999))),
  ao 19 54 (.bsl 1 3 [(.t 45), (.t 48), (.t 50), (.t 53)]),
  ao 20 55 (.build [(.v (.s (.int .i64 0))), (.v (.s (.string ⟨#[]⟩))), (.v (.s (.bool false))), (.v (.s (.int .i64 0))), (.v (.s (.int .i64 0))), .nil0] [(0, 1, (.k (.i 4))), (2, 1, (.t 38)), (3, 1, (.t 40)), (4, 1, (.t 42)), (5, 1, (.t 54))]),
  ao 21 56 (.bsl 6 105 [(.t 55)]),
  ao 22 57 (.app 6 105 72 (.t 35) (.t 56)),
  ao 23 7 (.mv (.t 57))]
def c60_10 : ACode := .cond (.t 34) (.reg r60_9) .skip
def c60_11 : ACode := .seq (.reg r60_6) (.seq (.reg r60_7) (.seq (.reg r60_8) c60_10))
def c60_12 : ACode := .block 1 c60_11
def r60_13 : List AOper := [ao 0 17 (.mv (.t 8)),
  ao 1 18 (.bin .sub (.t 17) (.k (.i 1))),
  ao 2 8 (.mv (.t 18))]
def c60_14 : ACode := .seq c60_5 (.seq c60_12 (.reg r60_13))
def c60_15 : ACode := .loop c60_14
def c60_16 : ACode := .block 0 c60_15
def c60_17 : ACode := .seq (.reg r60_2) c60_16
def r60_18 : List AOper := [ao 0 58 (.mv (.t 7)),
  ao 1 6 (.mv (.t 58))]
def c60 : ACode := .seq (.reg r60_0) (.seq (.reg r60_1) (.seq c60_17 (.seq (.reg r60_18) .ret)))
def s60 : List ARes := [.tmp 6]
theorem ok60 : okF Try.prog 60 59 c60 s60 := ⟨Try.f60, Try.func60, Try.ntmps60, by kernel_rfl, by kernel_rfl, by kernel_rfl⟩
def inv60 (bs : List UInt8) (p cuts : Int) (n : Nat) (i : Nat) (σ : St) : Prop := ∃ (acts : List LA) (v : Nat) (q : Int), i ≤ n ∧ acts.length ≤ 1 + 2 * i ∧ (∀ a ∈ acts, okA a) ∧ p ≤ q ∧ q ≤ p + 40 * i ∧ σ.t 0 = rP 0 ∧ σ.t 2 = .i cuts ∧ σ.t 8 = .i ((n - i : Nat) : Int) ∧ σ.t 7 = .c (.own 11 v acts.length) ∧ σ.H 11 = some (.arr v true 6 105 (en eLA acts)) ∧ σ.H 1000 = some (rdr 0 bs q)
def URu_1 := Bx.mk <|
  aN (uA c60.eq_1) <| aN (uR r60_0.eq_1) <| aN (uR r60_1.eq_1) <| aN (uA c60_17.eq_1) <| aN (uR r60_2.eq_1) <| aN (uA c60_16.eq_1) <| aN (uA c60_15.eq_1) <| aN (uR r60_18.eq_1) <| s60.eq_1
def URu_2 := Bx.mk <|
  aN (uA c60_14.eq_1) <| aN (uA c60_5.eq_1) <| aN (uR r60_3.eq_1) <| aN (uA c60_4.eq_1) <| aN (uA c60_12.eq_1) <| aN (uA c60_11.eq_1) <| aN (uR r60_6.eq_1) <| aN (uR r60_7.eq_1) <| aN (uR r60_8.eq_1) <| aN (uA c60_10.eq_1) <| aN (uR r60_9.eq_1) <| aN (uR r60_13.eq_1) <| aN (uA c60.eq_1) <| aN (uR r60_0.eq_1) <| aN (uR r60_1.eq_1) <| aN (uA c60_17.eq_1) <| aN (uR r60_2.eq_1) <| aN (uA c60_16.eq_1) <| aN (uA c60_15.eq_1) <| aN (uR r60_18.eq_1) <| s60.eq_1
set_option maxHeartbeats 2000000 in
theorem acts_ok (bs : List UInt8) (hb : bs.length ≤ 2000) (p : Int) (hp : 0 ≤ p ∧ p ≤ 800000000000) (most cuts : Int) (hm : 0 < most ∧ most ≤ 14) : RC 60 [.i most, .i cuts] bs p 1000 okActs (fun a => tL (en eLA a)) := by
  obtain ⟨n, n0, n1, C1⟩ := pick_ok bs hb p most (by omega) (by omega)
  obtain ⟨n, rfl⟩ : ∃ m : Nat, n = m := ⟨n.toNat, (Int.toNat_of_nonneg n0).symm⟩
  refine RC.intro ok60 rfl (fun _ => rfl) fun X => ?_
  simp only [RUX, Nat.reduceAdd, reduceIte, Nat.reduceEqDiff, Nat.reduceLT, Nat.reduceLeDiff, reduceCtorEq, eq_self, FIX, forall_const, endE_n, endE_r, CHT, disj, Nat.reduceBEq, beq_self_eq_true, APT, APX, forall_eq, ALT, ALU, rH, rV, rdC, rdr, URu_1.d]
  refine callRc (C1 0) rfl rfl rfl rfl rfl ⟨rfl, ?_⟩
  simp only [RUX, Nat.reduceAdd, reduceIte, Nat.reduceEqDiff, Nat.reduceLT, Nat.reduceLeDiff, reduceCtorEq, eq_self, FIX, forall_const, endE_n, endE_r, CHT, disj, Nat.reduceBEq, beq_self_eq_true, APT, APX, forall_eq, ALT, ALU, rH, rV, rdC, rdr, URu_1.d]
  refine AW.upto n (inv60 bs (p + 1) cuts n) ⟨[⟨4, ⟨#[]⟩, false, 0, 0, []⟩], _, _, Nat.zero_le _, Nat.le_refl _, (fun a h => by rw [List.mem_singleton.1 h]; exact ⟨Nat.zero_le _, Nat.zero_le _⟩), Int.le_refl _, by omega, rfl, rfl, rfl, rfl, rfl, rfl⟩ fun i t H c hi h => ?_
  obtain ⟨acts, v, q, hin, hl, hok, q0, q1, e0, e2, e8, e7, eH, eR⟩ := h
  simp only [T.c, T.i, rdr, rdC] at e0 e2 e8 e7 eH eR
  have ht1 : (en eLA acts).take acts.length = en eLA acts := en_take eLA acts
  by_cases k1 : ((n - i : Nat) : Int) > 0
  rotate_left
  · simp only [RUX, Nat.reduceAdd, reduceIte, Nat.reduceEqDiff, Nat.reduceLT, Nat.reduceLeDiff, reduceCtorEq, eq_self, FIX, forall_const, endE_n, endE_r, CHT, disj, Nat.reduceBEq, beq_self_eq_true, APT, APX, forall_eq, ALT, ALU, rH, rV, rdC, rdr, URu_2.d, URu_1.d, e0, e2, e8, e7, eH, eR, k1]
    refine ES.mk (q, acts) ⟨by simp only; omega, by simp only; omega, by simp only; omega, hok⟩ ?_
    simp only [RUX, Nat.reduceAdd, reduceIte, Nat.reduceEqDiff, Nat.reduceLT, Nat.reduceLeDiff, reduceCtorEq, eq_self, FIX, forall_const, endE_n, endE_r, CHT, disj, Nat.reduceBEq, beq_self_eq_true, APT, APX, forall_eq, ALT, ALU, rH, rV, rdC, rdr, URu_1.d, e7, eH, eR, ht1, en_len]
  obtain ⟨q2, a, q20, q21, ha, C2⟩ := act_ok bs hb q (by omega) acts.length cuts ⟨by omega, by omega⟩
  have w2 : IntKind.i64.wrap (((n - i : Nat) : Int) - 1) = ((n - (i + 1) : Nat) : Int) := (wrap64 ⟨by omega, by omega⟩).trans (by omega)
  have hal : acts.length ≤ 1000 := by omega
  obtain ⟨l1, l2, l3, l4⟩ := caps hal
  have hq2 : 0 ≤ q2 ∧ q2 ≤ 900000000000 := by omega
  have hok1 : ∀ x ∈ acts ++ [a], okA x := fun x hx => by
    rcases List.mem_append.1 hx with h | h
    · exact hok x h
    · rw [List.mem_singleton.1 h]; exact ha
  have hE : en eLA acts ++ [[.s (.int .i64 a.kind), .s (.string a.data), .s (.bool a.cuts), .s (.int .i64 a.after), .s (.int .i64 a.moves), .sl (en eI a.keep)]] = en eLA (acts ++ [a]) := by rw [en_snoc]; rfl
  have hL : (acts ++ [a]).length = acts.length + 1 := by simp
  have ht2 : (en eLA (acts ++ [a])).take (acts.length + 1) = en eLA (acts ++ [a]) := by rw [← hL]; exact en_take eLA _
  simp only [RUX, Nat.reduceAdd, reduceIte, Nat.reduceEqDiff, Nat.reduceLT, Nat.reduceLeDiff, reduceCtorEq, eq_self, FIX, forall_const, endE_n, endE_r, CHT, disj, Nat.reduceBEq, beq_self_eq_true, APT, APX, forall_eq, ALT, ALU, rH, rV, rdC, rdr, URu_2.d, e0, e2, e8, e7, eH, eR, k1, en_len, ALV, List.not_mem_nil, false_implies, implies_true, and_self]
  refine callRc (C2 0) rfl rfl rfl rfl (by simp only [RUX, Nat.reduceAdd, reduceIte, Nat.reduceEqDiff, Nat.reduceLT, Nat.reduceLeDiff, reduceCtorEq, eq_self, FIX, forall_const, endE_n, endE_r, CHT, disj, Nat.reduceBEq, beq_self_eq_true, APT, APX, forall_eq, ALT, ALU, rH, rV, rdC, rdr, s60, eR]) ⟨?_, ?_⟩
  · simp only [RUX, Nat.reduceAdd, reduceIte, Nat.reduceEqDiff, Nat.reduceLT, Nat.reduceLeDiff, reduceCtorEq, eq_self, FIX, forall_const, endE_n, endE_r, CHT, disj, Nat.reduceBEq, beq_self_eq_true, APT, APX, forall_eq, ALT, ALU, rH, rV, rdC, rdr, s60]
  cases hc : a.cuts with
  | false =>
    rw [hc] at hE
    simp only [RUX, Nat.reduceAdd, reduceIte, Nat.reduceEqDiff, Nat.reduceLT, Nat.reduceLeDiff, reduceCtorEq, eq_self, FIX, forall_const, endE_n, endE_r, CHT, disj, Nat.reduceBEq, beq_self_eq_true, APT, APX, forall_eq, ALT, ALU, rH, rV, rdC, rdr, URu_2.d, e0, e2, e8, e7, eH, eR, k1, en_len, ALV, List.not_mem_nil, false_implies, implies_true, and_self, l1, l2, ht1, hc, w2, hE]
    exact ⟨by omega, acts ++ [a], c + 2 + 7 + 3, q2, by omega, by rw [hL]; omega, hok1, by omega, by omega, e0, e2, rfl, by rw [hL]; rfl, rfl, rfl⟩
  | true =>
  rw [hc] at hE
  obtain ⟨d, d0, d1, C3⟩ := pick_ok bs hb q2 3 (by omega) (by omega)
  obtain ⟨x0, x0l, x0h, D0⟩ := pick_ok bs hb (q2 + 1) 3 (by omega) (by omega)
  obtain ⟨x1, x1l, x1h, D1⟩ := pick_ok bs hb (q2 + 1 + 1) 9 (by omega) (by omega)
  obtain ⟨x2, x2l, x2h, D2⟩ := pick_ok bs hb (q2 + 1 + 1 + 1) 4 (by omega) (by omega)
  obtain ⟨x3, x3l, x3h, D3⟩ := pick_ok bs hb (q2 + 1 + 1 + 1 + 1) 2 (by omega) (by omega)
  obtain ⟨x4, x4l, x4h, D4⟩ := pick_ok bs hb (q2 + 1 + 1 + 1 + 1 + 1) 2 (by omega) (by omega)
  obtain ⟨x5, x5l, x5h, D5⟩ := pick_ok bs hb (q2 + 1 + 1 + 1 + 1 + 1 + 1) 3 (by omega) (by omega)
  obtain ⟨x6, x6l, x6h, D6⟩ := pick_ok bs hb (q2 + 1 + 1 + 1 + 1 + 1 + 1 + 1) 2 (by omega) (by omega)
  simp only [RUX, Nat.reduceAdd, reduceIte, Nat.reduceEqDiff, Nat.reduceLT, Nat.reduceLeDiff, reduceCtorEq, eq_self, FIX, forall_const, endE_n, endE_r, CHT, disj, Nat.reduceBEq, beq_self_eq_true, APT, APX, forall_eq, ALT, ALU, rH, rV, rdC, rdr, URu_2.d, e0, e2, e8, e7, eH, eR, k1, en_len, ALV, List.not_mem_nil, false_implies, implies_true, and_self, l1, l2, ht1, hc, w2, hE]
  refine callRc (C3 0) rfl rfl rfl rfl rfl ⟨?_, ?_⟩
  · simp only [RUX, Nat.reduceAdd, reduceIte, Nat.reduceEqDiff, Nat.reduceLT, Nat.reduceLeDiff, reduceCtorEq, eq_self, FIX, forall_const, endE_n, endE_r, CHT, disj, Nat.reduceBEq, beq_self_eq_true, APT, APX, forall_eq, ALT, ALU, rH, rV, rdC, rdr, s60]
  by_cases f1 : d > 0
  rotate_left
  · simp only [RUX, Nat.reduceAdd, reduceIte, Nat.reduceEqDiff, Nat.reduceLT, Nat.reduceLeDiff, reduceCtorEq, eq_self, FIX, forall_const, endE_n, endE_r, CHT, disj, Nat.reduceBEq, beq_self_eq_true, APT, APX, forall_eq, ALT, ALU, rH, rV, rdC, rdr, URu_2.d, e0, e2, e8, e7, eH, eR, k1, en_len, ALV, List.not_mem_nil, false_implies, implies_true, and_self, f1, w2]
    exact ⟨by omega, acts ++ [a], c + 2 + 7 + 3, q2 + 1, by omega, by rw [hL]; omega, hok1, by omega, by omega, e0, e2, rfl, by rw [hL]; rfl, rfl, rfl⟩
  have ww3 := mulw ⟨x3l, x3h⟩
  have ww4 := mulw ⟨x4l, x4h⟩
  have ww6 := mulw ⟨x6l, x6h⟩
  simp only [RUX, Nat.reduceAdd, reduceIte, Nat.reduceEqDiff, Nat.reduceLT, Nat.reduceLeDiff, reduceCtorEq, eq_self, FIX, forall_const, endE_n, endE_r, CHT, disj, Nat.reduceBEq, beq_self_eq_true, APT, APX, forall_eq, ALT, ALU, rH, rV, rdC, rdr, URu_2.d, e0, e2, e8, e7, eH, eR, k1, en_len, ALV, List.not_mem_nil, false_implies, implies_true, and_self, f1]
  refine callRc (D0 0) rfl rfl rfl rfl rfl ⟨?_, ?_⟩
  · simp only [RUX, Nat.reduceAdd, reduceIte, Nat.reduceEqDiff, Nat.reduceLT, Nat.reduceLeDiff, reduceCtorEq, eq_self, FIX, forall_const, endE_n, endE_r, CHT, disj, Nat.reduceBEq, beq_self_eq_true, APT, APX, forall_eq, ALT, ALU, rH, rV, rdC, rdr, s60]
  simp only [RUX, Nat.reduceAdd, reduceIte, Nat.reduceEqDiff, Nat.reduceLT, Nat.reduceLeDiff, reduceCtorEq, eq_self, FIX, forall_const, endE_n, endE_r, CHT, disj, Nat.reduceBEq, beq_self_eq_true, APT, APX, forall_eq, ALT, ALU, rH, rV, rdC, rdr, URu_2.d, e0, e2, e8, e7, eH, eR, k1, en_len, ALV, List.not_mem_nil, false_implies, implies_true, and_self, e7, ww3, ww4, ww6, l3, l4, ht2, w2]
  refine callRc (D1 0) rfl rfl rfl rfl rfl ⟨?_, ?_⟩
  · simp only [RUX, Nat.reduceAdd, reduceIte, Nat.reduceEqDiff, Nat.reduceLT, Nat.reduceLeDiff, reduceCtorEq, eq_self, FIX, forall_const, endE_n, endE_r, CHT, disj, Nat.reduceBEq, beq_self_eq_true, APT, APX, forall_eq, ALT, ALU, rH, rV, rdC, rdr, s60]
  simp only [RUX, Nat.reduceAdd, reduceIte, Nat.reduceEqDiff, Nat.reduceLT, Nat.reduceLeDiff, reduceCtorEq, eq_self, FIX, forall_const, endE_n, endE_r, CHT, disj, Nat.reduceBEq, beq_self_eq_true, APT, APX, forall_eq, ALT, ALU, rH, rV, rdC, rdr, URu_2.d, e0, e2, e8, e7, eH, eR, k1, en_len, ALV, List.not_mem_nil, false_implies, implies_true, and_self, e7, ww3, ww4, ww6, l3, l4, ht2, w2]
  refine callRc (D2 0) rfl rfl rfl rfl rfl ⟨?_, ?_⟩
  · simp only [RUX, Nat.reduceAdd, reduceIte, Nat.reduceEqDiff, Nat.reduceLT, Nat.reduceLeDiff, reduceCtorEq, eq_self, FIX, forall_const, endE_n, endE_r, CHT, disj, Nat.reduceBEq, beq_self_eq_true, APT, APX, forall_eq, ALT, ALU, rH, rV, rdC, rdr, s60]
  simp only [RUX, Nat.reduceAdd, reduceIte, Nat.reduceEqDiff, Nat.reduceLT, Nat.reduceLeDiff, reduceCtorEq, eq_self, FIX, forall_const, endE_n, endE_r, CHT, disj, Nat.reduceBEq, beq_self_eq_true, APT, APX, forall_eq, ALT, ALU, rH, rV, rdC, rdr, URu_2.d, e0, e2, e8, e7, eH, eR, k1, en_len, ALV, List.not_mem_nil, false_implies, implies_true, and_self, e7, ww3, ww4, ww6, l3, l4, ht2, w2]
  refine callRc (D3 0) rfl rfl rfl rfl rfl ⟨?_, ?_⟩
  · simp only [RUX, Nat.reduceAdd, reduceIte, Nat.reduceEqDiff, Nat.reduceLT, Nat.reduceLeDiff, reduceCtorEq, eq_self, FIX, forall_const, endE_n, endE_r, CHT, disj, Nat.reduceBEq, beq_self_eq_true, APT, APX, forall_eq, ALT, ALU, rH, rV, rdC, rdr, s60]
  simp only [RUX, Nat.reduceAdd, reduceIte, Nat.reduceEqDiff, Nat.reduceLT, Nat.reduceLeDiff, reduceCtorEq, eq_self, FIX, forall_const, endE_n, endE_r, CHT, disj, Nat.reduceBEq, beq_self_eq_true, APT, APX, forall_eq, ALT, ALU, rH, rV, rdC, rdr, URu_2.d, e0, e2, e8, e7, eH, eR, k1, en_len, ALV, List.not_mem_nil, false_implies, implies_true, and_self, e7, ww3, ww4, ww6, l3, l4, ht2, w2]
  refine callRc (D4 0) rfl rfl rfl rfl rfl ⟨?_, ?_⟩
  · simp only [RUX, Nat.reduceAdd, reduceIte, Nat.reduceEqDiff, Nat.reduceLT, Nat.reduceLeDiff, reduceCtorEq, eq_self, FIX, forall_const, endE_n, endE_r, CHT, disj, Nat.reduceBEq, beq_self_eq_true, APT, APX, forall_eq, ALT, ALU, rH, rV, rdC, rdr, s60]
  simp only [RUX, Nat.reduceAdd, reduceIte, Nat.reduceEqDiff, Nat.reduceLT, Nat.reduceLeDiff, reduceCtorEq, eq_self, FIX, forall_const, endE_n, endE_r, CHT, disj, Nat.reduceBEq, beq_self_eq_true, APT, APX, forall_eq, ALT, ALU, rH, rV, rdC, rdr, URu_2.d, e0, e2, e8, e7, eH, eR, k1, en_len, ALV, List.not_mem_nil, false_implies, implies_true, and_self, e7, ww3, ww4, ww6, l3, l4, ht2, w2]
  refine callRc (D5 0) rfl rfl rfl rfl rfl ⟨?_, ?_⟩
  · simp only [RUX, Nat.reduceAdd, reduceIte, Nat.reduceEqDiff, Nat.reduceLT, Nat.reduceLeDiff, reduceCtorEq, eq_self, FIX, forall_const, endE_n, endE_r, CHT, disj, Nat.reduceBEq, beq_self_eq_true, APT, APX, forall_eq, ALT, ALU, rH, rV, rdC, rdr, s60]
  simp only [RUX, Nat.reduceAdd, reduceIte, Nat.reduceEqDiff, Nat.reduceLT, Nat.reduceLeDiff, reduceCtorEq, eq_self, FIX, forall_const, endE_n, endE_r, CHT, disj, Nat.reduceBEq, beq_self_eq_true, APT, APX, forall_eq, ALT, ALU, rH, rV, rdC, rdr, URu_2.d, e0, e2, e8, e7, eH, eR, k1, en_len, ALV, List.not_mem_nil, false_implies, implies_true, and_self, e7, ww3, ww4, ww6, l3, l4, ht2, w2]
  refine callRc (D6 0) rfl rfl rfl rfl rfl ⟨?_, ?_⟩
  · simp only [RUX, Nat.reduceAdd, reduceIte, Nat.reduceEqDiff, Nat.reduceLT, Nat.reduceLeDiff, reduceCtorEq, eq_self, FIX, forall_const, endE_n, endE_r, CHT, disj, Nat.reduceBEq, beq_self_eq_true, APT, APX, forall_eq, ALT, ALU, rH, rV, rdC, rdr, s60]
  simp only [RUX, Nat.reduceAdd, reduceIte, Nat.reduceEqDiff, Nat.reduceLT, Nat.reduceLeDiff, reduceCtorEq, eq_self, FIX, forall_const, endE_n, endE_r, CHT, disj, Nat.reduceBEq, beq_self_eq_true, APT, APX, forall_eq, ALT, ALU, rH, rV, rdC, rdr, URu_2.d, e0, e2, e8, e7, eH, eR, k1, en_len, ALV, List.not_mem_nil, false_implies, implies_true, and_self, e7, ww3, ww4, ww6, l3, l4, ht2, w2]
  obtain ⟨a2, ha2⟩ : ∃ a2 : LA, a2 = ⟨4, ⟨#[]⟩, x0 == 0, x1, x2, [x3 * 9999, x4 * 9999, x5, x6 * 9999]⟩ := ⟨_, rfl⟩
  have hE2 : ([V.s (.int .i64 4), V.s (.string ⟨#[]⟩), V.s (.bool (x0 == 0)), V.s (.int .i64 x1), V.s (.int .i64 x2), V.sl [[V.s (.int .i64 (x3 * 9999))], [V.s (.int .i64 (x4 * 9999))], [V.s (.int .i64 x5)], [V.s (.int .i64 (x6 * 9999))]]] : List V) = eLA a2 := by rw [ha2]; rfl
  have hok2 : ∀ x ∈ (acts ++ [a]) ++ [a2], okA x := fun x hx => by
    rcases List.mem_append.1 hx with h | h
    · exact hok1 x h
    · rw [List.mem_singleton.1 h, ha2]; exact ⟨Nat.zero_le _, by simp⟩
  have hE3 := (en_snoc eLA (acts ++ [a]) a2).trans (congrArg (fun z => en eLA (acts ++ [a]) ++ [z]) hE2.symm)
  have hL2 : ((acts ++ [a]) ++ [a2]).length = acts.length + 1 + 1 := by simp
  refine ⟨by omega, (acts ++ [a]) ++ [a2], c + 2 + 7 + 5 + 7 + 22, q2 + 1 + 1 + 1 + 1 + 1 + 1 + 1 + 1, by omega, by rw [hL2]; omega, hok2, by omega, by omega, e0, e2, rfl, by rw [hL2]; rfl, ?_, rfl⟩
  rw [hE3]
  rfl
end Go.V
set_option linter.unusedSimpArgs false
namespace Go.V
open Go.Proofs
def URv_1 := Bx.mk <|
  aN (uA c27.eq_1) <| aN (uR r27_0.eq_1) <| aN (uA c27_5.eq_1) <| aN (uR r27_1.eq_1) <| aN (uA c27_4.eq_1) <| aN (uA c27_3.eq_1) <| aN (uR r27_2.eq_1) <| aN (uR r27_6.eq_1) <| s27.eq_1
theorem namesO_ok (d : Dk) (hd : fineDk d) : ∃ (ns : List ByteArray) (c : Nat), NmR d ns ∧ ∀ m, ACallsF Try.prog 27 [tDk d] [newH c m 1 9 (en eS ns)] (.c (.own c 0 ns.length)) := by
  obtain ⟨b, hb, hC⟩ := okS_ok d hd
  by_cases hD : DOk d
  · exact ⟨_, 1001, .inl ⟨hD, rfl⟩, fun m => names_ok d hd hD m⟩
  · have hb0 : b = false := by cases b with
      | false => rfl
      | true => exact absurd (hb.1 rfl) hD
    rw [hb0] at hC
    refine ⟨[], 6, .inr ⟨hD, rfl⟩, fun m => ACallsF.intro ok27 follows fun X c0 => ?_⟩
    simp only [RUX, Nat.reduceAdd, reduceIte, Nat.reduceEqDiff, Nat.reduceLT, Nat.reduceLeDiff, reduceCtorEq, eq_self, FIX, forall_const, endE_n, endE_r, CHT, disj, Nat.reduceBEq, beq_self_eq_true, APT, APX, forall_eq, ALT, ALU, rH, rV, rdC, rdr, URv_1.d]
    refine callC hC rfl rfl rfl rfl ?_
    simp only [RUX, Nat.reduceAdd, reduceIte, Nat.reduceEqDiff, Nat.reduceLT, Nat.reduceLeDiff, reduceCtorEq, eq_self, FIX, forall_const, endE_n, endE_r, CHT, disj, Nat.reduceBEq, beq_self_eq_true, APT, APX, forall_eq, ALT, ALU, rH, rV, rdC, rdr, URv_1.d, en_nil, imp_self]
def wnames : List ByteArray := [⟨#[115, 49]⟩, ⟨#[109, 57]⟩, ⟨#[120]⟩, ⟨#[116, 111, 111, 108, 111, 110, 103, 97, 97]⟩, ⟨#[115, 48, 49]⟩]
theorem wnames_size : ∀ s ∈ wnames, s.size ≤ 100 := by
  intro s hs
  simp only [wnames, List.mem_cons, List.not_mem_nil, or_false] at hs
  rcases hs with rfl | rfl | rfl | rfl | rfl <;> decide
/- loop.example/teagle/spec.l45Write -/
def r20_0 : List AOper := [ao 0 4 (.box 27 (.t 1)),
  ao 1 6 (.alloc 29 [(.v (.s (.int .i64 0))), (.v (.s (.string ⟨#[]⟩))), (.v (.s (.string ⟨#[]⟩)))])]
def r20_1 : List AOper := [ao 0 8 (.ld 3 true (.t 4)),
  ao 1 9 (.call (.k (.c (.fn 27 []))) [(.t 8)]),
  ao 2 10 (.bsl 1 9 [(.k (.s (.string ⟨#[115, 49]⟩))), (.k (.s (.string ⟨#[109, 57]⟩))), (.k (.s (.string ⟨#[120]⟩))), (.k (.s (.string ⟨#[116, 111, 111, 108, 111, 110, 103, 97, 97]⟩))), (.k (.s (.string ⟨#[115, 48, 49]⟩)))]),
  ao 3 11 (.app 1 9 16 (.t 9) (.t 10)),
  ao 4 7 (.mv (.t 11))]
def r20_2 : List AOper := [ao 0 12 (.mv (.t 0)),
  ao 1 13 (.call (.k (.c (.fn 22 []))) [(.t 12), (.k (.i 8))]),
  au 2 14 [0, 1] (.mv (.t 7)),
  au 3 15 (ru 3) (.mv (.t 0)),
  au 4 16 (ru 4) (.mv (.t 7)),
  au 5 17 (ru 4) (.len (.t 16)),
  au 6 18 [2] (.call (.k (.c (.fn 22 []))) [(.t 15), (.t 17)]),
  ao 7 19 (.ia 1 (.t 14) (.t 18)),
  ao 8 20 (.ld 1 false (.t 19)),
  au 9 21 (ru 9) (.mv (.t 0)),
  au 10 22 (ru 10) (.mv (.t 2)),
  au 11 23 (ru 10) (.bsl 1 9 [(.k (.s (.string ⟨#[]⟩))), (.k (.s (.string ⟨#[97, 98, 99]⟩))), (.t 22), (.k (.s (.string ⟨#[0, 1, 0, 0, 1, 97]⟩)))]),
  au 12 24 [2, 7, 8] (.call (.k (.c (.fn 49 []))) [(.t 21), (.t 23)]),
  ao 13 25 (.build [(.v (.s (.int .i64 0))), (.v (.s (.string ⟨#[]⟩))), (.v (.s (.string ⟨#[]⟩)))] [(0, 1, (.t 13)), (1, 1, (.t 20)), (2, 1, (.t 24))]),
  an 14 (.st 3 (.t 6) (.t 25))]
def c20 : ACode := .seq (.reg r20_0) (.seq (.reg r20_1) (.seq (.reg r20_2) .ret))
def s20 : List ARes := [.cell 6 3 true]
theorem ok20 : okF Try.prog 20 26 c20 s20 := ⟨Try.f20, Try.func20, Try.ntmps20, by kernel_rfl, by kernel_rfl, by kernel_rfl⟩
def URv_2 := Bx.mk <|
  aN (uA c20.eq_1) <| aN (uR r20_0.eq_1) <| aN (uR r20_1.eq_1) <| aN (uR r20_2.eq_1) <| s20.eq_1
set_option maxHeartbeats 1000000 in
theorem write20_ok (bs : List UInt8) (hb : bs.length ≤ 2000) (p : Int) (hp : 0 ≤ p ∧ p ≤ 900000000000) (d : Dk) (hd : fineDk d) (more : ByteArray) (hm : more.size ≤ 1000000) : RC 20 [tDk d, tS more] bs p 3 fineDW tDW := by
  obtain ⟨ns, cn, hns, C1⟩ := namesO_ok d hd
  have hl := nm_len hd hns
  have hw5 : wnames.length = 5 := rfl
  obtain ⟨k, k0, k1, C2⟩ := pick_ok bs hb p 8 (by omega) (by omega)
  obtain ⟨j, j0, j1, C3⟩ := pick_ok bs hb (p + 1) ((ns.length + 5 : Nat) : Int) (by omega) (by omega)
  obtain ⟨j, rfl⟩ : ∃ m : Nat, j = m := ⟨j.toNat, (Int.toNat_of_nonneg j0).symm⟩
  obtain ⟨q, da, q0, q1, hda, C4⟩ := of_ok bs hb (p + 1 + 1) (by omega) [⟨#[]⟩, ⟨#[97, 98, 99]⟩, more, ⟨#[0, 1, 0, 0, 1, 97]⟩] (by simp)
  have hds : da.size ≤ 1048576 := by
    simp only [List.mem_cons, List.not_mem_nil, or_false] at hda
    rcases hda with rfl | rfl | rfl | rfl
    · decide
    · decide
    · omega
    · decide
  obtain ⟨nm, hx⟩ : ∃ x, (ns ++ wnames)[j]? = some x := ⟨_, List.getElem?_eq_getElem (by rw [List.length_append, hw5]; omega)⟩
  have ex := en_at eS hx
  have hnm : nm.size ≤ 1048576 := by
    rcases List.mem_append.1 (List.mem_of_getElem? hx) with h | h
    · exact nm_size hd hns nm h
    · have := wnames_size nm h; omega
  have hlit : en eS wnames = [[V.s (.string ⟨#[115, 49]⟩)], [V.s (.string ⟨#[109, 57]⟩)], [V.s (.string ⟨#[120]⟩)], [V.s (.string ⟨#[116, 111, 111, 108, 111, 110, 103, 97, 97]⟩)], [V.s (.string ⟨#[115, 48, 49]⟩)]] := rfl
  rw [en_app, hlit] at ex
  simp only [eS] at ex
  have ht1 : (en eS ns).take ns.length = en eS ns := en_take eS ns
  have l1 : (ns.length + 5) * 16 ≤ 140737488355328 := by omega
  have l2 : ns.length + 5 ≤ 9223372036854775807 := by omega
  refine RC.intro ok20 rfl (fun _ => rfl) fun X => ?_
  simp only [RUX, Nat.reduceAdd, reduceIte, Nat.reduceEqDiff, Nat.reduceLT, Nat.reduceLeDiff, reduceCtorEq, eq_self, FIX, forall_const, endE_n, endE_r, CHT, disj, Nat.reduceBEq, beq_self_eq_true, APT, APX, forall_eq, ALT, ALU, rH, rV, rdC, rdr, URv_2.d]
  refine callA1 (m := 2001) (ws := []) (ns := []) (C1 2001) rfl rfl rfl (en_flat eS eS_flat _) ⟨rfl, ?_⟩
  simp only [RUX, Nat.reduceAdd, reduceIte, Nat.reduceEqDiff, Nat.reduceLT, Nat.reduceLeDiff, reduceCtorEq, eq_self, FIX, forall_const, endE_n, endE_r, CHT, disj, Nat.reduceBEq, beq_self_eq_true, APT, APX, forall_eq, ALT, ALU, rH, rV, rdC, rdr, URv_2.d, en_len, ht1, l1, l2, List.forall_mem_cons, List.not_mem_nil, false_implies, implies_true, and_self]
  refine callRc (C2 0) rfl rfl rfl rfl rfl ⟨?_, ?_⟩
  · simp only [RUX, Nat.reduceAdd, reduceIte, Nat.reduceEqDiff, Nat.reduceLT, Nat.reduceLeDiff, reduceCtorEq, eq_self, FIX, forall_const, endE_n, endE_r, CHT, disj, Nat.reduceBEq, beq_self_eq_true, APT, APX, forall_eq, ALT, ALU, rH, rV, rdC, rdr, s20]
  simp only [RUX, Nat.reduceAdd, reduceIte, Nat.reduceEqDiff, Nat.reduceLT, Nat.reduceLeDiff, reduceCtorEq, eq_self, FIX, forall_const, endE_n, endE_r, CHT, disj, Nat.reduceBEq, beq_self_eq_true, APT, APX, forall_eq, ALT, ALU, rH, rV, rdC, rdr, URv_2.d]
  refine callRc (C3 0) rfl rfl rfl rfl rfl ⟨?_, ?_⟩
  · simp only [RUX, Nat.reduceAdd, reduceIte, Nat.reduceEqDiff, Nat.reduceLT, Nat.reduceLeDiff, reduceCtorEq, eq_self, FIX, forall_const, endE_n, endE_r, CHT, disj, Nat.reduceBEq, beq_self_eq_true, APT, APX, forall_eq, ALT, ALU, rH, rV, rdC, rdr, s20]
  simp only [RUX, Nat.reduceAdd, reduceIte, Nat.reduceEqDiff, Nat.reduceLT, Nat.reduceLeDiff, reduceCtorEq, eq_self, FIX, forall_const, endE_n, endE_r, CHT, disj, Nat.reduceBEq, beq_self_eq_true, APT, APX, forall_eq, ALT, ALU, rH, rV, rdC, rdr, URv_2.d, ex, j0, j1, Int.toNat_natCast]
  refine callR (ws := [(23, .arr 19 false 1 9 (en eS [⟨#[]⟩, ⟨#[97, 98, 99]⟩, more, ⟨#[0, 1, 0, 0, 1, 97]⟩]))]) (ns := [23]) (C4 0) rfl ?_ rfl rfl rfl ⟨?_, ?_⟩
  · simp only [RUX, Nat.reduceAdd, reduceIte, Nat.reduceEqDiff, Nat.reduceLT, Nat.reduceLeDiff, reduceCtorEq, eq_self, FIX, forall_const, endE_n, endE_r, CHT, disj, Nat.reduceBEq, beq_self_eq_true, APT, APX, forall_eq, ALT, ALU, rH, rV, rdC, rdr, URv_2.d, lendTs, lendT]
    rfl
  · simp only [RUX, Nat.reduceAdd, reduceIte, Nat.reduceEqDiff, Nat.reduceLT, Nat.reduceLeDiff, reduceCtorEq, eq_self, FIX, forall_const, endE_n, endE_r, CHT, disj, Nat.reduceBEq, beq_self_eq_true, APT, APX, forall_eq, ALT, ALU, rH, rV, rdC, rdr, s20, en_cons2, en_nil, List.cons_append, List.nil_append]
  simp only [RUX, Nat.reduceAdd, reduceIte, Nat.reduceEqDiff, Nat.reduceLT, Nat.reduceLeDiff, reduceCtorEq, eq_self, FIX, forall_const, endE_n, endE_r, CHT, disj, Nat.reduceBEq, beq_self_eq_true, APT, APX, forall_eq, ALT, ALU, rH, rV, rdC, rdr, URv_2.d]
  refine ES.mk (q, ⟨k, nm, da⟩) ⟨by omega, by omega, hnm, hds⟩ ?_
  simp only [RUX, Nat.reduceAdd, reduceIte, Nat.reduceEqDiff, Nat.reduceLT, Nat.reduceLeDiff, reduceCtorEq, eq_self, FIX, forall_const, endE_n, endE_r, CHT, disj, Nat.reduceBEq, beq_self_eq_true, APT, APX, forall_eq, ALT, ALU, rH, rV, rdC, rdr, URv_2.d]
end Go.V
set_option linter.unusedSimpArgs false
namespace Go.V
open Go.Proofs
/- loop.example/teagle/spec.l45Disk -/
def r47_0 : List AOper := [ao 0 2 (.alloc 27 [.nil0, .nil0, .nil0])]
def r47_1 : List AOper := [ao 0 12 (.mv (.t 0)),
  ao 1 13 (.call (.k (.c (.fn 60 []))) [(.t 12), (.k (.i 14)), (.k (.i 2))]),
  ao 2 14 (.call (.k (.c (.fn 59 []))) [(.t 13)]),
  ao 3 11 (.mv (.t 14)),
  ao 4 15 (.ext 0 (.t 11)),
  ao 5 16 (.ext 1 (.t 11)),
  ao 6 3 (.alloc 27 [.nil0, .nil0, .nil0]),
  an 7 (.st 3 (.t 3) (.t 15)),
  ao 8 4 (.mv (.t 16))]
def r47_2 : List AOper := [ao 0 17 (.mv (.t 0)),
  ao 1 18 (.call (.k (.c (.fn 22 []))) [(.t 17), (.k (.i 6))])]
def r47_3 : List AOper := [ao 0 20 (.bin .eql (.t 18) (.k (.i 0))),
  ao 1 19 (.mv (.t 20))]
def r47_4 : List AOper := [ao 0 21 (.ld 3 true (.t 3)),
  ao 1 22 (.call (.k (.c (.fn 62 []))) [(.t 21)]),
  ao 2 23 (.fl 2 3 true (.t 22)),
  ao 3 24 (.call (.k (.c (.fn 61 []))) [(.t 23)]),
  ao 4 5 (.mv (.t 24))]
def r47_5 : List AOper := [ao 0 25 (.mv (.t 0)),
  ao 1 26 (.call (.k (.c (.fn 22 []))) [(.t 25), (.k (.i 4))]),
  ao 2 6 (.mv (.t 26))]
def r47_6 : List AOper := [ao 0 27 (.mv (.t 6)),
  ao 1 28 (.bin .gtr (.t 27) (.k (.i 0)))]
def c47_7 : ACode := .cond (.t 28) .skip (.exit 1)
def c47_8 : ACode := .seq (.reg r47_6) c47_7
def r47_9 : List AOper := [ao 0 32 (.ld 3 true (.t 3)),
  au 1 33 [0] (.mv (.t 0)),
  au 2 34 [0, 1] (.ld 3 true (.t 3)),
  au 3 35 (ru 3) (.mv (.t 5)),
  au 4 36 [0] (.call (.k (.c (.fn 20 []))) [(.t 33), (.t 34), (.t 35)]),
  ao 5 37 (.call (.k (.c (.fn 6 []))) [(.t 32), (.t 36)]),
  ao 6 31 (.mv (.t 37)),
  ao 7 38 (.ext 0 (.t 31)),
  au 8 39 [7] (.ext 1 (.t 31)),
  ax 9 none none [8] (.st 3 (.t 3) (.t 38))]
def c47_10 : ACode := .block 2 (.reg r47_9)
def r47_11 : List AOper := [ao 0 29 (.mv (.t 6)),
  ao 1 30 (.bin .sub (.t 29) (.k (.i 1))),
  ao 2 6 (.mv (.t 30))]
def c47_12 : ACode := .seq c47_8 (.seq c47_10 (.reg r47_11))
def c47_13 : ACode := .loop c47_12
def c47_14 : ACode := .block 1 c47_13
def c47_15 : ACode := .seq (.reg r47_4) (.seq (.reg r47_5) c47_14)
def r47_16 : List AOper := [ao 0 41 (.bin .eql (.t 18) (.k (.i 1))),
  ao 1 40 (.mv (.t 41))]
def r47_17 : List AOper := [ao 0 43 (.ld 3 true (.t 3)),
  ao 1 44 (.build [(.v (.s (.int .i64 0))), (.v (.s (.string ⟨#[]⟩))), (.v (.s (.bool false))), (.v (.s (.int .i64 0))), (.v (.s (.int .i64 0))), .nil0] [(0, 1, (.k (.i 3)))]),
  ao 2 45 (.call (.k (.c (.fn 63 []))) [(.t 43), (.t 44)]),
  ao 3 42 (.mv (.t 45)),
  ao 4 46 (.ext 0 (.t 42)),
  ao 5 47 (.ext 1 (.t 42)),
  ao 6 48 (.ext 2 (.t 42)),
  ao 7 7 (.mv (.t 46)),
  ao 8 8 (.mv (.t 47)),
  ao 9 9 (.mv (.t 48))]
def r47_18 : List AOper := [ao 0 10 (.mv (.k (.i 0)))]
def r47_19 : List AOper := [ao 0 49 (.mv (.t 10)),
  ao 1 50 (.mv (.t 7)),
  ao 2 51 (.len (.t 50)),
  ao 3 52 (.bin .lss (.t 49) (.t 51)),
  ao 4 53 (.mv (.t 52)),
  ag 5 54 53 true [] (.mv (.t 10)),
  ag 6 55 53 true [] (.mv (.t 0)),
  ag 7 56 53 true [] (.call (.k (.c (.fn 22 []))) [(.t 55), (.k (.i 9))]),
  ag 8 57 53 true [] (.bin .lss (.t 54) (.t 56)),
  ao 9 58 (.pick (.t 53) (.t 57) (.k (.b false)))]
def c47_20 : ACode := .cond (.t 58) .skip (.exit 3)
def c47_21 : ACode := .seq (.reg r47_19) c47_20
def r47_22 : List AOper := [ao 0 62 (.ld 3 true (.t 3)),
  au 1 63 [0] (.mv (.t 7)),
  au 2 64 [0, 1] (.mv (.t 10)),
  au 3 65 [0] (.ia 3 (.t 63) (.t 64)),
  au 4 66 [0] (.ld 3 true (.t 65)),
  ao 5 67 (.call (.k (.c (.fn 6 []))) [(.t 62), (.t 66)]),
  ao 6 61 (.mv (.t 67)),
  ao 7 68 (.ext 0 (.t 61)),
  au 8 69 [7] (.ext 1 (.t 61)),
  ax 9 none none [8] (.st 3 (.t 3) (.t 68))]
def c47_23 : ACode := .block 4 (.reg r47_22)
def r47_24 : List AOper := [ao 0 59 (.mv (.t 10)),
  ao 1 60 (.bin .add (.t 59) (.k (.i 1))),
  ao 2 10 (.mv (.t 60))]
def c47_25 : ACode := .seq c47_21 (.seq c47_23 (.reg r47_24))
def c47_26 : ACode := .loop c47_25
def c47_27 : ACode := .block 3 c47_26
def c47_28 : ACode := .seq (.reg r47_17) (.seq (.reg r47_18) c47_27)
def c47_29 : ACode := .cond (.t 40) c47_28 .skip
def c47_30 : ACode := .seq (.reg r47_16) c47_29
def c47_31 : ACode := .cond (.t 19) c47_15 c47_30
def c47_32 : ACode := .seq (.reg r47_3) c47_31
def c47_33 : ACode := .block 0 c47_32
def c47_34 : ACode := .seq (.reg r47_2) c47_33
def r47_35 : List AOper := [ao 0 70 (.ld 3 true (.t 3)),
  an 1 (.st 3 (.t 2) (.t 70))]
def c47 : ACode := .seq (.reg r47_0) (.seq (.reg r47_1) (.seq c47_34 (.seq (.reg r47_35) .ret)))
def s47 : List ARes := [.cell 2 3 true]
theorem ok47 : okF Try.prog 47 71 c47 s47 := ⟨Try.f47, Try.func47, Try.ntmps47, by kernel_rfl, by kernel_rfl, by kernel_rfl⟩
def Hd47 (d : Dk) (σ : St) : Prop := σ.t 0 = rP 0 ∧ (∃ u, σ.t 2 = .c (.ptr 2 u 0) ∧ σ.H 2 = some (.var u 27 [.nil0, .nil0, .nil0])) ∧ (∃ u, σ.t 3 = .c (.ptr 3 u 0) ∧ σ.H 3 = some (.var u 27 (cDk d)))
def inv47 (bs : List UInt8) (p : Int) (w : ByteArray) (n : Nat) (i : Nat) (σ : St) : Prop := ∃ d q, i ≤ n ∧ DOk d ∧ Hd47 d σ ∧ p ≤ q ∧ q ≤ p + 3 * i ∧ σ.t 5 = tS w ∧ σ.t 6 = .i ((n - i : Nat) : Int) ∧ σ.H 1000 = some (rdr 0 bs q)
def inv47b (bs : List UInt8) (p : Int) (ws : List DW) (i : Nat) (σ : St) : Prop := ∃ d, DOk d ∧ Hd47 d σ ∧ σ.t 7 = tL (en eW ws) ∧ σ.t 10 = .i i ∧ σ.H 1000 = some (rdr 0 bs (p + i))
def URw_1 := Bx.mk <|
  aN (uA c47.eq_1) <| aN (uR r47_0.eq_1) <| aN (uR r47_1.eq_1) <| aN (uA c47_34.eq_1) <| aN (uR r47_2.eq_1) <| aN (uA c47_33.eq_1) <| aN (uA c47_32.eq_1) <| aN (uR r47_3.eq_1) <| aN (uA c47_31.eq_1) <| aN (uA c47_15.eq_1) <| aN (uR r47_4.eq_1) <| aN (uR r47_5.eq_1) <| aN (uA c47_14.eq_1) <| aN (uA c47_13.eq_1) <| aN (uA c47_30.eq_1) <| aN (uR r47_16.eq_1) <| aN (uA c47_29.eq_1) <| aN (uA c47_28.eq_1) <| aN (uR r47_17.eq_1) <| aN (uR r47_18.eq_1) <| aN (uA c47_27.eq_1) <| aN (uA c47_26.eq_1) <| aN (uR r47_35.eq_1) <| s47.eq_1
def URw_2 := Bx.mk <|
  aN (uA c47_12.eq_1) <| aN (uA c47_8.eq_1) <| aN (uR r47_6.eq_1) <| aN (uA c47_7.eq_1) <| aN (uA c47_10.eq_1) <| aN (uR r47_9.eq_1) <| aN (uR r47_11.eq_1) <| aN (uA c47.eq_1) <| aN (uR r47_0.eq_1) <| aN (uR r47_1.eq_1) <| aN (uA c47_34.eq_1) <| aN (uR r47_2.eq_1) <| aN (uA c47_33.eq_1) <| aN (uA c47_32.eq_1) <| aN (uR r47_3.eq_1) <| aN (uA c47_31.eq_1) <| aN (uA c47_15.eq_1) <| aN (uR r47_4.eq_1) <| aN (uR r47_5.eq_1) <| aN (uA c47_14.eq_1) <| aN (uA c47_13.eq_1) <| aN (uA c47_30.eq_1) <| aN (uR r47_16.eq_1) <| aN (uA c47_29.eq_1) <| aN (uA c47_28.eq_1) <| aN (uR r47_17.eq_1) <| aN (uR r47_18.eq_1) <| aN (uA c47_27.eq_1) <| aN (uA c47_26.eq_1) <| aN (uR r47_35.eq_1) <| s47.eq_1
def URw_3 := Bx.mk <|
  aN (uA c47_25.eq_1) <| aN (uA c47_21.eq_1) <| aN (uR r47_19.eq_1) <| aN (uA c47_20.eq_1) <| aN (uA c47_23.eq_1) <| aN (uR r47_22.eq_1) <| aN (uR r47_24.eq_1) <| aN (uA c47.eq_1) <| aN (uR r47_0.eq_1) <| aN (uR r47_1.eq_1) <| aN (uA c47_34.eq_1) <| aN (uR r47_2.eq_1) <| aN (uA c47_33.eq_1) <| aN (uA c47_32.eq_1) <| aN (uR r47_3.eq_1) <| aN (uA c47_31.eq_1) <| aN (uA c47_15.eq_1) <| aN (uR r47_4.eq_1) <| aN (uR r47_5.eq_1) <| aN (uA c47_14.eq_1) <| aN (uA c47_13.eq_1) <| aN (uA c47_30.eq_1) <| aN (uR r47_16.eq_1) <| aN (uA c47_29.eq_1) <| aN (uA c47_28.eq_1) <| aN (uR r47_17.eq_1) <| aN (uR r47_18.eq_1) <| aN (uA c47_27.eq_1) <| aN (uA c47_26.eq_1) <| s47.eq_1
set_option maxHeartbeats 1000000 in
theorem disk_ok (bs : List UInt8) (hb : bs.length ≤ 2000) (p : Int) (hp : 0 ≤ p ∧ p ≤ 700000000000) : RC 47 [] bs p 9000000 DOk tDk := by
  obtain ⟨p1, acts, p10, p11, ⟨_, hacts⟩, C1⟩ := acts_ok bs hb p (by omega) 14 2 (by omega)
  obtain ⟨⟨d, codes⟩, hD, C2⟩ := logPlay_ok acts hacts
  simp only at hD C2
  have hd := hD.fine
  obtain ⟨k, k0, k1, C3⟩ := pick_ok bs hb p1 6 (by omega) (by omega)
  refine RC.intro ok47 rfl (fun _ => rfl) fun X => ?_
  simp only [RUX, Nat.reduceAdd, reduceIte, Nat.reduceEqDiff, Nat.reduceLT, Nat.reduceLeDiff, reduceCtorEq, eq_self, FIX, forall_const, endE_n, endE_r, CHT, disj, Nat.reduceBEq, beq_self_eq_true, APT, APX, forall_eq, ALT, ALU, rH, rV, rdC, rdr, URw_1.d]
  refine callRc (C1 0) rfl rfl rfl rfl rfl ⟨rfl, ?_⟩
  simp only [RUX, Nat.reduceAdd, reduceIte, Nat.reduceEqDiff, Nat.reduceLT, Nat.reduceLeDiff, reduceCtorEq, eq_self, FIX, forall_const, endE_n, endE_r, CHT, disj, Nat.reduceBEq, beq_self_eq_true, APT, APX, forall_eq, ALT, ALU, rH, rV, rdC, rdr, URw_1.d]
  refine callC C2 rfl rfl rfl rfl ?_
  simp only [RUX, Nat.reduceAdd, reduceIte, Nat.reduceEqDiff, Nat.reduceLT, Nat.reduceLeDiff, reduceCtorEq, eq_self, FIX, forall_const, endE_n, endE_r, CHT, disj, Nat.reduceBEq, beq_self_eq_true, APT, APX, forall_eq, ALT, ALU, rH, rV, rdC, rdr, URw_1.d]
  refine callRc (C3 0) rfl rfl rfl rfl (by simp only [RUX, Nat.reduceAdd, reduceIte, Nat.reduceEqDiff, Nat.reduceLT, Nat.reduceLeDiff, reduceCtorEq, eq_self, FIX, forall_const, endE_n, endE_r, CHT, disj, Nat.reduceBEq, beq_self_eq_true, APT, APX, forall_eq, ALT, ALU, rH, rV, rdC, rdr, s47]) ⟨?_, ?_⟩
  · simp only [RUX, Nat.reduceAdd, reduceIte, Nat.reduceEqDiff, Nat.reduceLT, Nat.reduceLeDiff, reduceCtorEq, eq_self, FIX, forall_const, endE_n, endE_r, CHT, disj, Nat.reduceBEq, beq_self_eq_true, APT, APX, forall_eq, ALT, ALU, rH, rV, rdC, rdr, s47]
  by_cases g0 : (k == 0) = true
  · obtain ⟨s, ⟨hs, _⟩, C4⟩ := logOpen_ok d hd
    obtain ⟨w, hw, C5⟩ := planWrite_ok s.plan hs.plan
    obtain ⟨n, n0, n1, C6⟩ := pick_ok bs hb (p1 + 1) 4 (by omega) (by omega)
    obtain ⟨n, rfl⟩ : ∃ m : Nat, n = m := ⟨n.toNat, (Int.toNat_of_nonneg n0).symm⟩
    simp only [RUX, Nat.reduceAdd, reduceIte, Nat.reduceEqDiff, Nat.reduceLT, Nat.reduceLeDiff, reduceCtorEq, eq_self, FIX, forall_const, endE_n, endE_r, CHT, disj, Nat.reduceBEq, beq_self_eq_true, APT, APX, forall_eq, ALT, ALU, rH, rV, rdC, rdr, URw_1.d, g0]
    refine callC C4 rfl rfl rfl rfl ?_
    simp only [RUX, Nat.reduceAdd, reduceIte, Nat.reduceEqDiff, Nat.reduceLT, Nat.reduceLeDiff, reduceCtorEq, eq_self, FIX, forall_const, endE_n, endE_r, CHT, disj, Nat.reduceBEq, beq_self_eq_true, APT, APX, forall_eq, ALT, ALU, rH, rV, rdC, rdr, URw_1.d]
    refine callC C5 rfl rfl rfl rfl ?_
    simp only [RUX, Nat.reduceAdd, reduceIte, Nat.reduceEqDiff, Nat.reduceLT, Nat.reduceLeDiff, reduceCtorEq, eq_self, FIX, forall_const, endE_n, endE_r, CHT, disj, Nat.reduceBEq, beq_self_eq_true, APT, APX, forall_eq, ALT, ALU, rH, rV, rdC, rdr, URw_1.d]
    refine callRc (C6 0) rfl rfl rfl rfl rfl ⟨?_, ?_⟩
    · simp only [RUX, Nat.reduceAdd, reduceIte, Nat.reduceEqDiff, Nat.reduceLT, Nat.reduceLeDiff, reduceCtorEq, eq_self, FIX, forall_const, endE_n, endE_r, CHT, disj, Nat.reduceBEq, beq_self_eq_true, APT, APX, forall_eq, ALT, ALU, rH, rV, rdC, rdr, s47]
    simp only [RUX, Nat.reduceAdd, reduceIte, Nat.reduceEqDiff, Nat.reduceLT, Nat.reduceLeDiff, reduceCtorEq, eq_self, FIX, forall_const, endE_n, endE_r, CHT, disj, Nat.reduceBEq, beq_self_eq_true, APT, APX, forall_eq, ALT, ALU, rH, rV, rdC, rdr, URw_1.d]
    refine AW.upto n (inv47 bs (p1 + 1 + 1) w n) ⟨d, _, Nat.zero_le _, hD, ⟨rfl, ⟨_, rfl, rfl⟩, ⟨_, rfl, rfl⟩⟩, Int.le_refl _, by omega, rfl, rfl, rfl⟩ fun i t H c hi h => ?_
    clear hD hd C2 C4
    obtain ⟨d, q, hin, hD, ⟨e0, ⟨u2, e2, eH2⟩, ⟨u3, e3, eH3⟩⟩, q0, q1, e5, e6, eR⟩ := h
    simp only [T.c, T.i, T.s, rdr, rdC] at e0 e2 eH2 e3 eH3 e5 e6 eR
    by_cases f1 : ((n - i : Nat) : Int) > 0
    rotate_left
    · simp only [RUX, Nat.reduceAdd, reduceIte, Nat.reduceEqDiff, Nat.reduceLT, Nat.reduceLeDiff, reduceCtorEq, eq_self, FIX, forall_const, endE_n, endE_r, CHT, disj, Nat.reduceBEq, beq_self_eq_true, APT, APX, forall_eq, ALT, ALU, rH, rV, rdC, rdr, URw_2.d, URw_1.d, e0, e2, eH2, e3, eH3, e5, e6, eR, f1]
      refine ES.mk (q, d) ⟨by simp only; omega, by simp only; omega, hD⟩ ?_
      simp only [RUX, Nat.reduceAdd, reduceIte, Nat.reduceEqDiff, Nat.reduceLT, Nat.reduceLeDiff, reduceCtorEq, eq_self, FIX, forall_const, endE_n, endE_r, CHT, disj, Nat.reduceBEq, beq_self_eq_true, APT, APX, forall_eq, ALT, ALU, rH, rV, rdC, rdr, URw_1.d, e2, eR]
    have hd := hD.fine
    obtain ⟨q2, wr, q20, q21, hwr, C7⟩ := write20_ok bs hb q (by omega) d hd w (by omega)
    obtain ⟨r, hr, C8⟩ := doS_ok d wr hd hwr
    have hr1 : DOk r.1 := by
      rcases hr with ⟨_, rfl⟩ | ⟨h, _⟩
      · exact hD.step wr
      · exact absurd hD h
    have w2 : IntKind.i64.wrap (((n - i : Nat) : Int) - 1) = ((n - (i + 1) : Nat) : Int) := (wrap64 ⟨by omega, by omega⟩).trans (by omega)
    simp only [RUX, Nat.reduceAdd, reduceIte, Nat.reduceEqDiff, Nat.reduceLT, Nat.reduceLeDiff, reduceCtorEq, eq_self, FIX, forall_const, endE_n, endE_r, CHT, disj, Nat.reduceBEq, beq_self_eq_true, APT, APX, forall_eq, ALT, ALU, rH, rV, rdC, rdr, URw_2.d, e0, e2, eH2, e3, eH3, e5, e6, eR, f1]
    refine callRc (C7 0) rfl rfl rfl rfl (by simp only [RUX, Nat.reduceAdd, reduceIte, Nat.reduceEqDiff, Nat.reduceLT, Nat.reduceLeDiff, reduceCtorEq, eq_self, FIX, forall_const, endE_n, endE_r, CHT, disj, Nat.reduceBEq, beq_self_eq_true, APT, APX, forall_eq, ALT, ALU, rH, rV, rdC, rdr, s47, eR]) ⟨?_, ?_⟩
    · simp only [RUX, Nat.reduceAdd, reduceIte, Nat.reduceEqDiff, Nat.reduceLT, Nat.reduceLeDiff, reduceCtorEq, eq_self, FIX, forall_const, endE_n, endE_r, CHT, disj, Nat.reduceBEq, beq_self_eq_true, APT, APX, forall_eq, ALT, ALU, rH, rV, rdC, rdr, s47]
    simp only [RUX, Nat.reduceAdd, reduceIte, Nat.reduceEqDiff, Nat.reduceLT, Nat.reduceLeDiff, reduceCtorEq, eq_self, FIX, forall_const, endE_n, endE_r, CHT, disj, Nat.reduceBEq, beq_self_eq_true, APT, APX, forall_eq, ALT, ALU, rH, rV, rdC, rdr, URw_2.d]
    refine callC C8 rfl rfl rfl rfl ?_
    simp only [RUX, Nat.reduceAdd, reduceIte, Nat.reduceEqDiff, Nat.reduceLT, Nat.reduceLeDiff, reduceCtorEq, eq_self, FIX, forall_const, endE_n, endE_r, CHT, disj, Nat.reduceBEq, beq_self_eq_true, APT, APX, forall_eq, ALT, ALU, rH, rV, rdC, rdr, URw_2.d, e3, eH3, e6, w2]
    exact ⟨by omega, r.1, q2, by omega, hr1, ⟨e0, ⟨u2, e2, eH2⟩, ⟨u3, e3, rfl⟩⟩, by omega, by omega, e5, rfl, rfl⟩
  rw [Bool.not_eq_true] at g0
  by_cases g1 : (k == 1) = true
  · obtain ⟨⟨ws, p3, code⟩, hws, C4⟩ := logWrites_ok d hd ⟨3, ⟨#[]⟩, false, 0, 0, []⟩ (Nat.zero_le _)
    simp only at hws C4
    have hwl := hws.l
    simp only [RUX, Nat.reduceAdd, reduceIte, Nat.reduceEqDiff, Nat.reduceLT, Nat.reduceLeDiff, reduceCtorEq, eq_self, FIX, forall_const, endE_n, endE_r, CHT, disj, Nat.reduceBEq, beq_self_eq_true, APT, APX, forall_eq, ALT, ALU, rH, rV, rdC, rdr, URw_1.d, g0, g1]
    refine callL (ws := []) (ns := []) C4 rfl ?_ rfl rfl ?_
    · simp only [RUX, Nat.reduceAdd, reduceIte, Nat.reduceEqDiff, Nat.reduceLT, Nat.reduceLeDiff, reduceCtorEq, eq_self, FIX, forall_const, endE_n, endE_r, CHT, disj, Nat.reduceBEq, beq_self_eq_true, APT, APX, forall_eq, ALT, ALU, rH, rV, rdC, rdr, URw_1.d, lendTs, lendT, en_nil]
      rfl
    simp only [RUX, Nat.reduceAdd, reduceIte, Nat.reduceEqDiff, Nat.reduceLT, Nat.reduceLeDiff, reduceCtorEq, eq_self, FIX, forall_const, endE_n, endE_r, CHT, disj, Nat.reduceBEq, beq_self_eq_true, APT, APX, forall_eq, ALT, ALU, rH, rV, rdC, rdr, URw_1.d, scalarT, scalarP, scalarC, List.all_cons, Bool.false_and, ite_self]
    refine AW.upto ws.length (inv47b bs (p1 + 1) ws) ⟨d, hD, ⟨rfl, ⟨_, rfl, rfl⟩, ⟨_, rfl, rfl⟩⟩, rfl, rfl, (by show _ = some (rdr 0 bs (p1 + 1 + ((0 : Nat) : Int))); rw [show ((0 : Nat) : Int) = 0 from rfl, Int.add_zero]; rfl)⟩ fun i t H c hi h => ?_
    clear hD hd C2 C4
    obtain ⟨d, hD, ⟨e0, ⟨u2, e2, eH2⟩, ⟨u3, e3, eH3⟩⟩, e7, e10, eR⟩ := h
    simp only [T.c, T.i, T.s, tL, rdr, rdC] at e0 e2 eH2 e3 eH3 e7 e10 eR
    have hout : ∀ (q : Int) t H c, (∃ u, t 2 = .c (.ptr 2 u 0) ∧ H 2 = some (.var u 27 [.nil0, .nil0, .nil0])) → (∃ u, t 3 = .c (.ptr 3 u 0) ∧ H 3 = some (.var u 27 (cDk d))) → H 1000 = some (rdr 0 bs q) → p ≤ q ∧ q ≤ p + 9000000 → wpa Try.prog X (.seq (.reg r47_35) .ret) (endR p 9000000 DOk tDk bs s47) ⟨t, H, c⟩ := by
      intro q t H c ⟨u2, e2, eH2⟩ ⟨u3, e3, eH3⟩ eR hq
      simp only [T.c, rdr, rdC] at e2 eH2 e3 eH3 eR
      simp only [RUX, Nat.reduceAdd, reduceIte, Nat.reduceEqDiff, Nat.reduceLT, Nat.reduceLeDiff, reduceCtorEq, eq_self, FIX, forall_const, endE_n, endE_r, CHT, disj, Nat.reduceBEq, beq_self_eq_true, APT, APX, forall_eq, ALT, ALU, rH, rV, rdC, rdr, uR r47_35.eq_1, s47, e2, eH2, e3, eH3, eR]
      refine ES.mk (q, d) ⟨hq.1, hq.2, hD⟩ ?_
      simp only [RUX, Nat.reduceAdd, reduceIte, Nat.reduceEqDiff, Nat.reduceLT, Nat.reduceLeDiff, reduceCtorEq, eq_self, FIX, forall_const, endE_n, endE_r, CHT, disj, Nat.reduceBEq, beq_self_eq_true, APT, APX, forall_eq, ALT, ALU, rH, rV, rdC, rdr, s47, e2, eR]
    by_cases f1 : (i : Int) < ws.length
    rotate_left
    · simp only [RUX, Nat.reduceAdd, reduceIte, Nat.reduceEqDiff, Nat.reduceLT, Nat.reduceLeDiff, reduceCtorEq, eq_self, FIX, forall_const, endE_n, endE_r, CHT, disj, Nat.reduceBEq, beq_self_eq_true, APT, APX, forall_eq, ALT, ALU, rH, rV, rdC, rdr, URw_3.d, e0, e7, e10, en_len, f1]
      exact hout _ _ _ _ ⟨u2, e2, eH2⟩ ⟨u3, e3, eH3⟩ eR ⟨by omega, by omega⟩
    obtain ⟨j, j0, j1, C5⟩ := pick_ok bs hb (p1 + 1 + i) 9 (by omega) (by omega)
    simp only [RUX, Nat.reduceAdd, reduceIte, Nat.reduceEqDiff, Nat.reduceLT, Nat.reduceLeDiff, reduceCtorEq, eq_self, FIX, forall_const, endE_n, endE_r, CHT, disj, Nat.reduceBEq, beq_self_eq_true, APT, APX, forall_eq, ALT, ALU, rH, rV, rdC, rdr, URw_3.d, e0, e7, e10, en_len, f1]
    refine callRc (C5 0) rfl rfl rfl rfl eR ⟨?_, ?_⟩
    · simp only [RUX, Nat.reduceAdd, reduceIte, Nat.reduceEqDiff, Nat.reduceLT, Nat.reduceLeDiff, reduceCtorEq, eq_self, FIX, forall_const, endE_n, endE_r, CHT, disj, Nat.reduceBEq, beq_self_eq_true, APT, APX, forall_eq, ALT, ALU, rH, rV, rdC, rdr, s47]
    by_cases f2 : (i : Int) < j
    rotate_left
    · simp only [RUX, Nat.reduceAdd, reduceIte, Nat.reduceEqDiff, Nat.reduceLT, Nat.reduceLeDiff, reduceCtorEq, eq_self, FIX, forall_const, endE_n, endE_r, CHT, disj, Nat.reduceBEq, beq_self_eq_true, APT, APX, forall_eq, ALT, ALU, rH, rV, rdC, rdr, URw_3.d, e0, e7, e10, en_len, f1, f2]
      exact hout _ _ _ _ ⟨u2, e2, eH2⟩ ⟨u3, e3, eH3⟩ rfl ⟨by omega, by omega⟩
    have hd := hD.fine
    obtain ⟨wr, hx⟩ : ∃ x, ws[i]? = some x := ⟨_, List.getElem?_eq_getElem (by omega)⟩
    have ex := en_at eW hx
    have gz : (0 : Int) ≤ i := by omega
    have w2 : IntKind.i64.wrap ((i : Int) + 1) = ((i + 1 : Nat) : Int) := wrap64 (x := (i : Int) + 1) ⟨by omega, by omega⟩
    obtain ⟨r, hr, C8⟩ := doS_ok d wr hd (hws.w wr (List.mem_of_getElem? hx))
    have hr1 : DOk r.1 := by
      rcases hr with ⟨_, rfl⟩ | ⟨h, _⟩
      · exact hD.step wr
      · exact absurd hD h
    simp only [RUX, Nat.reduceAdd, reduceIte, Nat.reduceEqDiff, Nat.reduceLT, Nat.reduceLeDiff, reduceCtorEq, eq_self, FIX, forall_const, endE_n, endE_r, CHT, disj, Nat.reduceBEq, beq_self_eq_true, APT, APX, forall_eq, ALT, ALU, rH, rV, rdC, rdr, URw_3.d, e0, e2, eH2, e3, eH3, e7, e10, en_len, f1, f2, ex, gz, Int.toNat_natCast, eW]
    refine callC C8 rfl rfl rfl rfl ?_
    simp only [RUX, Nat.reduceAdd, reduceIte, Nat.reduceEqDiff, Nat.reduceLT, Nat.reduceLeDiff, reduceCtorEq, eq_self, FIX, forall_const, endE_n, endE_r, CHT, disj, Nat.reduceBEq, beq_self_eq_true, APT, APX, forall_eq, ALT, ALU, rH, rV, rdC, rdr, URw_3.d, e3, eH3, e10, w2]
    refine ⟨by omega, r.1, hr1, ⟨e0, ⟨u2, e2, eH2⟩, ⟨u3, e3, rfl⟩⟩, e7, rfl, ?_⟩
    show _ = some (rdr 0 bs (p1 + 1 + ((i + 1 : Nat) : Int)))
    rw [show p1 + 1 + ((i + 1 : Nat) : Int) = p1 + 1 + i + 1 from by omega]
    rfl
  rw [Bool.not_eq_true] at g1
  simp only [RUX, Nat.reduceAdd, reduceIte, Nat.reduceEqDiff, Nat.reduceLT, Nat.reduceLeDiff, reduceCtorEq, eq_self, FIX, forall_const, endE_n, endE_r, CHT, disj, Nat.reduceBEq, beq_self_eq_true, APT, APX, forall_eq, ALT, ALU, rH, rV, rdC, rdr, URw_1.d, g0, g1]
  refine ES.mk (p1 + 1, d) ⟨by simp only; omega, by simp only; omega, hD⟩ ?_
  simp only [RUX, Nat.reduceAdd, reduceIte, Nat.reduceEqDiff, Nat.reduceLT, Nat.reduceLeDiff, reduceCtorEq, eq_self, FIX, forall_const, endE_n, endE_r, CHT, disj, Nat.reduceBEq, beq_self_eq_true, APT, APX, forall_eq, ALT, ALU, rH, rV, rdC, rdr, URw_1.d]
end Go.V
set_option linter.unusedSimpArgs false
namespace Go.V
open Go.Proofs
theorem callOf {t : Nat → T} {H : HMap} {c : Nat} {f : Opd} {args : List Opd} {v : Nat} {bs : List UInt8} {p p' : Int} {ss : List ByteArray} {s : ByteArray} {id ver n : Nat} {wr : Bool} {k : Nat} {d : Option Nat} {un : List Nat} {l : List AOper} {prev : List (Nat × List Nat × List Nat)} {K : St → Prop}
    (hC : ACallsF Try.prog 49 [rP v, tL (en eS ss)] [rH v bs p p'] (tS s)) (hf : ev t f = .pt (.one (.fn 49 []))) (hl : args.map (ev t) = [rP v, .c (.own id ver n)]) (hB : H id = some (.arr ver wr 1 9 (en eS ss))) (hn : n = ss.length) (hid : id ≠ 1000) (hH : H 1000 = some (rdr v bs p))
    (hk : chk prev un ⟨tS s, [(id, .arr ver false 1 9 (en eS ss)), (1000, rdr v bs p')], [id, 1000], [id, 1000]⟩ = true ∧ DRun Try.prog l ((k, [id, 1000], [id, 1000]) :: prev) K ⟨updD t d (tS s), upd (upd H id (some (.arr ver false 1 9 (en eS ss)))) 1000 (some (rdr v bs p')), c⟩) :
    step Try.prog k d un (.call f args) l prev K t H c := by
  refine callR (ws := [(id, .arr ver false 1 9 (en eS ss))]) (ns := [id]) hC hf ?_ rfl rfl ?_ hk
  · rw [hl]
    subst hn
    simp only [lendTs, rP, tL, T.c, lendT, lendC, sealC, hB, en_len, en_take, Nat.le_refl, and_self, if_true, Option.map_some, List.append_nil, List.nil_append]
  · simp only [updH, upd, if_neg (Ne.symm hid), hH]
/- loop.example/teagle/spec.l45Spoil -/
def r48_0 : List AOper := [ao 0 3 (.box 27 (.t 1)),
  ao 1 4 (.alloc 27 [.nil0, .nil0, .nil0])]
def r48_1 : List AOper := [ao 0 10 (.ld 3 true (.t 3)),
  ao 1 11 (.call (.k (.c (.fn 23 []))) [(.t 10)]),
  an 2 (.st 3 (.t 3) (.t 11))]
def r48_2 : List AOper := [ao 0 12 (.fa 0 (.t 3)),
  ao 1 13 (.ld 1 false (.t 12)),
  ao 2 14 (.len (.t 13)),
  ao 3 15 (.bin .eql (.t 14) (.k (.i 0)))]
def r48_3 : List AOper := [ao 0 16 (.bsl 1 9 [(.k (.s (.string ⟨#[97]⟩)))]),
  ao 1 17 (.build [.nil0, .nil0, .nil0] [(1, 1, (.t 16))]),
  an 2 (.st 3 (.t 4) (.t 17))]
def c48_4 : ACode := .seq (.reg r48_3) .ret
def c48_5 : ACode := .cond (.t 15) c48_4 .skip
def c48_6 : ACode := .seq (.reg r48_2) c48_5
def r48_7 : List AOper := [ao 0 18 (.mv (.t 0)),
  ao 1 19 (.fa 0 (.t 3)),
  ao 2 20 (.ld 1 false (.t 19)),
  ao 3 21 (.len (.t 20)),
  ao 4 22 (.call (.k (.c (.fn 22 []))) [(.t 18), (.t 21)]),
  ao 5 5 (.mv (.t 22))]
def r48_8 : List AOper := [ao 0 23 (.mv (.t 0)),
  ao 1 24 (.call (.k (.c (.fn 22 []))) [(.t 23), (.k (.i 10))])]
def r48_9 : List AOper := [ao 0 53 (.bin .eql (.t 24) (.k (.i 0))),
  ao 1 52 (.mv (.t 53))]
def r48_10 : List AOper := [ao 0 54 (.fa 0 (.t 3)),
  ao 1 55 (.ld 1 false (.t 54)),
  au 2 56 [0, 1] (.mv (.t 5)),
  au 3 57 (ru 3) (.fa 0 (.t 3)),
  au 4 58 (ru 3) (.ld 1 false (.t 57)),
  au 5 59 (ru 5) (.mv (.t 5)),
  au 6 60 (ru 3) (.ia 3 (.t 58) (.t 59)),
  au 7 61 (ru 3) (.fa 1 (.t 60)),
  au 8 62 (ru 3) (.ld 1 false (.t 61)),
  au 9 63 (ru 3) (.lenS (.t 62)),
  au 10 64 (ru 3) (.bin .add (.t 63) (.k (.i 1))),
  au 11 65 (ru 11) (.fa 0 (.t 3)),
  au 12 66 (ru 11) (.ld 1 false (.t 65)),
  au 13 67 (ru 13) (.mv (.t 5)),
  au 14 68 (ru 11) (.ia 3 (.t 66) (.t 67)),
  au 15 69 (ru 11) (.fa 1 (.t 68)),
  au 16 70 (ru 11) (.ld 1 false (.t 69)),
  au 17 71 (ru 11) (.lenS (.t 70)),
  au 18 72 (ru 3) (.bsl 1 3 [(.k (.i (-1))), (.t 64), (.t 71)]),
  au 19 73 (ru 19) (.mv (.t 0)),
  au 20 74 (ru 19) (.call (.k (.c (.fn 22 []))) [(.t 73), (.k (.i 3))]),
  au 21 75 (ru 3) (.ia 1 (.t 72) (.t 74)),
  au 22 76 (ru 3) (.ld 1 false (.t 75)),
  ao 23 77 (.ia 3 (.t 55) (.t 56)),
  ao 24 78 (.fa 2 (.t 77)),
  an 25 (.st 1 (.t 78) (.t 76))]
def r48_11 : List AOper := [ao 0 80 (.bin .eql (.t 24) (.k (.i 1))),
  ao 1 79 (.mv (.t 80))]
def r48_12 : List AOper := [ao 0 81 (.fa 0 (.t 3)),
  ao 1 82 (.ld 1 false (.t 81)),
  au 2 83 [0, 1] (.mv (.t 5)),
  au 3 84 (ru 3) (.mv (.t 0)),
  au 4 85 (ru 4) (.bsl 1 9 [(.k (.s (.string ⟨#[115, 49]⟩))), (.k (.s (.string ⟨#[]⟩))), (.k (.s (.string ⟨#[65]⟩))), (.k (.s (.string ⟨#[109, 49]⟩)))]),
  au 5 86 (ru 3) (.call (.k (.c (.fn 49 []))) [(.t 84), (.t 85)]),
  ao 6 87 (.ia 3 (.t 82) (.t 83)),
  ao 7 88 (.fa 0 (.t 87)),
  an 8 (.st 1 (.t 88) (.t 86))]
def r48_13 : List AOper := [ao 0 90 (.bin .eql (.t 24) (.k (.i 2))),
  ao 1 89 (.mv (.t 90))]
def r48_14 : List AOper := [ao 0 91 (.fa 1 (.t 3)),
  ao 1 92 (.ld 1 false (.t 91)),
  au 2 93 [0, 1] (.mv (.t 0)),
  au 3 94 (ru 3) (.bsl 1 9 [(.k (.s (.string ⟨#[115, 49]⟩))), (.k (.s (.string ⟨#[122, 122]⟩)))]),
  au 4 95 [0, 1] (.call (.k (.c (.fn 49 []))) [(.t 93), (.t 94)]),
  au 5 96 [0, 1] (.bsl 1 9 [(.t 95)]),
  ao 6 97 (.app 1 9 16 (.t 92) (.t 96)),
  ao 7 98 (.fa 1 (.t 3)),
  an 8 (.st 1 (.t 98) (.t 97))]
def r48_15 : List AOper := [ao 0 100 (.bin .eql (.t 24) (.k (.i 3))),
  ao 1 99 (.mv (.t 100))]
def r48_16 : List AOper := [ao 0 101 (.fa 2 (.t 3)),
  ao 1 102 (.ld 1 false (.t 101)),
  au 2 103 [0, 1] (.mv (.t 0)),
  au 3 104 [0, 1] (.call (.k (.c (.fn 22 []))) [(.t 103), (.k (.i 2))]),
  au 4 105 [0, 1] (.bin .eql (.t 104) (.k (.i 0))),
  au 5 106 (ru 5) (.mv (.t 0)),
  au 6 107 (ru 6) (.fa 0 (.t 3)),
  au 7 108 (ru 6) (.ld 1 false (.t 107)),
  au 8 109 (ru 8) (.mv (.t 5)),
  au 9 110 (ru 6) (.ia 3 (.t 108) (.t 109)),
  au 10 111 (ru 6) (.fa 0 (.t 110)),
  au 11 112 (ru 6) (.ld 1 false (.t 111)),
  au 12 113 (ru 6) (.bsl 1 9 [(.k (.s (.string ⟨#[122, 122]⟩))), (.k (.s (.string ⟨#[115, 49]⟩))), (.t 112)]),
  au 13 114 [0, 1, 4] (.call (.k (.c (.fn 49 []))) [(.t 106), (.t 113)]),
  au 14 115 [0, 1] (.build [(.v (.s (.bool false))), (.v (.s (.string ⟨#[]⟩)))] [(0, 1, (.t 105)), (1, 1, (.t 114))]),
  au 15 116 [0, 1] (.bsl 2 60 [(.t 115)]),
  ao 16 117 (.app 2 60 24 (.t 102) (.t 116)),
  ao 17 118 (.fa 2 (.t 3)),
  an 18 (.st 1 (.t 118) (.t 117))]
def r48_17 : List AOper := [ao 0 120 (.bin .eql (.t 24) (.k (.i 4))),
  ao 1 119 (.mv (.t 120))]
def r48_18 : List AOper := [ao 0 121 (.fa 0 (.t 3)),
  ao 1 122 (.ld 1 false (.t 121)),
  au 2 123 [0, 1] (.mv (.t 5)),
  ao 3 124 (.slc 3 (.t 122) none (some (.t 123))),
  au 4 125 (ru 4) (.fa 0 (.t 3)),
  au 5 126 (ru 4) (.ld 1 false (.t 125)),
  au 6 127 (ru 6) (.mv (.t 5)),
  au 7 128 (ru 6) (.bin .add (.t 127) (.k (.i 1))),
  au 8 129 (ru 4) (.slc 3 (.t 126) (some (.t 128)) none),
  ao 9 130 (.app 3 58 40 (.t 124) (.t 129)),
  ao 10 131 (.fa 0 (.t 3)),
  an 11 (.st 1 (.t 131) (.t 130))]
def r48_19 : List AOper := [ao 0 133 (.bin .eql (.t 24) (.k (.i 5))),
  ao 1 132 (.mv (.t 133))]
def r48_20 : List AOper := [ao 0 134 (.fa 0 (.t 3)),
  ao 1 135 (.ld 1 false (.t 134)),
  au 2 136 [0, 1] (.mv (.t 5)),
  au 3 137 (ru 3) (.mv (.t 0)),
  au 4 138 (ru 3) (.call (.k (.c (.fn 22 []))) [(.t 137), (.k (.i 2))]),
  au 5 139 (ru 3) (.bin .add (.k (.i 20000)) (.t 138)),
  au 6 140 (ru 3) (.call (.k (.c (.fn 21 []))) [(.k (.s (.string ⟨#[120]⟩))), (.t 139)]),
  ao 7 141 (.ia 3 (.t 135) (.t 136)),
  ao 8 142 (.fa 1 (.t 141)),
  an 9 (.st 1 (.t 142) (.t 140))]
def r48_21 : List AOper := [ao 0 144 (.bin .eql (.t 24) (.k (.i 6))),
  ao 1 143 (.mv (.t 144))]
def r48_22 : List AOper := [ao 0 145 (.fa 0 (.t 3)),
  ao 1 146 (.ld 1 false (.t 145)),
  au 2 147 [0, 1] (.mv (.t 5)),
  au 3 148 (ru 3) (.fa 0 (.t 3)),
  au 4 149 (ru 3) (.ld 1 false (.t 148)),
  au 5 150 (ru 5) (.mv (.t 5)),
  au 6 151 (ru 3) (.ia 3 (.t 149) (.t 150)),
  au 7 152 (ru 3) (.fa 1 (.t 151)),
  au 8 153 (ru 3) (.ld 1 false (.t 152)),
  au 9 154 (ru 9) (.mv (.t 0)),
  au 10 155 (ru 10) (.bsl 1 9 [(.k (.s (.string ⟨#[120]⟩))), (.k (.s (.string ⟨#[0, 1, 0, 0, 9, 97]⟩))), (.k (.s (.string ⟨#[111, 112, 101, 110, 32, 49, 32, 49, 10, 101, 110, 100, 10]⟩)))]),
  au 11 156 (ru 9) (.call (.k (.c (.fn 49 []))) [(.t 154), (.t 155)]),
  au 12 157 (ru 3) (.bin .add (.t 153) (.t 156)),
  ao 13 158 (.ia 3 (.t 146) (.t 147)),
  ao 14 159 (.fa 1 (.t 158)),
  an 15 (.st 1 (.t 159) (.t 157))]
def r48_23 : List AOper := [ao 0 161 (.bin .eql (.t 24) (.k (.i 7))),
  ao 1 160 (.mv (.t 161))]
def r48_24 : List AOper := [ao 0 162 (.fa 0 (.t 3)),
  ao 1 163 (.ld 1 false (.t 162)),
  ao 2 164 (.mv (.t 5)),
  ao 3 165 (.ia 3 (.t 163) (.t 164)),
  ao 4 166 (.fa 1 (.t 165)),
  ao 5 167 (.ld 1 false (.t 166)),
  ao 6 168 (.lenS (.t 167)),
  ao 7 169 (.bin .gtr (.t 168) (.k (.i 0)))]
def r48_25 : List AOper := [ao 0 170 (.mv (.t 0)),
  ao 1 171 (.fa 0 (.t 3)),
  ao 2 172 (.ld 1 false (.t 171)),
  ao 3 173 (.mv (.t 5)),
  ao 4 174 (.ia 3 (.t 172) (.t 173)),
  ao 5 175 (.fa 1 (.t 174)),
  ao 6 176 (.ld 1 false (.t 175)),
  ao 7 177 (.lenS (.t 176)),
  ao 8 178 (.call (.k (.c (.fn 22 []))) [(.t 170), (.t 177)]),
  ao 9 6 (.mv (.t 178))]
def r48_26 : List AOper := [ao 0 179 (.fa 0 (.t 3)),
  ao 1 180 (.ld 1 false (.t 179)),
  au 2 181 [0, 1] (.mv (.t 5)),
  au 3 182 (ru 3) (.fa 0 (.t 3)),
  au 4 183 (ru 3) (.ld 1 false (.t 182)),
  au 5 184 (ru 5) (.mv (.t 5)),
  au 6 185 (ru 3) (.ia 3 (.t 183) (.t 184)),
  au 7 186 (ru 3) (.fa 1 (.t 185)),
  au 8 187 (ru 3) (.ld 1 false (.t 186)),
  au 9 188 (ru 9) (.mv (.t 6)),
  au 10 189 (ru 3) (.slcS (.t 187) none (some (.t 188))),
  ao 11 190 (.ia 3 (.t 180) (.t 181)),
  ao 12 191 (.fa 1 (.t 190)),
  an 13 (.st 1 (.t 191) (.t 189))]
def r48_27 : List AOper := [ao 0 192 (.fa 0 (.t 3)),
  ao 1 193 (.ld 1 false (.t 192)),
  ao 2 194 (.mv (.t 5)),
  ao 3 195 (.ia 3 (.t 193) (.t 194)),
  ao 4 196 (.fa 2 (.t 195)),
  an 5 (.st 1 (.t 196) (.k (.i 0)))]
def c48_28 : ACode := .seq (.reg r48_25) (.seq (.reg r48_26) (.reg r48_27))
def c48_29 : ACode := .cond (.t 169) c48_28 .skip
def c48_30 : ACode := .seq (.reg r48_24) c48_29
def r48_31 : List AOper := [ao 0 198 (.bin .eql (.t 24) (.k (.i 8))),
  ao 1 197 (.mv (.t 198))]
def r48_32 : List AOper := [ao 0 199 (.fa 0 (.t 3)),
  ao 1 200 (.ld 1 false (.t 199)),
  ao 2 201 (.mv (.t 5)),
  ao 3 202 (.ia 3 (.t 200) (.t 201)),
  ao 4 203 (.fa 1 (.t 202)),
  ao 5 204 (.ld 1 false (.t 203)),
  ao 6 205 (.lenS (.t 204)),
  ao 7 206 (.bin .gtr (.t 205) (.k (.i 0)))]
def r48_33 : List AOper := [ao 0 207 (.mv (.t 0)),
  ao 1 208 (.fa 0 (.t 3)),
  ao 2 209 (.ld 1 false (.t 208)),
  ao 3 210 (.mv (.t 5)),
  ao 4 211 (.ia 3 (.t 209) (.t 210)),
  ao 5 212 (.fa 1 (.t 211)),
  ao 6 213 (.ld 1 false (.t 212)),
  ao 7 214 (.lenS (.t 213)),
  ao 8 215 (.call (.k (.c (.fn 22 []))) [(.t 207), (.t 214)]),
  ao 9 7 (.mv (.t 215))]
def r48_34 : List AOper := [ao 0 216 (.fa 0 (.t 3)),
  ao 1 217 (.ld 1 false (.t 216)),
  au 2 218 [0, 1] (.mv (.t 5)),
  au 3 219 (ru 3) (.fa 0 (.t 3)),
  au 4 220 (ru 3) (.ld 1 false (.t 219)),
  au 5 221 (ru 5) (.mv (.t 5)),
  au 6 222 (ru 3) (.ia 3 (.t 220) (.t 221)),
  au 7 223 (ru 3) (.fa 1 (.t 222)),
  au 8 224 (ru 3) (.ld 1 false (.t 223)),
  au 9 225 (ru 9) (.mv (.t 7)),
  au 10 226 (ru 3) (.slcS (.t 224) none (some (.t 225))),
  au 11 227 (ru 11) (.mv (.t 0)),
  au 12 228 (ru 12) (.bsl 1 9 [(.k (.s (.string ⟨#[0]⟩))), (.k (.s (.string ⟨#[49]⟩))), (.k (.s (.string ⟨#[57]⟩))), (.k (.s (.string ⟨#[32]⟩)))]),
  au 13 229 (ru 11) (.call (.k (.c (.fn 49 []))) [(.t 227), (.t 228)]),
  au 14 230 (ru 3) (.bin .add (.t 226) (.t 229)),
  au 15 231 (ru 15) (.fa 0 (.t 3)),
  au 16 232 (ru 15) (.ld 1 false (.t 231)),
  au 17 233 (ru 17) (.mv (.t 5)),
  au 18 234 (ru 15) (.ia 3 (.t 232) (.t 233)),
  au 19 235 (ru 15) (.fa 1 (.t 234)),
  au 20 236 (ru 15) (.ld 1 false (.t 235)),
  au 21 237 (ru 21) (.mv (.t 7)),
  au 22 238 (ru 21) (.bin .add (.t 237) (.k (.i 1))),
  au 23 239 (ru 15) (.slcS (.t 236) (some (.t 238)) none),
  au 24 240 (ru 3) (.bin .add (.t 230) (.t 239)),
  ao 25 241 (.ia 3 (.t 217) (.t 218)),
  ao 26 242 (.fa 1 (.t 241)),
  an 27 (.st 1 (.t 242) (.t 240))]
def c48_35 : ACode := .seq (.reg r48_33) (.reg r48_34)
def c48_36 : ACode := .cond (.t 206) c48_35 .skip
def c48_37 : ACode := .seq (.reg r48_32) c48_36
def r48_38 : List AOper := [ao 0 25 (.build [.nil0, .nil0, .nil0] []),
  ao 1 8 (.alloc 27 [.nil0, .nil0, .nil0]),
  an 2 (.st 3 (.t 8) (.t 25))]
def r48_39 : List AOper := [ao 0 9 (.mv (.k (.i 0)))]
def r48_40 : List AOper := [ao 0 26 (.mv (.t 9)),
  ao 1 27 (.mv (.t 0)),
  ao 2 28 (.call (.k (.c (.fn 22 []))) [(.t 27), (.k (.i 3))]),
  ao 3 29 (.bin .sub (.k (.i 64)) (.t 28)),
  ao 4 30 (.bin .add (.t 29) (.k (.i 1))),
  ao 5 31 (.bin .lss (.t 26) (.t 30))]
def c48_41 : ACode := .cond (.t 31) .skip (.exit 1)
def c48_42 : ACode := .seq (.reg r48_40) c48_41
def r48_43 : List AOper := [ao 0 34 (.fa 0 (.t 8)),
  ao 1 35 (.ld 1 false (.t 34)),
  au 2 36 [0, 1] (.mv (.t 9)),
  au 3 37 [0, 1] (.call (.k (.c (.fn 64 []))) [(.t 36)]),
  au 4 38 [0, 1] (.bin .add (.k (.s (.string ⟨#[102]⟩))) (.t 37)),
  au 5 39 [0, 1] (.build [(.v (.s (.string ⟨#[]⟩))), (.v (.s (.string ⟨#[]⟩))), (.v (.s (.int .i64 0)))] [(0, 1, (.t 38))]),
  au 6 40 [0, 1] (.bsl 3 58 [(.t 39)]),
  ao 7 41 (.app 3 58 40 (.t 35) (.t 40)),
  ao 8 42 (.fa 0 (.t 8)),
  an 9 (.st 1 (.t 42) (.t 41))]
def r48_44 : List AOper := [ao 0 43 (.fa 1 (.t 8)),
  ao 1 44 (.ld 1 false (.t 43)),
  au 2 45 [0, 1] (.mv (.t 9)),
  au 3 46 [0, 1] (.call (.k (.c (.fn 64 []))) [(.t 45)]),
  au 4 47 [0, 1] (.bin .add (.k (.s (.string ⟨#[102]⟩))) (.t 46)),
  au 5 48 [0, 1] (.bsl 1 9 [(.t 47)]),
  ao 6 49 (.app 1 9 16 (.t 44) (.t 48)),
  ao 7 50 (.fa 1 (.t 8)),
  an 8 (.st 1 (.t 50) (.t 49))]
def c48_45 : ACode := .seq (.reg r48_43) (.reg r48_44)
def c48_46 : ACode := .block 2 c48_45
def r48_47 : List AOper := [ao 0 32 (.mv (.t 9)),
  ao 1 33 (.bin .add (.t 32) (.k (.i 1))),
  ao 2 9 (.mv (.t 33))]
def c48_48 : ACode := .seq c48_42 (.seq c48_46 (.reg r48_47))
def c48_49 : ACode := .loop c48_48
def c48_50 : ACode := .block 1 c48_49
def c48_51 : ACode := .seq (.reg r48_39) c48_50
def r48_52 : List AOper := [ao 0 51 (.ld 3 true (.t 8)),
  an 1 (.st 3 (.t 4) (.t 51))]
def c48_53 : ACode := .seq (.reg r48_38) (.seq c48_51 (.seq (.reg r48_52) .ret))
def c48_54 : ACode := .cond (.t 197) c48_37 c48_53
def c48_55 : ACode := .seq (.reg r48_31) c48_54
def c48_56 : ACode := .cond (.t 160) c48_30 c48_55
def c48_57 : ACode := .seq (.reg r48_23) c48_56
def c48_58 : ACode := .cond (.t 143) (.reg r48_22) c48_57
def c48_59 : ACode := .seq (.reg r48_21) c48_58
def c48_60 : ACode := .cond (.t 132) (.reg r48_20) c48_59
def c48_61 : ACode := .seq (.reg r48_19) c48_60
def c48_62 : ACode := .cond (.t 119) (.reg r48_18) c48_61
def c48_63 : ACode := .seq (.reg r48_17) c48_62
def c48_64 : ACode := .cond (.t 99) (.reg r48_16) c48_63
def c48_65 : ACode := .seq (.reg r48_15) c48_64
def c48_66 : ACode := .cond (.t 89) (.reg r48_14) c48_65
def c48_67 : ACode := .seq (.reg r48_13) c48_66
def c48_68 : ACode := .cond (.t 79) (.reg r48_12) c48_67
def c48_69 : ACode := .seq (.reg r48_11) c48_68
def c48_70 : ACode := .cond (.t 52) (.reg r48_10) c48_69
def c48_71 : ACode := .seq (.reg r48_9) c48_70
def c48_72 : ACode := .block 0 c48_71
def c48_73 : ACode := .seq (.reg r48_8) c48_72
def r48_74 : List AOper := [ao 0 243 (.ld 3 true (.t 3)),
  an 1 (.st 3 (.t 4) (.t 243))]
def c48 : ACode := .seq (.reg r48_0) (.seq (.reg r48_1) (.seq c48_6 (.seq (.reg r48_7) (.seq c48_73 (.seq (.reg r48_74) .ret)))))
def s48 : List ARes := [.cell 4 3 true]
theorem ok48 : okF Try.prog 48 244 c48 s48 := ⟨Try.f48, Try.func48, Try.ntmps48, by kernel_rfl, by kernel_rfl, by kernel_rfl⟩
def St48 (bs : List UInt8) (q : Int) (F : List DF) (N : List ByteArray) (M : List DM) (i : Nat) (t : Nat → T) (H : HMap) : Prop := ∃ u v1 v2 v3 u4, t 0 = rP 0 ∧ t 3 = .c (.ptr 3 u 0) ∧ H 3 = some (.var u 27 [.own 1001 v1 F.length, .own 1002 v2 N.length, .own 1003 v3 M.length]) ∧ H 1001 = some (.arr v1 true 3 58 (en eF F)) ∧ H 1002 = some (.arr v2 true 1 9 (en eS N)) ∧ H 1003 = some (.arr v3 true 2 60 (en eM M)) ∧ t 4 = .c (.ptr 4 u4 0) ∧ H 4 = some (.var u4 27 [.nil0, .nil0, .nil0]) ∧ t 5 = .i i ∧ H 1000 = some (rdr 0 bs q)
abbrev EN48 (bs : List UInt8) (p : Int) : Exit → St → Prop := endR p 300 fineDk tDk bs s48
def QN48 (X : Ctx) (bs : List UInt8) (p : Int) : Exit → St → Prop := inW 0 (thenW Try.prog X (.seq (.reg r48_74) .ret) (EN48 bs p))
theorem sp74 {X : Ctx} {bs : List UInt8} {p q : Int} {F : List DF} {N : List ByteArray} {M : List DM} {i : Nat} {t : Nat → T} {H : HMap} {c : Nat} (h : St48 bs q F N M i t H) (hq : p ≤ q ∧ q ≤ p + 300) (hf : fineDk ⟨F, N, M⟩) : QN48 X bs p .normal ⟨t, H, c⟩ := by
  obtain ⟨u, v1, v2, v3, u4, e0, e3, eH3, eF1, eN1, eM1, e4, eH4, e5, eR⟩ := h
  simp only [T.c, T.i] at e0 e3 e4 e5
  unfold QN48
  simp only [RUX, Nat.reduceAdd, reduceIte, Nat.reduceEqDiff, Nat.reduceLT, Nat.reduceLeDiff, reduceCtorEq, eq_self, FIX, forall_const, endE_n, endE_r, CHT, disj, Nat.reduceBEq, beq_self_eq_true, APT, APX, forall_eq, ALT, ALU, rH, rV, rdC, rdr, uR r48_74.eq_1, s48, e3, eH3, e4, eH4]
  refine ES.mk (q, ⟨F, N, M⟩) ⟨hq.1, hq.2, hf⟩ ?_
  simp only [RUX, Nat.reduceAdd, reduceIte, Nat.reduceEqDiff, Nat.reduceLT, Nat.reduceLeDiff, reduceCtorEq, eq_self, FIX, forall_const, endE_n, endE_r, CHT, disj, Nat.reduceBEq, beq_self_eq_true, APT, APX, forall_eq, ALT, ALU, rH, rV, rdC, rdr, s48, e4, eH4, eF1, eN1, eM1, eR, en_len, en_take]
theorem fine_set {F : List DF} {N : List ByteArray} {M : List DM} (h : fineDk ⟨F, N, M⟩) (i : Nat) {f : DF} (h1 : f.name.size ≤ 1048576) (h2 : f.data.size ≤ 1048576) : fineDk ⟨F.set i f, N, M⟩ := by
  refine ⟨⟨by have := h.s.f; simp only [List.length_set]; exact this, h.s.n, h.s.m⟩, fun g hg => ?_, h.n, h.m⟩
  rcases List.mem_or_eq_of_mem_set hg with hg | rfl
  · exact h.f g hg
  · exact ⟨h1, h2⟩
section
variable {X : Ctx} {bs : List UInt8} (hb : bs.length ≤ 2000) {p q : Int} (hq : 0 ≤ p ∧ p ≤ 900000000000 ∧ p ≤ q ∧ q ≤ p + 100) {F : List DF} {N : List ByteArray} {M : List DM} (hfd : fineDk ⟨F, N, M⟩) {i : Nat} {f : DF} (hx : F[i]? = some f) (hd2 : f.data.size ≤ 20000) (hsN : N.length ≤ 1000) (hsM : M.length ≤ 1000) {t : Nat → T} {H : HMap} {c : Nat} (hst : St48 bs q F N M i t H)
include hb hq hfd hx hd2 hsN hsM hst
theorem sp0 : wpa Try.prog X (.reg r48_10) (QN48 X bs p) ⟨t, H, c⟩ := by
  obtain ⟨u, v1, v2, v3, u4, e0, e3, eH3, eF1, eN1, eM1, e4, eH4, e5, eR⟩ := hst
  simp only [T.c, T.i] at e0 e3 e4 e5
  have ex := en_at eF hx
  have gi := (List.getElem?_eq_some_iff.1 hx).1
  have gi2 : (i : Int) < F.length := by omega
  have gz : (0 : Int) ≤ i := by omega
  have hs1 : F.length ≤ 1048576 := hfd.s.f
  have hs2 : N.length ≤ 1048576 := hfd.s.n
  have hs3 : M.length ≤ 1048576 := hfd.s.m
  have hfn := (hfd.f f (List.mem_of_getElem? hx)).1
  have _u := And.intro hb (And.intro hd2 (And.intro hsN hsM))
  obtain ⟨j, j0, j1, C1⟩ := pick_ok bs hb q 3 (by omega) (by omega)
  obtain ⟨j, rfl⟩ : ∃ m : Nat, j = m := ⟨j.toNat, (Int.toNat_of_nonneg j0).symm⟩
  have hj3 : (j : Int) < ((3 : Nat) : Int) := j1
  have w1 : IntKind.i64.wrap ((f.data.size : Int) + 1) = (f.data.size : Int) + 1 := wrap64 ⟨by omega, by omega⟩
  obtain ⟨x, hx2⟩ : ∃ x, ([-1, (f.data.size : Int) + 1, (f.data.size : Int)] : List Int)[j]? = some x := ⟨_, List.getElem?_eq_getElem (by simp only [List.length_cons, List.length_nil]; omega)⟩
  have ex2 := en_at eI hx2
  simp only [en, List.map_cons, List.map_nil, eI] at ex2
  simp only [RUX, Nat.reduceAdd, reduceIte, Nat.reduceEqDiff, Nat.reduceLT, Nat.reduceLeDiff, reduceCtorEq, eq_self, FIX, forall_const, endE_n, endE_r, CHT, disj, Nat.reduceBEq, beq_self_eq_true, APT, APX, forall_eq, ALT, ALU, rH, rV, rdC, rdr, e0, e3, eH3, eF1, eN1, eM1, e4, eH4, e5, eR, en_len, ex, gi, gi2, gz, Int.toNat_natCast, eF, eS, eM, uR r48_10.eq_1, w1]
  refine callRc (C1 0) rfl rfl rfl rfl (by simp only [RUX, Nat.reduceAdd, reduceIte, Nat.reduceEqDiff, Nat.reduceLT, Nat.reduceLeDiff, reduceCtorEq, eq_self, FIX, forall_const, endE_n, endE_r, CHT, disj, Nat.reduceBEq, beq_self_eq_true, APT, APX, forall_eq, ALT, ALU, rH, rV, rdC, rdr, s48, eR]) ⟨?_, ?_⟩
  · simp only [RUX, Nat.reduceAdd, reduceIte, Nat.reduceEqDiff, Nat.reduceLT, Nat.reduceLeDiff, reduceCtorEq, eq_self, FIX, forall_const, endE_n, endE_r, CHT, disj, Nat.reduceBEq, beq_self_eq_true, APT, APX, forall_eq, ALT, ALU, rH, rV, rdC, rdr, s48]
  simp only [RUX, Nat.reduceAdd, reduceIte, Nat.reduceEqDiff, Nat.reduceLT, Nat.reduceLeDiff, reduceCtorEq, eq_self, FIX, forall_const, endE_n, endE_r, CHT, disj, Nat.reduceBEq, beq_self_eq_true, APT, APX, forall_eq, ALT, ALU, rH, rV, rdC, rdr, e0, e3, eH3, eF1, eN1, eM1, e4, eH4, e5, eR, en_len, ex, gi, gi2, gz, Int.toNat_natCast, eF, eS, eM, j0, hj3, ex2]
  refine sp74 (F := F.set i ⟨f.name, f.data, x⟩) (q := q + 1) ⟨u, v1, v2, v3, u4, e0, e3, (by rw [List.length_set]; exact eH3), (by rw [← en_set]; rfl), eN1, eM1, e4, eH4, e5, rfl⟩ ⟨by omega, by omega⟩ (fine_set hfd i hfn (by simp only; omega))
theorem sp1 : wpa Try.prog X (.reg r48_12) (QN48 X bs p) ⟨t, H, c⟩ := by
  obtain ⟨u, v1, v2, v3, u4, e0, e3, eH3, eF1, eN1, eM1, e4, eH4, e5, eR⟩ := hst
  simp only [T.c, T.i] at e0 e3 e4 e5
  have ex := en_at eF hx
  have gi := (List.getElem?_eq_some_iff.1 hx).1
  have gi2 : (i : Int) < F.length := by omega
  have gz : (0 : Int) ≤ i := by omega
  have hs1 : F.length ≤ 1048576 := hfd.s.f
  have hs2 : N.length ≤ 1048576 := hfd.s.n
  have hs3 : M.length ≤ 1048576 := hfd.s.m
  have hfn := (hfd.f f (List.mem_of_getElem? hx)).1
  have _u := And.intro hb (And.intro hd2 (And.intro hsN hsM))
  obtain ⟨q2, s, a0, a1, hs, C1⟩ := of_ok bs hb q (by omega) [⟨#[115, 49]⟩, ⟨#[]⟩, ⟨#[65]⟩, ⟨#[109, 49]⟩] (by decide)
  have hsz : s.size ≤ 100 := by
    simp only [List.mem_cons, List.not_mem_nil, or_false] at hs
    rcases hs with rfl | rfl | rfl | rfl <;> decide
  simp only [RUX, Nat.reduceAdd, reduceIte, Nat.reduceEqDiff, Nat.reduceLT, Nat.reduceLeDiff, reduceCtorEq, eq_self, FIX, forall_const, endE_n, endE_r, CHT, disj, Nat.reduceBEq, beq_self_eq_true, APT, APX, forall_eq, ALT, ALU, rH, rV, rdC, rdr, e0, e3, eH3, eF1, eN1, eM1, e4, eH4, e5, eR, en_len, ex, gi, gi2, gz, Int.toNat_natCast, eF, eS, eM, uR r48_12.eq_1]
  refine callOf (C1 0) rfl rfl rfl rfl (by decide) (by simp only [RUX, Nat.reduceAdd, reduceIte, Nat.reduceEqDiff, Nat.reduceLT, Nat.reduceLeDiff, reduceCtorEq, eq_self, FIX, forall_const, endE_n, endE_r, CHT, disj, Nat.reduceBEq, beq_self_eq_true, APT, APX, forall_eq, ALT, ALU, rH, rV, rdC, rdr, s48, eR]) ⟨?_, ?_⟩
  · simp only [RUX, Nat.reduceAdd, reduceIte, Nat.reduceEqDiff, Nat.reduceLT, Nat.reduceLeDiff, reduceCtorEq, eq_self, FIX, forall_const, endE_n, endE_r, CHT, disj, Nat.reduceBEq, beq_self_eq_true, APT, APX, forall_eq, ALT, ALU, rH, rV, rdC, rdr, s48]
  simp only [RUX, Nat.reduceAdd, reduceIte, Nat.reduceEqDiff, Nat.reduceLT, Nat.reduceLeDiff, reduceCtorEq, eq_self, FIX, forall_const, endE_n, endE_r, CHT, disj, Nat.reduceBEq, beq_self_eq_true, APT, APX, forall_eq, ALT, ALU, rH, rV, rdC, rdr, e0, e3, eH3, eF1, eN1, eM1, e4, eH4, e5, eR, en_len, ex, gi, gi2, gz, Int.toNat_natCast, eF, eS, eM]
  refine sp74 (F := F.set i ⟨s, f.data, f.kept⟩) (q := q2) ⟨u, v1, v2, v3, u4, e0, e3, (by rw [List.length_set]; exact eH3), (by rw [← en_set]; rfl), eN1, eM1, e4, eH4, e5, rfl⟩ ⟨by omega, by omega⟩ (fine_set hfd i (by simp only; omega) (by simp only; omega))
theorem sp2 : wpa Try.prog X (.reg r48_14) (QN48 X bs p) ⟨t, H, c⟩ := by
  obtain ⟨u, v1, v2, v3, u4, e0, e3, eH3, eF1, eN1, eM1, e4, eH4, e5, eR⟩ := hst
  simp only [T.c, T.i] at e0 e3 e4 e5
  have ex := en_at eF hx
  have gi := (List.getElem?_eq_some_iff.1 hx).1
  have gi2 : (i : Int) < F.length := by omega
  have gz : (0 : Int) ≤ i := by omega
  have hs1 : F.length ≤ 1048576 := hfd.s.f
  have hs2 : N.length ≤ 1048576 := hfd.s.n
  have hs3 : M.length ≤ 1048576 := hfd.s.m
  have hfn := (hfd.f f (List.mem_of_getElem? hx)).1
  have _u := And.intro hb (And.intro hd2 (And.intro hsN hsM))
  obtain ⟨q2, s, a0, a1, hs, C1⟩ := of_ok bs hb q (by omega) [⟨#[115, 49]⟩, ⟨#[122, 122]⟩] (by decide)
  have hsz : s.size ≤ 100 := by
    simp only [List.mem_cons, List.not_mem_nil, or_false] at hs
    rcases hs with rfl | rfl <;> decide
  have ht1 : (en eS N).take N.length = en eS N := en_take eS N
  have l1 : (N.length + 1) * 16 ≤ 140737488355328 := by omega
  have l2 : N.length ≤ 9223372036854775806 := by omega
  simp only [RUX, Nat.reduceAdd, reduceIte, Nat.reduceEqDiff, Nat.reduceLT, Nat.reduceLeDiff, reduceCtorEq, eq_self, FIX, forall_const, endE_n, endE_r, CHT, disj, Nat.reduceBEq, beq_self_eq_true, APT, APX, forall_eq, ALT, ALU, rH, rV, rdC, rdr, e0, e3, eH3, eF1, eN1, eM1, e4, eH4, e5, eR, en_len, ex, gi, gi2, gz, Int.toNat_natCast, eF, eS, eM, uR r48_14.eq_1]
  refine callOf (C1 0) rfl rfl rfl rfl (by decide) (by simp only [RUX, Nat.reduceAdd, reduceIte, Nat.reduceEqDiff, Nat.reduceLT, Nat.reduceLeDiff, reduceCtorEq, eq_self, FIX, forall_const, endE_n, endE_r, CHT, disj, Nat.reduceBEq, beq_self_eq_true, APT, APX, forall_eq, ALT, ALU, rH, rV, rdC, rdr, s48, eR]) ⟨?_, ?_⟩
  · simp only [RUX, Nat.reduceAdd, reduceIte, Nat.reduceEqDiff, Nat.reduceLT, Nat.reduceLeDiff, reduceCtorEq, eq_self, FIX, forall_const, endE_n, endE_r, CHT, disj, Nat.reduceBEq, beq_self_eq_true, APT, APX, forall_eq, ALT, ALU, rH, rV, rdC, rdr, s48]
  simp only [RUX, Nat.reduceAdd, reduceIte, Nat.reduceEqDiff, Nat.reduceLT, Nat.reduceLeDiff, reduceCtorEq, eq_self, FIX, forall_const, endE_n, endE_r, CHT, disj, Nat.reduceBEq, beq_self_eq_true, APT, APX, forall_eq, ALT, ALU, rH, rV, rdC, rdr, e0, e3, eH3, eF1, eN1, eM1, e4, eH4, e5, eR, en_len, ex, gi, gi2, gz, Int.toNat_natCast, eF, eS, eM, ht1, l1, l2]
  refine sp74 (N := N ++ [s]) (q := q2) ⟨u, v1, c + 6, v3, u4, e0, e3, (by rw [List.length_append]; rfl), eF1, (by rw [en_snoc]; rfl), eM1, e4, eH4, e5, rfl⟩ ⟨by omega, by omega⟩ ⟨⟨hs1, by simp only [List.length_append, List.length_singleton]; have := hsN; omega, hs3⟩, hfd.f, fun x hx => ?_, hfd.m⟩
  rcases List.mem_append.1 hx with h | h
  · exact hfd.n x h
  · rw [List.mem_singleton.1 h]; omega
theorem sp3 : wpa Try.prog X (.reg r48_16) (QN48 X bs p) ⟨t, H, c⟩ := by
  obtain ⟨u, v1, v2, v3, u4, e0, e3, eH3, eF1, eN1, eM1, e4, eH4, e5, eR⟩ := hst
  simp only [T.c, T.i] at e0 e3 e4 e5
  have ex := en_at eF hx
  have gi := (List.getElem?_eq_some_iff.1 hx).1
  have gi2 : (i : Int) < F.length := by omega
  have gz : (0 : Int) ≤ i := by omega
  have hs1 : F.length ≤ 1048576 := hfd.s.f
  have hs2 : N.length ≤ 1048576 := hfd.s.n
  have hs3 : M.length ≤ 1048576 := hfd.s.m
  have hfn := (hfd.f f (List.mem_of_getElem? hx)).1
  have _u := And.intro hb (And.intro hd2 (And.intro hsN hsM))
  obtain ⟨j, j0, j1, C1⟩ := pick_ok bs hb q 2 (by omega) (by omega)
  obtain ⟨q2, s, a0, a1, hs, C2⟩ := of_ok bs hb (q + 1) (by omega) [⟨#[122, 122]⟩, ⟨#[115, 49]⟩, f.name] (by simp)
  have hsz : s.size ≤ 1048576 := by
    simp only [List.mem_cons, List.not_mem_nil, or_false] at hs
    rcases hs with rfl | rfl | rfl
    · decide
    · decide
    · exact hfn
  have ht1 : (en eM M).take M.length = en eM M := en_take eM M
  have l1 : (M.length + 1) * 24 ≤ 140737488355328 := by omega
  have l2 : M.length ≤ 9223372036854775806 := by omega
  simp only [RUX, Nat.reduceAdd, reduceIte, Nat.reduceEqDiff, Nat.reduceLT, Nat.reduceLeDiff, reduceCtorEq, eq_self, FIX, forall_const, endE_n, endE_r, CHT, disj, Nat.reduceBEq, beq_self_eq_true, APT, APX, forall_eq, ALT, ALU, rH, rV, rdC, rdr, e0, e3, eH3, eF1, eN1, eM1, e4, eH4, e5, eR, en_len, ex, gi, gi2, gz, Int.toNat_natCast, eF, eS, eM, uR r48_16.eq_1]
  refine callRc (C1 0) rfl rfl rfl rfl (by simp only [RUX, Nat.reduceAdd, reduceIte, Nat.reduceEqDiff, Nat.reduceLT, Nat.reduceLeDiff, reduceCtorEq, eq_self, FIX, forall_const, endE_n, endE_r, CHT, disj, Nat.reduceBEq, beq_self_eq_true, APT, APX, forall_eq, ALT, ALU, rH, rV, rdC, rdr, s48, eR]) ⟨?_, ?_⟩
  · simp only [RUX, Nat.reduceAdd, reduceIte, Nat.reduceEqDiff, Nat.reduceLT, Nat.reduceLeDiff, reduceCtorEq, eq_self, FIX, forall_const, endE_n, endE_r, CHT, disj, Nat.reduceBEq, beq_self_eq_true, APT, APX, forall_eq, ALT, ALU, rH, rV, rdC, rdr, s48]
  simp only [RUX, Nat.reduceAdd, reduceIte, Nat.reduceEqDiff, Nat.reduceLT, Nat.reduceLeDiff, reduceCtorEq, eq_self, FIX, forall_const, endE_n, endE_r, CHT, disj, Nat.reduceBEq, beq_self_eq_true, APT, APX, forall_eq, ALT, ALU, rH, rV, rdC, rdr, e0, e3, eH3, eF1, eN1, eM1, e4, eH4, e5, eR, en_len, ex, gi, gi2, gz, Int.toNat_natCast, eF, eS, eM]
  refine callOf (C2 0) rfl rfl rfl rfl (by decide) (by simp only [RUX, Nat.reduceAdd, reduceIte, Nat.reduceEqDiff, Nat.reduceLT, Nat.reduceLeDiff, reduceCtorEq, eq_self, FIX, forall_const, endE_n, endE_r, CHT, disj, Nat.reduceBEq, beq_self_eq_true, APT, APX, forall_eq, ALT, ALU, rH, rV, rdC, rdr, s48, eR]) ⟨?_, ?_⟩
  · simp only [RUX, Nat.reduceAdd, reduceIte, Nat.reduceEqDiff, Nat.reduceLT, Nat.reduceLeDiff, reduceCtorEq, eq_self, FIX, forall_const, endE_n, endE_r, CHT, disj, Nat.reduceBEq, beq_self_eq_true, APT, APX, forall_eq, ALT, ALU, rH, rV, rdC, rdr, s48]
  simp only [RUX, Nat.reduceAdd, reduceIte, Nat.reduceEqDiff, Nat.reduceLT, Nat.reduceLeDiff, reduceCtorEq, eq_self, FIX, forall_const, endE_n, endE_r, CHT, disj, Nat.reduceBEq, beq_self_eq_true, APT, APX, forall_eq, ALT, ALU, rH, rV, rdC, rdr, e0, e3, eH3, eF1, eN1, eM1, e4, eH4, e5, eR, en_len, ex, gi, gi2, gz, Int.toNat_natCast, eF, eS, eM, ht1, l1, l2]
  refine sp74 (M := M ++ [⟨j == 0, s⟩]) (q := q2) ⟨u, v1, v2, c + 16, u4, e0, e3, (by rw [List.length_append]; rfl), eF1, eN1, (by rw [en_snoc]; rfl), e4, eH4, e5, rfl⟩ ⟨by omega, by omega⟩ ⟨⟨hs1, hs2, by simp only [List.length_append, List.length_singleton]; have := hsM; omega⟩, hfd.f, hfd.n, fun m hm => ?_⟩
  rcases List.mem_append.1 hm with h | h
  · exact hfd.m m h
  · rw [List.mem_singleton.1 h]; exact hsz
theorem sp4 : wpa Try.prog X (.reg r48_18) (QN48 X bs p) ⟨t, H, c⟩ := by
  obtain ⟨u, v1, v2, v3, u4, e0, e3, eH3, eF1, eN1, eM1, e4, eH4, e5, eR⟩ := hst
  simp only [T.c, T.i] at e0 e3 e4 e5
  have ex := en_at eF hx
  have gi := (List.getElem?_eq_some_iff.1 hx).1
  have gi2 : (i : Int) < F.length := by omega
  have gz : (0 : Int) ≤ i := by omega
  have hs1 : F.length ≤ 1048576 := hfd.s.f
  have hs2 : N.length ≤ 1048576 := hfd.s.n
  have hs3 : M.length ≤ 1048576 := hfd.s.m
  have hfn := (hfd.f f (List.mem_of_getElem? hx)).1
  have _u := And.intro hb (And.intro hd2 (And.intro hsN hsM))
  have w1 : IntKind.i64.wrap ((i : Int) + 1) = ((i + 1 : Nat) : Int) := wrap64 (x := (i : Int) + 1) ⟨by omega, by omega⟩
  have y0 : (0 : Int) ≤ 0 := Int.le_refl _
  have y1 : (i : Int) ≤ F.length := by omega
  have y2 : (0 : Int) ≤ ((i + 1 : Nat) : Int) := by omega
  have y3 : ((i + 1 : Nat) : Int) ≤ (F.length : Int) := by omega
  have y4 : (F.length : Int) ≤ F.length := Int.le_refl _
  have k0 : i + 1 + (F.length - (i + 1)) ≤ F.length := by omega
  have k1 : i ≤ F.length := by omega
  have k2 : (i + (F.length - (i + 1))) * 40 ≤ 140737488355328 := by omega
  have k3 : i + (F.length - (i + 1)) ≤ 9223372036854775807 := by omega
  have hys : List.take (F.length - (i + 1)) (List.drop (i + 1) (en eF F)) = en eF (F.drop (i + 1)) := by rw [en_drop]; exact List.take_of_length_le (by rw [en_len, List.length_drop]; exact Nat.le_refl _)
  simp only [RUX, Nat.reduceAdd, reduceIte, Nat.reduceEqDiff, Nat.reduceLT, Nat.reduceLeDiff, reduceCtorEq, eq_self, FIX, forall_const, endE_n, endE_r, CHT, disj, Nat.reduceBEq, beq_self_eq_true, APT, APX, forall_eq, ALT, ALU, rH, rV, rdC, rdr, e0, e3, eH3, eF1, eN1, eM1, e4, eH4, e5, eR, en_len, ex, gi, gi2, gz, Int.toNat_natCast, eF, eS, eM, uR r48_18.eq_1, w1, lohi, y0, y1, y2, y3, y4, Int.toNat_zero, Nat.le_refl, k0, k1, k2, k3, hys, List.length_drop, en_cut]
  have hl : (F.take i ++ F.drop (i + 1)).length = i + (F.length - (i + 1)) := by rw [List.length_append, List.length_take, List.length_drop]; omega
  refine sp74 (F := F.take i ++ F.drop (i + 1)) (q := q) ⟨u, c + 9, v2, v3, u4, e0, e3, (by rw [hl]; rfl), (by rw [en_app]; rfl), eN1, eM1, e4, eH4, e5, eR⟩ ⟨by omega, by omega⟩ ⟨⟨by simp only [hl]; omega, hs2, hs3⟩, fun g hg => ?_, hfd.n, hfd.m⟩
  rcases List.mem_append.1 hg with h | h
  · exact hfd.f g (List.mem_of_mem_take h)
  · exact hfd.f g (List.mem_of_mem_drop h)
theorem sp5 : wpa Try.prog X (.reg r48_20) (QN48 X bs p) ⟨t, H, c⟩ := by
  obtain ⟨u, v1, v2, v3, u4, e0, e3, eH3, eF1, eN1, eM1, e4, eH4, e5, eR⟩ := hst
  simp only [T.c, T.i] at e0 e3 e4 e5
  have ex := en_at eF hx
  have gi := (List.getElem?_eq_some_iff.1 hx).1
  have gi2 : (i : Int) < F.length := by omega
  have gz : (0 : Int) ≤ i := by omega
  have hs1 : F.length ≤ 1048576 := hfd.s.f
  have hs2 : N.length ≤ 1048576 := hfd.s.n
  have hs3 : M.length ≤ 1048576 := hfd.s.m
  have hfn := (hfd.f f (List.mem_of_getElem? hx)).1
  have _u := And.intro hb (And.intro hd2 (And.intro hsN hsM))
  obtain ⟨j, j0, j1, C1⟩ := pick_ok bs hb q 2 (by omega) (by omega)
  have w1 : IntKind.i64.wrap (20000 + j) = ((20000 + j).toNat : Int) := (wrap64 ⟨by omega, by omega⟩).trans (by omega)
  obtain ⟨s, hs, C2⟩ := many_ok ⟨#[120]⟩ (20000 + j).toNat (by omega) (by decide)
  have hz : (⟨#[120]⟩ : ByteArray).size = 1 := rfl
  simp only [RUX, Nat.reduceAdd, reduceIte, Nat.reduceEqDiff, Nat.reduceLT, Nat.reduceLeDiff, reduceCtorEq, eq_self, FIX, forall_const, endE_n, endE_r, CHT, disj, Nat.reduceBEq, beq_self_eq_true, APT, APX, forall_eq, ALT, ALU, rH, rV, rdC, rdr, e0, e3, eH3, eF1, eN1, eM1, e4, eH4, e5, eR, en_len, ex, gi, gi2, gz, Int.toNat_natCast, eF, eS, eM, uR r48_20.eq_1]
  refine callRc (C1 0) rfl rfl rfl rfl (by simp only [RUX, Nat.reduceAdd, reduceIte, Nat.reduceEqDiff, Nat.reduceLT, Nat.reduceLeDiff, reduceCtorEq, eq_self, FIX, forall_const, endE_n, endE_r, CHT, disj, Nat.reduceBEq, beq_self_eq_true, APT, APX, forall_eq, ALT, ALU, rH, rV, rdC, rdr, s48, eR]) ⟨?_, ?_⟩
  · simp only [RUX, Nat.reduceAdd, reduceIte, Nat.reduceEqDiff, Nat.reduceLT, Nat.reduceLeDiff, reduceCtorEq, eq_self, FIX, forall_const, endE_n, endE_r, CHT, disj, Nat.reduceBEq, beq_self_eq_true, APT, APX, forall_eq, ALT, ALU, rH, rV, rdC, rdr, s48]
  simp only [RUX, Nat.reduceAdd, reduceIte, Nat.reduceEqDiff, Nat.reduceLT, Nat.reduceLeDiff, reduceCtorEq, eq_self, FIX, forall_const, endE_n, endE_r, CHT, disj, Nat.reduceBEq, beq_self_eq_true, APT, APX, forall_eq, ALT, ALU, rH, rV, rdC, rdr, e0, e3, eH3, eF1, eN1, eM1, e4, eH4, e5, eR, en_len, ex, gi, gi2, gz, Int.toNat_natCast, eF, eS, eM, w1]
  refine callC C2 rfl rfl rfl rfl ?_
  simp only [RUX, Nat.reduceAdd, reduceIte, Nat.reduceEqDiff, Nat.reduceLT, Nat.reduceLeDiff, reduceCtorEq, eq_self, FIX, forall_const, endE_n, endE_r, CHT, disj, Nat.reduceBEq, beq_self_eq_true, APT, APX, forall_eq, ALT, ALU, rH, rV, rdC, rdr, e0, e3, eH3, eF1, eN1, eM1, e4, eH4, e5, eR, en_len, ex, gi, gi2, gz, Int.toNat_natCast, eF, eS, eM]
  refine sp74 (F := F.set i ⟨f.name, s, f.kept⟩) (q := q + 1) ⟨u, v1, v2, v3, u4, e0, e3, (by rw [List.length_set]; exact eH3), (by rw [← en_set]; rfl), eN1, eM1, e4, eH4, e5, rfl⟩ ⟨by omega, by omega⟩ (fine_set hfd i hfn (by simp only; rw [hs, hz]; omega))
theorem sp6 : wpa Try.prog X (.reg r48_22) (QN48 X bs p) ⟨t, H, c⟩ := by
  obtain ⟨u, v1, v2, v3, u4, e0, e3, eH3, eF1, eN1, eM1, e4, eH4, e5, eR⟩ := hst
  simp only [T.c, T.i] at e0 e3 e4 e5
  have ex := en_at eF hx
  have gi := (List.getElem?_eq_some_iff.1 hx).1
  have gi2 : (i : Int) < F.length := by omega
  have gz : (0 : Int) ≤ i := by omega
  have hs1 : F.length ≤ 1048576 := hfd.s.f
  have hs2 : N.length ≤ 1048576 := hfd.s.n
  have hs3 : M.length ≤ 1048576 := hfd.s.m
  have hfn := (hfd.f f (List.mem_of_getElem? hx)).1
  have _u := And.intro hb (And.intro hd2 (And.intro hsN hsM))
  obtain ⟨q2, s, a0, a1, hs, C1⟩ := of_ok bs hb q (by omega) [⟨#[120]⟩, ⟨#[0, 1, 0, 0, 9, 97]⟩, ⟨#[111, 112, 101, 110, 32, 49, 32, 49, 10, 101, 110, 100, 10]⟩] (by decide)
  have hsz : s.size ≤ 100 := by
    simp only [List.mem_cons, List.not_mem_nil, or_false] at hs
    rcases hs with rfl | rfl | rfl <;> decide
  have l1 : f.data.size + s.size ≤ 9223372036854775807 := by omega
  simp only [RUX, Nat.reduceAdd, reduceIte, Nat.reduceEqDiff, Nat.reduceLT, Nat.reduceLeDiff, reduceCtorEq, eq_self, FIX, forall_const, endE_n, endE_r, CHT, disj, Nat.reduceBEq, beq_self_eq_true, APT, APX, forall_eq, ALT, ALU, rH, rV, rdC, rdr, e0, e3, eH3, eF1, eN1, eM1, e4, eH4, e5, eR, en_len, ex, gi, gi2, gz, Int.toNat_natCast, eF, eS, eM, uR r48_22.eq_1]
  refine callOf (C1 0) rfl rfl rfl rfl (by decide) (by simp only [RUX, Nat.reduceAdd, reduceIte, Nat.reduceEqDiff, Nat.reduceLT, Nat.reduceLeDiff, reduceCtorEq, eq_self, FIX, forall_const, endE_n, endE_r, CHT, disj, Nat.reduceBEq, beq_self_eq_true, APT, APX, forall_eq, ALT, ALU, rH, rV, rdC, rdr, s48, eR]) ⟨?_, ?_⟩
  · simp only [RUX, Nat.reduceAdd, reduceIte, Nat.reduceEqDiff, Nat.reduceLT, Nat.reduceLeDiff, reduceCtorEq, eq_self, FIX, forall_const, endE_n, endE_r, CHT, disj, Nat.reduceBEq, beq_self_eq_true, APT, APX, forall_eq, ALT, ALU, rH, rV, rdC, rdr, s48]
  simp only [RUX, Nat.reduceAdd, reduceIte, Nat.reduceEqDiff, Nat.reduceLT, Nat.reduceLeDiff, reduceCtorEq, eq_self, FIX, forall_const, endE_n, endE_r, CHT, disj, Nat.reduceBEq, beq_self_eq_true, APT, APX, forall_eq, ALT, ALU, rH, rV, rdC, rdr, e0, e3, eH3, eF1, eN1, eM1, e4, eH4, e5, eR, en_len, ex, gi, gi2, gz, Int.toNat_natCast, eF, eS, eM, sStr, l1]
  refine sp74 (F := F.set i ⟨f.name, f.data ++ s, f.kept⟩) (q := q2) ⟨u, v1, v2, v3, u4, e0, e3, (by rw [List.length_set]; exact eH3), (by rw [← en_set]; rfl), eN1, eM1, e4, eH4, e5, rfl⟩ ⟨by omega, by omega⟩ (fine_set hfd i hfn (by simp only [ByteArray.size_append]; omega))
end
end Go.V
set_option linter.unusedSimpArgs false
namespace Go.V
open Go.Proofs
def URy_1 := Bx.mk <|
  aN (uA c9.eq_1) <| aN (uR r9_0.eq_1) <| aN (uA c9_5.eq_1) <| aN (uR r9_1.eq_1) <| aN (uA c9_4.eq_1) <| aN (uA c9_3.eq_1) <| aN (uR r9_2.eq_1) <| aN (uR r9_6.eq_1) <| aN (uR r9_7.eq_1) <| aN (uR r9_8.eq_1) <| s9.eq_1
theorem doC_ok (d : Dk) (w : DW) (hd : fineDk d) (hw : fineDW w) : ∃ r, DoR d w r ∧ ACallsF Try.prog 9 [tDk d, tDW w] [] (tDkI r) := by
  obtain ⟨b, hb, hC⟩ := okI_ok d hd
  by_cases hD : DOk d
  rotate_left
  · have hbf : b = false := by cases hq : b with | false => rfl | true => exact absurd (hb.1 hq) hD
    rw [hbf] at hC
    refine ⟨_, .inr ⟨hD, rfl⟩, ACallsF.intro ok9 follows fun X c0 => ?_⟩
    simp only [RUX, Nat.reduceAdd, reduceIte, Nat.reduceEqDiff, Nat.reduceLT, Nat.reduceLeDiff, reduceCtorEq, eq_self, FIX, forall_const, endE_n, endE_r, CHT, disj, Nat.reduceBEq, beq_self_eq_true, APT, APX, forall_eq, ALT, URy_1.d]
    refine callC hC rfl rfl rfl rfl ?_
    simp only [RUX, Nat.reduceAdd, reduceIte, Nat.reduceEqDiff, Nat.reduceLT, Nat.reduceLeDiff, reduceCtorEq, eq_self, FIX, forall_const, endE_n, endE_r, CHT, disj, Nat.reduceBEq, beq_self_eq_true, APT, APX, forall_eq, ALT, URy_1.d]
  rw [hb.2 hD] at hC
  obtain ⟨hsm, hlen⟩ := small_do d w hD
  refine ⟨_, .inl ⟨hD, rfl⟩, ?_⟩
  have hcl := cloneDk_ok d hd.s 1001 1002 1003
  have hcl2 := cloneDk_ok (doS d w).1 hsm 2101 2102 2103
  refine ACallsF.intro ok9 follows fun X c0 => ?_
  simp only [RUX, Nat.reduceAdd, reduceIte, Nat.reduceEqDiff, Nat.reduceLT, Nat.reduceLeDiff, reduceCtorEq, eq_self, FIX, forall_const, endE_n, endE_r, CHT, disj, Nat.reduceBEq, beq_self_eq_true, APT, APX, forall_eq, ALT, URy_1.d]
  refine callC hC rfl rfl rfl rfl ?_
  simp only [RUX, Nat.reduceAdd, reduceIte, Nat.reduceEqDiff, Nat.reduceLT, Nat.reduceLeDiff, reduceCtorEq, eq_self, FIX, forall_const, endE_n, endE_r, CHT, disj, Nat.reduceBEq, beq_self_eq_true, APT, APX, forall_eq, ALT, URy_1.d]
  refine callDk (ws := []) (ns := []) hcl rfl rfl rfl (by decide) ⟨rfl, ?_⟩
  simp only [RUX, Nat.reduceAdd, reduceIte, Nat.reduceEqDiff, Nat.reduceLT, Nat.reduceLeDiff, reduceCtorEq, eq_self, FIX, forall_const, endE_n, endE_r, CHT, disj, Nat.reduceBEq, beq_self_eq_true, APT, APX, forall_eq, ALT, URy_1.d]
  by_cases k5 : w.kind = 5
  · have hdo : doS d w = (keepD d (aft d.names d.moves), 0) := by
      have h51 : ¬ (5 : Int) = 1 := by omega
      simp only [doS, k5, h51, if_true, if_false]
    rw [hdo] at hcl2 ⊢
    have hal := aft_len d.moves d.names
    have hle : (aft d.names d.moves).length ≤ (aft d.names d.moves).length + (runI d.names d.moves).2.length := by omega
    have htk : List.take (aft d.names d.moves).length (en eF (List.map (fileOf d.files) (aft d.names d.moves))) = en eF (List.map (fileOf d.files) (aft d.names d.moves)) := List.take_of_length_le (by rw [en_len, List.length_map]; exact Nat.le_refl _)
    refine callDd (m0 := 6) (m1 := 1001) (m2 := 1002) (m3 := 1003) (m4 := 1010) (m5 := 1011) (writeD_ok d w hd hw hD k5 6 1001 1002 1003 1010 1011 _ _ _ _) rfl rfl rfl rfl (by decide) rfl rfl rfl rfl ⟨rfl, ?_⟩
    simp only [RUX, Nat.reduceAdd, reduceIte, Nat.reduceEqDiff, Nat.reduceLT, Nat.reduceLeDiff, reduceCtorEq, eq_self, FIX, forall_const, endE_n, endE_r, CHT, disj, Nat.reduceBEq, beq_self_eq_true, APT, APX, forall_eq, ALT, URy_1.d]
    refine callDk (ws := [(1010, .arr (c0 + 4 + 3 + 4 + 1) false 3 58 (en eF (keepD d (aft d.names d.moves)).files)), (1011, .arr (c0 + 4 + 3 + 4 + 1) false 1 9 (en eS (aft d.names d.moves ++ (runI d.names d.moves).2)))]) (ns := [1010, 1011]) hcl2 rfl ?_ rfl (by decide) ⟨?_, ?_⟩
    · simp only [RUX, Nat.reduceAdd, reduceIte, Nat.reduceEqDiff, Nat.reduceLT, Nat.reduceLeDiff, reduceCtorEq, eq_self, FIX, forall_const, endE_n, endE_r, CHT, disj, Nat.reduceBEq, beq_self_eq_true, APT, APX, forall_eq, ALT, URy_1.d, lendTs, lendT, keepD, en_take2, htk, hle, List.length_map]
      rfl
    · simp only [RUX, Nat.reduceAdd, reduceIte, Nat.reduceEqDiff, Nat.reduceLT, Nat.reduceLeDiff, reduceCtorEq, eq_self, FIX, forall_const, endE_n, endE_r, CHT, disj, Nat.reduceBEq, beq_self_eq_true, APT, APX, forall_eq, ALT, URy_1.d]
    simp only [RUX, Nat.reduceAdd, reduceIte, Nat.reduceEqDiff, Nat.reduceLT, Nat.reduceLeDiff, reduceCtorEq, eq_self, FIX, forall_const, endE_n, endE_r, CHT, disj, Nat.reduceBEq, beq_self_eq_true, APT, APX, forall_eq, ALT, URy_1.d, false_implies, and_self, imp_self]
  · refine callDw (m0 := 6) (m1 := 1001) (m2 := 1002) (m3 := 1003) (write_ok d w hd hw hD k5 6 1001 1002 1003 _ _ _ _) rfl rfl rfl rfl (by decide) rfl rfl rfl rfl ⟨rfl, ?_⟩
    simp only [RUX, Nat.reduceAdd, reduceIte, Nat.reduceEqDiff, Nat.reduceLT, Nat.reduceLeDiff, reduceCtorEq, eq_self, FIX, forall_const, endE_n, endE_r, CHT, disj, Nat.reduceBEq, beq_self_eq_true, APT, APX, forall_eq, ALT, URy_1.d]
    refine callDk (ws := dkL 1001 (c0 + 4 + 3 + 4 + 1) 1002 (c0 + 4 + 3 + 4 + 1) 1003 (c0 + 4 + 3 + 4 + 1) (doS d w).1) (ns := [1001, 1002, 1003]) hcl2 rfl ?_ rfl (by decide) ⟨?_, ?_⟩
    · simp only [RUX, Nat.reduceAdd, reduceIte, Nat.reduceEqDiff, Nat.reduceLT, Nat.reduceLeDiff, reduceCtorEq, eq_self, FIX, forall_const, endE_n, endE_r, CHT, disj, Nat.reduceBEq, beq_self_eq_true, APT, APX, forall_eq, ALT, URy_1.d, lendTs, lendT, dkL]
    · simp only [RUX, Nat.reduceAdd, reduceIte, Nat.reduceEqDiff, Nat.reduceLT, Nat.reduceLeDiff, reduceCtorEq, eq_self, FIX, forall_const, endE_n, endE_r, CHT, disj, Nat.reduceBEq, beq_self_eq_true, APT, APX, forall_eq, ALT, URy_1.d]
    simp only [RUX, Nat.reduceAdd, reduceIte, Nat.reduceEqDiff, Nat.reduceLT, Nat.reduceLeDiff, reduceCtorEq, eq_self, FIX, forall_const, endE_n, endE_r, CHT, disj, Nat.reduceBEq, beq_self_eq_true, APT, APX, forall_eq, ALT, URy_1.d, false_implies, and_self, imp_self]

def URy_2 := Bx.mk <|
  aN (uA c44.eq_1) <| aN (uR r44_0.eq_1) <| aN (uR r44_1.eq_1) <| s44.eq_1
theorem thereC_ok (d : Dk) (hd : fineDk d) (hD : DOk d) : ACallsF Try.prog 44 [tDk d] [] (tL (en eS (aft d.names d.moves))) := by
  have hA := namesI_ok d hd.s d.moves.length (Nat.le_refl _) 1009
  have hN := hD.nmI d.moves.length (Nat.le_refl _)
  rw [List.take_length] at hA hN
  rw [hN] at hA
  refine ACallsF.intro ok44 follows fun X c0 => ?_
  simp only [RUX, Nat.reduceAdd, reduceIte, Nat.reduceEqDiff, Nat.reduceLT, Nat.reduceLeDiff, reduceCtorEq, eq_self, FIX, forall_const, endE_n, endE_r, CHT, disj, Nat.reduceBEq, beq_self_eq_true, APT, APX, forall_eq, ALT, ALU, URy_2.d]
  refine callA1 (m := 1009) (ws := []) (ns := []) hA rfl rfl rfl (en_flat eS eS_flat _) ⟨rfl, ?_⟩
  simp only [RUX, Nat.reduceAdd, reduceIte, Nat.reduceEqDiff, Nat.reduceLT, Nat.reduceLeDiff, reduceCtorEq, eq_self, FIX, forall_const, endE_n, endE_r, CHT, disj, Nat.reduceBEq, beq_self_eq_true, APT, APX, forall_eq, ALT, ALU, URy_2.d, en_take2, imp_self, Nat.le_add_right]
/- (loop.example/teagle/impl.Disk).look -/
def r35_0 : List AOper := [ao 0 2 (.box 27 (.t 0)),
  ao 1 4 (.mv (.k (.s (.string ⟨#[]⟩)))),
  ao 2 5 (.mv (.k (.b false)))]
def r35_1 : List AOper := [ao 0 6 (.ld 3 true (.t 2)),
  ao 1 7 (.call (.k (.c (.fn 44 []))) [(.t 6)]),
  ao 2 8 (.mv (.t 1)),
  ao 3 9 (.call (.k (.c (.fn 37 []))) [(.t 7), (.t 8)]),
  ao 4 10 (.un .not (.t 9))]
def r35_2 : List AOper := [ao 0 4 (.mv (.k (.s (.string ⟨#[]⟩)))),
  ao 1 5 (.mv (.k (.b false)))]
def c35_3 : ACode := .seq (.reg r35_2) .ret
def c35_4 : ACode := .cond (.t 10) c35_3 .skip
def c35_5 : ACode := .seq (.reg r35_1) c35_4
def r35_6 : List AOper := [ao 0 11 (.fa 0 (.t 2)),
  ao 1 12 (.ld 1 false (.t 11)),
  au 2 13 [0, 1] (.ld 3 true (.t 2)),
  au 3 14 (ru 3) (.mv (.t 1)),
  au 4 15 [0, 1] (.call (.k (.c (.fn 40 []))) [(.t 13), (.t 14)]),
  ao 5 16 (.ia 3 (.t 12) (.t 15)),
  ao 6 17 (.fa 1 (.t 16)),
  ao 7 18 (.ld 1 false (.t 17)),
  ao 8 4 (.mv (.t 18)),
  ao 9 5 (.mv (.k (.b true)))]
def c35 : ACode := .seq (.reg r35_0) (.seq c35_5 (.seq (.reg r35_6) .ret))
def s35 : List ARes := [.tmp 4, .tmp 5]
theorem ok35 : okF Try.prog 35 19 c35 s35 := ⟨Try.f35, Try.func35, Try.ntmps35, by kernel_rfl, by kernel_rfl, by kernel_rfl⟩
/- loop.example/teagle/impl.DiskLook -/
def r11_0 : List AOper := [ao 0 2 (.box 27 (.t 0)),
  ao 1 4 (.mv (.k (.s (.string ⟨#[]⟩)))),
  ao 2 5 (.mv (.k (.b false)))]
def r11_1 : List AOper := [ao 0 6 (.ld 3 true (.t 2)),
  ao 1 7 (.call (.k (.c (.fn 12 []))) [(.t 6)]),
  ao 2 8 (.un .not (.t 7))]
def r11_2 : List AOper := [ao 0 4 (.mv (.k (.s (.string ⟨#[]⟩)))),
  ao 1 5 (.mv (.k (.b false)))]
def c11_3 : ACode := .seq (.reg r11_2) .ret
def c11_4 : ACode := .cond (.t 8) c11_3 .skip
def c11_5 : ACode := .seq (.reg r11_1) c11_4
def r11_6 : List AOper := [ao 0 9 (.ld 3 true (.t 2)),
  ao 1 10 (.mv (.t 1)),
  ao 2 11 (.call (.k (.c (.fn 35 []))) [(.t 9), (.t 10)]),
  ao 3 12 (.ext 0 (.t 11)),
  ao 4 13 (.ext 1 (.t 11)),
  ao 5 4 (.mv (.t 12)),
  ao 6 5 (.mv (.t 13))]
def c11 : ACode := .seq (.reg r11_0) (.seq c11_5 (.seq (.reg r11_6) .ret))
def s11 : List ARes := [.tmp 4, .tmp 5]
theorem ok11 : okF Try.prog 11 14 c11 s11 := ⟨Try.f11, Try.func11, Try.ntmps11, by kernel_rfl, by kernel_rfl, by kernel_rfl⟩
def URy_3 := Bx.mk <|
  aN (uA c11.eq_1) <| aN (uR r11_0.eq_1) <| aN (uA c11_5.eq_1) <| aN (uR r11_1.eq_1) <| aN (uA c11_4.eq_1) <| aN (uA c11_3.eq_1) <| aN (uR r11_2.eq_1) <| aN (uR r11_6.eq_1) <| s11.eq_1
def URy_4 := Bx.mk <|
  aN (uA c35.eq_1) <| aN (uR r35_0.eq_1) <| aN (uA c35_5.eq_1) <| aN (uR r35_1.eq_1) <| aN (uA c35_4.eq_1) <| aN (uA c35_3.eq_1) <| aN (uR r35_2.eq_1) <| aN (uR r35_6.eq_1) <| s35.eq_1
theorem lookI_ok (d : Dk) (hd : fineDk d) (nm : ByteArray) : ∃ x, LkR d nm x ∧ ACallsF Try.prog 11 [tDk d, tS nm] [] (tSB x) := by
  obtain ⟨b, hb, hC⟩ := okI_ok d hd
  by_cases hD : DOk d
  rotate_left
  · have hbf : b = false := by cases hq : b with | false => rfl | true => exact absurd (hb.1 hq) hD
    rw [hbf] at hC
    refine ⟨(⟨#[]⟩, false), .inr ⟨fun h => hD h.1, rfl⟩, ACallsF.intro ok11 follows fun X c0 => ?_⟩
    simp only [RUX, Nat.reduceAdd, reduceIte, Nat.reduceEqDiff, Nat.reduceLT, Nat.reduceLeDiff, reduceCtorEq, eq_self, FIX, forall_const, endE_n, endE_r, CHT, disj, Nat.reduceBEq, beq_self_eq_true, APT, APX, forall_eq, ALT, ALU, URy_3.d]
    refine callC hC rfl rfl rfl rfl ?_
    simp only [RUX, Nat.reduceAdd, reduceIte, Nat.reduceEqDiff, Nat.reduceLT, Nat.reduceLeDiff, reduceCtorEq, eq_self, FIX, forall_const, endE_n, endE_r, CHT, disj, Nat.reduceBEq, beq_self_eq_true, APT, APX, forall_eq, ALT, ALU, URy_3.d]
  rw [hb.2 hD] at hC
  have hT := thereC_ok d hd hD
  have hl := aft_len d.moves d.names
  have hs1 := hd.s.n
  have hs2 := hd.s.m
  have hs3 := hd.s.f
  have hc := contains_ok (aft d.names d.moves) nm (by omega)
  have h35 : ∃ x, LkR d nm x ∧ ACallsF Try.prog 35 [tDk d, tS nm] [] (tSB x) := by
    by_cases hm : nm ∈ aft d.names d.moves
    · rw [has_true.2 hm] at hc
      have h3 := fileAt_ok d nm (by omega)
      obtain ⟨i, k1, k2, k3⟩ := hD.find (DOk.aft_made (n := d.moves.length) (by rw [List.take_length]; exact hm))
      rw [k1] at h3
      have ex := en_at eF k2
      have gz : (0 : Int) ≤ i := by omega
      refine ⟨_, .inl ⟨⟨hD, hm⟩, rfl⟩, ACallsF.intro ok35 follows fun X c0 => ?_⟩
      simp only [RUX, Nat.reduceAdd, reduceIte, Nat.reduceEqDiff, Nat.reduceLT, Nat.reduceLeDiff, reduceCtorEq, eq_self, FIX, forall_const, endE_n, endE_r, CHT, disj, Nat.reduceBEq, beq_self_eq_true, APT, APX, forall_eq, ALT, ALU, URy_4.d]
      refine callC hT rfl rfl rfl rfl ?_
      simp only [RUX, Nat.reduceAdd, reduceIte, Nat.reduceEqDiff, Nat.reduceLT, Nat.reduceLeDiff, reduceCtorEq, eq_self, FIX, forall_const, endE_n, endE_r, CHT, disj, Nat.reduceBEq, beq_self_eq_true, APT, APX, forall_eq, ALT, ALU, URy_4.d]
      refine callC hc rfl rfl rfl rfl ?_
      simp only [RUX, Nat.reduceAdd, reduceIte, Nat.reduceEqDiff, Nat.reduceLT, Nat.reduceLeDiff, reduceCtorEq, eq_self, FIX, forall_const, endE_n, endE_r, CHT, disj, Nat.reduceBEq, beq_self_eq_true, APT, APX, forall_eq, ALT, ALU, URy_4.d]
      refine callC h3 rfl rfl rfl rfl ?_
      simp only [RUX, Nat.reduceAdd, reduceIte, Nat.reduceEqDiff, Nat.reduceLT, Nat.reduceLeDiff, reduceCtorEq, eq_self, FIX, forall_const, endE_n, endE_r, CHT, disj, Nat.reduceBEq, beq_self_eq_true, APT, APX, forall_eq, ALT, ALU, URy_4.d, ex, gz, Int.toNat_natCast, eF]
    · rw [has_false.2 hm] at hc
      refine ⟨_, .inr ⟨fun h => hm h.2, rfl⟩, ACallsF.intro ok35 follows fun X c0 => ?_⟩
      simp only [RUX, Nat.reduceAdd, reduceIte, Nat.reduceEqDiff, Nat.reduceLT, Nat.reduceLeDiff, reduceCtorEq, eq_self, FIX, forall_const, endE_n, endE_r, CHT, disj, Nat.reduceBEq, beq_self_eq_true, APT, APX, forall_eq, ALT, ALU, URy_4.d]
      refine callC hT rfl rfl rfl rfl ?_
      simp only [RUX, Nat.reduceAdd, reduceIte, Nat.reduceEqDiff, Nat.reduceLT, Nat.reduceLeDiff, reduceCtorEq, eq_self, FIX, forall_const, endE_n, endE_r, CHT, disj, Nat.reduceBEq, beq_self_eq_true, APT, APX, forall_eq, ALT, ALU, URy_4.d]
      refine callC hc rfl rfl rfl rfl ?_
      simp only [RUX, Nat.reduceAdd, reduceIte, Nat.reduceEqDiff, Nat.reduceLT, Nat.reduceLeDiff, reduceCtorEq, eq_self, FIX, forall_const, endE_n, endE_r, CHT, disj, Nat.reduceBEq, beq_self_eq_true, APT, APX, forall_eq, ALT, ALU, URy_4.d]
  obtain ⟨x, hx, hC2⟩ := h35
  refine ⟨x, hx, ACallsF.intro ok11 follows fun X c0 => ?_⟩
  simp only [RUX, Nat.reduceAdd, reduceIte, Nat.reduceEqDiff, Nat.reduceLT, Nat.reduceLeDiff, reduceCtorEq, eq_self, FIX, forall_const, endE_n, endE_r, CHT, disj, Nat.reduceBEq, beq_self_eq_true, APT, APX, forall_eq, ALT, ALU, URy_3.d]
  refine callC hC rfl rfl rfl rfl ?_
  simp only [RUX, Nat.reduceAdd, reduceIte, Nat.reduceEqDiff, Nat.reduceLT, Nat.reduceLeDiff, reduceCtorEq, eq_self, FIX, forall_const, endE_n, endE_r, CHT, disj, Nat.reduceBEq, beq_self_eq_true, APT, APX, forall_eq, ALT, ALU, URy_3.d]
  refine callC hC2 rfl rfl rfl rfl ?_
  simp only [RUX, Nat.reduceAdd, reduceIte, Nat.reduceEqDiff, Nat.reduceLT, Nat.reduceLeDiff, reduceCtorEq, eq_self, FIX, forall_const, endE_n, endE_r, CHT, disj, Nat.reduceBEq, beq_self_eq_true, APT, APX, forall_eq, ALT, ALU, URy_3.d]
/- loop.example/teagle/laws.loTexts -/
def r34_0 : List AOper := [ao 0 4 (.mv (.k (.b false)))]
def r34_1 : List AOper := [ao 0 6 (.mv (.t 0)),
  ao 1 7 (.len (.t 6)),
  ao 2 8 (.mv (.t 1)),
  ao 3 9 (.len (.t 8)),
  ao 4 10 (.bin .neq (.t 7) (.t 9))]
def r34_2 : List AOper := [ao 0 4 (.mv (.k (.b false)))]
def c34_3 : ACode := .seq (.reg r34_2) .ret
def c34_4 : ACode := .cond (.t 10) c34_3 .skip
def c34_5 : ACode := .seq (.reg r34_1) c34_4
def r34_6 : List AOper := [ao 0 5 (.mv (.k (.i 0)))]
def r34_7 : List AOper := [ao 0 11 (.mv (.t 5)),
  ao 1 12 (.mv (.t 0)),
  ao 2 13 (.len (.t 12)),
  ao 3 14 (.bin .lss (.t 11) (.t 13))]
def c34_8 : ACode := .cond (.t 14) .skip (.exit 0)
def c34_9 : ACode := .seq (.reg r34_7) c34_8
def r34_10 : List AOper := [ao 0 17 (.mv (.t 0)),
  au 1 18 [0] (.mv (.t 5)),
  ao 2 19 (.ia 1 (.t 17) (.t 18)),
  ao 3 20 (.ld 1 false (.t 19)),
  au 4 21 (ru 4) (.mv (.t 1)),
  au 5 22 (ru 5) (.mv (.t 5)),
  au 6 23 (ru 4) (.ia 1 (.t 21) (.t 22)),
  au 7 24 (ru 4) (.ld 1 false (.t 23)),
  ao 8 25 (.bin .neq (.t 20) (.t 24))]
def r34_11 : List AOper := [ao 0 4 (.mv (.k (.b false)))]
def c34_12 : ACode := .seq (.reg r34_11) .ret
def c34_13 : ACode := .cond (.t 25) c34_12 .skip
def c34_14 : ACode := .seq (.reg r34_10) c34_13
def c34_15 : ACode := .block 1 c34_14
def r34_16 : List AOper := [ao 0 15 (.mv (.t 5)),
  ao 1 16 (.bin .add (.t 15) (.k (.i 1))),
  ao 2 5 (.mv (.t 16))]
def c34_17 : ACode := .seq c34_9 (.seq c34_15 (.reg r34_16))
def c34_18 : ACode := .loop c34_17
def c34_19 : ACode := .block 0 c34_18
def c34_20 : ACode := .seq (.reg r34_6) c34_19
def r34_21 : List AOper := [ao 0 4 (.mv (.k (.b true)))]
def c34 : ACode := .seq (.reg r34_0) (.seq c34_5 (.seq c34_20 (.seq (.reg r34_21) .ret)))
def s34 : List ARes := [.tmp 4]
theorem ok34 : okF Try.prog 34 26 c34 s34 := ⟨Try.f34, Try.func34, Try.ntmps34, by kernel_rfl, by kernel_rfl, by kernel_rfl⟩
theorem ne0 (x : Int) : (x != x) = false := by simp
def inv34 (ns : List ByteArray) (i : Nat) (σ : St) : Prop := σ.t 0 = tL (en eS ns) ∧ σ.t 1 = tL (en eS ns) ∧ σ.t 5 = .i i
def URy_5 := Bx.mk <|
  aN (uA c34.eq_1) <| aN (uR r34_0.eq_1) <| aN (uA c34_5.eq_1) <| aN (uR r34_1.eq_1) <| aN (uA c34_4.eq_1) <| aN (uA c34_3.eq_1) <| aN (uR r34_2.eq_1) <| aN (uA c34_20.eq_1) <| aN (uR r34_6.eq_1) <| aN (uA c34_19.eq_1) <| aN (uA c34_18.eq_1) <| aN (uR r34_21.eq_1) <| s34.eq_1
def URy_7 := Bx.mk <|
  aN (uA c34_17.eq_1) <| aN (uA c34_9.eq_1) <| aN (uR r34_7.eq_1) <| aN (uA c34_8.eq_1) <| aN (uA c34_15.eq_1) <| aN (uA c34_14.eq_1) <| aN (uR r34_10.eq_1) <| aN (uA c34_13.eq_1) <| aN (uA c34_12.eq_1) <| aN (uR r34_11.eq_1) <| aN (uR r34_16.eq_1) <| aN (uA c34.eq_1) <| aN (uR r34_0.eq_1) <| aN (uA c34_5.eq_1) <| aN (uR r34_1.eq_1) <| aN (uA c34_4.eq_1) <| aN (uA c34_3.eq_1) <| aN (uR r34_2.eq_1) <| aN (uA c34_20.eq_1) <| aN (uR r34_6.eq_1) <| aN (uA c34_19.eq_1) <| aN (uA c34_18.eq_1) <| aN (uR r34_21.eq_1) <| s34.eq_1
theorem loTexts_ok (ns : List ByteArray) (hl : ns.length ≤ 9000000000000000000) : ACallsF Try.prog 34 [tL (en eS ns), tL (en eS ns)] [] (.b true) := by
  refine ACallsF.intro ok34 follows fun X c0 => ?_
  simp only [RUX, Nat.reduceAdd, reduceIte, Nat.reduceEqDiff, Nat.reduceLT, Nat.reduceLeDiff, reduceCtorEq, eq_self, FIX, forall_const, endE_n, endE_r, CHT, disj, Nat.reduceBEq, beq_self_eq_true, APT, APX, forall_eq, ALT, ALU, URy_5.d, en_len, ne0]
  refine AW.upto ns.length (inv34 ns) ⟨rfl, rfl, rfl⟩ fun i t H c hi h => ?_
  obtain ⟨e0, e1, e5⟩ := h
  simp only [T.c, T.i, tL] at e0 e1 e5
  by_cases k1 : (i : Int) < ns.length
  · obtain ⟨x, hx⟩ : ∃ x, ns[i]? = some x := ⟨_, List.getElem?_eq_getElem (by omega)⟩
    have ex := en_at eS hx
    have gz : (0 : Int) ≤ i := by omega
    have w2 : IntKind.i64.wrap ((i : Int) + 1) = ((i + 1 : Nat) : Int) := wrap64 (x := (i : Int) + 1) ⟨by omega, by omega⟩
    simp only [RUX, Nat.reduceAdd, reduceIte, Nat.reduceEqDiff, Nat.reduceLT, Nat.reduceLeDiff, reduceCtorEq, eq_self, FIX, forall_const, endE_n, endE_r, CHT, disj, Nat.reduceBEq, beq_self_eq_true, APT, APX, forall_eq, ALT, ALU, URy_7.d, e0, e1, e5, en_len, k1, ex, gz, Int.toNat_natCast, eS, sStr, w2]
    exact ⟨by omega, e0, e1, rfl⟩
  · simp only [RUX, Nat.reduceAdd, reduceIte, Nat.reduceEqDiff, Nat.reduceLT, Nat.reduceLeDiff, reduceCtorEq, eq_self, FIX, forall_const, endE_n, endE_r, CHT, disj, Nat.reduceBEq, beq_self_eq_true, APT, APX, forall_eq, ALT, ALU, URy_7.d, URy_5.d, e0, e1, e5, en_len, k1]
/- loop.example/teagle/laws.loDisk -/
def r10_0 : List AOper := [ao 0 2 (.box 27 (.t 0)),
  ao 1 3 (.box 27 (.t 1)),
  ao 2 4 (.mv (.k (.b false)))]
def r10_1 : List AOper := [ao 0 7 (.fa 0 (.t 2)),
  ao 1 8 (.ld 1 false (.t 7)),
  ao 2 9 (.len (.t 8)),
  ao 3 10 (.fa 0 (.t 3)),
  ao 4 11 (.ld 1 false (.t 10)),
  ao 5 12 (.len (.t 11)),
  ao 6 13 (.bin .neq (.t 9) (.t 12)),
  ao 7 14 (.mv (.t 13)),
  ag 8 15 14 false [] (.fa 2 (.t 2)),
  ag 9 16 14 false [] (.ld 1 false (.t 15)),
  ag 10 17 14 false [] (.len (.t 16)),
  ag 11 18 14 false [] (.fa 2 (.t 3)),
  ag 12 19 14 false [] (.ld 1 false (.t 18)),
  ag 13 20 14 false [] (.len (.t 19)),
  ag 14 21 14 false [] (.bin .neq (.t 17) (.t 20)),
  ao 15 22 (.pick (.t 14) (.k (.b true)) (.t 21)),
  ao 16 23 (.mv (.t 22)),
  ag 17 24 23 false [] (.fa 1 (.t 2)),
  ag 18 25 23 false [] (.ld 1 false (.t 24)),
  ag 19 26 23 false [] (.fa 1 (.t 3)),
  ag 20 27 23 false [] (.ld 1 false (.t 26)),
  ag 21 28 23 false [] (.call (.k (.c (.fn 34 []))) [(.t 25), (.t 27)]),
  ag 22 29 23 false [] (.un .not (.t 28)),
  ao 23 30 (.pick (.t 23) (.k (.b true)) (.t 29))]
def r10_2 : List AOper := [ao 0 4 (.mv (.k (.b false)))]
def c10_3 : ACode := .seq (.reg r10_2) .ret
def c10_4 : ACode := .cond (.t 30) c10_3 .skip
def c10_5 : ACode := .seq (.reg r10_1) c10_4
def r10_6 : List AOper := [ao 0 5 (.mv (.k (.i 0)))]
def r10_7 : List AOper := [ao 0 31 (.mv (.t 5)),
  ao 1 32 (.fa 0 (.t 2)),
  ao 2 33 (.ld 1 false (.t 32)),
  ao 3 34 (.len (.t 33)),
  ao 4 35 (.bin .lss (.t 31) (.t 34))]
def c10_8 : ACode := .cond (.t 35) .skip (.exit 0)
def c10_9 : ACode := .seq (.reg r10_7) c10_8
def r10_10 : List AOper := [ao 0 38 (.fa 0 (.t 2)),
  ao 1 39 (.ld 1 false (.t 38)),
  au 2 40 [0, 1] (.mv (.t 5)),
  ao 3 41 (.ia 3 (.t 39) (.t 40)),
  ao 4 42 (.ld 3 true (.t 41)),
  au 5 43 (ru 5) (.fa 0 (.t 3)),
  au 6 44 (ru 5) (.ld 1 false (.t 43)),
  au 7 45 (ru 7) (.mv (.t 5)),
  au 8 46 (ru 5) (.ia 3 (.t 44) (.t 45)),
  au 9 47 (ru 5) (.ld 3 true (.t 46)),
  ao 10 48 (.cmpA true [2, 2, 0] (.t 42) (.t 47))]
def r10_11 : List AOper := [ao 0 4 (.mv (.k (.b false)))]
def c10_12 : ACode := .seq (.reg r10_11) .ret
def c10_13 : ACode := .cond (.t 48) c10_12 .skip
def c10_14 : ACode := .seq (.reg r10_10) c10_13
def c10_15 : ACode := .block 1 c10_14
def r10_16 : List AOper := [ao 0 36 (.mv (.t 5)),
  ao 1 37 (.bin .add (.t 36) (.k (.i 1))),
  ao 2 5 (.mv (.t 37))]
def c10_17 : ACode := .seq c10_9 (.seq c10_15 (.reg r10_16))
def c10_18 : ACode := .loop c10_17
def c10_19 : ACode := .block 0 c10_18
def c10_20 : ACode := .seq (.reg r10_6) c10_19
def r10_21 : List AOper := [ao 0 6 (.mv (.k (.i 0)))]
def r10_22 : List AOper := [ao 0 49 (.mv (.t 6)),
  ao 1 50 (.fa 2 (.t 2)),
  ao 2 51 (.ld 1 false (.t 50)),
  ao 3 52 (.len (.t 51)),
  ao 4 53 (.bin .lss (.t 49) (.t 52))]
def c10_23 : ACode := .cond (.t 53) .skip (.exit 2)
def c10_24 : ACode := .seq (.reg r10_22) c10_23
def r10_25 : List AOper := [ao 0 56 (.fa 2 (.t 2)),
  ao 1 57 (.ld 1 false (.t 56)),
  au 2 58 [0, 1] (.mv (.t 6)),
  ao 3 59 (.ia 2 (.t 57) (.t 58)),
  ao 4 60 (.ld 2 true (.t 59)),
  au 5 61 (ru 5) (.fa 2 (.t 3)),
  au 6 62 (ru 5) (.ld 1 false (.t 61)),
  au 7 63 (ru 7) (.mv (.t 6)),
  au 8 64 (ru 5) (.ia 2 (.t 62) (.t 63)),
  au 9 65 (ru 5) (.ld 2 true (.t 64)),
  ao 10 66 (.cmpA true [1, 2] (.t 60) (.t 65))]
def r10_26 : List AOper := [ao 0 4 (.mv (.k (.b false)))]
def c10_27 : ACode := .seq (.reg r10_26) .ret
def c10_28 : ACode := .cond (.t 66) c10_27 .skip
def c10_29 : ACode := .seq (.reg r10_25) c10_28
def c10_30 : ACode := .block 3 c10_29
def r10_31 : List AOper := [ao 0 54 (.mv (.t 6)),
  ao 1 55 (.bin .add (.t 54) (.k (.i 1))),
  ao 2 6 (.mv (.t 55))]
def c10_32 : ACode := .seq c10_24 (.seq c10_30 (.reg r10_31))
def c10_33 : ACode := .loop c10_32
def c10_34 : ACode := .block 2 c10_33
def c10_35 : ACode := .seq (.reg r10_21) c10_34
def r10_36 : List AOper := [ao 0 4 (.mv (.k (.b true)))]
def c10 : ACode := .seq (.reg r10_0) (.seq c10_5 (.seq c10_20 (.seq c10_35 (.seq (.reg r10_36) .ret))))
def s10 : List ARes := [.tmp 4]
theorem ok10 : okF Try.prog 10 67 c10 s10 := ⟨Try.f10, Try.func10, Try.ntmps10, by kernel_rfl, by kernel_rfl, by kernel_rfl⟩
def Hd10 (d : Dk) (σ : St) : Prop := (∃ u, σ.t 2 = .c (.ptr 2 u 0) ∧ σ.H 2 = some (.var u 27 (cDk d))) ∧ (∃ u, σ.t 3 = .c (.ptr 3 u 0) ∧ σ.H 3 = some (.var u 27 (cDk d)))
def inv10 (d : Dk) (i : Nat) (σ : St) : Prop := Hd10 d σ ∧ σ.t 5 = .i i
def inv10b (d : Dk) (i : Nat) (σ : St) : Prop := Hd10 d σ ∧ σ.t 6 = .i i
def URy_6 := Bx.mk <|
  aN (uA c10.eq_1) <| aN (uR r10_0.eq_1) <| aN (uA c10_5.eq_1) <| aN (uR r10_1.eq_1) <| aN (uA c10_4.eq_1) <| aN (uA c10_3.eq_1) <| aN (uR r10_2.eq_1) <| aN (uA c10_20.eq_1) <| aN (uR r10_6.eq_1) <| aN (uA c10_19.eq_1) <| aN (uA c10_18.eq_1) <| aN (uA c10_35.eq_1) <| aN (uR r10_21.eq_1) <| aN (uA c10_34.eq_1) <| aN (uA c10_33.eq_1) <| aN (uR r10_36.eq_1) <| s10.eq_1
def URy_8 := Bx.mk <|
  aN (uA c10_17.eq_1) <| aN (uA c10_9.eq_1) <| aN (uR r10_7.eq_1) <| aN (uA c10_8.eq_1) <| aN (uA c10_15.eq_1) <| aN (uA c10_14.eq_1) <| aN (uR r10_10.eq_1) <| aN (uA c10_13.eq_1) <| aN (uA c10_12.eq_1) <| aN (uR r10_11.eq_1) <| aN (uR r10_16.eq_1) <| aN (uA c10.eq_1) <| aN (uR r10_0.eq_1) <| aN (uA c10_5.eq_1) <| aN (uR r10_1.eq_1) <| aN (uA c10_4.eq_1) <| aN (uA c10_3.eq_1) <| aN (uR r10_2.eq_1) <| aN (uA c10_20.eq_1) <| aN (uR r10_6.eq_1) <| aN (uA c10_19.eq_1) <| aN (uA c10_18.eq_1) <| aN (uA c10_35.eq_1) <| aN (uR r10_21.eq_1) <| aN (uA c10_34.eq_1) <| aN (uA c10_33.eq_1) <| aN (uR r10_36.eq_1) <| s10.eq_1
def URy_9 := Bx.mk <|
  aN (uA c10_32.eq_1) <| aN (uA c10_24.eq_1) <| aN (uR r10_22.eq_1) <| aN (uA c10_23.eq_1) <| aN (uA c10_30.eq_1) <| aN (uA c10_29.eq_1) <| aN (uR r10_25.eq_1) <| aN (uA c10_28.eq_1) <| aN (uA c10_27.eq_1) <| aN (uR r10_26.eq_1) <| aN (uR r10_31.eq_1) <| aN (uA c10.eq_1) <| aN (uR r10_0.eq_1) <| aN (uA c10_5.eq_1) <| aN (uR r10_1.eq_1) <| aN (uA c10_4.eq_1) <| aN (uA c10_3.eq_1) <| aN (uR r10_2.eq_1) <| aN (uA c10_20.eq_1) <| aN (uR r10_6.eq_1) <| aN (uA c10_19.eq_1) <| aN (uA c10_18.eq_1) <| aN (uA c10_35.eq_1) <| aN (uR r10_21.eq_1) <| aN (uA c10_34.eq_1) <| aN (uA c10_33.eq_1) <| aN (uR r10_36.eq_1) <| s10.eq_1
theorem loDisk_ok (d : Dk) (hd : smallDk d) : ACallsF Try.prog 10 [tDk d, tDk d] [] (.b true) := by
  have l1 := hd.f
  have l2 := hd.n
  have l3 := hd.m
  refine ACallsF.intro ok10 follows fun X c0 => ?_
  simp only [RUX, Nat.reduceAdd, reduceIte, Nat.reduceEqDiff, Nat.reduceLT, Nat.reduceLeDiff, reduceCtorEq, eq_self, FIX, forall_const, endE_n, endE_r, CHT, disj, Nat.reduceBEq, beq_self_eq_true, APT, APX, forall_eq, ALT, ALU, URy_6.d, en_len, ne0]
  refine callC (loTexts_ok d.names (by omega)) rfl rfl rfl rfl ?_
  simp only [RUX, Nat.reduceAdd, reduceIte, Nat.reduceEqDiff, Nat.reduceLT, Nat.reduceLeDiff, reduceCtorEq, eq_self, FIX, forall_const, endE_n, endE_r, CHT, disj, Nat.reduceBEq, beq_self_eq_true, APT, APX, forall_eq, ALT, ALU, URy_6.d]
  refine AW.upto d.files.length (inv10 d) ⟨⟨⟨_, rfl, rfl⟩, ⟨_, rfl, rfl⟩⟩, rfl⟩ fun i t H c hi h => ?_
  obtain ⟨⟨⟨u2, e2, eH2⟩, ⟨u3, e3, eH3⟩⟩, e5⟩ := h
  simp only [T.c, T.i] at e2 eH2 e3 eH3 e5
  by_cases k1 : (i : Int) < d.files.length
  · obtain ⟨x, hx⟩ : ∃ x, d.files[i]? = some x := ⟨_, List.getElem?_eq_getElem (by omega)⟩
    have ex := en_at eF hx
    have gz : (0 : Int) ≤ i := by omega
    have w2 : IntKind.i64.wrap ((i : Int) + 1) = ((i + 1 : Nat) : Int) := wrap64 (x := (i : Int) + 1) ⟨by omega, by omega⟩
    simp only [RUX, Nat.reduceAdd, reduceIte, Nat.reduceEqDiff, Nat.reduceLT, Nat.reduceLeDiff, reduceCtorEq, eq_self, FIX, forall_const, endE_n, endE_r, CHT, disj, Nat.reduceBEq, beq_self_eq_true, APT, APX, forall_eq, ALT, ALU, URy_8.d, e2, eH2, e3, eH3, e5, en_len, k1, ex, gz, Int.toNat_natCast, eF, w2]
    exact ⟨by omega, ⟨⟨u2, e2, eH2⟩, ⟨u3, e3, eH3⟩⟩, rfl⟩
  · simp only [RUX, Nat.reduceAdd, reduceIte, Nat.reduceEqDiff, Nat.reduceLT, Nat.reduceLeDiff, reduceCtorEq, eq_self, FIX, forall_const, endE_n, endE_r, CHT, disj, Nat.reduceBEq, beq_self_eq_true, APT, APX, forall_eq, ALT, ALU, URy_8.d, URy_6.d, e2, eH2, e3, eH3, e5, en_len, k1]
    refine AW.upto d.moves.length (inv10b d) ⟨⟨⟨u2, e2, eH2⟩, ⟨u3, e3, eH3⟩⟩, rfl⟩ fun j t H c hj h => ?_
    clear e2 eH2 e3 eH3
    obtain ⟨⟨⟨u2, e2, eH2⟩, ⟨u3, e3, eH3⟩⟩, e6⟩ := h
    simp only [T.c, T.i] at e2 eH2 e3 eH3 e6
    by_cases k2 : (j : Int) < d.moves.length
    · obtain ⟨x, hx⟩ : ∃ x, d.moves[j]? = some x := ⟨_, List.getElem?_eq_getElem (by omega)⟩
      have ex := en_at eM hx
      have gz : (0 : Int) ≤ j := by omega
      have w2 : IntKind.i64.wrap ((j : Int) + 1) = ((j + 1 : Nat) : Int) := wrap64 (x := (j : Int) + 1) ⟨by omega, by omega⟩
      simp only [RUX, Nat.reduceAdd, reduceIte, Nat.reduceEqDiff, Nat.reduceLT, Nat.reduceLeDiff, reduceCtorEq, eq_self, FIX, forall_const, endE_n, endE_r, CHT, disj, Nat.reduceBEq, beq_self_eq_true, APT, APX, forall_eq, ALT, ALU, URy_9.d, e2, eH2, e3, eH3, e6, en_len, k2, ex, gz, Int.toNat_natCast, eM, w2]
      exact ⟨by omega, ⟨⟨u2, e2, eH2⟩, ⟨u3, e3, eH3⟩⟩, rfl⟩
    · simp only [RUX, Nat.reduceAdd, reduceIte, Nat.reduceEqDiff, Nat.reduceLT, Nat.reduceLeDiff, reduceCtorEq, eq_self, FIX, forall_const, endE_n, endE_r, CHT, disj, Nat.reduceBEq, beq_self_eq_true, APT, APX, forall_eq, ALT, ALU, URy_9.d, URy_6.d, e2, eH2, e3, eH3, e6, en_len, k2]
end Go.V

/- It is proved that the law FnExactCrewStep returns true for all arguments and leaves its arguments as they were; no condition. -/
import Derived.Test.YtlomodjpgjlagaaGreatSV2
import Derived.Test.YtlomodjpgjlagaaGreatProg
set_option linter.unusedSimpArgs false
namespace Go.V
open Go.Proofs
open Nat (reduceAdd reduceEqDiff reduceLT reduceLeDiff)
theorem follows : Tryz.prog.follows .mixedOrders = true := by kernel_rfl
def en {α : Type} (f : α → List V) (xs : List α) : List (List V) := xs.map f
section
variable {α : Type} (f : α → List V)
theorem en_len (xs : List α) : (en f xs).length = xs.length := by simp [en]
theorem en_at {xs : List α} {i : Nat} {x : α} (h : xs[i]? = some x) : (en f xs)[i]? = some (f x) := by simp [en, h]
theorem en_snoc (xs : List α) (x : α) : en f (xs ++ [x]) = en f xs ++ [f x] := by simp [en]
theorem en_app (xs ys : List α) : en f (xs ++ ys) = en f xs ++ en f ys := by simp [en]
theorem en_nil : en f [] = [] := rfl
theorem en_take (xs : List α) : (en f xs).take xs.length = en f xs := by rw [← en_len f xs, List.take_length]
theorem en_cut (xs : List α) (n : Nat) : (en f xs).take n = en f (xs.take n) := by simp [en, List.map_take]
theorem en_drop (xs : List α) (n : Nat) : (en f xs).drop n = en f (xs.drop n) := by simp [en, List.map_drop]
theorem en_set (xs : List α) (i : Nat) (x : α) : (en f xs).set i (f x) = en f (xs.set i x) := by simp [en, List.map_set]
theorem en_rep (n : Nat) (x : α) : List.replicate n (f x) = en f (List.replicate n x) := by simp [en]
theorem en_one {st : Nat} (h : ∀ x, (f x).length = st) (xs : List α) : ∀ e ∈ en f xs, e.length = st := by
  intro e he
  obtain ⟨x, _, rfl⟩ := List.mem_map.1 he
  exact h x
theorem en_all {st : Nat} (h : ∀ x, (f x).length = st) (xs : List α) : (∀ e ∈ en f xs, e.length = st) = True := eq_true (en_one f h xs)
theorem en_flat (h : ∀ x, (f x).all flatV = true) (xs : List α) : ((en f xs).all fun e => e.all flatV) = true := by
  rw [List.all_eq_true]
  intro e he
  obtain ⟨x, _, rfl⟩ := List.mem_map.1 he
  exact h x
def wsum (w : α → Nat) (xs : List α) : Nat := (xs.map w).sum
theorem wsum_take (w : α → Nat) {xs : List α} {i : Nat} {x : α} (h : xs[i]? = some x) : wsum w (xs.take (i + 1)) = wsum w (xs.take i) + w x := by
  rw [List.take_add_one, h]; simp [wsum]
theorem wsum_le (w : α → Nat) : ∀ (xs : List α) (n : Nat), wsum w (xs.take n) ≤ wsum w xs
  | [], n => by simp [wsum]
  | x :: xs, 0 => by simp [wsum]
  | x :: xs, n + 1 => by have := wsum_le w xs n; simp only [wsum, List.take_succ_cons, List.map_cons, List.sum_cons] at this ⊢; omega
theorem wsum_mem (w : α → Nat) {xs : List α} {x : α} (h : x ∈ xs) : w x ≤ wsum w xs := by
  induction xs with
  | nil => cases h
  | cons y ys ih =>
    simp only [wsum, List.map_cons, List.sum_cons]
    rcases List.mem_cons.1 h with rfl | h
    · omega
    · have := ih h; simp only [wsum] at this; omega
end
def sub1 (left : Int) (w : Nat) : Int := if (w : Int) ≤ left then left - w else -1
/-! what is stored -/
structure Hd where
  state : Int
  job : Int
structure CW where
  jobs : Int
  workers : Int
  window : Int
  next : Int
  reader : Int
  queue : List Int
  hands : List Hd
  closer : Int
  results : List Int
  keeper : Int
  ring : List Int
  due : Int
  out : List Int
  user : Int
  got : List Int
  room : Int
  shut : List Int
  ops : Int
structure Mv where
  who : Int
  way : Int
def eI (n : Int) : List V := [.s (.int .i64 n)]
def eH (h : Hd) : List V := [.s (.int .i64 h.state), .s (.int .i64 h.job)]
def eM (h : Mv) : List V := [.s (.int .i64 h.who), .s (.int .i64 h.way)]
def eB (b : Bool) : List V := [.s (.bool b)]
theorem eI_len (s : Int) : (eI s).length = 1 := rfl
theorem eH_len (h : Hd) : (eH h).length = 2 := rfl
theorem eM_len (h : Mv) : (eM h).length = 2 := rfl
theorem eB_len (h : Bool) : (eB h).length = 1 := rfl
theorem eI_flat (s : Int) : (eI s).all flatV = true := rfl
theorem eH_flat (s : Hd) : (eH s).all flatV = true := rfl
theorem eM_flat (s : Mv) : (eM s).all flatV = true := rfl
abbrev tL (es : List (List V)) : T := .c (.v (.sl es))
abbrev iC (n : Int) : C := .v (.s (.int .i64 n))
abbrev lC (xs : List Int) : C := .v (.sl (en eI xs))
abbrev hC (xs : List Hd) : C := .v (.sl (en eH xs))
abbrev cwC (w : CW) : List C := [iC w.jobs, iC w.workers, iC w.window, iC w.next, iC w.reader, lC w.queue, hC w.hands, iC w.closer, lC w.results, iC w.keeper, lC w.ring, iC w.due, lC w.out, iC w.user, lC w.got, iC w.room, lC w.shut, iC w.ops]
abbrev tCW (w : CW) : T := .pt (.agg (cwC w))
abbrev tH (h : Hd) : T := .pt (.agg [iC h.state, iC h.job])
abbrev tM (h : Mv) : T := .pt (.agg [iC h.who, iC h.way])
/-- A world that is only looked at, in a variable. -/
abbrev cwB (u : Nat) (w : CW) : Blk := .var u 26 (cwC w)
abbrev czC : List C := [iC 0, iC 0, iC 0, iC 0, iC 0, .nil0, .nil0, iC 0, .nil0, iC 0, .nil0, iC 0, .nil0, iC 0, .nil0, iC 0, .nil0, iC 0]
def cw0 : CW := ⟨0, 0, 0, 0, 0, [], [], 0, [], 0, [], 0, [], 0, [], 0, [], 0⟩
theorem APT : (type_of% @sealCs_map) ∧ (type_of% @Nat.le_refl) ∧ (type_of% @List.take_length.{0}) ∧ (type_of% @List.length_append.{0}) ∧ (type_of% @List.length_singleton.{0}) ∧ (type_of% @List.cons_append.{0}) ∧ (type_of% @List.nil_append.{0}) ∧ (type_of% @List.map_cons.{0,0}) ∧ (type_of% @List.map_nil.{0,0}) ∧ (type_of% @List.length_cons.{0}) ∧ (type_of% @List.length_nil.{0}) ∧ (type_of% @List.take_succ_cons.{0}) ∧ (type_of% @List.take_zero.{0}) ∧ (type_of% @List.drop_succ_cons.{0}) ∧ (type_of% @List.drop_zero.{0}) :=
  ⟨@sealCs_map, @Nat.le_refl, @List.take_length.{0}, @List.length_append.{0}, @List.length_singleton.{0}, @List.cons_append.{0}, @List.nil_append.{0}, @List.map_cons.{0,0}, @List.map_nil.{0,0}, @List.length_cons.{0}, @List.length_nil.{0}, @List.take_succ_cons.{0}, @List.take_zero.{0}, @List.drop_succ_cons.{0}, @List.drop_zero.{0}⟩
theorem ALT : (type_of% @en_len) ∧ (type_of% @en_take) ∧ (type_of% @en_nil) ∧ (type_of% (@en_all Hd eH 2 eH_len)) ∧ (type_of% (@en_all Mv eM 2 eM_len)) ∧ (type_of% (@en_all Bool eB 1 eB_len)) ∧ (type_of% (@en_all Int eI 1 eI_len)) ∧ (type_of% @Int.toNat_natCast) :=
  ⟨@en_len, @en_take, @en_nil, @en_all Hd eH 2 eH_len, @en_all Mv eM 2 eM_len, @en_all Bool eB 1 eB_len, @en_all Int eI 1 eI_len, @Int.toNat_natCast⟩
theorem KI : (0 : Int) ≤ 0 ∧ (0 : Int) ≤ 1 ∧ (0 : Int) ≤ 2 ∧ (0 : Int) ≤ 3 ∧ (0 : Int) ≤ 4 ∧ (0 : Int) ≤ 5 ∧ Int.toNat 0 = 0 ∧ Int.toNat 1 = 1 ∧ Int.toNat 2 = 2 ∧ Int.toNat 3 = 3 ∧ Int.toNat 4 = 4 ∧ Int.toNat 5 = 5 :=
  ⟨by decide, by decide, by decide, by decide, by decide, by decide, rfl, rfl, rfl, rfl, rfl, rfl⟩
theorem RZ : (type_of% @RUX) ∧ (type_of% @FIX) ∧ (type_of% @CHT) ∧ (type_of% @APT) ∧ (type_of% @APX) ∧ (type_of% @ALT) ∧ (type_of% @KI) ∧ (type_of% @eq_self.{1}) ∧ (type_of% @forall_const.{0}) ∧ (type_of% @forall_const.{1}) ∧ (type_of% @endE_n) ∧ (type_of% @endE_r) ∧ (type_of% @disj.eq_1) ∧ (type_of% @beq_self_eq_true.{0}) ∧ (type_of% @forall_eq.{1}) :=
  ⟨@RUX, @FIX, @CHT, @APT, @APX, @ALT, @KI, @eq_self.{1}, @forall_const.{0}, @forall_const.{1}, @endE_n, @endE_r, @disj.eq_1, @beq_self_eq_true.{0}, @forall_eq.{1}⟩
/-- The lists of a world are as short as a program may have them. -/
structure Small (w : CW) : Prop where
  q : w.queue.length ≤ 2000000
  h : w.hands.length ≤ 2000000
  r : w.results.length ≤ 2000000
  g : w.ring.length ≤ 2000000
  o : w.out.length ≤ 2000000
  t : w.got.length ≤ 2000000
  s : w.shut.length ≤ 2000000
/-- What comes of a function, told by what is asked of it. -/
def PC (f : Nat) (args : List T) {α : Type} (S : α → Prop) (r : α → T) : Prop := ∃ a : α, S a ∧ ACallsF Tryz.prog f args [] (r a)
theorem PC.intro {f n : Nat} {ac : ACode} {rs : List ARes} {args : List T} {α : Type} {S : α → Prop} {r : α → T} (ho : okF Tryz.prog f n ac rs) (ha : args.all closedA = true) (hr : ∀ a, closedT (r a) = true)
    (h : ∀ X : Ctx, wpa Tryz.prog X ac (endE S r (fun _ => []) rs) ⟨argsT args, hinOf [], 0⟩) : PC f args S r :=
  ACallsF.ex0 S ho follows ha (fun a _ => hr a) h
/-- A function that says whether something holds. -/
abbrev YN (f : Nat) (args : List T) (p : Prop) : Prop := PC f args (fun b : Bool => b = true ↔ p) T.b
theorem yes {p : Prop} (h : p) : true = true ↔ p := ⟨fun _ => h, fun _ => rfl⟩
theorem no {p : Prop} (h : ¬ p) : false = true ↔ p := ⟨fun e => (by cases e), fun g => absurd g h⟩
theorem neqb {x y : Int} (h : ¬ x = y) : (x == y) = false := beq_eq_false_iff_ne.2 h
theorem eqb {x y : Int} (h : x = y) : (x == y) = true := beq_iff_eq.2 h
theorem neqn {x y : Int} (h : ¬ x = y) : (x != y) = true := by rw [bne, neqb h]; rfl
theorem eqn {x y : Int} (h : x = y) : (x != y) = false := by rw [bne, eqb h]; rfl
/- loop.example/teagle/spec.l6In -/
def r52_0 : List AOper := [ao 0 6 (.mv (.k (.b false)))]
def r52_1 : List AOper := [ao 0 7 (.mv (.t 0)),
  ao 1 8 (.mv (.t 1)),
  ao 2 9 (.bin .geq (.t 7) (.t 8)),
  ao 3 10 (.mv (.t 9)),
  ag 4 11 10 true [] (.mv (.t 0)),
  ag 5 12 10 true [] (.mv (.t 2)),
  ag 6 13 10 true [] (.bin .leq (.t 11) (.t 12)),
  ao 7 14 (.pick (.t 10) (.t 13) (.k (.b false))),
  ao 8 6 (.mv (.t 14))]
def c52 : ACode := .seq (.reg r52_0) (.seq (.reg r52_1) .ret)
def s52 : List ARes := [.tmp 6]
theorem ok52 : okF Tryz.prog 52 15 c52 s52 := ⟨Tryz.f52, Tryz.func52, Tryz.ntmps52, by kernel_rfl, by kernel_rfl, by kernel_rfl⟩
def UCa_3 := Bx.mk <|
  aN (uR r52_0.eq_1) <| aN (uR r52_1.eq_1) <| aN (uA c52.eq_1) <| s52.eq_1
theorem l6In_ok (n lo hi : Int) : ACallsF Tryz.prog 52 [.i n, .i lo, .i hi] [] (.b (decide (lo ≤ n) && decide (n ≤ hi))) := by
  refine ACallsF.intro ok52 follows fun X c0 => ?_
  by_cases h1 : lo ≤ n <;> by_cases h2 : n ≤ hi <;> simp only [RUX, Nat.reduceAdd, reduceIte, Nat.reduceEqDiff, Nat.reduceLT, Nat.reduceLeDiff, reduceCtorEq, eq_self, FIX, forall_const, endE_n, endE_r, UCa_3.d, h1, h2, ge_iff_le]
/- loop.example/teagle/impl.inRange -/
def r82_0 : List AOper := [ao 0 6 (.mv (.k (.b false)))]
def r82_1 : List AOper := [ao 0 7 (.mv (.t 1)),
  ao 1 8 (.mv (.t 0)),
  ao 2 9 (.bin .leq (.t 7) (.t 8)),
  ao 3 10 (.mv (.t 9)),
  ag 4 11 10 true [] (.mv (.t 0)),
  ag 5 12 10 true [] (.mv (.t 2)),
  ag 6 13 10 true [] (.bin .leq (.t 11) (.t 12)),
  ao 7 14 (.pick (.t 10) (.t 13) (.k (.b false))),
  ao 8 6 (.mv (.t 14))]
def c82 : ACode := .seq (.reg r82_0) (.seq (.reg r82_1) .ret)
def s82 : List ARes := [.tmp 6]
theorem ok82 : okF Tryz.prog 82 15 c82 s82 := ⟨Tryz.f82, Tryz.func82, Tryz.ntmps82, by kernel_rfl, by kernel_rfl, by kernel_rfl⟩
def UCa_1 := Bx.mk <|
  aN (uA c82.eq_1) <| aN (uR r82_0.eq_1) <| aN (uR r82_1.eq_1) <| s82.eq_1
theorem inRange_ok (n lo hi : Int) : ACallsF Tryz.prog 82 [.i n, .i lo, .i hi] [] (.b (decide (lo ≤ n) && decide (n ≤ hi))) := by
  refine ACallsF.intro ok82 follows fun X c0 => ?_
  by_cases h1 : lo ≤ n <;> by_cases h2 : n ≤ hi <;> simp only [RUX, Nat.reduceAdd, reduceIte, Nat.reduceEqDiff, Nat.reduceLT, Nat.reduceLeDiff, reduceCtorEq, eq_self, FIX, forall_const, endE_n, endE_r, UCa_1.d, h1, h2]
/- loop.example/teagle/impl.bit -/
def r79_0 : List AOper := [ao 0 2 (.mv (.k (.i 0)))]
def r79_1 : List AOper := [ao 0 3 (.mv (.t 0))]
def r79_2 : List AOper := [ao 0 2 (.mv (.k (.i 1)))]
def c79_3 : ACode := .seq (.reg r79_2) .ret
def c79_4 : ACode := .cond (.t 3) c79_3 .skip
def c79_5 : ACode := .seq (.reg r79_1) c79_4
def r79_6 : List AOper := [ao 0 2 (.mv (.k (.i 0)))]
def c79 : ACode := .seq (.reg r79_0) (.seq c79_5 (.seq (.reg r79_6) .ret))
def s79 : List ARes := [.tmp 2]
theorem ok79 : okF Tryz.prog 79 4 c79 s79 := ⟨Tryz.f79, Tryz.func79, Tryz.ntmps79, by kernel_rfl, by kernel_rfl, by kernel_rfl⟩
def UCa_2 := Bx.mk <|
  aN (uA c79.eq_1) <| aN (uR r79_0.eq_1) <| aN (uA c79_5.eq_1) <| aN (uR r79_1.eq_1) <| aN (uA c79_4.eq_1) <| aN (uA c79_3.eq_1) <| aN (uR r79_2.eq_1) <| aN (uR r79_6.eq_1) <| s79.eq_1
theorem bit_ok (b : Bool) : ACallsF Tryz.prog 79 [.b b] [] (.i (if b then 1 else 0)) := by
  refine ACallsF.intro ok79 follows fun X c0 => ?_
  cases b <;> simp only [RZ, reduceAdd, reduceIte, reduceEqDiff, reduceLT, reduceLeDiff, reduceCtorEq, Nat.reduceBEq, UCa_2.d]
end Go.V
set_option linter.unusedSimpArgs false
namespace Go.V
open Go.Proofs
open Nat (reduceAdd reduceEqDiff reduceLT reduceLeDiff)
/-- The world at the beginning. -/
def start (j k n : Int) : CW := ⟨j, k, n, 0, 0, [], List.replicate k.toNat ⟨0, 0⟩, 0, [], 0, List.replicate n.toNat (-1), 0, [], 0, [], n, [0, 0, 0, 0], 0⟩
structure StartOk (j k n : Int) : Prop where
  j : 0 ≤ j ∧ j ≤ 60
  k : 1 ≤ k ∧ k ≤ 8
  n : 1 ≤ n ∧ n ≤ 16
theorem l6_yes {n lo hi : Int} (h : lo ≤ n ∧ n ≤ hi) : ACallsF Tryz.prog 52 [.i n, .i lo, .i hi] [] (.b true) := by
  have := l6In_ok n lo hi
  rwa [decide_eq_true h.1, decide_eq_true h.2] at this
theorem l6_no {n lo hi : Int} (h : ¬ (lo ≤ n ∧ n ≤ hi)) : ACallsF Tryz.prog 52 [.i n, .i lo, .i hi] [] (.b false) := by
  have := l6In_ok n lo hi
  rwa [← Bool.decide_and, decide_eq_false h] at this
theorem in_yes {n lo hi : Int} (h : lo ≤ n ∧ n ≤ hi) : ACallsF Tryz.prog 82 [.i n, .i lo, .i hi] [] (.b true) := by
  have := inRange_ok n lo hi
  rwa [decide_eq_true h.1, decide_eq_true h.2] at this
theorem in_no {n lo hi : Int} (h : ¬ (lo ≤ n ∧ n ≤ hi)) : ACallsF Tryz.prog 82 [.i n, .i lo, .i hi] [] (.b false) := by
  have := inRange_ok n lo hi
  rwa [← Bool.decide_and, decide_eq_false h] at this
theorem w1_ok {i : Nat} (h : i ≤ 4000000000) : IntKind.i64.wrap ((i : Int) + 1) = ((i + 1 : Nat) : Int) := wrap64 (x := (i : Int) + 1) ⟨by omega, by omega⟩
/- loop.example/teagle/spec.CrewStart -/
def r71_0 : List AOper := [ao 0 6 (.alloc 26 [(.v (.s (.int .i64 0))), (.v (.s (.int .i64 0))), (.v (.s (.int .i64 0))), (.v (.s (.int .i64 0))), (.v (.s (.int .i64 0))), .nil0, .nil0, (.v (.s (.int .i64 0))), .nil0, (.v (.s (.int .i64 0))), .nil0, (.v (.s (.int .i64 0))), .nil0, (.v (.s (.int .i64 0))), .nil0, (.v (.s (.int .i64 0))), .nil0, (.v (.s (.int .i64 0)))]),
  ao 1 7 (.mv (.k (.b false)))]
def r71_1 : List AOper := [ao 0 11 (.mv (.t 0)),
  ao 1 12 (.call (.k (.c (.fn 52 []))) [(.t 11), (.k (.i 0)), (.k (.i 60))]),
  ao 2 13 (.un .not (.t 12)),
  ao 3 14 (.mv (.t 13)),
  ag 4 15 14 false [] (.mv (.t 1)),
  ag 5 16 14 false [] (.call (.k (.c (.fn 52 []))) [(.t 15), (.k (.i 1)), (.k (.i 8))]),
  ag 6 17 14 false [] (.un .not (.t 16)),
  ao 7 18 (.pick (.t 14) (.k (.b true)) (.t 17)),
  ao 8 19 (.mv (.t 18)),
  ag 9 20 19 false [] (.mv (.t 2)),
  ag 10 21 19 false [] (.call (.k (.c (.fn 52 []))) [(.t 20), (.k (.i 1)), (.k (.i 16))]),
  ag 11 22 19 false [] (.un .not (.t 21)),
  ao 12 23 (.pick (.t 19) (.k (.b true)) (.t 22))]
def r71_2 : List AOper := [ao 0 24 (.build [(.v (.s (.int .i64 0))), (.v (.s (.int .i64 0))), (.v (.s (.int .i64 0))), (.v (.s (.int .i64 0))), (.v (.s (.int .i64 0))), .nil0, .nil0, (.v (.s (.int .i64 0))), .nil0, (.v (.s (.int .i64 0))), .nil0, (.v (.s (.int .i64 0))), .nil0, (.v (.s (.int .i64 0))), .nil0, (.v (.s (.int .i64 0))), .nil0, (.v (.s (.int .i64 0)))] []),
  an 1 (.st 18 (.t 6) (.t 24)),
  ao 2 7 (.mv (.k (.b false)))]
def c71_3 : ACode := .seq (.reg r71_2) .ret
def c71_4 : ACode := .cond (.t 23) c71_3 .skip
def c71_5 : ACode := .seq (.reg r71_1) c71_4
def r71_6 : List AOper := [ao 0 25 (.mv (.t 0)),
  ao 1 26 (.mv (.t 1)),
  ao 2 27 (.mv (.t 2)),
  ao 3 28 (.mv (.t 2)),
  ao 4 29 (.bsl 1 3 [(.k (.i 0)), (.k (.i 0)), (.k (.i 0)), (.k (.i 0))]),
  ao 5 30 (.build [(.v (.s (.int .i64 0))), (.v (.s (.int .i64 0))), (.v (.s (.int .i64 0))), (.v (.s (.int .i64 0))), (.v (.s (.int .i64 0))), .nil0, .nil0, (.v (.s (.int .i64 0))), .nil0, (.v (.s (.int .i64 0))), .nil0, (.v (.s (.int .i64 0))), .nil0, (.v (.s (.int .i64 0))), .nil0, (.v (.s (.int .i64 0))), .nil0, (.v (.s (.int .i64 0)))] [(0, 1, (.t 25)), (1, 1, (.t 26)), (2, 1, (.t 27)), (15, 1, (.t 28)), (16, 1, (.t 29))]),
  ao 6 8 (.alloc 26 [(.v (.s (.int .i64 0))), (.v (.s (.int .i64 0))), (.v (.s (.int .i64 0))), (.v (.s (.int .i64 0))), (.v (.s (.int .i64 0))), .nil0, .nil0, (.v (.s (.int .i64 0))), .nil0, (.v (.s (.int .i64 0))), .nil0, (.v (.s (.int .i64 0))), .nil0, (.v (.s (.int .i64 0))), .nil0, (.v (.s (.int .i64 0))), .nil0, (.v (.s (.int .i64 0)))]),
  an 7 (.st 18 (.t 8) (.t 30))]
def r71_7 : List AOper := [ao 0 9 (.mv (.k (.i 0)))]
def r71_8 : List AOper := [ao 0 31 (.mv (.t 9)),
  ao 1 32 (.mv (.t 1)),
  ao 2 33 (.bin .lss (.t 31) (.t 32))]
def c71_9 : ACode := .cond (.t 33) .skip (.exit 0)
def c71_10 : ACode := .seq (.reg r71_8) c71_9
def r71_11 : List AOper := [ao 0 36 (.fa 6 (.t 8)),
  ao 1 37 (.ld 1 false (.t 36)),
  ao 2 38 (.build [(.v (.s (.int .i64 0))), (.v (.s (.int .i64 0)))] []),
  ao 3 39 (.bsl 2 68 [(.t 38)]),
  ao 4 40 (.app 2 68 16 (.t 37) (.t 39)),
  ao 5 41 (.fa 6 (.t 8)),
  an 6 (.st 1 (.t 41) (.t 40))]
def c71_12 : ACode := .block 1 (.reg r71_11)
def r71_13 : List AOper := [ao 0 34 (.mv (.t 9)),
  ao 1 35 (.bin .add (.t 34) (.k (.i 1))),
  ao 2 9 (.mv (.t 35))]
def c71_14 : ACode := .seq c71_10 (.seq c71_12 (.reg r71_13))
def c71_15 : ACode := .loop c71_14
def c71_16 : ACode := .block 0 c71_15
def c71_17 : ACode := .seq (.reg r71_7) c71_16
def r71_18 : List AOper := [ao 0 10 (.mv (.k (.i 0)))]
def r71_19 : List AOper := [ao 0 42 (.mv (.t 10)),
  ao 1 43 (.mv (.t 2)),
  ao 2 44 (.bin .lss (.t 42) (.t 43))]
def c71_20 : ACode := .cond (.t 44) .skip (.exit 2)
def c71_21 : ACode := .seq (.reg r71_19) c71_20
def r71_22 : List AOper := [ao 0 47 (.fa 10 (.t 8)),
  ao 1 48 (.ld 1 false (.t 47)),
  ao 2 49 (.bsl 1 3 [(.k (.i (-1)))]),
  ao 3 50 (.app 1 3 8 (.t 48) (.t 49)),
  ao 4 51 (.fa 10 (.t 8)),
  an 5 (.st 1 (.t 51) (.t 50))]
def c71_23 : ACode := .block 3 (.reg r71_22)
def r71_24 : List AOper := [ao 0 45 (.mv (.t 10)),
  ao 1 46 (.bin .add (.t 45) (.k (.i 1))),
  ao 2 10 (.mv (.t 46))]
def c71_25 : ACode := .seq c71_21 (.seq c71_23 (.reg r71_24))
def c71_26 : ACode := .loop c71_25
def c71_27 : ACode := .block 2 c71_26
def c71_28 : ACode := .seq (.reg r71_18) c71_27
def r71_29 : List AOper := [ao 0 52 (.ld 18 true (.t 8)),
  an 1 (.st 18 (.t 6) (.t 52)),
  ao 2 7 (.mv (.k (.b true)))]
def c71 : ACode := .seq (.reg r71_0) (.seq c71_5 (.seq (.reg r71_6) (.seq c71_17 (.seq c71_28 (.seq (.reg r71_29) .ret)))))
def s71 : List ARes := [.cell 6 18 true, .tmp 7]
theorem ok71 : okF Tryz.prog 71 53 c71 s71 := ⟨Tryz.f71, Tryz.func71, Tryz.ntmps71, by kernel_rfl, by kernel_rfl, by kernel_rfl⟩
abbrev sB (j k n : Int) (h r s : C) : List C := [iC j, iC k, iC n, iC 0, iC 0, .nil0, h, iC 0, .nil0, iC 0, r, iC 0, .nil0, iC 0, .nil0, iC n, s, iC 0]
theorem rep_snoc {α : Type} (n : Nat) (x : α) : List.replicate (n + 1) x = List.replicate n x ++ [x] := List.replicate_succ'
theorem rep_one {α : Type} (x : α) : List.replicate 1 x = [x] := rfl
def invSa (j k n : Int) (i : Nat) (σ : St) : Prop := σ.t 1 = .i k ∧ σ.t 2 = .i n ∧ (∃ u, σ.t 6 = .c (.ptr 6 u 0) ∧ σ.H 6 = some (.var u 26 czC)) ∧ (∃ u v x, σ.t 8 = .c (.ptr 8 u 0) ∧ σ.H 8 = some (.var u 26 (sB j k n (.own 40 v i) .nil0 (.own 29 x 4))) ∧ σ.H 40 = some (.arr v true 2 68 (en eH (List.replicate i ⟨0, 0⟩))) ∧ σ.H 29 = some (.arr x true 1 3 (en eI [0, 0, 0, 0])) ∧ σ.H 50 = none) ∧ σ.t 9 = .i i
def invSb (j k n : Int) (i : Nat) (σ : St) : Prop := σ.t 2 = .i n ∧ (∃ u, σ.t 6 = .c (.ptr 6 u 0) ∧ σ.H 6 = some (.var u 26 czC)) ∧ (∃ u v v2 x, σ.t 8 = .c (.ptr 8 u 0) ∧ σ.H 8 = some (.var u 26 (sB j k n (.own 40 v k.toNat) (.own 50 v2 i) (.own 29 x 4))) ∧ σ.H 40 = some (.arr v true 2 68 (en eH (List.replicate k.toNat ⟨0, 0⟩))) ∧ σ.H 50 = some (.arr v2 true 1 3 (en eI (List.replicate i (-1)))) ∧ σ.H 29 = some (.arr x true 1 3 (en eI [0, 0, 0, 0]))) ∧ σ.t 10 = .i i
def UCb_1 := Bx.mk <|
  aN (uA c71.eq_1) <| aN (uR r71_0.eq_1) <| aN (uA c71_5.eq_1) <| aN (uR r71_1.eq_1) <| aN (uA c71_4.eq_1) <| aN (uA c71_3.eq_1) <| aN (uR r71_2.eq_1) <| aN (uR r71_6.eq_1) <| aN (uA c71_17.eq_1) <| aN (uR r71_7.eq_1) <| aN (uA c71_16.eq_1) <| aN (uA c71_15.eq_1) <| aN (uA c71_28.eq_1) <| aN (uR r71_18.eq_1) <| aN (uA c71_27.eq_1) <| aN (uA c71_26.eq_1) <| aN (uR r71_29.eq_1) <| s71.eq_1
theorem start_no {j k n : Int} (h : ¬ StartOk j k n) : ACallsF Tryz.prog 71 [.i j, .i k, .i n] [] (.tup [.agg (cwC cw0), .one (.v (.s (.bool false)))]) := by
  refine ACallsF.intro ok71 follows fun X c0 => ?_
  simp only [RZ, reduceAdd, reduceIte, reduceEqDiff, reduceLT, reduceLeDiff, reduceCtorEq, Nat.reduceBEq, UCb_1.d]
  by_cases h1 : 0 ≤ j ∧ j ≤ 60
  · refine callC (l6_yes h1) rfl rfl rfl rfl ?_
    simp only [RZ, reduceAdd, reduceIte, reduceEqDiff, reduceLT, reduceLeDiff, reduceCtorEq, Nat.reduceBEq, UCb_1.d]
    by_cases h2 : 1 ≤ k ∧ k ≤ 8
    · refine callC (l6_yes h2) rfl rfl rfl rfl ?_
      simp only [RZ, reduceAdd, reduceIte, reduceEqDiff, reduceLT, reduceLeDiff, reduceCtorEq, Nat.reduceBEq, UCb_1.d]
      have h3 : ¬ (1 ≤ n ∧ n ≤ 16) := fun h3 => h ⟨h1, h2, h3⟩
      refine callC (l6_no h3) rfl rfl rfl rfl ?_
      simp only [RZ, reduceAdd, reduceIte, reduceEqDiff, reduceLT, reduceLeDiff, reduceCtorEq, Nat.reduceBEq, UCb_1.d]
      rfl
    · refine callC (l6_no h2) rfl rfl rfl rfl ?_
      simp only [RZ, reduceAdd, reduceIte, reduceEqDiff, reduceLT, reduceLeDiff, reduceCtorEq, Nat.reduceBEq, UCb_1.d]
      rfl
  · refine callC (l6_no h1) rfl rfl rfl rfl ?_
    simp only [RZ, reduceAdd, reduceIte, reduceEqDiff, reduceLT, reduceLeDiff, reduceCtorEq, Nat.reduceBEq, UCb_1.d]
    rfl
def UCb_2 := Bx.mk <|
  aN (uA c71_14.eq_1) <| aN (uA c71_10.eq_1) <| aN (uR r71_8.eq_1) <| aN (uA c71_9.eq_1) <| aN (uA c71_12.eq_1) <| aN (uR r71_11.eq_1) <| aN (uR r71_13.eq_1) <| aN (uA c71.eq_1) <| aN (uR r71_0.eq_1) <| aN (uA c71_5.eq_1) <| aN (uR r71_1.eq_1) <| aN (uA c71_4.eq_1) <| aN (uA c71_3.eq_1) <| aN (uR r71_2.eq_1) <| aN (uR r71_6.eq_1) <| aN (uA c71_17.eq_1) <| aN (uR r71_7.eq_1) <| aN (uA c71_16.eq_1) <| aN (uA c71_15.eq_1) <| aN (uA c71_28.eq_1) <| aN (uR r71_18.eq_1) <| aN (uA c71_27.eq_1) <| aN (uA c71_26.eq_1) <| aN (uR r71_29.eq_1) <| s71.eq_1
def UCb_3 := Bx.mk <|
  aN (uA c71_25.eq_1) <| aN (uA c71_21.eq_1) <| aN (uR r71_19.eq_1) <| aN (uA c71_20.eq_1) <| aN (uA c71_23.eq_1) <| aN (uR r71_22.eq_1) <| aN (uR r71_24.eq_1) <| aN (uA c71.eq_1) <| aN (uR r71_0.eq_1) <| aN (uA c71_5.eq_1) <| aN (uR r71_1.eq_1) <| aN (uA c71_4.eq_1) <| aN (uA c71_3.eq_1) <| aN (uR r71_2.eq_1) <| aN (uR r71_6.eq_1) <| aN (uA c71_17.eq_1) <| aN (uR r71_7.eq_1) <| aN (uA c71_16.eq_1) <| aN (uA c71_15.eq_1) <| aN (uA c71_28.eq_1) <| aN (uR r71_18.eq_1) <| aN (uA c71_27.eq_1) <| aN (uA c71_26.eq_1) <| aN (uR r71_29.eq_1) <| s71.eq_1
set_option maxHeartbeats 1000000 in
theorem start_yes {j k n : Int} (h : StartOk j k n) : ACallsF Tryz.prog 71 [.i j, .i k, .i n] [] (.tup [.agg (cwC (start j k n)), .one (.v (.s (.bool true)))]) := by
  refine ACallsF.intro ok71 follows fun X c0 => ?_
  have hk := h.k
  have hn := h.n
  simp only [RZ, reduceAdd, reduceIte, reduceEqDiff, reduceLT, reduceLeDiff, reduceCtorEq, Nat.reduceBEq, UCb_1.d]
  refine callC (l6_yes h.j) rfl rfl rfl rfl ?_
  simp only [RZ, reduceAdd, reduceIte, reduceEqDiff, reduceLT, reduceLeDiff, reduceCtorEq, Nat.reduceBEq, UCb_1.d]
  refine callC (l6_yes h.k) rfl rfl rfl rfl ?_
  simp only [RZ, reduceAdd, reduceIte, reduceEqDiff, reduceLT, reduceLeDiff, reduceCtorEq, Nat.reduceBEq, UCb_1.d]
  refine callC (l6_yes h.n) rfl rfl rfl rfl ?_
  simp only [RZ, reduceAdd, reduceIte, reduceEqDiff, reduceLT, reduceLeDiff, reduceCtorEq, Nat.reduceBEq, UCb_1.d]
  refine AW.reify 8 6 40 2 68 rfl rfl rfl (by decide) ?_
  refine AW.upto k.toNat (invSa j k n) ⟨rfl, rfl, ⟨_, rfl, rfl⟩, ⟨_, _, _, rfl, rfl, rfl, rfl, rfl⟩, rfl⟩ fun i t H c hi h => ?_
  obtain ⟨e1, e2, ⟨u6, e6, eH6⟩, ⟨u, v, x, e8, eH8, eH40, eH29, eH50⟩, e9⟩ := h
  simp only [T.c, T.i] at e1 e2 e6 eH6 e8 eH8 eH40 eH29 e9
  by_cases k1 : (i : Int) < k
  · have gw := w1_ok (i := i) (by omega)
    have q1 : (i + 1) * 16 ≤ 140737488355328 := by omega
    have q2 : i + 1 ≤ 9223372036854775807 := by omega
    simp only [RZ, reduceAdd, reduceIte, reduceEqDiff, reduceLT, reduceLeDiff, reduceCtorEq, Nat.reduceBEq, UCb_2.d, e1, e2, e8, eH8, eH40, e9, k1, gw, q1, q2, List.length_replicate]
    refine ⟨by omega, e1, e2, ⟨u6, e6, eH6⟩, ⟨u, _, x, e8, rfl, ?_, eH29, eH50⟩, rfl⟩
    rw [rep_snoc, en_snoc]
    exact (congrArg some (congrArg (Blk.arr _ true 2 68) (congrArg (· ++ [eH ⟨0, 0⟩]) (by rw [List.take_of_length_le]; rw [en_len, List.length_replicate]; omega))))
  · have hik : i = k.toNat := by omega
    subst hik
    simp only [RZ, reduceAdd, reduceIte, reduceEqDiff, reduceLT, reduceLeDiff, reduceCtorEq, Nat.reduceBEq, UCb_2.d, UCb_1.d, e1, e2, e8, eH8, eH40, e9, k1]
    refine AW.reify 8 10 50 1 3 eH8 rfl eH50 (by decide) ?_
    refine AW.upto n.toNat (invSb j k n) ⟨e2, ⟨u6, e6, eH6⟩, ⟨u, v, _, x, e8, rfl, eH40, rfl, eH29⟩, rfl⟩ fun i t H c hi h => ?_
    clear e1 e2 e6 eH6 e8 eH8 eH40 eH29 eH50 e9 k1 u6 u v x
    obtain ⟨e2, ⟨u6, e6, eH6⟩, ⟨u, v, v2, x, e8, eH8, eH40, eH50, eH29⟩, e10⟩ := h
    simp only [T.c, T.i] at e2 e6 eH6 e8 eH8 eH40 eH50 eH29 e10
    by_cases k1 : (i : Int) < n
    · have gw := w1_ok (i := i) (by omega)
      have q1 : (i + 1) * 8 ≤ 140737488355328 := by omega
      have q2 : i + 1 ≤ 9223372036854775807 := by omega
      simp only [RZ, reduceAdd, reduceIte, reduceEqDiff, reduceLT, reduceLeDiff, reduceCtorEq, Nat.reduceBEq, UCb_3.d, e2, e8, eH8, eH50, e10, k1, gw, q1, q2, List.length_replicate]
      refine ⟨by omega, e2, ⟨u6, e6, eH6⟩, ⟨u, v, _, x, e8, rfl, eH40, ?_, eH29⟩, rfl⟩
      rw [rep_snoc, en_snoc]
      exact (congrArg some (congrArg (Blk.arr _ true 1 3) (congrArg (· ++ [eI (-1)]) (by rw [List.take_of_length_le]; rw [en_len, List.length_replicate]; omega))))
    · have hin : i = n.toNat := by omega
      subst hin
      have t1 : List.take k.toNat (en eH (List.replicate k.toNat ⟨0, 0⟩)) = en eH (List.replicate k.toNat ⟨0, 0⟩) := List.take_of_length_le (by simp [en])
      have t2 : List.take n.toNat (en eI (List.replicate n.toNat (-1))) = en eI (List.replicate n.toNat (-1)) := List.take_of_length_le (by simp [en])
      simp only [RZ, reduceAdd, reduceIte, reduceEqDiff, reduceLT, reduceLeDiff, reduceCtorEq, Nat.reduceBEq, UCb_3.d, UCb_1.d, e2, e6, eH6, e8, eH8, eH40, eH50, eH29, e10, k1, List.length_replicate, t1, t2]
      rfl
end Go.V
set_option linter.unusedSimpArgs false
namespace Go.V
open Go.Proofs
open Nat (reduceAdd reduceEqDiff reduceLT reduceLeDiff)
/-- What a worker may be. -/
structure HdOk (h : Hd) : Prop where
  state : 0 ≤ h.state ∧ h.state ≤ 3
  job : h.state = 1 ∨ h.state = 2 ∨ h.job = 0
/-- The parts of a world are within their bounds. -/
structure Form (w : CW) : Prop where
  st : StartOk w.jobs w.workers w.window
  next : 0 ≤ w.next ∧ w.next ≤ w.jobs
  due : 0 ≤ w.due ∧ w.due ≤ w.next
  room : 0 ≤ w.room ∧ w.room ≤ w.window
  ops0 : 0 ≤ w.ops
  ops1 : w.ops ≤ 10000
  lh : (w.hands.length : Int) = w.workers
  lr : (w.ring.length : Int) = w.window
  ls : (w.shut.length : Int) = 4
  lq : (w.queue.length : Int) ≤ w.workers
  le : (w.results.length : Int) ≤ w.workers
  lo : (w.out.length : Int) ≤ 1
  lg : (w.got.length : Int) ≤ w.jobs
  shut : ∀ s ∈ w.shut, 0 ≤ s ∧ s ≤ 1
  hand : ∀ h ∈ w.hands, HdOk h
  rd : 0 ≤ w.reader ∧ w.reader ≤ 3
  cl : 0 ≤ w.closer ∧ w.closer ≤ 1
  kp : 0 ≤ w.keeper ∧ w.keeper ≤ 5
  us : 0 ≤ w.user ∧ w.user ≤ 1
/- loop.example/teagle/spec.l51Form -/
def r34_0 : List AOper := [ao 0 1 (.box 26 (.t 0)),
  ao 1 2 (.mv (.k (.b false)))]
def r34_1 : List AOper := [ao 0 10 (.fa 0 (.t 1)),
  ao 1 11 (.ld 1 false (.t 10)),
  ao 2 12 (.fa 1 (.t 1)),
  ao 3 13 (.ld 1 false (.t 12)),
  ao 4 14 (.fa 2 (.t 1)),
  ao 5 15 (.ld 1 false (.t 14)),
  ao 6 16 (.call (.k (.c (.fn 71 []))) [(.t 11), (.t 13), (.t 15)]),
  ao 7 9 (.mv (.t 16)),
  ao 8 17 (.ext 0 (.t 9)),
  ao 9 18 (.ext 1 (.t 9)),
  ao 10 3 (.alloc 26 [(.v (.s (.int .i64 0))), (.v (.s (.int .i64 0))), (.v (.s (.int .i64 0))), (.v (.s (.int .i64 0))), (.v (.s (.int .i64 0))), .nil0, .nil0, (.v (.s (.int .i64 0))), .nil0, (.v (.s (.int .i64 0))), .nil0, (.v (.s (.int .i64 0))), .nil0, (.v (.s (.int .i64 0))), .nil0, (.v (.s (.int .i64 0))), .nil0, (.v (.s (.int .i64 0)))]),
  an 11 (.st 18 (.t 3) (.t 17)),
  ao 12 4 (.mv (.t 18))]
def r34_2 : List AOper := [ao 0 19 (.mv (.t 4)),
  ao 1 20 (.un .not (.t 19)),
  ao 2 21 (.mv (.t 20)),
  ag 3 22 21 false [] (.fa 3 (.t 1)),
  ag 4 23 21 false [] (.ld 1 false (.t 22)),
  ag 5 24 21 false [] (.fa 0 (.t 1)),
  ag 6 25 21 false [] (.ld 1 false (.t 24)),
  ag 7 26 21 false [] (.call (.k (.c (.fn 52 []))) [(.t 23), (.k (.i 0)), (.t 25)]),
  ag 8 27 21 false [] (.un .not (.t 26)),
  ao 9 28 (.pick (.t 21) (.k (.b true)) (.t 27)),
  ao 10 29 (.mv (.t 28)),
  ag 11 30 29 false [] (.fa 11 (.t 1)),
  ag 12 31 29 false [] (.ld 1 false (.t 30)),
  ag 13 32 29 false [] (.fa 3 (.t 1)),
  ag 14 33 29 false [] (.ld 1 false (.t 32)),
  ag 15 34 29 false [] (.call (.k (.c (.fn 52 []))) [(.t 31), (.k (.i 0)), (.t 33)]),
  ag 16 35 29 false [] (.un .not (.t 34)),
  ao 17 36 (.pick (.t 29) (.k (.b true)) (.t 35)),
  ao 18 37 (.mv (.t 36)),
  ag 19 38 37 false [] (.fa 15 (.t 1)),
  ag 20 39 37 false [] (.ld 1 false (.t 38)),
  ag 21 40 37 false [] (.fa 2 (.t 1)),
  ag 22 41 37 false [] (.ld 1 false (.t 40)),
  ag 23 42 37 false [] (.call (.k (.c (.fn 52 []))) [(.t 39), (.k (.i 0)), (.t 41)]),
  ag 24 43 37 false [] (.un .not (.t 42)),
  ao 25 44 (.pick (.t 37) (.k (.b true)) (.t 43)),
  ao 26 45 (.mv (.t 44)),
  ag 27 46 45 false [] (.fa 17 (.t 1)),
  ag 28 47 45 false [] (.ld 1 false (.t 46)),
  ag 29 48 45 false [] (.bin .lss (.t 47) (.k (.i 0))),
  ao 30 49 (.pick (.t 45) (.k (.b true)) (.t 48)),
  ao 31 50 (.mv (.t 49)),
  ag 32 51 50 false [] (.fa 17 (.t 1)),
  ag 33 52 50 false [] (.ld 1 false (.t 51)),
  ag 34 53 50 false [] (.bin .gtr (.t 52) (.k (.i 10000))),
  ao 35 54 (.pick (.t 50) (.k (.b true)) (.t 53))]
def r34_3 : List AOper := [ao 0 2 (.mv (.k (.b false)))]
def c34_4 : ACode := .seq (.reg r34_3) .ret
def c34_5 : ACode := .cond (.t 54) c34_4 .skip
def c34_6 : ACode := .seq (.reg r34_2) c34_5
def r34_7 : List AOper := [ao 0 55 (.fa 6 (.t 1)),
  ao 1 56 (.ld 1 false (.t 55)),
  ao 2 57 (.len (.t 56)),
  ao 3 58 (.fa 1 (.t 1)),
  ao 4 59 (.ld 1 false (.t 58)),
  ao 5 60 (.bin .neq (.t 57) (.t 59)),
  ao 6 61 (.mv (.t 60)),
  ag 7 62 61 false [] (.fa 10 (.t 1)),
  ag 8 63 61 false [] (.ld 1 false (.t 62)),
  ag 9 64 61 false [] (.len (.t 63)),
  ag 10 65 61 false [] (.fa 2 (.t 1)),
  ag 11 66 61 false [] (.ld 1 false (.t 65)),
  ag 12 67 61 false [] (.bin .neq (.t 64) (.t 66)),
  ao 13 68 (.pick (.t 61) (.k (.b true)) (.t 67)),
  ao 14 69 (.mv (.t 68)),
  ag 15 70 69 false [] (.fa 16 (.t 1)),
  ag 16 71 69 false [] (.ld 1 false (.t 70)),
  ag 17 72 69 false [] (.len (.t 71)),
  ag 18 73 69 false [] (.bin .neq (.t 72) (.k (.i 4))),
  ao 19 74 (.pick (.t 69) (.k (.b true)) (.t 73)),
  ao 20 75 (.mv (.t 74)),
  ag 21 76 75 false [] (.fa 5 (.t 1)),
  ag 22 77 75 false [] (.ld 1 false (.t 76)),
  ag 23 78 75 false [] (.len (.t 77)),
  ag 24 79 75 false [] (.fa 1 (.t 1)),
  ag 25 80 75 false [] (.ld 1 false (.t 79)),
  ag 26 81 75 false [] (.bin .gtr (.t 78) (.t 80)),
  ao 27 82 (.pick (.t 75) (.k (.b true)) (.t 81)),
  ao 28 83 (.mv (.t 82)),
  ag 29 84 83 false [] (.fa 8 (.t 1)),
  ag 30 85 83 false [] (.ld 1 false (.t 84)),
  ag 31 86 83 false [] (.len (.t 85)),
  ag 32 87 83 false [] (.fa 1 (.t 1)),
  ag 33 88 83 false [] (.ld 1 false (.t 87)),
  ag 34 89 83 false [] (.bin .gtr (.t 86) (.t 88)),
  ao 35 90 (.pick (.t 83) (.k (.b true)) (.t 89)),
  ao 36 91 (.mv (.t 90)),
  ag 37 92 91 false [] (.fa 12 (.t 1)),
  ag 38 93 91 false [] (.ld 1 false (.t 92)),
  ag 39 94 91 false [] (.len (.t 93)),
  ag 40 95 91 false [] (.bin .gtr (.t 94) (.k (.i 1))),
  ao 41 96 (.pick (.t 91) (.k (.b true)) (.t 95)),
  ao 42 97 (.mv (.t 96)),
  ag 43 98 97 false [] (.fa 14 (.t 1)),
  ag 44 99 97 false [] (.ld 1 false (.t 98)),
  ag 45 100 97 false [] (.len (.t 99)),
  ag 46 101 97 false [] (.fa 0 (.t 1)),
  ag 47 102 97 false [] (.ld 1 false (.t 101)),
  ag 48 103 97 false [] (.bin .gtr (.t 100) (.t 102)),
  ao 49 104 (.pick (.t 97) (.k (.b true)) (.t 103))]
def r34_8 : List AOper := [ao 0 2 (.mv (.k (.b false)))]
def c34_9 : ACode := .seq (.reg r34_8) .ret
def c34_10 : ACode := .cond (.t 104) c34_9 .skip
def c34_11 : ACode := .seq (.reg r34_7) c34_10
def r34_12 : List AOper := [ao 0 5 (.mv (.k (.i 0)))]
def r34_13 : List AOper := [ao 0 105 (.mv (.t 5)),
  ao 1 106 (.bin .lss (.t 105) (.k (.i 4)))]
def c34_14 : ACode := .cond (.t 106) .skip (.exit 0)
def c34_15 : ACode := .seq (.reg r34_13) c34_14
def r34_16 : List AOper := [ao 0 109 (.fa 16 (.t 1)),
  ao 1 110 (.ld 1 false (.t 109)),
  ao 2 111 (.mv (.t 5)),
  ao 3 112 (.ia 1 (.t 110) (.t 111)),
  ao 4 113 (.ld 1 false (.t 112)),
  ao 5 114 (.call (.k (.c (.fn 52 []))) [(.t 113), (.k (.i 0)), (.k (.i 1))]),
  ao 6 115 (.un .not (.t 114))]
def r34_17 : List AOper := [ao 0 2 (.mv (.k (.b false)))]
def c34_18 : ACode := .seq (.reg r34_17) .ret
def c34_19 : ACode := .cond (.t 115) c34_18 .skip
def c34_20 : ACode := .seq (.reg r34_16) c34_19
def c34_21 : ACode := .block 1 c34_20
def r34_22 : List AOper := [ao 0 107 (.mv (.t 5)),
  ao 1 108 (.bin .add (.t 107) (.k (.i 1))),
  ao 2 5 (.mv (.t 108))]
def c34_23 : ACode := .seq c34_15 (.seq c34_21 (.reg r34_22))
def c34_24 : ACode := .loop c34_23
def c34_25 : ACode := .block 0 c34_24
def c34_26 : ACode := .seq (.reg r34_12) c34_25
def r34_27 : List AOper := [ao 0 6 (.mv (.k (.i 0)))]
def r34_28 : List AOper := [ao 0 116 (.mv (.t 6)),
  ao 1 117 (.fa 6 (.t 1)),
  ao 2 118 (.ld 1 false (.t 117)),
  ao 3 119 (.len (.t 118)),
  ao 4 120 (.bin .lss (.t 116) (.t 119))]
def c34_29 : ACode := .cond (.t 120) .skip (.exit 2)
def c34_30 : ACode := .seq (.reg r34_28) c34_29
def r34_31 : List AOper := [ao 0 123 (.fa 6 (.t 1)),
  ao 1 124 (.ld 1 false (.t 123)),
  ao 2 125 (.mv (.t 6)),
  ao 3 126 (.ia 2 (.t 124) (.t 125)),
  ao 4 127 (.ld 2 true (.t 126)),
  ao 5 7 (.alloc 68 [(.v (.s (.int .i64 0))), (.v (.s (.int .i64 0)))]),
  an 6 (.st 2 (.t 7) (.t 127))]
def r34_32 : List AOper := [ao 0 128 (.fa 0 (.t 7)),
  ao 1 129 (.ld 1 false (.t 128)),
  ao 2 130 (.bin .eql (.t 129) (.k (.i 1))),
  ao 3 131 (.mv (.t 130)),
  ag 4 132 131 false [] (.fa 0 (.t 7)),
  ag 5 133 131 false [] (.ld 1 false (.t 132)),
  ag 6 134 131 false [] (.bin .eql (.t 133) (.k (.i 2))),
  ao 7 135 (.pick (.t 131) (.k (.b true)) (.t 134)),
  ao 8 8 (.mv (.t 135))]
def r34_33 : List AOper := [ao 0 136 (.fa 0 (.t 7)),
  ao 1 137 (.ld 1 false (.t 136)),
  ao 2 138 (.call (.k (.c (.fn 52 []))) [(.t 137), (.k (.i 0)), (.k (.i 3))]),
  ao 3 139 (.un .not (.t 138)),
  ao 4 140 (.mv (.t 139)),
  ag 5 141 140 false [] (.mv (.t 8)),
  ag 6 142 140 false [] (.un .not (.t 141)),
  ag 7 143 140 false [] (.mv (.t 142)),
  ag 8 144 143 true [] (.fa 1 (.t 7)),
  ag 9 145 143 true [] (.ld 1 false (.t 144)),
  ag 10 146 143 true [] (.bin .neq (.t 145) (.k (.i 0))),
  ag 11 147 140 false [] (.pick (.t 143) (.t 146) (.k (.b false))),
  ao 12 148 (.pick (.t 140) (.k (.b true)) (.t 147))]
def r34_34 : List AOper := [ao 0 2 (.mv (.k (.b false)))]
def c34_35 : ACode := .seq (.reg r34_34) .ret
def c34_36 : ACode := .cond (.t 148) c34_35 .skip
def c34_37 : ACode := .seq (.reg r34_31) (.seq (.reg r34_32) (.seq (.reg r34_33) c34_36))
def c34_38 : ACode := .block 3 c34_37
def r34_39 : List AOper := [ao 0 121 (.mv (.t 6)),
  ao 1 122 (.bin .add (.t 121) (.k (.i 1))),
  ao 2 6 (.mv (.t 122))]
def c34_40 : ACode := .seq c34_30 (.seq c34_38 (.reg r34_39))
def c34_41 : ACode := .loop c34_40
def c34_42 : ACode := .block 2 c34_41
def c34_43 : ACode := .seq (.reg r34_27) c34_42
def r34_44 : List AOper := [ao 0 149 (.fa 4 (.t 1)),
  ao 1 150 (.ld 1 false (.t 149)),
  ao 2 151 (.call (.k (.c (.fn 52 []))) [(.t 150), (.k (.i 0)), (.k (.i 3))]),
  ao 3 152 (.mv (.t 151)),
  ag 4 153 152 true [] (.fa 7 (.t 1)),
  ag 5 154 152 true [] (.ld 1 false (.t 153)),
  ag 6 155 152 true [] (.call (.k (.c (.fn 52 []))) [(.t 154), (.k (.i 0)), (.k (.i 1))]),
  ao 7 156 (.pick (.t 152) (.t 155) (.k (.b false))),
  ao 8 157 (.mv (.t 156)),
  ag 9 158 157 true [] (.fa 9 (.t 1)),
  ag 10 159 157 true [] (.ld 1 false (.t 158)),
  ag 11 160 157 true [] (.call (.k (.c (.fn 52 []))) [(.t 159), (.k (.i 0)), (.k (.i 5))]),
  ao 12 161 (.pick (.t 157) (.t 160) (.k (.b false))),
  ao 13 162 (.mv (.t 161)),
  ag 14 163 162 true [] (.fa 13 (.t 1)),
  ag 15 164 162 true [] (.ld 1 false (.t 163)),
  ag 16 165 162 true [] (.call (.k (.c (.fn 52 []))) [(.t 164), (.k (.i 0)), (.k (.i 1))]),
  ao 17 166 (.pick (.t 162) (.t 165) (.k (.b false))),
  ao 18 2 (.mv (.t 166))]
def c34 : ACode := .seq (.reg r34_0) (.seq (.reg r34_1) (.seq c34_6 (.seq c34_11 (.seq c34_26 (.seq c34_43 (.seq (.reg r34_44) .ret))))))
def s34 : List ARes := [.tmp 2]
theorem ok34 : okF Tryz.prog 34 167 c34 s34 := ⟨Tryz.f34, Tryz.func34, Tryz.ntmps34, by kernel_rfl, by kernel_rfl, by kernel_rfl⟩
def inv45a (w : CW) (i : Nat) (σ : St) : Prop := (∀ j : Nat, j < i → ∀ s, w.shut[j]? = some s → 0 ≤ s ∧ s ≤ 1) ∧ σ.t 1 = .c (.ptr 1 0 0) ∧ σ.H 1 = some (cwB 0 w) ∧ σ.t 5 = .i i
def inv45b (w : CW) (i : Nat) (σ : St) : Prop := (∀ j : Nat, j < i → ∀ s, w.hands[j]? = some s → HdOk s) ∧ σ.t 1 = .c (.ptr 1 0 0) ∧ σ.H 1 = some (cwB 0 w) ∧ σ.t 6 = .i i
theorem upto_mem {α : Type} {p : α → Prop} {xs : List α} {n : Nat} (h : ∀ j : Nat, j < n → ∀ s, xs[j]? = some s → p s) (hn : xs.length ≤ n) : ∀ s ∈ xs, p s := fun s hs => by
  obtain ⟨j, hj⟩ := List.mem_iff_getElem?.1 hs
  exact h j (by have := (List.getElem?_eq_some_iff.1 hj).1; omega) s hj
theorem upto_next {α : Type} {p : α → Prop} {xs : List α} {i : Nat} {x : α} (h : ∀ j : Nat, j < i → ∀ s, xs[j]? = some s → p s) (hx : xs[i]? = some x) (hp : p x) : ∀ j : Nat, j < i + 1 → ∀ s, xs[j]? = some s → p s := fun j hj s hs => by
  rcases Nat.lt_succ_iff_lt_or_eq.1 hj with hj | rfl
  · exact h j hj s hs
  · rw [hx] at hs; cases hs; exact hp
def UCc_1 := Bx.mk <|
  aN (uA c34.eq_1) <| aN (uR r34_0.eq_1) <| aN (uR r34_1.eq_1) <| aN (uA c34_6.eq_1) <| aN (uR r34_2.eq_1) <| aN (uA c34_5.eq_1) <| aN (uA c34_4.eq_1) <| aN (uR r34_3.eq_1) <| aN (uA c34_11.eq_1) <| aN (uR r34_7.eq_1) <| aN (uA c34_10.eq_1) <| aN (uA c34_9.eq_1) <| aN (uR r34_8.eq_1) <| aN (uA c34_26.eq_1) <| aN (uR r34_12.eq_1) <| aN (uA c34_25.eq_1) <| aN (uA c34_24.eq_1) <| aN (uA c34_43.eq_1) <| aN (uR r34_27.eq_1) <| aN (uA c34_42.eq_1) <| aN (uA c34_41.eq_1) <| aN (uR r34_44.eq_1) <| s34.eq_1
def UCc_2 := Bx.mk <|
  aN (uA c34_23.eq_1) <| aN (uA c34_15.eq_1) <| aN (uR r34_13.eq_1) <| aN (uA c34_14.eq_1) <| aN (uA c34_21.eq_1) <| aN (uA c34_20.eq_1) <| aN (uR r34_16.eq_1) <| aN (uA c34_19.eq_1) <| aN (uA c34_18.eq_1) <| aN (uR r34_17.eq_1) <| aN (uR r34_22.eq_1) <| aN (uA c34.eq_1) <| aN (uR r34_0.eq_1) <| aN (uR r34_1.eq_1) <| aN (uA c34_6.eq_1) <| aN (uR r34_2.eq_1) <| aN (uA c34_5.eq_1) <| aN (uA c34_4.eq_1) <| aN (uR r34_3.eq_1) <| aN (uA c34_11.eq_1) <| aN (uR r34_7.eq_1) <| aN (uA c34_10.eq_1) <| aN (uA c34_9.eq_1) <| aN (uR r34_8.eq_1) <| aN (uA c34_26.eq_1) <| aN (uR r34_12.eq_1) <| aN (uA c34_25.eq_1) <| aN (uA c34_24.eq_1) <| aN (uA c34_43.eq_1) <| aN (uR r34_27.eq_1) <| aN (uA c34_42.eq_1) <| aN (uA c34_41.eq_1) <| aN (uR r34_44.eq_1) <| s34.eq_1
def UCc_3 := Bx.mk <|
  aN (uA c34_40.eq_1) <| aN (uA c34_30.eq_1) <| aN (uR r34_28.eq_1) <| aN (uA c34_29.eq_1) <| aN (uA c34_38.eq_1) <| aN (uA c34_37.eq_1) <| aN (uR r34_31.eq_1) <| aN (uR r34_32.eq_1) <| aN (uR r34_33.eq_1) <| aN (uA c34_36.eq_1) <| aN (uA c34_35.eq_1) <| aN (uR r34_34.eq_1) <| aN (uR r34_39.eq_1) <| aN (uA c34.eq_1) <| aN (uR r34_0.eq_1) <| aN (uR r34_1.eq_1) <| aN (uA c34_6.eq_1) <| aN (uR r34_2.eq_1) <| aN (uA c34_5.eq_1) <| aN (uA c34_4.eq_1) <| aN (uR r34_3.eq_1) <| aN (uA c34_11.eq_1) <| aN (uR r34_7.eq_1) <| aN (uA c34_10.eq_1) <| aN (uA c34_9.eq_1) <| aN (uR r34_8.eq_1) <| aN (uA c34_26.eq_1) <| aN (uR r34_12.eq_1) <| aN (uA c34_25.eq_1) <| aN (uA c34_24.eq_1) <| aN (uA c34_43.eq_1) <| aN (uR r34_27.eq_1) <| aN (uA c34_42.eq_1) <| aN (uA c34_41.eq_1) <| aN (uR r34_44.eq_1) <| s34.eq_1
set_option maxHeartbeats 1000000 in
theorem form_ok (w : CW) : YN 34 [tCW w] (Form w) := by
  refine PC.intro ok34 rfl (fun _ => rfl) fun X => ?_
  simp only [RZ, reduceAdd, reduceIte, reduceEqDiff, reduceLT, reduceLeDiff, reduceCtorEq, Nat.reduceBEq, UCc_1.d]
  by_cases hst : StartOk w.jobs w.workers w.window
  rotate_left
  · refine callC (start_no hst) rfl rfl rfl rfl ?_
    simp only [RZ, reduceAdd, reduceIte, reduceEqDiff, reduceLT, reduceLeDiff, reduceCtorEq, Nat.reduceBEq, UCc_1.d]
    refine ES.mk false (no fun g => hst g.st) ?_
    simp only [RZ, reduceAdd, reduceIte, reduceEqDiff, reduceLT, reduceLeDiff, reduceCtorEq, Nat.reduceBEq, UCc_1.d]
  refine callC (start_yes hst) rfl rfl rfl rfl ?_
  simp only [RZ, reduceAdd, reduceIte, reduceEqDiff, reduceLT, reduceLeDiff, reduceCtorEq, Nat.reduceBEq, UCc_1.d]
  by_cases h1 : 0 ≤ w.next ∧ w.next ≤ w.jobs
  rotate_left
  · refine callC (l6_no h1) rfl rfl rfl rfl ?_
    simp only [RZ, reduceAdd, reduceIte, reduceEqDiff, reduceLT, reduceLeDiff, reduceCtorEq, Nat.reduceBEq, UCc_1.d]
    refine ES.mk false (no fun g => h1 g.next) ?_
    simp only [RZ, reduceAdd, reduceIte, reduceEqDiff, reduceLT, reduceLeDiff, reduceCtorEq, Nat.reduceBEq, UCc_1.d]
  refine callC (l6_yes h1) rfl rfl rfl rfl ?_
  simp only [RZ, reduceAdd, reduceIte, reduceEqDiff, reduceLT, reduceLeDiff, reduceCtorEq, Nat.reduceBEq, UCc_1.d]
  by_cases h2 : 0 ≤ w.due ∧ w.due ≤ w.next
  rotate_left
  · refine callC (l6_no h2) rfl rfl rfl rfl ?_
    simp only [RZ, reduceAdd, reduceIte, reduceEqDiff, reduceLT, reduceLeDiff, reduceCtorEq, Nat.reduceBEq, UCc_1.d]
    refine ES.mk false (no fun g => h2 g.due) ?_
    simp only [RZ, reduceAdd, reduceIte, reduceEqDiff, reduceLT, reduceLeDiff, reduceCtorEq, Nat.reduceBEq, UCc_1.d]
  refine callC (l6_yes h2) rfl rfl rfl rfl ?_
  simp only [RZ, reduceAdd, reduceIte, reduceEqDiff, reduceLT, reduceLeDiff, reduceCtorEq, Nat.reduceBEq, UCc_1.d]
  by_cases h3 : 0 ≤ w.room ∧ w.room ≤ w.window
  rotate_left
  · refine callC (l6_no h3) rfl rfl rfl rfl ?_
    simp only [RZ, reduceAdd, reduceIte, reduceEqDiff, reduceLT, reduceLeDiff, reduceCtorEq, Nat.reduceBEq, UCc_1.d]
    refine ES.mk false (no fun g => h3 g.room) ?_
    simp only [RZ, reduceAdd, reduceIte, reduceEqDiff, reduceLT, reduceLeDiff, reduceCtorEq, Nat.reduceBEq, UCc_1.d]
  refine callC (l6_yes h3) rfl rfl rfl rfl ?_
  simp only [RZ, reduceAdd, reduceIte, reduceEqDiff, reduceLT, reduceLeDiff, reduceCtorEq, Nat.reduceBEq, UCc_1.d]
  by_cases h4 : w.ops < 0
  · simp only [RZ, reduceAdd, reduceIte, reduceEqDiff, reduceLT, reduceLeDiff, reduceCtorEq, Nat.reduceBEq, UCc_1.d, h4]
    refine ES.mk false (no fun g => absurd g.ops0 (by omega)) ?_
    simp only [RZ, reduceAdd, reduceIte, reduceEqDiff, reduceLT, reduceLeDiff, reduceCtorEq, Nat.reduceBEq, UCc_1.d, h4]
  simp only [RZ, reduceAdd, reduceIte, reduceEqDiff, reduceLT, reduceLeDiff, reduceCtorEq, Nat.reduceBEq, UCc_1.d, h4]
  by_cases h5 : w.ops > 10000
  · simp only [RZ, reduceAdd, reduceIte, reduceEqDiff, reduceLT, reduceLeDiff, reduceCtorEq, Nat.reduceBEq, UCc_1.d, h5]
    refine ES.mk false (no fun g => absurd g.ops1 (by omega)) ?_
    simp only [RZ, reduceAdd, reduceIte, reduceEqDiff, reduceLT, reduceLeDiff, reduceCtorEq, Nat.reduceBEq, UCc_1.d, h5]
  simp only [RZ, reduceAdd, reduceIte, reduceEqDiff, reduceLT, reduceLeDiff, reduceCtorEq, Nat.reduceBEq, UCc_1.d, h5]
  by_cases h6 : (w.hands.length : Int) = w.workers
  rotate_left
  · simp only [RZ, reduceAdd, reduceIte, reduceEqDiff, reduceLT, reduceLeDiff, reduceCtorEq, Nat.reduceBEq, UCc_1.d, en_len, neqn h6]
    refine ES.mk false (no fun g => h6 g.lh) ?_
    simp only [RZ, reduceAdd, reduceIte, reduceEqDiff, reduceLT, reduceLeDiff, reduceCtorEq, Nat.reduceBEq, UCc_1.d, en_len, neqn h6]
  simp only [RZ, reduceAdd, reduceIte, reduceEqDiff, reduceLT, reduceLeDiff, reduceCtorEq, Nat.reduceBEq, UCc_1.d, en_len, eqn h6]
  by_cases h7 : (w.ring.length : Int) = w.window
  rotate_left
  · simp only [RZ, reduceAdd, reduceIte, reduceEqDiff, reduceLT, reduceLeDiff, reduceCtorEq, Nat.reduceBEq, UCc_1.d, en_len, neqn h7]
    refine ES.mk false (no fun g => h7 g.lr) ?_
    simp only [RZ, reduceAdd, reduceIte, reduceEqDiff, reduceLT, reduceLeDiff, reduceCtorEq, Nat.reduceBEq, UCc_1.d, en_len, neqn h7]
  simp only [RZ, reduceAdd, reduceIte, reduceEqDiff, reduceLT, reduceLeDiff, reduceCtorEq, Nat.reduceBEq, UCc_1.d, en_len, eqn h7]
  by_cases h8 : (w.shut.length : Int) = 4
  rotate_left
  · simp only [RZ, reduceAdd, reduceIte, reduceEqDiff, reduceLT, reduceLeDiff, reduceCtorEq, Nat.reduceBEq, UCc_1.d, en_len, neqn h8]
    refine ES.mk false (no fun g => h8 g.ls) ?_
    simp only [RZ, reduceAdd, reduceIte, reduceEqDiff, reduceLT, reduceLeDiff, reduceCtorEq, Nat.reduceBEq, UCc_1.d, en_len, neqn h8]
  simp only [RZ, reduceAdd, reduceIte, reduceEqDiff, reduceLT, reduceLeDiff, reduceCtorEq, Nat.reduceBEq, UCc_1.d, en_len, eqn h8]
  by_cases h9 : (w.queue.length : Int) > w.workers
  · simp only [RZ, reduceAdd, reduceIte, reduceEqDiff, reduceLT, reduceLeDiff, reduceCtorEq, Nat.reduceBEq, UCc_1.d, en_len, h9]
    refine ES.mk false (no fun g => absurd g.lq (by omega)) ?_
    simp only [RZ, reduceAdd, reduceIte, reduceEqDiff, reduceLT, reduceLeDiff, reduceCtorEq, Nat.reduceBEq, UCc_1.d, en_len, h9]
  simp only [RZ, reduceAdd, reduceIte, reduceEqDiff, reduceLT, reduceLeDiff, reduceCtorEq, Nat.reduceBEq, UCc_1.d, en_len, h9]
  by_cases h10 : (w.results.length : Int) > w.workers
  · simp only [RZ, reduceAdd, reduceIte, reduceEqDiff, reduceLT, reduceLeDiff, reduceCtorEq, Nat.reduceBEq, UCc_1.d, en_len, h10]
    refine ES.mk false (no fun g => absurd g.le (by omega)) ?_
    simp only [RZ, reduceAdd, reduceIte, reduceEqDiff, reduceLT, reduceLeDiff, reduceCtorEq, Nat.reduceBEq, UCc_1.d, en_len, h10]
  simp only [RZ, reduceAdd, reduceIte, reduceEqDiff, reduceLT, reduceLeDiff, reduceCtorEq, Nat.reduceBEq, UCc_1.d, en_len, h10]
  by_cases h11 : (w.out.length : Int) > 1
  · simp only [RZ, reduceAdd, reduceIte, reduceEqDiff, reduceLT, reduceLeDiff, reduceCtorEq, Nat.reduceBEq, UCc_1.d, en_len, h11]
    refine ES.mk false (no fun g => absurd g.lo (by omega)) ?_
    simp only [RZ, reduceAdd, reduceIte, reduceEqDiff, reduceLT, reduceLeDiff, reduceCtorEq, Nat.reduceBEq, UCc_1.d, en_len, h11]
  simp only [RZ, reduceAdd, reduceIte, reduceEqDiff, reduceLT, reduceLeDiff, reduceCtorEq, Nat.reduceBEq, UCc_1.d, en_len, h11]
  by_cases h12 : (w.got.length : Int) > w.jobs
  · simp only [RZ, reduceAdd, reduceIte, reduceEqDiff, reduceLT, reduceLeDiff, reduceCtorEq, Nat.reduceBEq, UCc_1.d, en_len, h12]
    refine ES.mk false (no fun g => absurd g.lg (by omega)) ?_
    simp only [RZ, reduceAdd, reduceIte, reduceEqDiff, reduceLT, reduceLeDiff, reduceCtorEq, Nat.reduceBEq, UCc_1.d, en_len, h12]
  simp only [RZ, reduceAdd, reduceIte, reduceEqDiff, reduceLT, reduceLeDiff, reduceCtorEq, Nat.reduceBEq, UCc_1.d, en_len, h12]
  refine AW.upto 4 (inv45a w) ⟨fun j hj => absurd hj (Nat.not_lt_zero j), rfl, rfl, rfl⟩ fun i t H c hi h => ?_
  obtain ⟨a, e1, eH1, e5⟩ := h
  simp only [T.c, T.i] at e1 eH1 e5
  by_cases k1 : (i : Int) < 4
  · obtain ⟨x, hx⟩ : ∃ x, w.shut[i]? = some x := ⟨_, List.getElem?_eq_getElem (by omega)⟩
    have ex := en_at eI hx
    have gz : (0 : Int) ≤ i := by omega
    have gw := w1_ok (i := i) (by omega)
    simp only [RZ, reduceAdd, reduceIte, reduceEqDiff, reduceLT, reduceLeDiff, reduceCtorEq, Nat.reduceBEq, UCc_2.d, e1, eH1, e5, k1, en_len, ex, gz, gw, eI]
    by_cases h13 : 0 ≤ x ∧ x ≤ 1
    rotate_left
    · refine callC (l6_no h13) rfl rfl rfl rfl ?_
      simp only [RZ, reduceAdd, reduceIte, reduceEqDiff, reduceLT, reduceLeDiff, reduceCtorEq, Nat.reduceBEq, UCc_2.d, e1, eH1, e5, k1, en_len, ex, gz, gw, eI]
      refine ES.mk false (no fun g => h13 (g.shut x (List.mem_of_getElem? hx))) ?_
      simp only [RZ, reduceAdd, reduceIte, reduceEqDiff, reduceLT, reduceLeDiff, reduceCtorEq, Nat.reduceBEq, UCc_2.d, e1, eH1, e5, k1, en_len, ex, gz, gw, eI]
    refine callC (l6_yes h13) rfl rfl rfl rfl ?_
    simp only [RZ, reduceAdd, reduceIte, reduceEqDiff, reduceLT, reduceLeDiff, reduceCtorEq, Nat.reduceBEq, UCc_2.d, e1, eH1, e5, k1, en_len, ex, gz, gw, eI]
    exact ⟨by omega, upto_next a hx h13, e1, eH1, rfl⟩
  have a4 := upto_mem a (by omega)
  simp only [RZ, reduceAdd, reduceIte, reduceEqDiff, reduceLT, reduceLeDiff, reduceCtorEq, Nat.reduceBEq, UCc_2.d, UCc_1.d, e1, eH1, e5, k1, en_len]
  refine AW.upto w.hands.length (inv45b w) ⟨fun j hj => absurd hj (Nat.not_lt_zero j), e1, eH1, rfl⟩ fun i t H c hi h => ?_
  clear e1 eH1 e5 k1 a
  obtain ⟨a, e1, eH1, e6⟩ := h
  simp only [T.c, T.i] at e1 eH1 e6
  by_cases k1 : (i : Int) < w.hands.length
  · obtain ⟨x, hx⟩ : ∃ x, w.hands[i]? = some x := ⟨_, List.getElem?_eq_getElem (by omega)⟩
    have ex := en_at eH hx
    have gz : (0 : Int) ≤ i := by omega
    have hst2 := hst.k
    have gw := w1_ok (i := i) (by omega)
    have hbad : ¬ HdOk x → ¬ Form w := fun hn g => hn (g.hand x (List.mem_of_getElem? hx))
    by_cases b1 : x.state = 1 ∨ x.state = 2
    · rcases b1 with b1 | b1
      · have k2 := eqb b1
        have h13 : 0 ≤ x.state ∧ x.state ≤ 3 := by omega
        simp only [RZ, reduceAdd, reduceIte, reduceEqDiff, reduceLT, reduceLeDiff, reduceCtorEq, Nat.reduceBEq, UCc_3.d, e1, eH1, e6, k1, en_len, ex, gz, gw, eH, k2]
        refine callC (l6_yes h13) rfl rfl rfl rfl ?_
        simp only [RZ, reduceAdd, reduceIte, reduceEqDiff, reduceLT, reduceLeDiff, reduceCtorEq, Nat.reduceBEq, UCc_3.d, e1, eH1, e6, k1, en_len, ex, gz, gw, eH, k2]
        exact ⟨by omega, upto_next a hx ⟨h13, .inl b1⟩, e1, eH1, rfl⟩
      · have k2 : (x.state == 1) = false := neqb (by omega)
        have k3 := eqb b1
        have h13 : 0 ≤ x.state ∧ x.state ≤ 3 := by omega
        simp only [RZ, reduceAdd, reduceIte, reduceEqDiff, reduceLT, reduceLeDiff, reduceCtorEq, Nat.reduceBEq, UCc_3.d, e1, eH1, e6, k1, en_len, ex, gz, gw, eH, k2, k3]
        refine callC (l6_yes h13) rfl rfl rfl rfl ?_
        simp only [RZ, reduceAdd, reduceIte, reduceEqDiff, reduceLT, reduceLeDiff, reduceCtorEq, Nat.reduceBEq, UCc_3.d, e1, eH1, e6, k1, en_len, ex, gz, gw, eH, k2, k3]
        exact ⟨by omega, upto_next a hx ⟨h13, .inr (.inl b1)⟩, e1, eH1, rfl⟩
    · have k2 : (x.state == 1) = false := neqb (by omega)
      have k3 : (x.state == 2) = false := neqb (by omega)
      simp only [RZ, reduceAdd, reduceIte, reduceEqDiff, reduceLT, reduceLeDiff, reduceCtorEq, Nat.reduceBEq, UCc_3.d, e1, eH1, e6, k1, en_len, ex, gz, gw, eH, k2, k3]
      by_cases h13 : 0 ≤ x.state ∧ x.state ≤ 3
      · refine callC (l6_yes h13) rfl rfl rfl rfl ?_
        by_cases h14 : x.job = 0
        · have k4 := eqn h14
          simp only [RZ, reduceAdd, reduceIte, reduceEqDiff, reduceLT, reduceLeDiff, reduceCtorEq, Nat.reduceBEq, UCc_3.d, e1, eH1, e6, k1, en_len, ex, gz, gw, eH, k2, k3, k4]
          exact ⟨by omega, upto_next a hx ⟨h13, .inr (.inr h14)⟩, e1, eH1, rfl⟩
        · have k4 := neqn h14
          simp only [RZ, reduceAdd, reduceIte, reduceEqDiff, reduceLT, reduceLeDiff, reduceCtorEq, Nat.reduceBEq, UCc_3.d, e1, eH1, e6, k1, en_len, ex, gz, gw, eH, k2, k3, k4]
          refine ES.mk false (no (hbad fun q => by have := q.job; omega)) ?_
          simp only [RZ, reduceAdd, reduceIte, reduceEqDiff, reduceLT, reduceLeDiff, reduceCtorEq, Nat.reduceBEq, UCc_3.d, e1, eH1, e6, k1, en_len, ex, gz, gw, eH, k2, k3, k4]
      · refine callC (l6_no h13) rfl rfl rfl rfl ?_
        simp only [RZ, reduceAdd, reduceIte, reduceEqDiff, reduceLT, reduceLeDiff, reduceCtorEq, Nat.reduceBEq, UCc_3.d, e1, eH1, e6, k1, en_len, ex, gz, gw, eH, k2, k3]
        refine ES.mk false (no (hbad fun q => h13 q.state)) ?_
        simp only [RZ, reduceAdd, reduceIte, reduceEqDiff, reduceLT, reduceLeDiff, reduceCtorEq, Nat.reduceBEq, UCc_3.d, e1, eH1, e6, k1, en_len, ex, gz, gw, eH, k2, k3]
  have a5 := upto_mem a (by omega)
  simp only [RZ, reduceAdd, reduceIte, reduceEqDiff, reduceLT, reduceLeDiff, reduceCtorEq, Nat.reduceBEq, UCc_3.d, UCc_1.d, e1, eH1, e6, k1, en_len]
  by_cases h15 : 0 ≤ w.reader ∧ w.reader ≤ 3
  rotate_left
  · refine callC (l6_no h15) rfl rfl rfl rfl ?_
    simp only [RZ, reduceAdd, reduceIte, reduceEqDiff, reduceLT, reduceLeDiff, reduceCtorEq, Nat.reduceBEq, UCc_3.d, UCc_1.d, e1, eH1, e6, k1, en_len]
    refine ES.mk false (no fun g => h15 g.rd) ?_
    simp only [RZ, reduceAdd, reduceIte, reduceEqDiff, reduceLT, reduceLeDiff, reduceCtorEq, Nat.reduceBEq, UCc_3.d, UCc_1.d, e1, eH1, e6, k1, en_len]
  refine callC (l6_yes h15) rfl rfl rfl rfl ?_
  simp only [RZ, reduceAdd, reduceIte, reduceEqDiff, reduceLT, reduceLeDiff, reduceCtorEq, Nat.reduceBEq, UCc_3.d, UCc_1.d, e1, eH1, e6, k1, en_len]
  by_cases h16 : 0 ≤ w.closer ∧ w.closer ≤ 1
  rotate_left
  · refine callC (l6_no h16) rfl rfl rfl rfl ?_
    simp only [RZ, reduceAdd, reduceIte, reduceEqDiff, reduceLT, reduceLeDiff, reduceCtorEq, Nat.reduceBEq, UCc_3.d, UCc_1.d, e1, eH1, e6, k1, en_len]
    refine ES.mk false (no fun g => h16 g.cl) ?_
    simp only [RZ, reduceAdd, reduceIte, reduceEqDiff, reduceLT, reduceLeDiff, reduceCtorEq, Nat.reduceBEq, UCc_3.d, UCc_1.d, e1, eH1, e6, k1, en_len]
  refine callC (l6_yes h16) rfl rfl rfl rfl ?_
  simp only [RZ, reduceAdd, reduceIte, reduceEqDiff, reduceLT, reduceLeDiff, reduceCtorEq, Nat.reduceBEq, UCc_3.d, UCc_1.d, e1, eH1, e6, k1, en_len]
  by_cases h17 : 0 ≤ w.keeper ∧ w.keeper ≤ 5
  rotate_left
  · refine callC (l6_no h17) rfl rfl rfl rfl ?_
    simp only [RZ, reduceAdd, reduceIte, reduceEqDiff, reduceLT, reduceLeDiff, reduceCtorEq, Nat.reduceBEq, UCc_3.d, UCc_1.d, e1, eH1, e6, k1, en_len]
    refine ES.mk false (no fun g => h17 g.kp) ?_
    simp only [RZ, reduceAdd, reduceIte, reduceEqDiff, reduceLT, reduceLeDiff, reduceCtorEq, Nat.reduceBEq, UCc_3.d, UCc_1.d, e1, eH1, e6, k1, en_len]
  refine callC (l6_yes h17) rfl rfl rfl rfl ?_
  simp only [RZ, reduceAdd, reduceIte, reduceEqDiff, reduceLT, reduceLeDiff, reduceCtorEq, Nat.reduceBEq, UCc_3.d, UCc_1.d, e1, eH1, e6, k1, en_len]
  by_cases h18 : 0 ≤ w.user ∧ w.user ≤ 1
  rotate_left
  · refine callC (l6_no h18) rfl rfl rfl rfl ?_
    simp only [RZ, reduceAdd, reduceIte, reduceEqDiff, reduceLT, reduceLeDiff, reduceCtorEq, Nat.reduceBEq, UCc_3.d, UCc_1.d, e1, eH1, e6, k1, en_len]
    refine ES.mk false (no fun g => h18 g.us) ?_
    simp only [RZ, reduceAdd, reduceIte, reduceEqDiff, reduceLT, reduceLeDiff, reduceCtorEq, Nat.reduceBEq, UCc_3.d, UCc_1.d, e1, eH1, e6, k1, en_len]
  refine callC (l6_yes h18) rfl rfl rfl rfl ?_
  simp only [RZ, reduceAdd, reduceIte, reduceEqDiff, reduceLT, reduceLeDiff, reduceCtorEq, Nat.reduceBEq, UCc_3.d, UCc_1.d, e1, eH1, e6, k1, en_len]
  refine ES.mk true (yes ⟨hst, h1, h2, h3, by omega, by omega, h6, h7, h8, by omega, by omega, by omega, by omega, a4, a5, h15, h16, h17, h18⟩) ?_
  simp only [RZ, reduceAdd, reduceIte, reduceEqDiff, reduceLT, reduceLeDiff, reduceCtorEq, Nat.reduceBEq, UCc_3.d, UCc_1.d, e1, eH1, e6, k1, en_len]
end Go.V
set_option linter.unusedSimpArgs false
namespace Go.V
open Go.Proofs
open Nat (reduceAdd reduceEqDiff reduceLT reduceLeDiff)
def hJobs (hs : List Hd) : List Int := hs.filterMap fun h => if h.state = 1 ∨ h.state = 2 then some h.job else none
def rJobs (rs : List Int) : List Int := rs.filter fun x => decide (0 ≤ x)
/-- Where jobs are that were read and not given yet. -/
def sent (w : CW) : List Int := if w.reader = 1 then [w.next - 1] else []
def places (w : CW) : List Int := sent w ++ w.queue ++ hJobs w.hands ++ w.results ++ rJobs w.ring
theorem hJobs_take {hs : List Hd} {i : Nat} {h : Hd} (hx : hs[i]? = some h) : hJobs (hs.take (i + 1)) = if h.state = 1 ∨ h.state = 2 then hJobs (hs.take i) ++ [h.job] else hJobs (hs.take i) := by
  rw [List.take_add_one, hx, hJobs, List.filterMap_append, hJobs]
  by_cases hc : h.state = 1 ∨ h.state = 2 <;> simp [hc]
theorem rJobs_take {rs : List Int} {i : Nat} {x : Int} (hx : rs[i]? = some x) : rJobs (rs.take (i + 1)) = if 0 ≤ x then rJobs (rs.take i) ++ [x] else rJobs (rs.take i) := by
  rw [List.take_add_one, hx, rJobs, List.filter_append, rJobs]
  by_cases hc : 0 ≤ x <;> simp [hc]
theorem hJobs_len (hs : List Hd) : (hJobs hs).length ≤ hs.length := List.length_filterMap_le _ _
theorem rJobs_len (rs : List Int) : (rJobs rs).length ≤ rs.length := List.length_filter_le _ _
theorem take_le {α : Type} (xs : List α) (n : Nat) : (xs.take n).length ≤ xs.length := by rw [List.length_take]; omega
theorem sent_len (w : CW) : (sent w).length ≤ 1 := by unfold sent; split <;> simp
theorem places_len {w : CW} (h : Form w) : (places w).length ≤ 41 := by
  have h0 := sent_len w
  have h1 := h.lq
  have h2 := h.le
  have h3 := hJobs_len w.hands
  have h4 := rJobs_len w.ring
  have h5 := h.lh
  have h6 := h.lr
  have h7 := h.st.k
  have h8 := h.st.n
  simp only [places, List.length_append]
  omega
/- loop.example/teagle/spec.l51Places -/
def r72_0 : List AOper := [ao 0 1 (.box 26 (.t 0)),
  ao 1 2 (.mv (.k (.c .nil0)))]
def r72_1 : List AOper := [ao 0 6 (.bsl 1 3 []),
  ao 1 3 (.mv (.t 6))]
def r72_2 : List AOper := [ao 0 7 (.fa 4 (.t 1)),
  ao 1 8 (.ld 1 false (.t 7)),
  ao 2 9 (.bin .eql (.t 8) (.k (.i 1)))]
def r72_3 : List AOper := [ao 0 10 (.mv (.t 3)),
  ao 1 11 (.fa 3 (.t 1)),
  ao 2 12 (.ld 1 false (.t 11)),
  ao 3 13 (.bin .sub (.t 12) (.k (.i 1))),
  ao 4 14 (.bsl 1 3 [(.t 13)]),
  ao 5 15 (.app 1 3 8 (.t 10) (.t 14)),
  ao 6 3 (.mv (.t 15))]
def c72_4 : ACode := .cond (.t 9) (.reg r72_3) .skip
def c72_5 : ACode := .seq (.reg r72_2) c72_4
def r72_6 : List AOper := [ao 0 16 (.mv (.t 3)),
  ao 1 17 (.fa 5 (.t 1)),
  ao 2 18 (.ld 1 false (.t 17)),
  ao 3 19 (.app 1 3 8 (.t 16) (.t 18)),
  ao 4 3 (.mv (.t 19))]
def r72_7 : List AOper := [ao 0 4 (.mv (.k (.i 0)))]
def r72_8 : List AOper := [ao 0 20 (.mv (.t 4)),
  ao 1 21 (.fa 6 (.t 1)),
  ao 2 22 (.ld 1 false (.t 21)),
  ao 3 23 (.len (.t 22)),
  ao 4 24 (.bin .lss (.t 20) (.t 23))]
def c72_9 : ACode := .cond (.t 24) .skip (.exit 0)
def c72_10 : ACode := .seq (.reg r72_8) c72_9
def r72_11 : List AOper := [ao 0 27 (.fa 6 (.t 1)),
  ao 1 28 (.ld 1 false (.t 27)),
  ao 2 29 (.mv (.t 4)),
  ao 3 30 (.ia 2 (.t 28) (.t 29)),
  ao 4 31 (.fa 0 (.t 30)),
  ao 5 32 (.ld 1 false (.t 31)),
  ao 6 33 (.bin .eql (.t 32) (.k (.i 1))),
  ao 7 34 (.mv (.t 33)),
  ag 8 35 34 false [] (.fa 6 (.t 1)),
  ag 9 36 34 false [] (.ld 1 false (.t 35)),
  ag 10 37 34 false [] (.mv (.t 4)),
  ag 11 38 34 false [] (.ia 2 (.t 36) (.t 37)),
  ag 12 39 34 false [] (.fa 0 (.t 38)),
  ag 13 40 34 false [] (.ld 1 false (.t 39)),
  ag 14 41 34 false [] (.bin .eql (.t 40) (.k (.i 2))),
  ao 15 42 (.pick (.t 34) (.k (.b true)) (.t 41))]
def r72_12 : List AOper := [ao 0 43 (.mv (.t 3)),
  ao 1 44 (.fa 6 (.t 1)),
  ao 2 45 (.ld 1 false (.t 44)),
  ao 3 46 (.mv (.t 4)),
  ao 4 47 (.ia 2 (.t 45) (.t 46)),
  ao 5 48 (.fa 1 (.t 47)),
  ao 6 49 (.ld 1 false (.t 48)),
  ao 7 50 (.bsl 1 3 [(.t 49)]),
  ao 8 51 (.app 1 3 8 (.t 43) (.t 50)),
  ao 9 3 (.mv (.t 51))]
def c72_13 : ACode := .cond (.t 42) (.reg r72_12) .skip
def c72_14 : ACode := .seq (.reg r72_11) c72_13
def c72_15 : ACode := .block 1 c72_14
def r72_16 : List AOper := [ao 0 25 (.mv (.t 4)),
  ao 1 26 (.bin .add (.t 25) (.k (.i 1))),
  ao 2 4 (.mv (.t 26))]
def c72_17 : ACode := .seq c72_10 (.seq c72_15 (.reg r72_16))
def c72_18 : ACode := .loop c72_17
def c72_19 : ACode := .block 0 c72_18
def c72_20 : ACode := .seq (.reg r72_7) c72_19
def r72_21 : List AOper := [ao 0 52 (.mv (.t 3)),
  ao 1 53 (.fa 8 (.t 1)),
  ao 2 54 (.ld 1 false (.t 53)),
  ao 3 55 (.app 1 3 8 (.t 52) (.t 54)),
  ao 4 3 (.mv (.t 55))]
def r72_22 : List AOper := [ao 0 5 (.mv (.k (.i 0)))]
def r72_23 : List AOper := [ao 0 56 (.mv (.t 5)),
  ao 1 57 (.fa 10 (.t 1)),
  ao 2 58 (.ld 1 false (.t 57)),
  ao 3 59 (.len (.t 58)),
  ao 4 60 (.bin .lss (.t 56) (.t 59))]
def c72_24 : ACode := .cond (.t 60) .skip (.exit 2)
def c72_25 : ACode := .seq (.reg r72_23) c72_24
def r72_26 : List AOper := [ao 0 63 (.fa 10 (.t 1)),
  ao 1 64 (.ld 1 false (.t 63)),
  ao 2 65 (.mv (.t 5)),
  ao 3 66 (.ia 1 (.t 64) (.t 65)),
  ao 4 67 (.ld 1 false (.t 66)),
  ao 5 68 (.bin .geq (.t 67) (.k (.i 0)))]
def r72_27 : List AOper := [ao 0 69 (.mv (.t 3)),
  ao 1 70 (.fa 10 (.t 1)),
  ao 2 71 (.ld 1 false (.t 70)),
  ao 3 72 (.mv (.t 5)),
  ao 4 73 (.ia 1 (.t 71) (.t 72)),
  ao 5 74 (.ld 1 false (.t 73)),
  ao 6 75 (.bsl 1 3 [(.t 74)]),
  ao 7 76 (.app 1 3 8 (.t 69) (.t 75)),
  ao 8 3 (.mv (.t 76))]
def c72_28 : ACode := .cond (.t 68) (.reg r72_27) .skip
def c72_29 : ACode := .seq (.reg r72_26) c72_28
def c72_30 : ACode := .block 3 c72_29
def r72_31 : List AOper := [ao 0 61 (.mv (.t 5)),
  ao 1 62 (.bin .add (.t 61) (.k (.i 1))),
  ao 2 5 (.mv (.t 62))]
def c72_32 : ACode := .seq c72_25 (.seq c72_30 (.reg r72_31))
def c72_33 : ACode := .loop c72_32
def c72_34 : ACode := .block 2 c72_33
def c72_35 : ACode := .seq (.reg r72_22) c72_34
def r72_36 : List AOper := [ao 0 77 (.mv (.t 3)),
  ao 1 2 (.mv (.t 77))]
def c72 : ACode := .seq (.reg r72_0) (.seq (.reg r72_1) (.seq c72_5 (.seq (.reg r72_6) (.seq c72_20 (.seq (.reg r72_21) (.seq c72_35 (.seq (.reg r72_36) .ret)))))))
def s72 : List ARes := [.tmp 2]
theorem ok72 : okF Tryz.prog 72 78 c72 s72 := ⟨Tryz.f72, Tryz.func72, Tryz.ntmps72, by kernel_rfl, by kernel_rfl, by kernel_rfl⟩
def inv80a (w : CW) (A : List Int) (i : Nat) (σ : St) : Prop := σ.t 1 = .c (.ptr 1 0 0) ∧ σ.H 1 = some (cwB 0 w) ∧ (∃ v, σ.t 3 = .c (.own 6 v (A ++ hJobs (w.hands.take i)).length) ∧ σ.H 6 = some (.arr v true 1 3 (en eI (A ++ hJobs (w.hands.take i))))) ∧ σ.t 4 = .i i
def inv80b (w : CW) (A : List Int) (i : Nat) (σ : St) : Prop := σ.t 1 = .c (.ptr 1 0 0) ∧ σ.H 1 = some (cwB 0 w) ∧ (∃ v, σ.t 3 = .c (.own 6 v (A ++ rJobs (w.ring.take i)).length) ∧ σ.H 6 = some (.arr v true 1 3 (en eI (A ++ rJobs (w.ring.take i))))) ∧ σ.t 5 = .i i
theorem arr_eq {v st : Nat} {ty : TypeId} {a b : List Int} (h : a = b) : some (Blk.arr v true st ty (en eI a)) = some (Blk.arr v true st ty (en eI b)) := by rw [h]
theorem arr_snoc {v st : Nat} {ty : TypeId} {a b : List Int} {x : Int} (h : b = a ++ [x]) : some (Blk.arr v true st ty (en eI a ++ [[.s (.int .i64 x)]])) = some (Blk.arr v true st ty (en eI b)) := by rw [h, en_snoc]; rfl
theorem own_len {id v m : Nat} {b : List Int} (h : m = b.length) : T.c (.own id v m) = T.c (.own id v b.length) := by rw [h]
def UCd_1 := Bx.mk <|
  aN (uA c72.eq_1) <| aN (uR r72_0.eq_1) <| aN (uR r72_1.eq_1) <| aN (uA c72_5.eq_1) <| aN (uR r72_2.eq_1) <| aN (uA c72_4.eq_1) <| aN (uR r72_3.eq_1) <| aN (uR r72_6.eq_1) <| aN (uA c72_20.eq_1) <| aN (uR r72_7.eq_1) <| aN (uA c72_19.eq_1) <| aN (uA c72_18.eq_1) <| aN (uR r72_21.eq_1) <| aN (uA c72_35.eq_1) <| aN (uR r72_22.eq_1) <| aN (uA c72_34.eq_1) <| aN (uA c72_33.eq_1) <| aN (uR r72_36.eq_1) <| s72.eq_1
def UCd_2 := Bx.mk <|
  aN (uA c72_17.eq_1) <| aN (uA c72_10.eq_1) <| aN (uR r72_8.eq_1) <| aN (uA c72_9.eq_1) <| aN (uA c72_15.eq_1) <| aN (uA c72_14.eq_1) <| aN (uR r72_11.eq_1) <| aN (uA c72_13.eq_1) <| aN (uR r72_12.eq_1) <| aN (uR r72_16.eq_1) <| aN (uA c72.eq_1) <| aN (uR r72_0.eq_1) <| aN (uR r72_1.eq_1) <| aN (uA c72_5.eq_1) <| aN (uR r72_2.eq_1) <| aN (uA c72_4.eq_1) <| aN (uR r72_3.eq_1) <| aN (uR r72_6.eq_1) <| aN (uA c72_20.eq_1) <| aN (uR r72_7.eq_1) <| aN (uA c72_19.eq_1) <| aN (uA c72_18.eq_1) <| aN (uR r72_21.eq_1) <| aN (uA c72_35.eq_1) <| aN (uR r72_22.eq_1) <| aN (uA c72_34.eq_1) <| aN (uA c72_33.eq_1) <| aN (uR r72_36.eq_1) <| s72.eq_1
def UCd_3 := Bx.mk <|
  aN (uA c72_32.eq_1) <| aN (uA c72_25.eq_1) <| aN (uR r72_23.eq_1) <| aN (uA c72_24.eq_1) <| aN (uA c72_30.eq_1) <| aN (uA c72_29.eq_1) <| aN (uR r72_26.eq_1) <| aN (uA c72_28.eq_1) <| aN (uR r72_27.eq_1) <| aN (uR r72_31.eq_1) <| aN (uA c72.eq_1) <| aN (uR r72_0.eq_1) <| aN (uR r72_1.eq_1) <| aN (uA c72_5.eq_1) <| aN (uR r72_2.eq_1) <| aN (uA c72_4.eq_1) <| aN (uR r72_3.eq_1) <| aN (uR r72_6.eq_1) <| aN (uA c72_20.eq_1) <| aN (uR r72_7.eq_1) <| aN (uA c72_19.eq_1) <| aN (uA c72_18.eq_1) <| aN (uR r72_21.eq_1) <| aN (uA c72_35.eq_1) <| aN (uR r72_22.eq_1) <| aN (uA c72_34.eq_1) <| aN (uA c72_33.eq_1) <| aN (uR r72_36.eq_1) <| s72.eq_1
set_option maxHeartbeats 1000000 in
theorem places_ok {w : CW} (h : Form w) : PC 72 [tCW w] (fun xs : List Int => xs = places w) (fun xs => tL (en eI xs)) := by
  have hq := h.lq
  have hk := h.st.k
  have hn := h.st.n
  have hh := h.lh
  have hr := h.lr
  have he := h.le
  have hnx := h.next
  have hj := h.st.j
  have gw1 : IntKind.i64.wrap (w.next - 1) = w.next - 1 := wrap64 ⟨by omega, by omega⟩
  have q1 : w.queue.length * 8 ≤ 140737488355328 := by omega
  have q2 : w.queue.length ≤ 9223372036854775807 := by omega
  have q3 : (1 + w.queue.length) * 8 ≤ 140737488355328 := by omega
  have q4 : 1 + w.queue.length ≤ 9223372036854775807 := by omega
  have q5 : (0 + 1) * 8 ≤ 140737488355328 := by omega
  have q6 : 0 + 1 ≤ 9223372036854775807 := by omega
  refine PC.intro ok72 rfl (fun _ => rfl) fun X => ?_
  have main : ∀ (t : Nat → T) (H : HMap) (c : Nat), inv80a w (sent w ++ w.queue) 0 ⟨t, H, c⟩ → oneW Tryz.prog X (.loop c72_17) (inW 0 (thenW Tryz.prog X (.seq (.reg r72_21) (.seq c72_35 (.seq (.reg r72_36) .ret))) (endE (fun xs : List Int => xs = places w) (fun xs => tL (en eI xs)) (fun _ => []) [.tmp 2]))) ⟨t, H, c⟩ := by
    intro t H c h0
    refine AW.upto w.hands.length (inv80a w (sent w ++ w.queue)) h0 fun i t H c hi h => ?_
    obtain ⟨e1, eH1, ⟨v, e3, eH6⟩, e4⟩ := h
    simp only [T.c, T.i] at e1 eH1 e3 eH6 e4
    have hlA : (sent w ++ w.queue ++ hJobs (w.hands.take i)).length ≤ 41 := by
      have h0 := sent_len w
      have h1 := hJobs_len (w.hands.take i)
      have h2 := take_le w.hands i
      simp only [List.length_append]
      omega
    obtain ⟨B, hB⟩ : ∃ B, sent w ++ w.queue ++ hJobs (w.hands.take i) = B := ⟨_, rfl⟩
    rw [hB] at e3 eH6 hlA
    by_cases k1 : (i : Int) < w.hands.length
    · obtain ⟨x, hx⟩ : ∃ x, w.hands[i]? = some x := ⟨_, List.getElem?_eq_getElem (by omega)⟩
      have ex := en_at eH hx
      have gz : (0 : Int) ≤ i := by omega
      have gw := w1_ok (i := i) (by omega)
      have ht := hJobs_take hx
      have q7 : (B.length + 1) * 8 ≤ 140737488355328 := by omega
      have q8 : B.length + 1 ≤ 9223372036854775807 := by omega
      by_cases b1 : x.state = 1 ∨ x.state = 2
      · rw [if_pos b1] at ht
        have ht2 : sent w ++ w.queue ++ hJobs (w.hands.take (i + 1)) = B ++ [x.job] := by rw [ht, ← hB]; simp only [List.append_assoc]
        rcases b1 with b1 | b1
        · have k2 := eqb b1
          simp only [RZ, reduceAdd, reduceIte, reduceEqDiff, reduceLT, reduceLeDiff, reduceCtorEq, Nat.reduceBEq, UCd_2.d, e1, eH1, e3, eH6, e4, en_len, k1, ex, gz, gw, eH, k2, q7, q8, APT]
          exact ⟨by omega, e1, eH1, ⟨_, own_len (by rw [ht2, List.length_append]; rfl), arr_snoc ht2⟩, rfl⟩
        · have k2 : (x.state == 1) = false := neqb (by omega)
          have k3 := eqb b1
          simp only [RZ, reduceAdd, reduceIte, reduceEqDiff, reduceLT, reduceLeDiff, reduceCtorEq, Nat.reduceBEq, UCd_2.d, e1, eH1, e3, eH6, e4, en_len, k1, ex, gz, gw, eH, k2, k3, q7, q8]
          exact ⟨by omega, e1, eH1, ⟨_, own_len (by rw [ht2, List.length_append]; rfl), arr_snoc ht2⟩, rfl⟩
      · rw [if_neg b1] at ht
        have k2 : (x.state == 1) = false := neqb (by omega)
        have k3 : (x.state == 2) = false := neqb (by omega)
        simp only [RZ, reduceAdd, reduceIte, reduceEqDiff, reduceLT, reduceLeDiff, reduceCtorEq, Nat.reduceBEq, UCd_2.d, e1, eH1, e3, eH6, e4, en_len, k1, ex, gz, gw, eH, k2, k3]
        refine ⟨by omega, e1, eH1, ⟨v, ?_, ?_⟩, rfl⟩
        · show t 3 = _
          rw [ht, hB]; exact e3
        · show H 6 = _
          rw [ht, hB]; exact eH6
    · have hi2 : i = w.hands.length := by omega
      subst hi2
      rw [List.take_length] at hB
      have q9 : (B.length + w.results.length) * 8 ≤ 140737488355328 := by omega
      have q10 : B.length + w.results.length ≤ 9223372036854775807 := by omega
      simp only [RZ, reduceAdd, reduceIte, reduceEqDiff, reduceLT, reduceLeDiff, reduceCtorEq, Nat.reduceBEq, UCd_2.d, UCd_1.d, e1, eH1, e3, eH6, e4, en_len, k1, q9, q10]
      refine AW.upto w.ring.length (inv80b w (B ++ w.results)) ⟨e1, eH1, ⟨_, own_len (by simp [rJobs]), ?_⟩, rfl⟩ fun i t H c hi h => ?_
      · simp only [rJobs, List.take_zero, List.filter_nil, List.append_nil, en_app]; rfl
      clear e1 eH1 e3 eH6 e4 k1
      obtain ⟨e1, eH1, ⟨v, e3, eH6⟩, e5⟩ := h
      simp only [T.c, T.i] at e1 eH1 e3 eH6 e5
      have hlB : (B ++ w.results ++ rJobs (w.ring.take i)).length ≤ 80 := by
        have h1 := rJobs_len (w.ring.take i)
        have h2 := take_le w.ring i
        simp only [List.length_append] at hlA ⊢
        omega
      obtain ⟨D, hD⟩ : ∃ D, B ++ w.results ++ rJobs (w.ring.take i) = D := ⟨_, rfl⟩
      rw [hD] at e3 eH6 hlB
      by_cases k1 : (i : Int) < w.ring.length
      · obtain ⟨x, hx⟩ : ∃ x, w.ring[i]? = some x := ⟨_, List.getElem?_eq_getElem (by omega)⟩
        have ex := en_at eI hx
        have gz : (0 : Int) ≤ i := by omega
        have gw := w1_ok (i := i) (by omega)
        have ht := rJobs_take hx
        have q7 : (D.length + 1) * 8 ≤ 140737488355328 := by omega
        have q8 : D.length + 1 ≤ 9223372036854775807 := by omega
        by_cases b1 : 0 ≤ x
        · rw [if_pos b1] at ht
          have ht2 : B ++ w.results ++ rJobs (w.ring.take (i + 1)) = D ++ [x] := by rw [ht, ← hD]; simp only [List.append_assoc]
          simp only [RZ, reduceAdd, reduceIte, reduceEqDiff, reduceLT, reduceLeDiff, reduceCtorEq, Nat.reduceBEq, UCd_3.d, e1, eH1, e3, eH6, e5, en_len, k1, ex, gz, gw, eI, b1, ge_iff_le, q7, q8]
          exact ⟨by omega, e1, eH1, ⟨_, own_len (by rw [ht2, List.length_append]; rfl), arr_snoc ht2⟩, rfl⟩
        · rw [if_neg b1] at ht
          simp only [RZ, reduceAdd, reduceIte, reduceEqDiff, reduceLT, reduceLeDiff, reduceCtorEq, Nat.reduceBEq, UCd_3.d, e1, eH1, e3, eH6, e5, en_len, k1, ex, gz, gw, eI, b1, ge_iff_le]
          refine ⟨by omega, e1, eH1, ⟨v, ?_, ?_⟩, rfl⟩
          · show t 3 = _
            rw [ht, hD]; exact e3
          · show H 6 = _
            rw [ht, hD]; exact eH6
      · have hi2 : i = w.ring.length := by omega
        subst hi2
        rw [List.take_length] at hD
        simp only [RZ, reduceAdd, reduceIte, reduceEqDiff, reduceLT, reduceLeDiff, reduceCtorEq, Nat.reduceBEq, UCd_3.d, UCd_1.d, e1, eH1, e3, eH6, e5, en_len, k1]
        refine ES.mk D (by rw [← hD, ← hB]; rfl) ?_
        simp only [RZ, reduceAdd, reduceIte, reduceEqDiff, reduceLT, reduceLeDiff, reduceCtorEq, Nat.reduceBEq, UCd_3.d, UCd_1.d, e1, eH1, e3, eH6, e5, en_len, k1]
  by_cases hs : w.reader = 1
  · have k1 := eqb hs
    simp only [RZ, reduceAdd, reduceIte, reduceEqDiff, reduceLT, reduceLeDiff, reduceCtorEq, Nat.reduceBEq, UCd_1.d, gw1, q1, q2, q3, q4, q5, q6, en_len, Nat.zero_add, k1]
    refine main _ _ _ ⟨rfl, rfl, ⟨_, own_len (m := 1 + w.queue.length) (by simp [sent, hs, hJobs]; omega), ?_⟩, rfl⟩
    simp only [sent, hs, if_true, hJobs, List.take_zero, List.filterMap_nil, List.append_nil, en_app]; rfl
  · have k1 := neqb hs
    simp only [RZ, reduceAdd, reduceIte, reduceEqDiff, reduceLT, reduceLeDiff, reduceCtorEq, Nat.reduceBEq, UCd_1.d, gw1, q1, q2, q3, q4, q5, q6, en_len, Nat.zero_add, k1]
    refine main _ _ _ ⟨rfl, rfl, ⟨_, own_len (m := w.queue.length) (by simp [sent, hs, hJobs]), ?_⟩, rfl⟩
    simp only [sent, hs, if_false, hJobs, List.take_zero, List.filterMap_nil, List.append_nil, List.nil_append]; rfl
end Go.V
set_option linter.unusedSimpArgs false
namespace Go.V
open Go.Proofs
open Nat (reduceAdd reduceEqDiff reduceLT reduceLeDiff)
def All (w : CW) : Prop := ∀ h ∈ w.hands, h.state = 3
def Any (w : CW) : Prop := ∃ h ∈ w.hands, h.state = 3
def slot (w : CW) : Nat := (w.due % w.window).toNat
def Due (w : CW) : Prop := w.ring[slot w]? = some w.due
theorem slot_lt {w : CW} (h : Form w) : slot w < w.ring.length := by
  have h1 := h.st.n
  have h2 := h.lr
  have := Int.emod_lt_of_pos w.due (show 0 < w.window by omega)
  have := Int.emod_nonneg w.due (show w.window ≠ 0 by omega)
  unfold slot
  omega
theorem slot_int {w : CW} (h : Form w) : w.due.tmod w.window = (slot w : Int) := by
  have h1 := h.st.n
  have h2 := h.due
  have := Int.emod_nonneg w.due (show w.window ≠ 0 by omega)
  rw [Int.tmod_eq_emod_of_nonneg (by omega)]
  unfold slot
  omega
/- loop.example/teagle/spec.l51All -/
def r69_0 : List AOper := [ao 0 1 (.box 26 (.t 0)),
  ao 1 2 (.mv (.k (.b false)))]
def r69_1 : List AOper := [ao 0 3 (.mv (.k (.i 0)))]
def r69_2 : List AOper := [ao 0 4 (.mv (.t 3)),
  ao 1 5 (.fa 6 (.t 1)),
  ao 2 6 (.ld 1 false (.t 5)),
  ao 3 7 (.len (.t 6)),
  ao 4 8 (.bin .lss (.t 4) (.t 7))]
def c69_3 : ACode := .cond (.t 8) .skip (.exit 0)
def c69_4 : ACode := .seq (.reg r69_2) c69_3
def r69_5 : List AOper := [ao 0 11 (.fa 6 (.t 1)),
  ao 1 12 (.ld 1 false (.t 11)),
  ao 2 13 (.mv (.t 3)),
  ao 3 14 (.ia 2 (.t 12) (.t 13)),
  ao 4 15 (.fa 0 (.t 14)),
  ao 5 16 (.ld 1 false (.t 15)),
  ao 6 17 (.bin .neq (.t 16) (.k (.i 3)))]
def r69_6 : List AOper := [ao 0 2 (.mv (.k (.b false)))]
def c69_7 : ACode := .seq (.reg r69_6) .ret
def c69_8 : ACode := .cond (.t 17) c69_7 .skip
def c69_9 : ACode := .seq (.reg r69_5) c69_8
def c69_10 : ACode := .block 1 c69_9
def r69_11 : List AOper := [ao 0 9 (.mv (.t 3)),
  ao 1 10 (.bin .add (.t 9) (.k (.i 1))),
  ao 2 3 (.mv (.t 10))]
def c69_12 : ACode := .seq c69_4 (.seq c69_10 (.reg r69_11))
def c69_13 : ACode := .loop c69_12
def c69_14 : ACode := .block 0 c69_13
def c69_15 : ACode := .seq (.reg r69_1) c69_14
def r69_16 : List AOper := [ao 0 2 (.mv (.k (.b true)))]
def c69 : ACode := .seq (.reg r69_0) (.seq c69_15 (.seq (.reg r69_16) .ret))
def s69 : List ARes := [.tmp 2]
theorem ok69 : okF Tryz.prog 69 18 c69 s69 := ⟨Tryz.f69, Tryz.func69, Tryz.ntmps69, by kernel_rfl, by kernel_rfl, by kernel_rfl⟩
def inv69 (w : CW) (i : Nat) (σ : St) : Prop := (∀ j : Nat, j < i → ∀ h, w.hands[j]? = some h → h.state = 3) ∧ σ.t 1 = .c (.ptr 1 0 0) ∧ σ.H 1 = some (cwB 0 w) ∧ σ.t 3 = .i i
def UCe_1 := Bx.mk <|
  aN (uA c69.eq_1) <| aN (uR r69_0.eq_1) <| aN (uA c69_15.eq_1) <| aN (uR r69_1.eq_1) <| aN (uA c69_14.eq_1) <| aN (uA c69_13.eq_1) <| aN (uR r69_16.eq_1) <| s69.eq_1
def UCe_4 := Bx.mk <|
  aN (uA c69_12.eq_1) <| aN (uA c69_4.eq_1) <| aN (uR r69_2.eq_1) <| aN (uA c69_3.eq_1) <| aN (uA c69_10.eq_1) <| aN (uA c69_9.eq_1) <| aN (uR r69_5.eq_1) <| aN (uA c69_8.eq_1) <| aN (uA c69_7.eq_1) <| aN (uR r69_6.eq_1) <| aN (uR r69_11.eq_1) <| aN (uA c69.eq_1) <| aN (uR r69_0.eq_1) <| aN (uA c69_15.eq_1) <| aN (uR r69_1.eq_1) <| aN (uA c69_14.eq_1) <| aN (uA c69_13.eq_1) <| aN (uR r69_16.eq_1) <| s69.eq_1
theorem all_ok {w : CW} (h : Form w) : YN 69 [tCW w] (All w) := by
  have hh := h.lh
  have hk := h.st.k
  refine PC.intro ok69 rfl (fun _ => rfl) fun X => ?_
  simp only [RZ, reduceAdd, reduceIte, reduceEqDiff, reduceLT, reduceLeDiff, reduceCtorEq, Nat.reduceBEq, UCe_1.d]
  refine AW.upto w.hands.length (inv69 w) ⟨fun j hj => absurd hj (Nat.not_lt_zero j), rfl, rfl, rfl⟩ fun i t H c hi h => ?_
  obtain ⟨a, e1, eH1, e3⟩ := h
  simp only [T.c, T.i] at e1 eH1 e3
  by_cases k1 : (i : Int) < w.hands.length
  · obtain ⟨x, hx⟩ : ∃ x, w.hands[i]? = some x := ⟨_, List.getElem?_eq_getElem (by omega)⟩
    have ex := en_at eH hx
    have gz : (0 : Int) ≤ i := by omega
    have gw := w1_ok (i := i) (by omega)
    by_cases b1 : x.state = 3
    · have k2 := eqn b1
      simp only [RZ, reduceAdd, reduceIte, reduceEqDiff, reduceLT, reduceLeDiff, reduceCtorEq, Nat.reduceBEq, UCe_4.d, e1, eH1, e3, k1, en_len, ex, gz, gw, eH, k2]
      exact ⟨by omega, upto_next a hx b1, e1, eH1, rfl⟩
    · have k2 := neqn b1
      simp only [RZ, reduceAdd, reduceIte, reduceEqDiff, reduceLT, reduceLeDiff, reduceCtorEq, Nat.reduceBEq, UCe_4.d, e1, eH1, e3, k1, en_len, ex, gz, gw, eH, k2]
      refine ES.mk false (no fun g => b1 (g x (List.mem_of_getElem? hx))) ?_
      simp only [RZ, reduceAdd, reduceIte, reduceEqDiff, reduceLT, reduceLeDiff, reduceCtorEq, Nat.reduceBEq, UCe_4.d, e1, eH1, e3, k1, en_len, ex, gz, gw, eH, k2]
  · simp only [RZ, reduceAdd, reduceIte, reduceEqDiff, reduceLT, reduceLeDiff, reduceCtorEq, Nat.reduceBEq, UCe_4.d, UCe_1.d, e1, eH1, e3, k1, en_len]
    refine ES.mk true (yes (upto_mem a (by omega))) ?_
    simp only [RZ, reduceAdd, reduceIte, reduceEqDiff, reduceLT, reduceLeDiff, reduceCtorEq, Nat.reduceBEq, UCe_4.d, UCe_1.d, e1, eH1, e3, k1, en_len]
/- loop.example/teagle/spec.l51Any -/
def r73_0 : List AOper := [ao 0 1 (.box 26 (.t 0)),
  ao 1 2 (.mv (.k (.b false)))]
def r73_1 : List AOper := [ao 0 3 (.mv (.k (.i 0)))]
def r73_2 : List AOper := [ao 0 4 (.mv (.t 3)),
  ao 1 5 (.fa 6 (.t 1)),
  ao 2 6 (.ld 1 false (.t 5)),
  ao 3 7 (.len (.t 6)),
  ao 4 8 (.bin .lss (.t 4) (.t 7))]
def c73_3 : ACode := .cond (.t 8) .skip (.exit 0)
def c73_4 : ACode := .seq (.reg r73_2) c73_3
def r73_5 : List AOper := [ao 0 11 (.fa 6 (.t 1)),
  ao 1 12 (.ld 1 false (.t 11)),
  ao 2 13 (.mv (.t 3)),
  ao 3 14 (.ia 2 (.t 12) (.t 13)),
  ao 4 15 (.fa 0 (.t 14)),
  ao 5 16 (.ld 1 false (.t 15)),
  ao 6 17 (.bin .eql (.t 16) (.k (.i 3)))]
def r73_6 : List AOper := [ao 0 2 (.mv (.k (.b true)))]
def c73_7 : ACode := .seq (.reg r73_6) .ret
def c73_8 : ACode := .cond (.t 17) c73_7 .skip
def c73_9 : ACode := .seq (.reg r73_5) c73_8
def c73_10 : ACode := .block 1 c73_9
def r73_11 : List AOper := [ao 0 9 (.mv (.t 3)),
  ao 1 10 (.bin .add (.t 9) (.k (.i 1))),
  ao 2 3 (.mv (.t 10))]
def c73_12 : ACode := .seq c73_4 (.seq c73_10 (.reg r73_11))
def c73_13 : ACode := .loop c73_12
def c73_14 : ACode := .block 0 c73_13
def c73_15 : ACode := .seq (.reg r73_1) c73_14
def r73_16 : List AOper := [ao 0 2 (.mv (.k (.b false)))]
def c73 : ACode := .seq (.reg r73_0) (.seq c73_15 (.seq (.reg r73_16) .ret))
def s73 : List ARes := [.tmp 2]
theorem ok73 : okF Tryz.prog 73 18 c73 s73 := ⟨Tryz.f73, Tryz.func73, Tryz.ntmps73, by kernel_rfl, by kernel_rfl, by kernel_rfl⟩
def inv73 (w : CW) (i : Nat) (σ : St) : Prop := (∀ j : Nat, j < i → ∀ h, w.hands[j]? = some h → ¬ h.state = 3) ∧ σ.t 1 = .c (.ptr 1 0 0) ∧ σ.H 1 = some (cwB 0 w) ∧ σ.t 3 = .i i
def UCe_2 := Bx.mk <|
  aN (uA c73.eq_1) <| aN (uR r73_0.eq_1) <| aN (uA c73_15.eq_1) <| aN (uR r73_1.eq_1) <| aN (uA c73_14.eq_1) <| aN (uA c73_13.eq_1) <| aN (uR r73_16.eq_1) <| s73.eq_1
def UCe_5 := Bx.mk <|
  aN (uA c73_12.eq_1) <| aN (uA c73_4.eq_1) <| aN (uR r73_2.eq_1) <| aN (uA c73_3.eq_1) <| aN (uA c73_10.eq_1) <| aN (uA c73_9.eq_1) <| aN (uR r73_5.eq_1) <| aN (uA c73_8.eq_1) <| aN (uA c73_7.eq_1) <| aN (uR r73_6.eq_1) <| aN (uR r73_11.eq_1) <| aN (uA c73.eq_1) <| aN (uR r73_0.eq_1) <| aN (uA c73_15.eq_1) <| aN (uR r73_1.eq_1) <| aN (uA c73_14.eq_1) <| aN (uA c73_13.eq_1) <| aN (uR r73_16.eq_1) <| s73.eq_1
theorem any_ok {w : CW} (h : Form w) : YN 73 [tCW w] (Any w) := by
  have hh := h.lh
  have hk := h.st.k
  refine PC.intro ok73 rfl (fun _ => rfl) fun X => ?_
  simp only [RZ, reduceAdd, reduceIte, reduceEqDiff, reduceLT, reduceLeDiff, reduceCtorEq, Nat.reduceBEq, UCe_2.d]
  refine AW.upto w.hands.length (inv73 w) ⟨fun j hj => absurd hj (Nat.not_lt_zero j), rfl, rfl, rfl⟩ fun i t H c hi h => ?_
  obtain ⟨a, e1, eH1, e3⟩ := h
  simp only [T.c, T.i] at e1 eH1 e3
  by_cases k1 : (i : Int) < w.hands.length
  · obtain ⟨x, hx⟩ : ∃ x, w.hands[i]? = some x := ⟨_, List.getElem?_eq_getElem (by omega)⟩
    have ex := en_at eH hx
    have gz : (0 : Int) ≤ i := by omega
    have gw := w1_ok (i := i) (by omega)
    by_cases b1 : x.state = 3
    · have k2 := eqb b1
      simp only [RZ, reduceAdd, reduceIte, reduceEqDiff, reduceLT, reduceLeDiff, reduceCtorEq, Nat.reduceBEq, UCe_5.d, e1, eH1, e3, k1, en_len, ex, gz, gw, eH, k2]
      refine ES.mk true (yes ⟨x, List.mem_of_getElem? hx, b1⟩) ?_
      simp only [RZ, reduceAdd, reduceIte, reduceEqDiff, reduceLT, reduceLeDiff, reduceCtorEq, Nat.reduceBEq, UCe_5.d, e1, eH1, e3, k1, en_len, ex, gz, gw, eH, k2]
    · have k2 := neqb b1
      simp only [RZ, reduceAdd, reduceIte, reduceEqDiff, reduceLT, reduceLeDiff, reduceCtorEq, Nat.reduceBEq, UCe_5.d, e1, eH1, e3, k1, en_len, ex, gz, gw, eH, k2]
      exact ⟨by omega, upto_next a hx b1, e1, eH1, rfl⟩
  · simp only [RZ, reduceAdd, reduceIte, reduceEqDiff, reduceLT, reduceLeDiff, reduceCtorEq, Nat.reduceBEq, UCe_5.d, UCe_2.d, e1, eH1, e3, k1, en_len]
    refine ES.mk false (no fun ⟨h, h1, h2⟩ => upto_mem a (by omega) h h1 h2) ?_
    simp only [RZ, reduceAdd, reduceIte, reduceEqDiff, reduceLT, reduceLeDiff, reduceCtorEq, Nat.reduceBEq, UCe_5.d, UCe_2.d, e1, eH1, e3, k1, en_len]
/- loop.example/teagle/spec.l51Due -/
def r74_0 : List AOper := [ao 0 1 (.box 26 (.t 0)),
  ao 1 2 (.mv (.k (.b false)))]
def r74_1 : List AOper := [ao 0 3 (.fa 10 (.t 1)),
  ao 1 4 (.ld 1 false (.t 3)),
  au 2 5 [0, 1] (.fa 11 (.t 1)),
  au 3 6 [0, 1] (.ld 1 false (.t 5)),
  au 4 7 (ru 4) (.fa 2 (.t 1)),
  au 5 8 (ru 4) (.ld 1 false (.t 7)),
  au 6 9 [0, 1] (.bin .rem (.t 6) (.t 8)),
  ao 7 10 (.ia 1 (.t 4) (.t 9)),
  ao 8 11 (.ld 1 false (.t 10)),
  au 9 12 (ru 9) (.fa 11 (.t 1)),
  au 10 13 (ru 9) (.ld 1 false (.t 12)),
  ao 11 14 (.bin .eql (.t 11) (.t 13)),
  ao 12 2 (.mv (.t 14))]
def c74 : ACode := .seq (.reg r74_0) (.seq (.reg r74_1) .ret)
def s74 : List ARes := [.tmp 2]
theorem ok74 : okF Tryz.prog 74 15 c74 s74 := ⟨Tryz.f74, Tryz.func74, Tryz.ntmps74, by kernel_rfl, by kernel_rfl, by kernel_rfl⟩
def UCe_3 := Bx.mk <|
  aN (uA c74.eq_1) <| aN (uR r74_0.eq_1) <| aN (uR r74_1.eq_1) <| s74.eq_1
theorem due_ok {w : CW} (h : Form w) : YN 74 [tCW w] (Due w) := by
  have hn := h.st.n
  have hs := slot_lt h
  have ht := slot_int h
  have hz : ¬ w.window = 0 := by omega
  have gz : (0 : Int) ≤ slot w := by omega
  obtain ⟨x, hx⟩ : ∃ x, w.ring[slot w]? = some x := ⟨_, List.getElem?_eq_getElem (by omega)⟩
  have ex := en_at eI hx
  refine PC.intro ok74 rfl (fun _ => rfl) fun X => ?_
  simp only [RZ, reduceAdd, reduceIte, reduceEqDiff, reduceLT, reduceLeDiff, reduceCtorEq, Nat.reduceBEq, UCe_3.d, hz, ht, gz, ex, eI, Int.toNat_natCast]
  by_cases b1 : x = w.due
  · refine ES.mk true (yes (by rw [Due, hx, b1])) ?_
    have k1 := eqb b1
    simp only [RZ, reduceAdd, reduceIte, reduceEqDiff, reduceLT, reduceLeDiff, reduceCtorEq, Nat.reduceBEq, UCe_3.d, hz, ht, gz, ex, eI, Int.toNat_natCast, k1]
  · refine ES.mk false (no fun g => b1 (by rw [Due, hx] at g; exact Option.some.inj g)) ?_
    have k1 := neqb b1
    simp only [RZ, reduceAdd, reduceIte, reduceEqDiff, reduceLT, reduceLeDiff, reduceCtorEq, Nat.reduceBEq, UCe_3.d, hz, ht, gz, ex, eI, Int.toNat_natCast, k1]
end Go.V
set_option linter.unusedSimpArgs false
namespace Go.V
open Go.Proofs
open Nat (reduceAdd reduceEqDiff reduceLT reduceLeDiff)
def sh (w : CW) (i : Nat) : Int := w.shut.getD i 0
theorem sh_at {w : CW} (h : Form w) {i : Nat} (hi : i < 4) : w.shut[i]? = some (sh w i) := by
  have h1 := h.ls
  have h2 : i < w.shut.length := by omega
  rw [sh, List.getD_eq_getElem?_getD, List.getElem?_eq_getElem h2]; rfl
theorem sh_01 {w : CW} (h : Form w) {i : Nat} (hi : i < 4) : sh w i = 0 ∨ sh w i = 1 := by
  have := h.shut _ (List.mem_of_getElem? (sh_at h hi))
  omega
structure Jobs (w : CW) : Prop where
  all : ∀ x ∈ places w, w.due ≤ x ∧ x ≤ w.next - 1
  nd : (places w).Nodup
  len : sh w 3 = 0 → ((places w).length : Int) = w.next - w.due
  ring : ∀ (i : Nat) (x : Int), w.ring[i]? = some x → -1 ≤ x ∧ (0 ≤ x → x % w.window = i)
  got : ∀ (i : Nat) (x : Int), w.got[i]? = some x → x = i
  due : w.due = w.got.length + w.out.length
  out : ∀ x : Int, w.out[0]? = some x → x = w.got.length
  room : w.room + w.next - w.due + (if w.keeper = 3 then 1 else 0) = w.window
theorem nd_of {xs : List Int} (h : ∀ j : Nat, ∀ x, xs[j]? = some x → ∀ k : Nat, k < j → ∀ y, xs[k]? = some y → ¬ x = y) : xs.Nodup := by
  refine List.pairwise_iff_getElem.2 fun i j hi hj hij e => ?_
  exact h j _ (List.getElem?_eq_getElem hj) i hij _ (List.getElem?_eq_getElem hi) e.symm
theorem nd_no {xs : List Int} (h : xs.Nodup) {j k : Nat} {x : Int} (hk : k < j) (hx : xs[j]? = some x) (hy : xs[k]? = some x) : False := by
  obtain ⟨hj, e1⟩ := List.getElem?_eq_some_iff.1 hx
  obtain ⟨hk2, e2⟩ := List.getElem?_eq_some_iff.1 hy
  exact List.pairwise_iff_getElem.1 h k j hk2 hj hk (by rw [e1, e2])
/- loop.example/teagle/spec.l51Jobs -/
def r35_0 : List AOper := [ao 0 1 (.box 26 (.t 0)),
  ao 1 2 (.mv (.k (.b false)))]
def r35_1 : List AOper := [ao 0 9 (.ld 18 true (.t 1)),
  ao 1 10 (.call (.k (.c (.fn 72 []))) [(.t 9)]),
  ao 2 3 (.mv (.t 10))]
def r35_2 : List AOper := [ao 0 4 (.mv (.k (.i 0)))]
def r35_3 : List AOper := [ao 0 11 (.mv (.t 4)),
  ao 1 12 (.mv (.t 3)),
  ao 2 13 (.len (.t 12)),
  ao 3 14 (.bin .lss (.t 11) (.t 13))]
def c35_4 : ACode := .cond (.t 14) .skip (.exit 0)
def c35_5 : ACode := .seq (.reg r35_3) c35_4
def r35_6 : List AOper := [ao 0 17 (.mv (.t 3)),
  au 1 18 [0] (.mv (.t 4)),
  ao 2 19 (.ia 1 (.t 17) (.t 18)),
  ao 3 20 (.ld 1 false (.t 19)),
  au 4 21 (ru 4) (.fa 11 (.t 1)),
  au 5 22 (ru 4) (.ld 1 false (.t 21)),
  au 6 23 (ru 6) (.fa 3 (.t 1)),
  au 7 24 (ru 6) (.ld 1 false (.t 23)),
  au 8 25 (ru 6) (.bin .sub (.t 24) (.k (.i 1))),
  ao 9 26 (.call (.k (.c (.fn 52 []))) [(.t 20), (.t 22), (.t 25)]),
  ao 10 27 (.un .not (.t 26))]
def r35_7 : List AOper := [ao 0 2 (.mv (.k (.b false)))]
def c35_8 : ACode := .seq (.reg r35_7) .ret
def c35_9 : ACode := .cond (.t 27) c35_8 .skip
def c35_10 : ACode := .seq (.reg r35_6) c35_9
def r35_11 : List AOper := [ao 0 5 (.mv (.k (.i 0)))]
def r35_12 : List AOper := [ao 0 28 (.mv (.t 5)),
  ao 1 29 (.mv (.t 4)),
  ao 2 30 (.bin .lss (.t 28) (.t 29))]
def c35_13 : ACode := .cond (.t 30) .skip (.exit 2)
def c35_14 : ACode := .seq (.reg r35_12) c35_13
def r35_15 : List AOper := [ao 0 33 (.mv (.t 3)),
  au 1 34 [0] (.mv (.t 4)),
  ao 2 35 (.ia 1 (.t 33) (.t 34)),
  ao 3 36 (.ld 1 false (.t 35)),
  au 4 37 (ru 4) (.mv (.t 3)),
  au 5 38 (ru 5) (.mv (.t 5)),
  au 6 39 (ru 4) (.ia 1 (.t 37) (.t 38)),
  au 7 40 (ru 4) (.ld 1 false (.t 39)),
  ao 8 41 (.bin .eql (.t 36) (.t 40))]
def r35_16 : List AOper := [ao 0 2 (.mv (.k (.b false)))]
def c35_17 : ACode := .seq (.reg r35_16) .ret
def c35_18 : ACode := .cond (.t 41) c35_17 .skip
def c35_19 : ACode := .seq (.reg r35_15) c35_18
def c35_20 : ACode := .block 3 c35_19
def r35_21 : List AOper := [ao 0 31 (.mv (.t 5)),
  ao 1 32 (.bin .add (.t 31) (.k (.i 1))),
  ao 2 5 (.mv (.t 32))]
def c35_22 : ACode := .seq c35_14 (.seq c35_20 (.reg r35_21))
def c35_23 : ACode := .loop c35_22
def c35_24 : ACode := .block 2 c35_23
def c35_25 : ACode := .seq c35_10 (.seq (.reg r35_11) c35_24)
def c35_26 : ACode := .block 1 c35_25
def r35_27 : List AOper := [ao 0 15 (.mv (.t 4)),
  ao 1 16 (.bin .add (.t 15) (.k (.i 1))),
  ao 2 4 (.mv (.t 16))]
def c35_28 : ACode := .seq c35_5 (.seq c35_26 (.reg r35_27))
def c35_29 : ACode := .loop c35_28
def c35_30 : ACode := .block 0 c35_29
def c35_31 : ACode := .seq (.reg r35_2) c35_30
def r35_32 : List AOper := [ao 0 42 (.fa 16 (.t 1)),
  ao 1 43 (.ld 1 false (.t 42)),
  ao 2 44 (.ia 1 (.t 43) (.k (.i 3))),
  ao 3 45 (.ld 1 false (.t 44)),
  ao 4 46 (.bin .eql (.t 45) (.k (.i 0))),
  ao 5 47 (.mv (.t 46)),
  ag 6 48 47 true [] (.mv (.t 3)),
  ag 7 49 47 true [] (.len (.t 48)),
  ag 8 50 47 true [] (.fa 3 (.t 1)),
  ag 9 51 47 true [] (.ld 1 false (.t 50)),
  ag 10 52 47 true [] (.fa 11 (.t 1)),
  ag 11 53 47 true [] (.ld 1 false (.t 52)),
  ag 12 54 47 true [] (.bin .sub (.t 51) (.t 53)),
  ag 13 55 47 true [] (.bin .neq (.t 49) (.t 54)),
  ao 14 56 (.pick (.t 47) (.t 55) (.k (.b false)))]
def r35_33 : List AOper := [ao 0 2 (.mv (.k (.b false)))]
def c35_34 : ACode := .seq (.reg r35_33) .ret
def c35_35 : ACode := .cond (.t 56) c35_34 .skip
def c35_36 : ACode := .seq (.reg r35_32) c35_35
def r35_37 : List AOper := [ao 0 6 (.mv (.k (.i 0)))]
def r35_38 : List AOper := [ao 0 57 (.mv (.t 6)),
  ao 1 58 (.fa 10 (.t 1)),
  ao 2 59 (.ld 1 false (.t 58)),
  ao 3 60 (.len (.t 59)),
  ao 4 61 (.bin .lss (.t 57) (.t 60))]
def c35_39 : ACode := .cond (.t 61) .skip (.exit 4)
def c35_40 : ACode := .seq (.reg r35_38) c35_39
def r35_41 : List AOper := [ao 0 64 (.fa 10 (.t 1)),
  ao 1 65 (.ld 1 false (.t 64)),
  au 2 66 [0, 1] (.mv (.t 6)),
  ao 3 67 (.ia 1 (.t 65) (.t 66)),
  ao 4 68 (.ld 1 false (.t 67)),
  ao 5 69 (.bin .lss (.t 68) (.k (.i (-1)))),
  ao 6 70 (.mv (.t 69)),
  ag 7 71 70 false [] (.fa 10 (.t 1)),
  ag 8 72 70 false [] (.ld 1 false (.t 71)),
  ag 9 73 70 false [7, 8] (.mv (.t 6)),
  ag 10 74 70 false [] (.ia 1 (.t 72) (.t 73)),
  ag 11 75 70 false [] (.ld 1 false (.t 74)),
  ag 12 76 70 false [] (.bin .geq (.t 75) (.k (.i 0))),
  ag 13 77 70 false [] (.mv (.t 76)),
  ag 14 78 77 true [] (.fa 10 (.t 1)),
  ag 15 79 77 true [] (.ld 1 false (.t 78)),
  ag 16 80 77 true [14, 15] (.mv (.t 6)),
  ag 17 81 77 true [] (.ia 1 (.t 79) (.t 80)),
  ag 18 82 77 true [] (.ld 1 false (.t 81)),
  ag 19 83 77 true [14, 15, 16, 17, 18] (.fa 2 (.t 1)),
  ag 20 84 77 true [14, 15, 16, 17, 18] (.ld 1 false (.t 83)),
  ag 21 85 77 true [] (.bin .rem (.t 82) (.t 84)),
  ag 22 86 77 true [14, 15, 16, 17, 18, 19, 20, 21] (.mv (.t 6)),
  ag 23 87 77 true [] (.bin .neq (.t 85) (.t 86)),
  ag 24 88 70 false [] (.pick (.t 77) (.t 87) (.k (.b false))),
  ao 25 89 (.pick (.t 70) (.k (.b true)) (.t 88))]
def r35_42 : List AOper := [ao 0 2 (.mv (.k (.b false)))]
def c35_43 : ACode := .seq (.reg r35_42) .ret
def c35_44 : ACode := .cond (.t 89) c35_43 .skip
def c35_45 : ACode := .seq (.reg r35_41) c35_44
def c35_46 : ACode := .block 5 c35_45
def r35_47 : List AOper := [ao 0 62 (.mv (.t 6)),
  ao 1 63 (.bin .add (.t 62) (.k (.i 1))),
  ao 2 6 (.mv (.t 63))]
def c35_48 : ACode := .seq c35_40 (.seq c35_46 (.reg r35_47))
def c35_49 : ACode := .loop c35_48
def c35_50 : ACode := .block 4 c35_49
def c35_51 : ACode := .seq (.reg r35_37) c35_50
def r35_52 : List AOper := [ao 0 7 (.mv (.k (.i 0)))]
def r35_53 : List AOper := [ao 0 90 (.mv (.t 7)),
  ao 1 91 (.fa 14 (.t 1)),
  ao 2 92 (.ld 1 false (.t 91)),
  ao 3 93 (.len (.t 92)),
  ao 4 94 (.bin .lss (.t 90) (.t 93))]
def c35_54 : ACode := .cond (.t 94) .skip (.exit 6)
def c35_55 : ACode := .seq (.reg r35_53) c35_54
def r35_56 : List AOper := [ao 0 97 (.fa 14 (.t 1)),
  ao 1 98 (.ld 1 false (.t 97)),
  ao 2 99 (.mv (.t 7)),
  ao 3 100 (.ia 1 (.t 98) (.t 99)),
  ao 4 101 (.ld 1 false (.t 100)),
  ao 5 102 (.mv (.t 7)),
  ao 6 103 (.bin .neq (.t 101) (.t 102))]
def r35_57 : List AOper := [ao 0 2 (.mv (.k (.b false)))]
def c35_58 : ACode := .seq (.reg r35_57) .ret
def c35_59 : ACode := .cond (.t 103) c35_58 .skip
def c35_60 : ACode := .seq (.reg r35_56) c35_59
def c35_61 : ACode := .block 7 c35_60
def r35_62 : List AOper := [ao 0 95 (.mv (.t 7)),
  ao 1 96 (.bin .add (.t 95) (.k (.i 1))),
  ao 2 7 (.mv (.t 96))]
def c35_63 : ACode := .seq c35_55 (.seq c35_61 (.reg r35_62))
def c35_64 : ACode := .loop c35_63
def c35_65 : ACode := .block 6 c35_64
def c35_66 : ACode := .seq (.reg r35_52) c35_65
def r35_67 : List AOper := [ao 0 8 (.mv (.k (.i 0)))]
def r35_68 : List AOper := [ao 0 104 (.fa 9 (.t 1)),
  ao 1 105 (.ld 1 false (.t 104)),
  ao 2 106 (.bin .eql (.t 105) (.k (.i 3)))]
def r35_69 : List AOper := [ao 0 8 (.mv (.k (.i 1)))]
def c35_70 : ACode := .cond (.t 106) (.reg r35_69) .skip
def c35_71 : ACode := .seq (.reg r35_68) c35_70
def r35_72 : List AOper := [ao 0 107 (.fa 11 (.t 1)),
  ao 1 108 (.ld 1 false (.t 107)),
  au 2 109 [0, 1] (.fa 14 (.t 1)),
  au 3 110 [0, 1] (.ld 1 false (.t 109)),
  au 4 111 [0, 1] (.len (.t 110)),
  au 5 112 (ru 5) (.fa 12 (.t 1)),
  au 6 113 (ru 5) (.ld 1 false (.t 112)),
  au 7 114 (ru 5) (.len (.t 113)),
  au 8 115 [0, 1] (.bin .add (.t 111) (.t 114)),
  ao 9 116 (.bin .eql (.t 108) (.t 115)),
  ao 10 117 (.mv (.t 116)),
  ag 11 118 117 true [] (.fa 12 (.t 1)),
  ag 12 119 117 true [] (.ld 1 false (.t 118)),
  ag 13 120 117 true [] (.len (.t 119)),
  ag 14 121 117 true [] (.bin .eql (.t 120) (.k (.i 0))),
  ag 15 122 117 true [] (.mv (.t 121)),
  ag 16 123 122 false [] (.fa 12 (.t 1)),
  ag 17 124 122 false [] (.ld 1 false (.t 123)),
  ag 18 125 122 false [] (.ia 1 (.t 124) (.k (.i 0))),
  ag 19 126 122 false [] (.ld 1 false (.t 125)),
  ag 20 127 122 false [16, 17, 18, 19] (.fa 14 (.t 1)),
  ag 21 128 122 false [16, 17, 18, 19] (.ld 1 false (.t 127)),
  ag 22 129 122 false [16, 17, 18, 19] (.len (.t 128)),
  ag 23 130 122 false [] (.bin .eql (.t 126) (.t 129)),
  ag 24 131 117 true [] (.pick (.t 122) (.k (.b true)) (.t 130)),
  ao 25 132 (.pick (.t 117) (.t 131) (.k (.b false))),
  ao 26 133 (.mv (.t 132)),
  ag 27 134 133 true [] (.fa 15 (.t 1)),
  ag 28 135 133 true [] (.ld 1 false (.t 134)),
  ag 29 136 133 true [27, 28] (.fa 3 (.t 1)),
  ag 30 137 133 true [27, 28] (.ld 1 false (.t 136)),
  ag 31 138 133 true [] (.bin .add (.t 135) (.t 137)),
  ag 32 139 133 true [27, 28, 29, 30, 31] (.fa 11 (.t 1)),
  ag 33 140 133 true [27, 28, 29, 30, 31] (.ld 1 false (.t 139)),
  ag 34 141 133 true [] (.bin .sub (.t 138) (.t 140)),
  ag 35 142 133 true [27, 28, 29, 30, 31, 32, 33, 34] (.mv (.t 8)),
  ag 36 143 133 true [] (.bin .add (.t 141) (.t 142)),
  ag 37 144 133 true [27, 28, 29, 30, 31, 32, 33, 34, 35, 36] (.fa 2 (.t 1)),
  ag 38 145 133 true [27, 28, 29, 30, 31, 32, 33, 34, 35, 36] (.ld 1 false (.t 144)),
  ag 39 146 133 true [] (.bin .eql (.t 143) (.t 145)),
  ao 40 147 (.pick (.t 133) (.t 146) (.k (.b false))),
  ao 41 2 (.mv (.t 147))]
def c35 : ACode := .seq (.reg r35_0) (.seq (.reg r35_1) (.seq c35_31 (.seq c35_36 (.seq c35_51 (.seq c35_66 (.seq (.reg r35_67) (.seq c35_71 (.seq (.reg r35_72) .ret))))))))
def s35 : List ARes := [.tmp 2]
theorem ok35 : okF Tryz.prog 35 148 c35 s35 := ⟨Tryz.f35, Tryz.func35, Tryz.ntmps35, by kernel_rfl, by kernel_rfl, by kernel_rfl⟩
def inv46a (w : CW) (P : List Int) (i : Nat) (σ : St) : Prop := (∀ j : Nat, j < i → ∀ x, P[j]? = some x → (w.due ≤ x ∧ x ≤ w.next - 1) ∧ ∀ k : Nat, k < j → ∀ y, P[k]? = some y → ¬ x = y) ∧ σ.t 1 = .c (.ptr 1 0 0) ∧ σ.H 1 = some (cwB 0 w) ∧ σ.t 3 = tL (en eI P) ∧ σ.t 4 = .i i
def inv46b (w : CW) (P : List Int) (x : Int) (m : Nat) (i : Nat) (σ : St) : Prop := (∀ k : Nat, k < i → ∀ y, P[k]? = some y → ¬ x = y) ∧ σ.t 1 = .c (.ptr 1 0 0) ∧ σ.H 1 = some (cwB 0 w) ∧ σ.t 3 = tL (en eI P) ∧ σ.t 4 = .i m ∧ σ.t 5 = .i i
def inv46c (w : CW) (i : Nat) (σ : St) : Prop := (∀ j : Nat, j < i → ∀ x, w.ring[j]? = some x → -1 ≤ x ∧ (0 ≤ x → x % w.window = j)) ∧ σ.t 1 = .c (.ptr 1 0 0) ∧ σ.H 1 = some (cwB 0 w) ∧ σ.t 6 = .i i
def inv46d (w : CW) (i : Nat) (σ : St) : Prop := (∀ j : Nat, j < i → ∀ x, w.got[j]? = some x → x = j) ∧ σ.t 1 = .c (.ptr 1 0 0) ∧ σ.H 1 = some (cwB 0 w) ∧ σ.t 7 = .i i
theorem upto_next2 {α : Type} {p : Nat → α → Prop} {xs : List α} {i : Nat} {x : α} (h : ∀ j : Nat, j < i → ∀ s, xs[j]? = some s → p j s) (hx : xs[i]? = some x) (hp : p i x) : ∀ j : Nat, j < i + 1 → ∀ s, xs[j]? = some s → p j s := fun j hj s hs => by
  rcases Nat.lt_succ_iff_lt_or_eq.1 hj with hj | rfl
  · exact h j hj s hs
  · rw [hx] at hs; cases hs; exact hp
theorem upto_all {α : Type} {p : Nat → α → Prop} {xs : List α} {n : Nat} (h : ∀ j : Nat, j < n → ∀ s, xs[j]? = some s → p j s) (hn : xs.length ≤ n) : ∀ (j : Nat) (s : α), xs[j]? = some s → p j s := fun j s hs => h j (by have := (List.getElem?_eq_some_iff.1 hs).1; omega) s hs
theorem dup_no {w : CW} {P : List Int} (hP : P = places w) {x : Int} {i m : Nat} (hx : P[m]? = some x) (hy : P[i]? = some x) (hlt : i < m) (g : Jobs w) : False := nd_no g.nd hlt (by rw [← hP]; exact hx) (by rw [← hP]; exact hy)
def UCf_1 := Bx.mk <|
  aN (uA c35.eq_1) <| aN (uR r35_0.eq_1) <| aN (uR r35_1.eq_1) <| aN (uA c35_31.eq_1) <| aN (uR r35_2.eq_1) <| aN (uA c35_30.eq_1) <| aN (uA c35_29.eq_1) <| aN (uA c35_36.eq_1) <| aN (uR r35_32.eq_1) <| aN (uA c35_35.eq_1) <| aN (uA c35_34.eq_1) <| aN (uR r35_33.eq_1) <| aN (uA c35_51.eq_1) <| aN (uR r35_37.eq_1) <| aN (uA c35_50.eq_1) <| aN (uA c35_49.eq_1) <| aN (uA c35_66.eq_1) <| aN (uR r35_52.eq_1) <| aN (uA c35_65.eq_1) <| aN (uA c35_64.eq_1) <| aN (uR r35_67.eq_1) <| aN (uA c35_71.eq_1) <| aN (uR r35_68.eq_1) <| aN (uA c35_70.eq_1) <| aN (uR r35_69.eq_1) <| aN (uR r35_72.eq_1) <| s35.eq_1
def UCf_2 := Bx.mk <|
  aN (uA c35_28.eq_1) <| aN (uA c35_5.eq_1) <| aN (uR r35_3.eq_1) <| aN (uA c35_4.eq_1) <| aN (uA c35_26.eq_1) <| aN (uA c35_25.eq_1) <| aN (uA c35_10.eq_1) <| aN (uR r35_6.eq_1) <| aN (uA c35_9.eq_1) <| aN (uA c35_8.eq_1) <| aN (uR r35_7.eq_1) <| aN (uR r35_11.eq_1) <| aN (uA c35_24.eq_1) <| aN (uA c35_23.eq_1) <| aN (uR r35_27.eq_1) <| aN (uA c35.eq_1) <| aN (uR r35_0.eq_1) <| aN (uR r35_1.eq_1) <| aN (uA c35_31.eq_1) <| aN (uR r35_2.eq_1) <| aN (uA c35_30.eq_1) <| aN (uA c35_29.eq_1) <| aN (uA c35_36.eq_1) <| aN (uR r35_32.eq_1) <| aN (uA c35_35.eq_1) <| aN (uA c35_34.eq_1) <| aN (uR r35_33.eq_1) <| aN (uA c35_51.eq_1) <| aN (uR r35_37.eq_1) <| aN (uA c35_50.eq_1) <| aN (uA c35_49.eq_1) <| aN (uA c35_66.eq_1) <| aN (uR r35_52.eq_1) <| aN (uA c35_65.eq_1) <| aN (uA c35_64.eq_1) <| aN (uR r35_67.eq_1) <| aN (uA c35_71.eq_1) <| aN (uR r35_68.eq_1) <| aN (uA c35_70.eq_1) <| aN (uR r35_69.eq_1) <| aN (uR r35_72.eq_1) <| s35.eq_1
def UCf_3 := Bx.mk <|
  aN (uA c35_22.eq_1) <| aN (uA c35_14.eq_1) <| aN (uR r35_12.eq_1) <| aN (uA c35_13.eq_1) <| aN (uA c35_20.eq_1) <| aN (uA c35_19.eq_1) <| aN (uR r35_15.eq_1) <| aN (uA c35_18.eq_1) <| aN (uA c35_17.eq_1) <| aN (uR r35_16.eq_1) <| aN (uR r35_21.eq_1) <| aN (uA c35.eq_1) <| aN (uR r35_0.eq_1) <| aN (uR r35_1.eq_1) <| aN (uA c35_31.eq_1) <| aN (uR r35_2.eq_1) <| aN (uA c35_30.eq_1) <| aN (uA c35_29.eq_1) <| aN (uA c35_36.eq_1) <| aN (uR r35_32.eq_1) <| aN (uA c35_35.eq_1) <| aN (uA c35_34.eq_1) <| aN (uR r35_33.eq_1) <| aN (uA c35_51.eq_1) <| aN (uR r35_37.eq_1) <| aN (uA c35_50.eq_1) <| aN (uA c35_49.eq_1) <| aN (uA c35_66.eq_1) <| aN (uR r35_52.eq_1) <| aN (uA c35_65.eq_1) <| aN (uA c35_64.eq_1) <| aN (uR r35_67.eq_1) <| aN (uA c35_71.eq_1) <| aN (uR r35_68.eq_1) <| aN (uA c35_70.eq_1) <| aN (uR r35_69.eq_1) <| aN (uR r35_72.eq_1) <| s35.eq_1
def UCf_4 := Bx.mk <|
  aN (uA c35_48.eq_1) <| aN (uA c35_40.eq_1) <| aN (uR r35_38.eq_1) <| aN (uA c35_39.eq_1) <| aN (uA c35_46.eq_1) <| aN (uA c35_45.eq_1) <| aN (uR r35_41.eq_1) <| aN (uA c35_44.eq_1) <| aN (uA c35_43.eq_1) <| aN (uR r35_42.eq_1) <| aN (uR r35_47.eq_1) <| aN (uA c35.eq_1) <| aN (uR r35_0.eq_1) <| aN (uR r35_1.eq_1) <| aN (uA c35_31.eq_1) <| aN (uR r35_2.eq_1) <| aN (uA c35_30.eq_1) <| aN (uA c35_29.eq_1) <| aN (uA c35_36.eq_1) <| aN (uR r35_32.eq_1) <| aN (uA c35_35.eq_1) <| aN (uA c35_34.eq_1) <| aN (uR r35_33.eq_1) <| aN (uA c35_51.eq_1) <| aN (uR r35_37.eq_1) <| aN (uA c35_50.eq_1) <| aN (uA c35_49.eq_1) <| aN (uA c35_66.eq_1) <| aN (uR r35_52.eq_1) <| aN (uA c35_65.eq_1) <| aN (uA c35_64.eq_1) <| aN (uR r35_67.eq_1) <| aN (uA c35_71.eq_1) <| aN (uR r35_68.eq_1) <| aN (uA c35_70.eq_1) <| aN (uR r35_69.eq_1) <| aN (uR r35_72.eq_1) <| s35.eq_1
def UCf_5 := Bx.mk <|
  aN (uA c35_63.eq_1) <| aN (uA c35_55.eq_1) <| aN (uR r35_53.eq_1) <| aN (uA c35_54.eq_1) <| aN (uA c35_61.eq_1) <| aN (uA c35_60.eq_1) <| aN (uR r35_56.eq_1) <| aN (uA c35_59.eq_1) <| aN (uA c35_58.eq_1) <| aN (uR r35_57.eq_1) <| aN (uR r35_62.eq_1) <| aN (uA c35.eq_1) <| aN (uR r35_0.eq_1) <| aN (uR r35_1.eq_1) <| aN (uA c35_31.eq_1) <| aN (uR r35_2.eq_1) <| aN (uA c35_30.eq_1) <| aN (uA c35_29.eq_1) <| aN (uA c35_36.eq_1) <| aN (uR r35_32.eq_1) <| aN (uA c35_35.eq_1) <| aN (uA c35_34.eq_1) <| aN (uR r35_33.eq_1) <| aN (uA c35_51.eq_1) <| aN (uR r35_37.eq_1) <| aN (uA c35_50.eq_1) <| aN (uA c35_49.eq_1) <| aN (uA c35_66.eq_1) <| aN (uR r35_52.eq_1) <| aN (uA c35_65.eq_1) <| aN (uA c35_64.eq_1) <| aN (uR r35_67.eq_1) <| aN (uA c35_71.eq_1) <| aN (uR r35_68.eq_1) <| aN (uA c35_70.eq_1) <| aN (uR r35_69.eq_1) <| aN (uR r35_72.eq_1) <| s35.eq_1
def UCf_6 := Bx.mk <|
  aN (uA c35_63.eq_1) <| aN (uA c35_55.eq_1) <| aN (uR r35_53.eq_1) <| aN (uA c35_54.eq_1) <| aN (uA c35_61.eq_1) <| aN (uA c35_60.eq_1) <| aN (uR r35_56.eq_1) <| aN (uA c35_59.eq_1) <| aN (uA c35_58.eq_1) <| aN (uR r35_57.eq_1) <| aN (uR r35_62.eq_1) <| aN (uA c35.eq_1) <| aN (uR r35_0.eq_1) <| aN (uR r35_1.eq_1) <| aN (uA c35_31.eq_1) <| aN (uR r35_2.eq_1) <| aN (uA c35_30.eq_1) <| aN (uA c35_29.eq_1) <| aN (uA c35_36.eq_1) <| aN (uR r35_32.eq_1) <| aN (uA c35_35.eq_1) <| aN (uA c35_34.eq_1) <| aN (uR r35_33.eq_1) <| aN (uA c35_51.eq_1) <| aN (uR r35_37.eq_1) <| aN (uA c35_50.eq_1) <| aN (uA c35_49.eq_1) <| aN (uA c35_66.eq_1) <| aN (uR r35_52.eq_1) <| aN (uA c35_65.eq_1) <| aN (uA c35_64.eq_1) <| aN (uR r35_67.eq_1) <| aN (uA c35_71.eq_1) <| aN (uR r35_68.eq_1) <| aN (uA c35_70.eq_1) <| aN (uR r35_69.eq_1) <| s35.eq_1
set_option maxHeartbeats 2000000 in
theorem jobs_ok {w : CW} (h : Form w) : YN 35 [tCW w] (Jobs w) := by
  have hh := h.lh
  have hr := h.lr
  have hk := h.st.k
  have hn := h.st.n
  have hj := h.st.j
  have hnx := h.next
  have hdu := h.due
  have hrm := h.room
  have hg := h.lg
  have ho := h.lo
  have hpl := places_len h
  obtain ⟨P, hP, C0⟩ := places_ok h
  rw [← hP] at hpl
  have gw1 : IntKind.i64.wrap (w.next - 1) = w.next - 1 := wrap64 ⟨by omega, by omega⟩
  refine PC.intro ok35 rfl (fun _ => rfl) fun X => ?_
  simp only [RZ, reduceAdd, reduceIte, reduceEqDiff, reduceLT, reduceLeDiff, reduceCtorEq, Nat.reduceBEq, UCf_1.d, en_len]
  refine callC C0 rfl rfl rfl rfl ?_
  simp only [RZ, reduceAdd, reduceIte, reduceEqDiff, reduceLT, reduceLeDiff, reduceCtorEq, Nat.reduceBEq, UCf_1.d, en_len]
  refine AW.upto P.length (inv46a w P) ⟨fun j hj => absurd hj (Nat.not_lt_zero j), rfl, rfl, rfl, rfl⟩ fun i t H c hi h' => ?_
  obtain ⟨a, e1, eH1, e3, e4⟩ := h'
  simp only [T.c, T.i] at e1 eH1 e3 e4
  by_cases k1 : (i : Int) < P.length
  · obtain ⟨x, hx⟩ : ∃ x, P[i]? = some x := ⟨_, List.getElem?_eq_getElem (by omega)⟩
    have ex := en_at eI hx
    have gz : (0 : Int) ≤ i := by omega
    have gw := w1_ok (i := i) (by omega)
    simp only [RZ, reduceAdd, reduceIte, reduceEqDiff, reduceLT, reduceLeDiff, reduceCtorEq, Nat.reduceBEq, UCf_2.d, en_len, e1, eH1, e3, e4, k1, ex, gz, gw, eI, gw1]
    by_cases h1 : w.due ≤ x ∧ x ≤ w.next - 1
    rotate_left
    · refine callC (l6_no h1) rfl rfl rfl rfl ?_
      simp only [RZ, reduceAdd, reduceIte, reduceEqDiff, reduceLT, reduceLeDiff, reduceCtorEq, Nat.reduceBEq, UCf_2.d, en_len, e1, eH1, e3, e4, k1, ex, gz, gw, eI, gw1]
      refine ES.mk false (no fun g => h1 (g.all x (by rw [← hP]; exact List.mem_of_getElem? hx))) ?_
      simp only [RZ, reduceAdd, reduceIte, reduceEqDiff, reduceLT, reduceLeDiff, reduceCtorEq, Nat.reduceBEq, UCf_2.d, en_len, e1, eH1, e3, e4, k1, ex, gz, gw, eI, gw1]
    refine callC (l6_yes h1) rfl rfl rfl rfl ?_
    simp only [RZ, reduceAdd, reduceIte, reduceEqDiff, reduceLT, reduceLeDiff, reduceCtorEq, Nat.reduceBEq, UCf_2.d, en_len, e1, eH1, e3, e4, k1, ex, gz, gw, eI, gw1]
    refine AW.upto i (inv46b w P x i) ⟨fun j hj => absurd hj (Nat.not_lt_zero j), e1, eH1, e3, e4, rfl⟩ fun m t H c hm h' => ?_
    clear e1 eH1 e3 e4
    obtain ⟨b, e1, eH1, e3, e4, e5⟩ := h'
    simp only [T.c, T.i] at e1 eH1 e3 e4 e5
    by_cases k2 : (m : Int) < i
    · obtain ⟨y, hy⟩ : ∃ y, P[m]? = some y := ⟨_, List.getElem?_eq_getElem (by omega)⟩
      have ey := en_at eI hy
      have gz2 : (0 : Int) ≤ m := by omega
      have gw2 := w1_ok (i := m) (by omega)
      by_cases b1 : x = y
      · have k3 := eqb b1
        simp only [RZ, reduceAdd, reduceIte, reduceEqDiff, reduceLT, reduceLeDiff, reduceCtorEq, Nat.reduceBEq, UCf_3.d, en_len, e1, eH1, e3, e4, e5, k2, ex, gz, ey, gz2, gw2, eI, k3]
        refine ES.mk false (no fun g => dup_no hP hx (by rw [b1]; exact hy) (by omega) g) ?_
        simp only [RZ, reduceAdd, reduceIte, reduceEqDiff, reduceLT, reduceLeDiff, reduceCtorEq, Nat.reduceBEq, UCf_3.d, en_len, e1, eH1, e3, e4, e5, k2, ex, gz, ey, gz2, gw2, eI, k3]
      · have k3 := neqb b1
        simp only [RZ, reduceAdd, reduceIte, reduceEqDiff, reduceLT, reduceLeDiff, reduceCtorEq, Nat.reduceBEq, UCf_3.d, en_len, e1, eH1, e3, e4, e5, k2, ex, gz, ey, gz2, gw2, eI, k3]
        exact ⟨by omega, upto_next b hy b1, e1, eH1, e3, e4, rfl⟩
    · have hmi : m = i := by omega
      subst hmi
      simp only [RZ, reduceAdd, reduceIte, reduceEqDiff, reduceLT, reduceLeDiff, reduceCtorEq, Nat.reduceBEq, UCf_3.d, UCf_2.d, UCf_1.d, en_len, e1, eH1, e3, e4, e5, k2, ex, gz, gw]
      exact ⟨by omega, upto_next2 (p := fun j x => (w.due ≤ x ∧ x ≤ w.next - 1) ∧ ∀ k : Nat, k < j → ∀ y, P[k]? = some y → ¬ x = y) a hx ⟨h1, b⟩, e1, eH1, e3, rfl⟩
  have aa := upto_all (p := fun j x => (w.due ≤ x ∧ x ≤ w.next - 1) ∧ ∀ k : Nat, k < j → ∀ y, P[k]? = some y → ¬ x = y) a (by omega)
  have q1 : ∀ x ∈ places w, w.due ≤ x ∧ x ≤ w.next - 1 := fun x hx => by
    rw [← hP] at hx
    obtain ⟨j, hj⟩ := List.mem_iff_getElem?.1 hx
    exact (aa j x hj).1
  have q2 : (places w).Nodup := by rw [← hP]; exact nd_of fun j x hx => (aa j x hx).2
  have s3 := en_at eI (sh_at h (i := 3) (by omega))
  have gw2 : IntKind.i64.wrap (w.next - w.due) = w.next - w.due := wrap64 ⟨by omega, by omega⟩
  clear a aa
  have main : ∀ (t : Nat → T) (H : HMap) (c : Nat), (sh w 3 = 0 → ((places w).length : Int) = w.next - w.due) → inv46c w 0 ⟨t, H, c⟩ → oneW Tryz.prog X (.loop c35_48) (inW 4 (thenW Tryz.prog X (.seq c35_66 (.seq (.reg r35_67) (.seq c35_71 (.seq (.reg r35_72) .ret)))) (endE (fun b : Bool => b = true ↔ Jobs w) T.b (fun _ => []) [.tmp 2]))) ⟨t, H, c⟩ := by
    intro t H c q3 h0
    clear e1 eH1 e3 e4 k1
    refine AW.upto w.ring.length (inv46c w) h0 fun i t H c hi h' => ?_
    obtain ⟨a, e1, eH1, e6⟩ := h'
    simp only [T.c, T.i] at e1 eH1 e6
    by_cases k1 : (i : Int) < w.ring.length
    · obtain ⟨x, hx⟩ : ∃ x, w.ring[i]? = some x := ⟨_, List.getElem?_eq_getElem (by omega)⟩
      have ex := en_at eI hx
      have gz : (0 : Int) ≤ i := by omega
      have gw := w1_ok (i := i) (by omega)
      have hz : ¬ w.window = 0 := by omega
      by_cases b1 : x < -1
      · simp only [RZ, reduceAdd, reduceIte, reduceEqDiff, reduceLT, reduceLeDiff, reduceCtorEq, Nat.reduceBEq, UCf_4.d, en_len, e1, eH1, e6, k1, ex, gz, gw, eI, b1]
        refine ES.mk false (no fun g => absurd (g.ring i x hx).1 (by omega)) ?_
        simp only [RZ, reduceAdd, reduceIte, reduceEqDiff, reduceLT, reduceLeDiff, reduceCtorEq, Nat.reduceBEq, UCf_4.d, en_len, e1, eH1, e6, k1, ex, gz, gw, eI, b1]
      · by_cases b2 : 0 ≤ x
        · have ht : x.tmod w.window = x % w.window := Int.tmod_eq_emod_of_nonneg b2
          by_cases b3 : x % w.window = i
          · have k3 := eqn b3
            simp only [RZ, reduceAdd, reduceIte, reduceEqDiff, reduceLT, reduceLeDiff, reduceCtorEq, Nat.reduceBEq, UCf_4.d, en_len, e1, eH1, e6, k1, ex, gz, gw, eI, b1, b2, ge_iff_le, ht, hz, k3]
            exact ⟨by omega, upto_next2 (p := fun j x => -1 ≤ x ∧ (0 ≤ x → x % w.window = j)) a hx ⟨by omega, fun _ => b3⟩, e1, eH1, rfl⟩
          · have k3 := neqn b3
            simp only [RZ, reduceAdd, reduceIte, reduceEqDiff, reduceLT, reduceLeDiff, reduceCtorEq, Nat.reduceBEq, UCf_4.d, en_len, e1, eH1, e6, k1, ex, gz, gw, eI, b1, b2, ge_iff_le, ht, hz, k3]
            refine ES.mk false (no fun g => b3 ((g.ring i x hx).2 b2)) ?_
            simp only [RZ, reduceAdd, reduceIte, reduceEqDiff, reduceLT, reduceLeDiff, reduceCtorEq, Nat.reduceBEq, UCf_4.d, en_len, e1, eH1, e6, k1, ex, gz, gw, eI, b1, b2, ge_iff_le, ht, hz, k3]
        · simp only [RZ, reduceAdd, reduceIte, reduceEqDiff, reduceLT, reduceLeDiff, reduceCtorEq, Nat.reduceBEq, UCf_4.d, en_len, e1, eH1, e6, k1, ex, gz, gw, eI, b1, b2, ge_iff_le]
          exact ⟨by omega, upto_next2 (p := fun j x => -1 ≤ x ∧ (0 ≤ x → x % w.window = j)) a hx ⟨by omega, fun h => absurd h b2⟩, e1, eH1, rfl⟩
    have q4 := upto_all (p := fun j x => -1 ≤ x ∧ (0 ≤ x → x % w.window = j)) a (by omega)
    simp only [RZ, reduceAdd, reduceIte, reduceEqDiff, reduceLT, reduceLeDiff, reduceCtorEq, Nat.reduceBEq, UCf_4.d, UCf_1.d, en_len, e1, eH1, e6, k1]
    refine AW.upto w.got.length (inv46d w) ⟨fun j hj => absurd hj (Nat.not_lt_zero j), e1, eH1, rfl⟩ fun i t H c hi h' => ?_
    clear a e1 eH1 e6 k1
    obtain ⟨a, e1, eH1, e7⟩ := h'
    simp only [T.c, T.i] at e1 eH1 e7
    by_cases k1 : (i : Int) < w.got.length
    · obtain ⟨x, hx⟩ : ∃ x, w.got[i]? = some x := ⟨_, List.getElem?_eq_getElem (by omega)⟩
      have ex := en_at eI hx
      have gz : (0 : Int) ≤ i := by omega
      have gw := w1_ok (i := i) (by omega)
      by_cases b1 : x = i
      · have k3 := eqn b1
        simp only [RZ, reduceAdd, reduceIte, reduceEqDiff, reduceLT, reduceLeDiff, reduceCtorEq, Nat.reduceBEq, UCf_5.d, en_len, e1, eH1, e7, k1, ex, gz, gw, eI, k3]
        exact ⟨by omega, upto_next2 (p := fun j x => x = (j : Int)) a hx b1, e1, eH1, rfl⟩
      · have k3 := neqn b1
        simp only [RZ, reduceAdd, reduceIte, reduceEqDiff, reduceLT, reduceLeDiff, reduceCtorEq, Nat.reduceBEq, UCf_5.d, en_len, e1, eH1, e7, k1, ex, gz, gw, eI, k3]
        refine ES.mk false (no fun g => b1 (g.got i x hx)) ?_
        simp only [RZ, reduceAdd, reduceIte, reduceEqDiff, reduceLT, reduceLeDiff, reduceCtorEq, Nat.reduceBEq, UCf_5.d, en_len, e1, eH1, e7, k1, ex, gz, gw, eI, k3]
    have q5 := upto_all (p := fun j x => x = (j : Int)) a (by omega)
    have w1 : IntKind.i64.wrap ((w.got.length : Int) + w.out.length) = w.got.length + w.out.length := wrap64 ⟨by omega, by omega⟩
    have w2 : IntKind.i64.wrap (w.room + w.next) = w.room + w.next := wrap64 ⟨by omega, by omega⟩
    have w3 : IntKind.i64.wrap (w.room + w.next - w.due) = w.room + w.next - w.due := wrap64 ⟨by omega, by omega⟩
    have w4 : IntKind.i64.wrap (w.room + w.next - w.due + 0) = w.room + w.next - w.due + 0 := wrap64 ⟨by omega, by omega⟩
    have w5 : IntKind.i64.wrap (w.room + w.next - w.due + 1) = w.room + w.next - w.due + 1 := wrap64 ⟨by omega, by omega⟩
    obtain ⟨back, hb, hbw⟩ : ∃ back : Int, (if w.keeper = 3 then 1 else 0) = back ∧ IntKind.i64.wrap (w.room + w.next - w.due + back) = w.room + w.next - w.due + back := by
      by_cases b : w.keeper = 3
      · exact ⟨1, if_pos b, w5⟩
      · exact ⟨0, if_neg b, w4⟩
    have fin : ∀ (t : Nat → T) (H : HMap) (c : Nat), t 1 = .c (.ptr 1 0 0) → H 1 = some (cwB 0 w) → t 8 = .i back → DRun Tryz.prog r35_72 [] (Kont (thenW Tryz.prog X .ret (endE (fun b : Bool => b = true ↔ Jobs w) T.b (fun _ => []) [.tmp 2])) r35_72) ⟨t, H, c⟩ := by
      intro t H c e1 eH1 e8
      simp only [T.c, T.i] at e1 eH1 e8
      by_cases b1 : w.due = w.got.length + w.out.length
      · have k1 := eqb b1
        by_cases b2 : (w.out.length : Int) = 0
        · have k2 := eqb b2
          have q6 : ∀ x : Int, w.out[0]? = some x → x = w.got.length := fun x hx => absurd (List.getElem?_eq_some_iff.1 hx).1 (by omega)
          by_cases b3 : w.room + w.next - w.due + back = w.window
          · have k3 := eqb b3
            simp only [RZ, reduceAdd, reduceIte, reduceEqDiff, reduceLT, reduceLeDiff, reduceCtorEq, Nat.reduceBEq, UCf_5.d, UCf_1.d, en_len, e1, eH1, e8, w1, w2, w3, hbw, k1, k2, k3]
            exact ES.mk true (yes ⟨q1, q2, q3, q4, q5, b1, q6, by rw [hb]; exact b3⟩) (by simp only [RZ, reduceAdd, reduceIte, reduceEqDiff, reduceLT, reduceLeDiff, reduceCtorEq, Nat.reduceBEq, UCf_5.d, UCf_1.d, en_len, e1, eH1, e8, w1, w2, w3, hbw, k1, k2, k3])
          · have k3 := neqb b3
            simp only [RZ, reduceAdd, reduceIte, reduceEqDiff, reduceLT, reduceLeDiff, reduceCtorEq, Nat.reduceBEq, UCf_5.d, UCf_1.d, en_len, e1, eH1, e8, w1, w2, w3, hbw, k1, k2, k3]
            exact ES.mk false (no fun g => b3 (by rw [← hb]; exact g.room)) (by simp only [RZ, reduceAdd, reduceIte, reduceEqDiff, reduceLT, reduceLeDiff, reduceCtorEq, Nat.reduceBEq, UCf_5.d, UCf_1.d, en_len, e1, eH1, e8, w1, w2, w3, hbw, k1, k2, k3])
        · have k2 := neqb b2
          obtain ⟨x, hx⟩ : ∃ x, w.out[0]? = some x := ⟨_, List.getElem?_eq_getElem (by omega)⟩
          have ex := en_at eI hx
          by_cases b4 : x = w.got.length
          · have k4 := eqb b4
            have q6 : ∀ y : Int, w.out[0]? = some y → y = w.got.length := fun y hy => by rw [hx] at hy; rw [← Option.some.inj hy]; exact b4
            by_cases b3 : w.room + w.next - w.due + back = w.window
            · have k3 := eqb b3
              simp only [RZ, reduceAdd, reduceIte, reduceEqDiff, reduceLT, reduceLeDiff, reduceCtorEq, Nat.reduceBEq, UCf_5.d, UCf_1.d, en_len, e1, eH1, e8, w1, w2, w3, hbw, k1, k2, ex, eI, k4, k3, Int.toNat_zero, Int.le_refl]
              exact ES.mk true (yes ⟨q1, q2, q3, q4, q5, b1, q6, by rw [hb]; exact b3⟩) (by simp only [RZ, reduceAdd, reduceIte, reduceEqDiff, reduceLT, reduceLeDiff, reduceCtorEq, Nat.reduceBEq, UCf_5.d, UCf_1.d, en_len, e1, eH1, e8, w1, w2, w3, hbw, k1, k2, ex, eI, k4, k3, Int.toNat_zero, Int.le_refl])
            · have k3 := neqb b3
              simp only [RZ, reduceAdd, reduceIte, reduceEqDiff, reduceLT, reduceLeDiff, reduceCtorEq, Nat.reduceBEq, UCf_5.d, UCf_1.d, en_len, e1, eH1, e8, w1, w2, w3, hbw, k1, k2, ex, eI, k4, k3, Int.toNat_zero, Int.le_refl]
              exact ES.mk false (no fun g => b3 (by rw [← hb]; exact g.room)) (by simp only [RZ, reduceAdd, reduceIte, reduceEqDiff, reduceLT, reduceLeDiff, reduceCtorEq, Nat.reduceBEq, UCf_5.d, UCf_1.d, en_len, e1, eH1, e8, w1, w2, w3, hbw, k1, k2, ex, eI, k4, k3, Int.toNat_zero, Int.le_refl])
          · have k4 := neqb b4
            simp only [RZ, reduceAdd, reduceIte, reduceEqDiff, reduceLT, reduceLeDiff, reduceCtorEq, Nat.reduceBEq, UCf_5.d, UCf_1.d, en_len, e1, eH1, e8, w1, w2, w3, hbw, k1, k2, ex, eI, k4, Int.toNat_zero, Int.le_refl]
            exact ES.mk false (no fun g => b4 (g.out x hx)) (by simp only [RZ, reduceAdd, reduceIte, reduceEqDiff, reduceLT, reduceLeDiff, reduceCtorEq, Nat.reduceBEq, UCf_5.d, UCf_1.d, en_len, e1, eH1, e8, w1, w2, w3, hbw, k1, k2, ex, eI, k4, Int.toNat_zero, Int.le_refl])
      · have k1 := neqb b1
        simp only [RZ, reduceAdd, reduceIte, reduceEqDiff, reduceLT, reduceLeDiff, reduceCtorEq, Nat.reduceBEq, UCf_5.d, UCf_1.d, en_len, e1, eH1, e8, w1, w2, w3, hbw, k1]
        exact ES.mk false (no fun g => b1 g.due) (by simp only [RZ, reduceAdd, reduceIte, reduceEqDiff, reduceLT, reduceLeDiff, reduceCtorEq, Nat.reduceBEq, UCf_5.d, UCf_1.d, en_len, e1, eH1, e8, w1, w2, w3, hbw, k1])
    by_cases b : w.keeper = 3
    · have k2 := eqb b
      rw [if_pos b] at hb
      simp only [RZ, reduceAdd, reduceIte, reduceEqDiff, reduceLT, reduceLeDiff, reduceCtorEq, Nat.reduceBEq, UCf_6.d, en_len, e1, eH1, e7, k1, k2]
      refine fin _ _ _ ?_ ?_ ?_
      · exact e1
      · exact eH1
      · rw [← hb]; rfl
    · have k2 := neqb b
      rw [if_neg b] at hb
      simp only [RZ, reduceAdd, reduceIte, reduceEqDiff, reduceLT, reduceLeDiff, reduceCtorEq, Nat.reduceBEq, UCf_6.d, en_len, e1, eH1, e7, k1, k2]
      refine fin _ _ _ ?_ ?_ ?_
      · exact e1
      · exact eH1
      · rw [← hb]; rfl
  rcases sh_01 h (i := 3) (by omega) with b | b
  · have k2 := eqb b
    by_cases b2 : (P.length : Int) = w.next - w.due
    · have k3 := eqn b2
      simp only [RZ, reduceAdd, reduceIte, reduceEqDiff, reduceLT, reduceLeDiff, reduceCtorEq, Nat.reduceBEq, UCf_2.d, UCf_1.d, en_len, e1, eH1, e3, e4, k1, s3, eI, gw2, k2, k3]
      refine main _ _ _ (fun _ => by rw [← hP]; exact b2) ?_
      exact ⟨fun j hj => absurd hj (Nat.not_lt_zero j), e1, eH1, rfl⟩
    · have k3 := neqn b2
      simp only [RZ, reduceAdd, reduceIte, reduceEqDiff, reduceLT, reduceLeDiff, reduceCtorEq, Nat.reduceBEq, UCf_2.d, UCf_1.d, en_len, e1, eH1, e3, e4, k1, s3, eI, gw2, k2, k3]
      refine ES.mk false (no fun g => b2 (by have := g.len b; rwa [← hP] at this)) ?_
      simp only [RZ, reduceAdd, reduceIte, reduceEqDiff, reduceLT, reduceLeDiff, reduceCtorEq, Nat.reduceBEq, UCf_2.d, UCf_1.d, en_len, e1, eH1, e3, e4, k1, s3, eI, gw2, k2, k3]
  · have k2 : (sh w 3 == 0) = false := neqb (by omega)
    simp only [RZ, reduceAdd, reduceIte, reduceEqDiff, reduceLT, reduceLeDiff, reduceCtorEq, Nat.reduceBEq, UCf_2.d, UCf_1.d, en_len, e1, eH1, e3, e4, k1, s3, eI, gw2, k2]
    refine main _ _ _ (fun h => by omega) ?_
    exact ⟨fun j hj => absurd hj (Nat.not_lt_zero j), e1, eH1, rfl⟩
end Go.V
set_option linter.unusedSimpArgs false
namespace Go.V
open Go.Proofs
open Nat (reduceAdd reduceEqDiff reduceLT reduceLeDiff)
/-- Those have ended who may have, and channels are closed by those who close them. -/
structure Ends (w : CW) : Prop where
  rd : sh w 0 = 1 ↔ w.reader = 3
  cl : sh w 1 = 1 ↔ w.closer = 1
  kp : sh w 2 = 1 ↔ w.keeper = 5
  us : sh w 3 = 1 → w.user = 1
  rc : sh w 3 = 0 → 2 ≤ w.reader → w.next = w.jobs
  an : sh w 3 = 0 → Any w → w.reader = 3 ∧ w.queue.length = 0
  al : w.closer = 1 → All w
  dn : sh w 3 = 0 → (w.keeper = 4 ∨ w.keeper = 5) → w.closer = 1 ∧ w.results.length = 0
  en : sh w 3 = 0 → w.user = 1 → w.keeper = 5 ∧ w.out.length = 0
  tk : w.keeper = 0 → ¬ Due w
  gv : w.keeper = 2 → Due w
theorem ifft {x y a b : Int} (h : x = a ↔ y = b) : (!((x == a) == (y == b))) = false := by
  by_cases g : y = b
  · rw [eqb (h.2 g), eqb g]; rfl
  · rw [neqb fun e => g (h.1 e), neqb g]; rfl
theorem iffn {x y a b : Int} (h : ¬ (x = a ↔ y = b)) : (!((x == a) == (y == b))) = true := by
  by_cases g : y = b
  · by_cases e : x = a
    · exact absurd ⟨fun _ => g, fun _ => e⟩ h
    · rw [eqb g, neqb e]; rfl
  · by_cases e : x = a
    · rw [neqb g, eqb e]; rfl
    · exact absurd ⟨fun h => absurd h e, fun h => absurd h g⟩ h
/- loop.example/teagle/spec.l51Ends -/
def r36_0 : List AOper := [ao 0 1 (.box 26 (.t 0)),
  ao 1 2 (.mv (.k (.b false)))]
def r36_1 : List AOper := [ao 0 5 (.fa 16 (.t 1)),
  ao 1 6 (.ld 1 false (.t 5)),
  ao 2 7 (.ia 1 (.t 6) (.k (.i 3))),
  ao 3 8 (.ld 1 false (.t 7)),
  ao 4 9 (.bin .eql (.t 8) (.k (.i 1))),
  ao 5 3 (.mv (.t 9))]
def r36_2 : List AOper := [ao 0 10 (.fa 9 (.t 1)),
  ao 1 11 (.ld 1 false (.t 10)),
  ao 2 12 (.bin .eql (.t 11) (.k (.i 4))),
  ao 3 13 (.mv (.t 12)),
  ag 4 14 13 false [] (.fa 9 (.t 1)),
  ag 5 15 13 false [] (.ld 1 false (.t 14)),
  ag 6 16 13 false [] (.bin .eql (.t 15) (.k (.i 5))),
  ao 7 17 (.pick (.t 13) (.k (.b true)) (.t 16)),
  ao 8 4 (.mv (.t 17))]
def r36_3 : List AOper := [ao 0 19 (.fa 16 (.t 1)),
  ao 1 20 (.ld 1 false (.t 19)),
  ao 2 21 (.ia 1 (.t 20) (.k (.i 0))),
  ao 3 22 (.ld 1 false (.t 21)),
  ao 4 23 (.bin .eql (.t 22) (.k (.i 1))),
  au 5 24 (ru 5) (.fa 4 (.t 1)),
  au 6 25 (ru 5) (.ld 1 false (.t 24)),
  au 7 26 (ru 5) (.bin .eql (.t 25) (.k (.i 3))),
  ao 8 27 (.binB .neq (.t 23) (.t 26)),
  ao 9 18 (.mv (.t 27))]
def r36_4 : List AOper := [ao 0 28 (.fa 16 (.t 1)),
  ao 1 29 (.ld 1 false (.t 28)),
  ao 2 30 (.ia 1 (.t 29) (.k (.i 1))),
  ao 3 31 (.ld 1 false (.t 30)),
  ao 4 32 (.bin .eql (.t 31) (.k (.i 1))),
  au 5 33 (ru 5) (.fa 7 (.t 1)),
  au 6 34 (ru 5) (.ld 1 false (.t 33)),
  au 7 35 (ru 5) (.bin .eql (.t 34) (.k (.i 1))),
  ao 8 36 (.binB .neq (.t 32) (.t 35)),
  ao 9 18 (.mv (.t 36))]
def r36_5 : List AOper := [ao 0 37 (.fa 16 (.t 1)),
  ao 1 38 (.ld 1 false (.t 37)),
  ao 2 39 (.ia 1 (.t 38) (.k (.i 2))),
  ao 3 40 (.ld 1 false (.t 39)),
  ao 4 41 (.bin .eql (.t 40) (.k (.i 1))),
  au 5 42 (ru 5) (.fa 9 (.t 1)),
  au 6 43 (ru 5) (.ld 1 false (.t 42)),
  au 7 44 (ru 5) (.bin .eql (.t 43) (.k (.i 5))),
  ao 8 45 (.binB .neq (.t 41) (.t 44)),
  ao 9 18 (.mv (.t 45))]
def c36_6 : ACode := .cond (.t 18) .skip (.reg r36_5)
def c36_7 : ACode := .seq (.reg r36_4) c36_6
def c36_8 : ACode := .cond (.t 18) .skip c36_7
def c36_9 : ACode := .seq (.reg r36_3) c36_8
def r36_10 : List AOper := [ao 0 2 (.mv (.k (.b false)))]
def c36_11 : ACode := .seq (.reg r36_10) .ret
def r36_12 : List AOper := [ao 0 47 (.mv (.t 3)),
  ao 1 48 (.mv (.t 47)),
  ag 2 49 48 true [] (.fa 13 (.t 1)),
  ag 3 50 48 true [] (.ld 1 false (.t 49)),
  ag 4 51 48 true [] (.bin .neq (.t 50) (.k (.i 1))),
  ao 5 52 (.pick (.t 48) (.t 51) (.k (.b false))),
  ao 6 46 (.mv (.t 52))]
def r36_13 : List AOper := [ao 0 2 (.mv (.k (.b false)))]
def c36_14 : ACode := .seq (.reg r36_13) .ret
def r36_15 : List AOper := [ao 0 54 (.mv (.t 3)),
  ao 1 55 (.un .not (.t 54)),
  ao 2 56 (.mv (.t 55)),
  ag 3 57 56 true [] (.fa 4 (.t 1)),
  ag 4 58 56 true [] (.ld 1 false (.t 57)),
  ag 5 59 56 true [] (.bin .geq (.t 58) (.k (.i 2))),
  ao 6 60 (.pick (.t 56) (.t 59) (.k (.b false))),
  ao 7 61 (.mv (.t 60)),
  ag 8 62 61 true [] (.fa 3 (.t 1)),
  ag 9 63 61 true [] (.ld 1 false (.t 62)),
  ag 10 64 61 true [] (.fa 0 (.t 1)),
  ag 11 65 61 true [] (.ld 1 false (.t 64)),
  ag 12 66 61 true [] (.bin .neq (.t 63) (.t 65)),
  ao 13 67 (.pick (.t 61) (.t 66) (.k (.b false))),
  ao 14 53 (.mv (.t 67))]
def r36_16 : List AOper := [ao 0 2 (.mv (.k (.b false)))]
def c36_17 : ACode := .seq (.reg r36_16) .ret
def r36_18 : List AOper := [ao 0 69 (.mv (.t 3)),
  ao 1 70 (.un .not (.t 69)),
  ao 2 71 (.mv (.t 70)),
  ag 3 72 71 true [] (.ld 18 true (.t 1)),
  ag 4 73 71 true [] (.call (.k (.c (.fn 73 []))) [(.t 72)]),
  ao 5 74 (.pick (.t 71) (.t 73) (.k (.b false))),
  ao 6 75 (.mv (.t 74)),
  ag 7 76 75 true [] (.fa 4 (.t 1)),
  ag 8 77 75 true [] (.ld 1 false (.t 76)),
  ag 9 78 75 true [] (.bin .neq (.t 77) (.k (.i 3))),
  ag 10 79 75 true [] (.mv (.t 78)),
  ag 11 80 79 false [] (.fa 5 (.t 1)),
  ag 12 81 79 false [] (.ld 1 false (.t 80)),
  ag 13 82 79 false [] (.len (.t 81)),
  ag 14 83 79 false [] (.bin .gtr (.t 82) (.k (.i 0))),
  ag 15 84 75 true [] (.pick (.t 79) (.k (.b true)) (.t 83)),
  ao 16 85 (.pick (.t 75) (.t 84) (.k (.b false))),
  ao 17 68 (.mv (.t 85))]
def r36_19 : List AOper := [ao 0 2 (.mv (.k (.b false)))]
def c36_20 : ACode := .seq (.reg r36_19) .ret
def r36_21 : List AOper := [ao 0 87 (.fa 7 (.t 1)),
  ao 1 88 (.ld 1 false (.t 87)),
  ao 2 89 (.bin .eql (.t 88) (.k (.i 1))),
  ao 3 90 (.mv (.t 89)),
  ag 4 91 90 true [] (.ld 18 true (.t 1)),
  ag 5 92 90 true [] (.call (.k (.c (.fn 69 []))) [(.t 91)]),
  ag 6 93 90 true [] (.un .not (.t 92)),
  ao 7 94 (.pick (.t 90) (.t 93) (.k (.b false))),
  ao 8 86 (.mv (.t 94))]
def r36_22 : List AOper := [ao 0 2 (.mv (.k (.b false)))]
def c36_23 : ACode := .seq (.reg r36_22) .ret
def r36_24 : List AOper := [ao 0 96 (.mv (.t 3)),
  ao 1 97 (.un .not (.t 96)),
  ao 2 98 (.mv (.t 97)),
  ag 3 99 98 true [] (.mv (.t 4)),
  ao 4 100 (.pick (.t 98) (.t 99) (.k (.b false))),
  ao 5 101 (.mv (.t 100)),
  ag 6 102 101 true [] (.fa 7 (.t 1)),
  ag 7 103 101 true [] (.ld 1 false (.t 102)),
  ag 8 104 101 true [] (.bin .neq (.t 103) (.k (.i 1))),
  ag 9 105 101 true [] (.mv (.t 104)),
  ag 10 106 105 false [] (.fa 8 (.t 1)),
  ag 11 107 105 false [] (.ld 1 false (.t 106)),
  ag 12 108 105 false [] (.len (.t 107)),
  ag 13 109 105 false [] (.bin .gtr (.t 108) (.k (.i 0))),
  ag 14 110 101 true [] (.pick (.t 105) (.k (.b true)) (.t 109)),
  ao 15 111 (.pick (.t 101) (.t 110) (.k (.b false))),
  ao 16 95 (.mv (.t 111))]
def r36_25 : List AOper := [ao 0 2 (.mv (.k (.b false)))]
def c36_26 : ACode := .seq (.reg r36_25) .ret
def r36_27 : List AOper := [ao 0 113 (.mv (.t 3)),
  ao 1 114 (.un .not (.t 113)),
  ao 2 115 (.mv (.t 114)),
  ag 3 116 115 true [] (.fa 13 (.t 1)),
  ag 4 117 115 true [] (.ld 1 false (.t 116)),
  ag 5 118 115 true [] (.bin .eql (.t 117) (.k (.i 1))),
  ao 6 119 (.pick (.t 115) (.t 118) (.k (.b false))),
  ao 7 120 (.mv (.t 119)),
  ag 8 121 120 true [] (.fa 9 (.t 1)),
  ag 9 122 120 true [] (.ld 1 false (.t 121)),
  ag 10 123 120 true [] (.bin .neq (.t 122) (.k (.i 5))),
  ag 11 124 120 true [] (.mv (.t 123)),
  ag 12 125 124 false [] (.fa 12 (.t 1)),
  ag 13 126 124 false [] (.ld 1 false (.t 125)),
  ag 14 127 124 false [] (.len (.t 126)),
  ag 15 128 124 false [] (.bin .gtr (.t 127) (.k (.i 0))),
  ag 16 129 120 true [] (.pick (.t 124) (.k (.b true)) (.t 128)),
  ao 17 130 (.pick (.t 120) (.t 129) (.k (.b false))),
  ao 18 112 (.mv (.t 130))]
def r36_28 : List AOper := [ao 0 2 (.mv (.k (.b false)))]
def c36_29 : ACode := .seq (.reg r36_28) .ret
def c36_30 : ACode := .cond (.t 112) c36_29 .skip
def c36_31 : ACode := .seq (.reg r36_27) c36_30
def c36_32 : ACode := .cond (.t 95) c36_26 c36_31
def c36_33 : ACode := .seq (.reg r36_24) c36_32
def c36_34 : ACode := .cond (.t 86) c36_23 c36_33
def c36_35 : ACode := .seq (.reg r36_21) c36_34
def c36_36 : ACode := .cond (.t 68) c36_20 c36_35
def c36_37 : ACode := .seq (.reg r36_18) c36_36
def c36_38 : ACode := .cond (.t 53) c36_17 c36_37
def c36_39 : ACode := .seq (.reg r36_15) c36_38
def c36_40 : ACode := .cond (.t 46) c36_14 c36_39
def c36_41 : ACode := .seq (.reg r36_12) c36_40
def c36_42 : ACode := .cond (.t 18) c36_11 c36_41
def c36_43 : ACode := .seq c36_9 c36_42
def c36_44 : ACode := .block 0 c36_43
def r36_45 : List AOper := [ao 0 131 (.fa 9 (.t 1)),
  ao 1 132 (.ld 1 false (.t 131)),
  ao 2 133 (.bin .eql (.t 132) (.k (.i 0)))]
def r36_46 : List AOper := [ao 0 134 (.ld 18 true (.t 1)),
  ao 1 135 (.call (.k (.c (.fn 74 []))) [(.t 134)]),
  ao 2 136 (.un .not (.t 135)),
  ao 3 2 (.mv (.t 136))]
def c36_47 : ACode := .seq (.reg r36_46) .ret
def c36_48 : ACode := .cond (.t 133) c36_47 .skip
def c36_49 : ACode := .seq (.reg r36_45) c36_48
def r36_50 : List AOper := [ao 0 137 (.fa 9 (.t 1)),
  ao 1 138 (.ld 1 false (.t 137)),
  ao 2 139 (.bin .neq (.t 138) (.k (.i 2))),
  ao 3 140 (.mv (.t 139)),
  ag 4 141 140 false [] (.ld 18 true (.t 1)),
  ag 5 142 140 false [] (.call (.k (.c (.fn 74 []))) [(.t 141)]),
  ao 6 143 (.pick (.t 140) (.k (.b true)) (.t 142)),
  ao 7 2 (.mv (.t 143))]
def c36 : ACode := .seq (.reg r36_0) (.seq (.reg r36_1) (.seq (.reg r36_2) (.seq c36_44 (.seq c36_49 (.seq (.reg r36_50) .ret)))))
def s36 : List ARes := [.tmp 2]
theorem ok36 : okF Tryz.prog 36 144 c36 s36 := ⟨Tryz.f36, Tryz.func36, Tryz.ntmps36, by kernel_rfl, by kernel_rfl, by kernel_rfl⟩
def UCg_1 := Bx.mk <|
  aN (uA c36.eq_1) <| aN (uR r36_0.eq_1) <| aN (uR r36_1.eq_1) <| aN (uR r36_2.eq_1) <| aN (uA c36_44.eq_1) <| aN (uA c36_43.eq_1) <| aN (uA c36_9.eq_1) <| aN (uR r36_3.eq_1) <| aN (uA c36_8.eq_1) <| aN (uA c36_7.eq_1) <| aN (uR r36_4.eq_1) <| aN (uA c36_6.eq_1) <| aN (uR r36_5.eq_1) <| aN (uA c36_42.eq_1) <| aN (uA c36_11.eq_1) <| aN (uR r36_10.eq_1) <| aN (uA c36_41.eq_1) <| aN (uR r36_12.eq_1) <| aN (uA c36_40.eq_1) <| aN (uA c36_14.eq_1) <| aN (uR r36_13.eq_1) <| aN (uA c36_39.eq_1) <| aN (uR r36_15.eq_1) <| aN (uA c36_38.eq_1) <| aN (uA c36_17.eq_1) <| aN (uR r36_16.eq_1) <| aN (uA c36_37.eq_1) <| aN (uR r36_18.eq_1) <| aN (uA c36_36.eq_1) <| aN (uA c36_20.eq_1) <| aN (uR r36_19.eq_1) <| aN (uA c36_35.eq_1) <| aN (uR r36_21.eq_1) <| aN (uA c36_34.eq_1) <| aN (uA c36_23.eq_1) <| aN (uR r36_22.eq_1) <| aN (uA c36_33.eq_1) <| aN (uR r36_24.eq_1) <| aN (uA c36_32.eq_1) <| aN (uA c36_26.eq_1) <| aN (uR r36_25.eq_1) <| aN (uA c36_31.eq_1) <| aN (uR r36_27.eq_1) <| aN (uA c36_30.eq_1) <| aN (uA c36_29.eq_1) <| aN (uR r36_28.eq_1) <| aN (uA c36_49.eq_1) <| aN (uR r36_45.eq_1) <| aN (uA c36_48.eq_1) <| aN (uA c36_47.eq_1) <| aN (uR r36_46.eq_1) <| aN (uR r36_50.eq_1) <| s36.eq_1
def UCg_2 := Bx.mk <|
  aN (uA c36.eq_1) <| aN (uR r36_0.eq_1) <| aN (uR r36_1.eq_1) <| aN (uR r36_2.eq_1) <| aN (uA c36_44.eq_1) <| aN (uA c36_43.eq_1) <| aN (uA c36_9.eq_1) <| aN (uR r36_3.eq_1) <| aN (uA c36_8.eq_1) <| aN (uA c36_7.eq_1) <| aN (uR r36_4.eq_1) <| aN (uA c36_6.eq_1) <| aN (uR r36_5.eq_1) <| aN (uA c36_42.eq_1) <| aN (uA c36_11.eq_1) <| aN (uR r36_10.eq_1) <| aN (uA c36_41.eq_1) <| aN (uR r36_12.eq_1) <| aN (uA c36_40.eq_1) <| aN (uA c36_14.eq_1) <| aN (uR r36_13.eq_1) <| aN (uA c36_39.eq_1) <| aN (uR r36_15.eq_1) <| aN (uA c36_38.eq_1) <| aN (uA c36_17.eq_1) <| aN (uR r36_16.eq_1) <| aN (uA c36_37.eq_1) <| aN (uR r36_18.eq_1) <| aN (uA c36_36.eq_1) <| aN (uA c36_20.eq_1) <| aN (uR r36_19.eq_1) <| aN (uA c36_35.eq_1) <| aN (uR r36_21.eq_1) <| aN (uA c36_34.eq_1) <| aN (uA c36_23.eq_1) <| aN (uR r36_22.eq_1) <| aN (uA c36_33.eq_1) <| aN (uR r36_24.eq_1) <| aN (uA c36_32.eq_1) <| aN (uA c36_26.eq_1) <| aN (uR r36_25.eq_1) <| aN (uA c36_31.eq_1) <| aN (uR r36_27.eq_1) <| aN (uA c36_30.eq_1) <| aN (uA c36_29.eq_1) <| aN (uR r36_28.eq_1) <| aN (uR r36_50.eq_1) <| s36.eq_1
def UCg_3 := Bx.mk <|
  aN (uA c36.eq_1) <| aN (uR r36_0.eq_1) <| aN (uR r36_1.eq_1) <| aN (uR r36_2.eq_1) <| aN (uA c36_44.eq_1) <| aN (uA c36_43.eq_1) <| aN (uA c36_9.eq_1) <| aN (uR r36_3.eq_1) <| aN (uA c36_8.eq_1) <| aN (uA c36_7.eq_1) <| aN (uR r36_4.eq_1) <| aN (uA c36_6.eq_1) <| aN (uR r36_5.eq_1) <| aN (uA c36_42.eq_1) <| aN (uA c36_11.eq_1) <| aN (uR r36_10.eq_1) <| aN (uA c36_41.eq_1) <| aN (uR r36_12.eq_1) <| aN (uA c36_40.eq_1) <| aN (uA c36_14.eq_1) <| aN (uR r36_13.eq_1) <| aN (uA c36_39.eq_1) <| aN (uR r36_15.eq_1) <| aN (uA c36_38.eq_1) <| aN (uA c36_17.eq_1) <| aN (uR r36_16.eq_1) <| aN (uA c36_37.eq_1) <| aN (uR r36_18.eq_1) <| aN (uA c36_36.eq_1) <| aN (uA c36_20.eq_1) <| aN (uR r36_19.eq_1) <| aN (uA c36_35.eq_1) <| aN (uR r36_21.eq_1) <| aN (uA c36_34.eq_1) <| aN (uA c36_23.eq_1) <| aN (uR r36_22.eq_1) <| aN (uA c36_33.eq_1) <| aN (uR r36_24.eq_1) <| aN (uA c36_32.eq_1) <| aN (uA c36_26.eq_1) <| aN (uR r36_25.eq_1) <| aN (uR r36_50.eq_1) <| s36.eq_1
def UCg_4 := Bx.mk <|
  aN (uA c36.eq_1) <| aN (uR r36_0.eq_1) <| aN (uR r36_1.eq_1) <| aN (uR r36_2.eq_1) <| aN (uA c36_44.eq_1) <| aN (uA c36_43.eq_1) <| aN (uA c36_9.eq_1) <| aN (uR r36_3.eq_1) <| aN (uA c36_8.eq_1) <| aN (uA c36_7.eq_1) <| aN (uR r36_4.eq_1) <| aN (uA c36_6.eq_1) <| aN (uR r36_5.eq_1) <| aN (uA c36_42.eq_1) <| aN (uA c36_11.eq_1) <| aN (uR r36_10.eq_1) <| aN (uA c36_41.eq_1) <| aN (uR r36_12.eq_1) <| aN (uA c36_40.eq_1) <| aN (uA c36_14.eq_1) <| aN (uR r36_13.eq_1) <| aN (uA c36_39.eq_1) <| aN (uR r36_15.eq_1) <| aN (uA c36_38.eq_1) <| aN (uA c36_17.eq_1) <| aN (uR r36_16.eq_1) <| aN (uA c36_37.eq_1) <| aN (uR r36_18.eq_1) <| aN (uA c36_36.eq_1) <| aN (uA c36_20.eq_1) <| aN (uR r36_19.eq_1) <| aN (uA c36_35.eq_1) <| aN (uR r36_21.eq_1) <| aN (uA c36_34.eq_1) <| aN (uA c36_23.eq_1) <| aN (uR r36_22.eq_1) <| aN (uR r36_50.eq_1) <| s36.eq_1
def UCg_5 := Bx.mk <|
  aN (uA c36.eq_1) <| aN (uR r36_0.eq_1) <| aN (uR r36_1.eq_1) <| aN (uR r36_2.eq_1) <| aN (uA c36_44.eq_1) <| aN (uA c36_43.eq_1) <| aN (uA c36_9.eq_1) <| aN (uR r36_3.eq_1) <| aN (uA c36_8.eq_1) <| aN (uA c36_7.eq_1) <| aN (uR r36_4.eq_1) <| aN (uA c36_6.eq_1) <| aN (uR r36_5.eq_1) <| aN (uA c36_42.eq_1) <| aN (uA c36_11.eq_1) <| aN (uR r36_10.eq_1) <| aN (uA c36_41.eq_1) <| aN (uR r36_12.eq_1) <| aN (uA c36_40.eq_1) <| aN (uA c36_14.eq_1) <| aN (uR r36_13.eq_1) <| aN (uA c36_39.eq_1) <| aN (uR r36_15.eq_1) <| aN (uA c36_38.eq_1) <| aN (uA c36_17.eq_1) <| aN (uR r36_16.eq_1) <| aN (uA c36_37.eq_1) <| aN (uR r36_18.eq_1) <| aN (uA c36_36.eq_1) <| aN (uA c36_20.eq_1) <| aN (uR r36_19.eq_1) <| aN (uR r36_50.eq_1) <| s36.eq_1
def UCg_6 := Bx.mk <|
  aN (uA c36.eq_1) <| aN (uR r36_0.eq_1) <| aN (uR r36_1.eq_1) <| aN (uR r36_2.eq_1) <| aN (uA c36_44.eq_1) <| aN (uA c36_43.eq_1) <| aN (uA c36_9.eq_1) <| aN (uR r36_3.eq_1) <| aN (uA c36_8.eq_1) <| aN (uA c36_7.eq_1) <| aN (uR r36_4.eq_1) <| aN (uA c36_6.eq_1) <| aN (uR r36_5.eq_1) <| aN (uA c36_42.eq_1) <| aN (uA c36_11.eq_1) <| aN (uR r36_10.eq_1) <| aN (uA c36_41.eq_1) <| aN (uR r36_12.eq_1) <| aN (uA c36_40.eq_1) <| aN (uA c36_14.eq_1) <| aN (uR r36_13.eq_1) <| aN (uA c36_39.eq_1) <| aN (uR r36_15.eq_1) <| aN (uA c36_38.eq_1) <| aN (uA c36_17.eq_1) <| aN (uR r36_16.eq_1) <| aN (uR r36_50.eq_1) <| s36.eq_1
def UCg_7 := Bx.mk <|
  aN (uA c36.eq_1) <| aN (uR r36_0.eq_1) <| aN (uR r36_1.eq_1) <| aN (uR r36_2.eq_1) <| aN (uA c36_49.eq_1) <| aN (uR r36_45.eq_1) <| aN (uA c36_48.eq_1) <| aN (uA c36_47.eq_1) <| aN (uR r36_46.eq_1) <| aN (uR r36_50.eq_1) <| s36.eq_1
set_option maxRecDepth 4000 in
set_option maxHeartbeats 1000000 in
theorem ends_ok {w : CW} (h : Form w) : YN 36 [tCW w] (Ends w) := by
  obtain ⟨ba, hba, Ca⟩ := any_ok h
  obtain ⟨bl, hbl, Cl⟩ := all_ok h
  obtain ⟨bd, hbd, Cd⟩ := due_ok h
  have s0 := en_at eI (sh_at h (i := 0) (by omega))
  have s1 := en_at eI (sh_at h (i := 1) (by omega))
  have s2 := en_at eI (sh_at h (i := 2) (by omega))
  have s3 := en_at eI (sh_at h (i := 3) (by omega))
  have z3 := sh_01 h (i := 3) (by omega)
  refine PC.intro ok36 rfl (fun _ => rfl) fun X => ?_
  obtain ⟨stop, hst⟩ : ∃ b, (sh w 3 == 1) = b := ⟨_, rfl⟩
  have hs1 : stop = true → sh w 3 = 1 := fun e => by rw [e] at hst; exact beq_iff_eq.1 hst
  have hs0 : stop = false → sh w 3 = 0 := fun e => by rw [e] at hst; have := beq_eq_false_iff_ne.1 hst; omega
  have fin : ((w.keeper = 0 → ¬ Due w) → (w.keeper = 2 → Due w) → Ends w) → ∀ (t : Nat → T) (H : HMap) (c : Nat), t 1 = .c (.ptr 1 0 0) → H 1 = some (cwB 0 w) → wpa Tryz.prog X c36_49 (thenW Tryz.prog X (.seq (.reg r36_50) .ret) (endE (fun b : Bool => b = true ↔ Ends w) T.b (fun _ => []) [.tmp 2])) ⟨t, H, c⟩ := by
    intro pre t H c e1 eH1
    simp only [T.c] at e1 eH1
    by_cases b1 : w.keeper = 0
    · have k1 := eqb b1
      simp only [RZ, reduceAdd, reduceIte, reduceEqDiff, reduceLT, reduceLeDiff, reduceCtorEq, Nat.reduceBEq, UCg_1.d, e1, eH1, k1]
      refine callC Cd rfl rfl rfl rfl ?_
      cases bd with
      | true =>
        simp only [RZ, reduceAdd, reduceIte, reduceEqDiff, reduceLT, reduceLeDiff, reduceCtorEq, Nat.reduceBEq, UCg_1.d, e1, eH1, k1]
        refine ES.mk false (no fun g => g.tk b1 (hbd.1 rfl)) ?_
        simp only [RZ, reduceAdd, reduceIte, reduceEqDiff, reduceLT, reduceLeDiff, reduceCtorEq, Nat.reduceBEq, UCg_1.d, e1, eH1, k1]
      | false =>
        simp only [RZ, reduceAdd, reduceIte, reduceEqDiff, reduceLT, reduceLeDiff, reduceCtorEq, Nat.reduceBEq, UCg_1.d, e1, eH1, k1]
        refine ES.mk true (yes (pre (fun _ g => by cases hbd.2 g) (fun e => by omega))) ?_
        simp only [RZ, reduceAdd, reduceIte, reduceEqDiff, reduceLT, reduceLeDiff, reduceCtorEq, Nat.reduceBEq, UCg_1.d, e1, eH1, k1]
    · have k1 := neqb b1
      by_cases b2 : w.keeper = 2
      · have k2 := eqn b2
        simp only [RZ, reduceAdd, reduceIte, reduceEqDiff, reduceLT, reduceLeDiff, reduceCtorEq, Nat.reduceBEq, UCg_1.d, e1, eH1, k1, k2]
        refine callC Cd rfl rfl rfl rfl ?_
        cases bd with
        | true =>
          simp only [RZ, reduceAdd, reduceIte, reduceEqDiff, reduceLT, reduceLeDiff, reduceCtorEq, Nat.reduceBEq, UCg_1.d, e1, eH1, k1, k2]
          refine ES.mk true (yes (pre (fun e => by omega) (fun _ => hbd.1 rfl))) ?_
          simp only [RZ, reduceAdd, reduceIte, reduceEqDiff, reduceLT, reduceLeDiff, reduceCtorEq, Nat.reduceBEq, UCg_1.d, e1, eH1, k1, k2]
        | false =>
          simp only [RZ, reduceAdd, reduceIte, reduceEqDiff, reduceLT, reduceLeDiff, reduceCtorEq, Nat.reduceBEq, UCg_1.d, e1, eH1, k1, k2]
          refine ES.mk false (no fun g => by cases hbd.2 (g.gv b2)) ?_
          simp only [RZ, reduceAdd, reduceIte, reduceEqDiff, reduceLT, reduceLeDiff, reduceCtorEq, Nat.reduceBEq, UCg_1.d, e1, eH1, k1, k2]
      · have k2 := neqn b2
        simp only [RZ, reduceAdd, reduceIte, reduceEqDiff, reduceLT, reduceLeDiff, reduceCtorEq, Nat.reduceBEq, UCg_1.d, e1, eH1, k1, k2]
        refine ES.mk true (yes (pre (fun e => absurd e b1) (fun e => absurd e b2))) ?_
        simp only [RZ, reduceAdd, reduceIte, reduceEqDiff, reduceLT, reduceLeDiff, reduceCtorEq, Nat.reduceBEq, UCg_1.d, e1, eH1, k1, k2]
  have main : ∀ dn : Bool, (dn = true ↔ w.keeper = 4 ∨ w.keeper = 5) → ∀ (t : Nat → T) (H : HMap) (c : Nat), t 1 = .c (.ptr 1 0 0) → H 1 = some (cwB 0 w) → t 3 = .b stop → t 4 = .b dn → wpa Tryz.prog X c36_44 (thenW Tryz.prog X (.seq c36_49 (.seq (.reg r36_50) .ret)) (endE (fun b : Bool => b = true ↔ Ends w) T.b (fun _ => []) [.tmp 2])) ⟨t, H, c⟩ := by
    intro dn hdn t H c e1 eH1 e3 e4
    simp only [T.c, T.b] at e1 eH1 e3 e4
    by_cases c0 : sh w 0 = 1 ↔ w.reader = 3
    rotate_left
    · have k1 := iffn c0
      simp only [RZ, reduceAdd, reduceIte, reduceEqDiff, reduceLT, reduceLeDiff, reduceCtorEq, Nat.reduceBEq, UCg_2.d, e1, eH1, e3, e4, s0, s1, s2, s3, eI, k1]
      refine ES.mk false (no fun g => c0 g.rd) ?_
      simp only [RZ, reduceAdd, reduceIte, reduceEqDiff, reduceLT, reduceLeDiff, reduceCtorEq, Nat.reduceBEq, UCg_2.d, e1, eH1, e3, e4, s0, s1, s2, s3, eI, k1]
    have f0 := ifft c0
    by_cases c1 : sh w 1 = 1 ↔ w.closer = 1
    rotate_left
    · have k1 := iffn c1
      simp only [RZ, reduceAdd, reduceIte, reduceEqDiff, reduceLT, reduceLeDiff, reduceCtorEq, Nat.reduceBEq, UCg_2.d, e1, eH1, e3, e4, s0, s1, s2, s3, eI, f0, k1]
      refine ES.mk false (no fun g => c1 g.cl) ?_
      simp only [RZ, reduceAdd, reduceIte, reduceEqDiff, reduceLT, reduceLeDiff, reduceCtorEq, Nat.reduceBEq, UCg_2.d, e1, eH1, e3, e4, s0, s1, s2, s3, eI, f0, k1]
    have f1 := ifft c1
    by_cases c2 : sh w 2 = 1 ↔ w.keeper = 5
    rotate_left
    · have k1 := iffn c2
      simp only [RZ, reduceAdd, reduceIte, reduceEqDiff, reduceLT, reduceLeDiff, reduceCtorEq, Nat.reduceBEq, UCg_2.d, e1, eH1, e3, e4, s0, s1, s2, s3, eI, f0, f1, k1]
      refine ES.mk false (no fun g => c2 g.kp) ?_
      simp only [RZ, reduceAdd, reduceIte, reduceEqDiff, reduceLT, reduceLeDiff, reduceCtorEq, Nat.reduceBEq, UCg_2.d, e1, eH1, e3, e4, s0, s1, s2, s3, eI, f0, f1, k1]
    have f2 := ifft c2
    simp only [RZ, reduceAdd, reduceIte, reduceEqDiff, reduceLT, reduceLeDiff, reduceCtorEq, Nat.reduceBEq, UCg_2.d, e1, eH1, e3, e4, s0, s1, s2, s3, eI, f0, f1, f2]
    cases stop with
    | true =>
      have p3 := hs1 rfl
      by_cases b1 : w.user = 1
      · have k1 := eqn b1
        by_cases b2 : w.closer = 1
        · have k2 := eqb b2
          simp only [RZ, reduceAdd, reduceIte, reduceEqDiff, reduceLT, reduceLeDiff, reduceCtorEq, Nat.reduceBEq, UCg_2.d, e1, eH1, e3, e4, s0, s1, s2, s3, eI, f0, f1, f2, k1, k2]
          refine callC Cl rfl rfl rfl rfl ?_
          cases bl with
          | true =>
            simp only [RZ, reduceAdd, reduceIte, reduceEqDiff, reduceLT, reduceLeDiff, reduceCtorEq, Nat.reduceBEq, UCg_2.d, e1, eH1, e3, e4, s0, s1, s2, s3, eI, f0, f1, f2, k1, k2]
            refine fin (fun x y => ⟨c0, c1, c2, fun _ => b1, fun e => by omega, fun e => by omega, fun _ => hbl.1 rfl, fun e => by omega, fun e => by omega, x, y⟩) _ _ _ ?_ ?_
            · exact e1
            · exact eH1
          | false =>
            simp only [RZ, reduceAdd, reduceIte, reduceEqDiff, reduceLT, reduceLeDiff, reduceCtorEq, Nat.reduceBEq, UCg_2.d, e1, eH1, e3, e4, s0, s1, s2, s3, eI, f0, f1, f2, k1, k2]
            refine ES.mk false (no fun g => by cases hbl.2 (g.al b2)) ?_
            simp only [RZ, reduceAdd, reduceIte, reduceEqDiff, reduceLT, reduceLeDiff, reduceCtorEq, Nat.reduceBEq, UCg_2.d, e1, eH1, e3, e4, s0, s1, s2, s3, eI, f0, f1, f2, k1, k2]
        · have k2 := neqb b2
          simp only [RZ, reduceAdd, reduceIte, reduceEqDiff, reduceLT, reduceLeDiff, reduceCtorEq, Nat.reduceBEq, UCg_2.d, e1, eH1, e3, e4, s0, s1, s2, s3, eI, f0, f1, f2, k1, k2]
          refine fin (fun x y => ⟨c0, c1, c2, fun _ => b1, fun e => by omega, fun e => by omega, fun e => absurd e b2, fun e => by omega, fun e => by omega, x, y⟩) _ _ _ ?_ ?_
          · exact e1
          · exact eH1
      · have k1 := neqn b1
        simp only [RZ, reduceAdd, reduceIte, reduceEqDiff, reduceLT, reduceLeDiff, reduceCtorEq, Nat.reduceBEq, UCg_2.d, e1, eH1, e3, e4, s0, s1, s2, s3, eI, f0, f1, f2, k1]
        refine ES.mk false (no fun g => b1 (g.us p3)) ?_
        simp only [RZ, reduceAdd, reduceIte, reduceEqDiff, reduceLT, reduceLeDiff, reduceCtorEq, Nat.reduceBEq, UCg_2.d, e1, eH1, e3, e4, s0, s1, s2, s3, eI, f0, f1, f2, k1]
    | false =>
      have p3 := hs0 rfl
      simp only [RZ, reduceAdd, reduceIte, reduceEqDiff, reduceLT, reduceLeDiff, reduceCtorEq, Nat.reduceBEq, UCg_2.d, e1, eH1, e3, e4, s0, s1, s2, s3, eI, f0, f1, f2]
      by_cases b1 : 2 ≤ w.reader ∧ ¬ w.next = w.jobs
      · have k1 := b1.1
        have k2 := neqn b1.2
        simp only [RZ, reduceAdd, reduceIte, reduceEqDiff, reduceLT, reduceLeDiff, reduceCtorEq, Nat.reduceBEq, UCg_2.d, e1, eH1, e3, e4, s0, s1, s2, s3, eI, f0, f1, f2, k1, k2, ge_iff_le]
        refine ES.mk false (no fun g => b1.2 (g.rc p3 b1.1)) ?_
        simp only [RZ, reduceAdd, reduceIte, reduceEqDiff, reduceLT, reduceLeDiff, reduceCtorEq, Nat.reduceBEq, UCg_2.d, e1, eH1, e3, e4, s0, s1, s2, s3, eI, f0, f1, f2, k1, k2, ge_iff_le]
      have r4 : 2 ≤ w.reader → w.next = w.jobs := fun e => by omega
      have t31 : (w.keeper = 4 ∨ w.keeper = 5 → w.closer = 1 ∧ w.results.length = 0) → (w.closer = 1 → All w) → (Any w → w.reader = 3 ∧ w.queue.length = 0) → ∀ (t : Nat → T) (H : HMap) (c : Nat), t 1 = .c (.ptr 1 0 0) → H 1 = some (cwB 0 w) → t 3 = .b false → t 4 = .b dn → wpa Tryz.prog X c36_31 (inW 0 (thenW Tryz.prog X (.seq c36_49 (.seq (.reg r36_50) .ret)) (endE (fun b : Bool => b = true ↔ Ends w) T.b (fun _ => []) [.tmp 2]))) ⟨t, H, c⟩ := by
        clear e1 eH1 e3 e4 t H c
        intro a5 a6 a7 t H c e1 eH1 e3 e4
        simp only [T.c, T.b] at e1 eH1 e3 e4
        have pre : (w.user = 1 → w.keeper = 5 ∧ w.out.length = 0) → (w.keeper = 0 → ¬ Due w) → (w.keeper = 2 → Due w) → Ends w := fun z x y => ⟨c0, c1, c2, fun e => by omega, fun _ => r4, fun _ => a7, a6, fun _ => a5, fun _ => z, x, y⟩
        by_cases b1 : w.user = 1
        · have k1 := eqb b1
          by_cases b2 : w.keeper = 5
          · have k2 := eqn b2
            by_cases b3 : (w.out.length : Int) > 0
            · simp only [RZ, reduceAdd, reduceIte, reduceEqDiff, reduceLT, reduceLeDiff, reduceCtorEq, Nat.reduceBEq, UCg_2.d, e1, eH1, e3, e4, en_len, k1, k2, b3]
              refine ES.mk false (no fun g => by have := (g.en p3 b1).2; omega) ?_
              simp only [RZ, reduceAdd, reduceIte, reduceEqDiff, reduceLT, reduceLeDiff, reduceCtorEq, Nat.reduceBEq, UCg_2.d, e1, eH1, e3, e4, en_len, k1, k2, b3]
            · simp only [RZ, reduceAdd, reduceIte, reduceEqDiff, reduceLT, reduceLeDiff, reduceCtorEq, Nat.reduceBEq, UCg_2.d, e1, eH1, e3, e4, en_len, k1, k2, b3]
              refine fin (pre fun _ => ⟨b2, by omega⟩) _ _ _ ?_ ?_
              · exact e1
              · exact eH1
          · have k2 := neqn b2
            simp only [RZ, reduceAdd, reduceIte, reduceEqDiff, reduceLT, reduceLeDiff, reduceCtorEq, Nat.reduceBEq, UCg_2.d, e1, eH1, e3, e4, en_len, k1, k2]
            refine ES.mk false (no fun g => b2 (g.en p3 b1).1) ?_
            simp only [RZ, reduceAdd, reduceIte, reduceEqDiff, reduceLT, reduceLeDiff, reduceCtorEq, Nat.reduceBEq, UCg_2.d, e1, eH1, e3, e4, en_len, k1, k2]
        · have k1 := neqb b1
          simp only [RZ, reduceAdd, reduceIte, reduceEqDiff, reduceLT, reduceLeDiff, reduceCtorEq, Nat.reduceBEq, UCg_2.d, e1, eH1, e3, e4, en_len, k1]
          refine fin (pre fun e => absurd e b1) _ _ _ ?_ ?_
          · exact e1
          · exact eH1
      have t33 : (w.closer = 1 → All w) → (Any w → w.reader = 3 ∧ w.queue.length = 0) → ∀ (t : Nat → T) (H : HMap) (c : Nat), t 1 = .c (.ptr 1 0 0) → H 1 = some (cwB 0 w) → t 3 = .b false → t 4 = .b dn → wpa Tryz.prog X c36_33 (inW 0 (thenW Tryz.prog X (.seq c36_49 (.seq (.reg r36_50) .ret)) (endE (fun b : Bool => b = true ↔ Ends w) T.b (fun _ => []) [.tmp 2]))) ⟨t, H, c⟩ := by
        clear e1 eH1 e3 e4 t H c
        intro a6 a7 t H c e1 eH1 e3 e4
        simp only [T.c, T.b] at e1 eH1 e3 e4
        cases dn with
        | false =>
          simp only [RZ, reduceAdd, reduceIte, reduceEqDiff, reduceLT, reduceLeDiff, reduceCtorEq, Nat.reduceBEq, UCg_3.d, e1, eH1, e3, e4, en_len]
          refine t31 (fun e => by cases hdn.2 e) a6 a7 _ _ _ ?_ ?_ ?_ ?_
          · exact e1
          · exact eH1
          · exact e3
          · exact e4
        | true =>
          by_cases b1 : w.closer = 1
          · have k1 := eqn b1
            by_cases b3 : (w.results.length : Int) > 0
            · simp only [RZ, reduceAdd, reduceIte, reduceEqDiff, reduceLT, reduceLeDiff, reduceCtorEq, Nat.reduceBEq, UCg_3.d, e1, eH1, e3, e4, en_len, k1, b3]
              refine ES.mk false (no fun g => by have := (g.dn p3 (hdn.1 rfl)).2; omega) ?_
              simp only [RZ, reduceAdd, reduceIte, reduceEqDiff, reduceLT, reduceLeDiff, reduceCtorEq, Nat.reduceBEq, UCg_3.d, e1, eH1, e3, e4, en_len, k1, b3]
            · simp only [RZ, reduceAdd, reduceIte, reduceEqDiff, reduceLT, reduceLeDiff, reduceCtorEq, Nat.reduceBEq, UCg_3.d, e1, eH1, e3, e4, en_len, k1, b3]
              refine t31 (fun _ => ⟨b1, by omega⟩) a6 a7 _ _ _ ?_ ?_ ?_ ?_
              · exact e1
              · exact eH1
              · exact e3
              · exact e4
          · have k1 := neqn b1
            simp only [RZ, reduceAdd, reduceIte, reduceEqDiff, reduceLT, reduceLeDiff, reduceCtorEq, Nat.reduceBEq, UCg_3.d, e1, eH1, e3, e4, en_len, k1]
            refine ES.mk false (no fun g => b1 (g.dn p3 (hdn.1 rfl)).1) ?_
            simp only [RZ, reduceAdd, reduceIte, reduceEqDiff, reduceLT, reduceLeDiff, reduceCtorEq, Nat.reduceBEq, UCg_3.d, e1, eH1, e3, e4, en_len, k1]
      have t35 : (Any w → w.reader = 3 ∧ w.queue.length = 0) → ∀ (t : Nat → T) (H : HMap) (c : Nat), t 1 = .c (.ptr 1 0 0) → H 1 = some (cwB 0 w) → t 3 = .b false → t 4 = .b dn → wpa Tryz.prog X c36_35 (inW 0 (thenW Tryz.prog X (.seq c36_49 (.seq (.reg r36_50) .ret)) (endE (fun b : Bool => b = true ↔ Ends w) T.b (fun _ => []) [.tmp 2]))) ⟨t, H, c⟩ := by
        clear e1 eH1 e3 e4 t H c
        intro a7 t H c e1 eH1 e3 e4
        simp only [T.c, T.b] at e1 eH1 e3 e4
        by_cases b1 : w.closer = 1
        · have k1 := eqb b1
          simp only [RZ, reduceAdd, reduceIte, reduceEqDiff, reduceLT, reduceLeDiff, reduceCtorEq, Nat.reduceBEq, UCg_4.d, e1, eH1, e3, e4, en_len, k1]
          refine callC Cl rfl rfl rfl rfl ?_
          cases bl with
          | true =>
            simp only [RZ, reduceAdd, reduceIte, reduceEqDiff, reduceLT, reduceLeDiff, reduceCtorEq, Nat.reduceBEq, UCg_4.d, e1, eH1, e3, e4, en_len, k1]
            refine t33 (fun _ => hbl.1 rfl) a7 _ _ _ ?_ ?_ ?_ ?_
            · exact e1
            · exact eH1
            · exact e3
            · exact e4
          | false =>
            simp only [RZ, reduceAdd, reduceIte, reduceEqDiff, reduceLT, reduceLeDiff, reduceCtorEq, Nat.reduceBEq, UCg_4.d, e1, eH1, e3, e4, en_len, k1]
            refine ES.mk false (no fun g => by cases hbl.2 (g.al b1)) ?_
            simp only [RZ, reduceAdd, reduceIte, reduceEqDiff, reduceLT, reduceLeDiff, reduceCtorEq, Nat.reduceBEq, UCg_4.d, e1, eH1, e3, e4, en_len, k1]
        · have k1 := neqb b1
          simp only [RZ, reduceAdd, reduceIte, reduceEqDiff, reduceLT, reduceLeDiff, reduceCtorEq, Nat.reduceBEq, UCg_4.d, e1, eH1, e3, e4, en_len, k1]
          refine t33 (fun e => absurd e b1) a7 _ _ _ ?_ ?_ ?_ ?_
          · exact e1
          · exact eH1
          · exact e3
          · exact e4
      have rest1 : ∀ (t : Nat → T) (H : HMap) (c : Nat), t 1 = .c (.ptr 1 0 0) → H 1 = some (cwB 0 w) → t 3 = .b false → t 4 = .b dn → wpa Tryz.prog X c36_37 (inW 0 (thenW Tryz.prog X (.seq c36_49 (.seq (.reg r36_50) .ret)) (endE (fun b : Bool => b = true ↔ Ends w) T.b (fun _ => []) [.tmp 2]))) ⟨t, H, c⟩ := by
        clear e1 eH1 e3 e4 t H c
        intro t H c e1 eH1 e3 e4
        simp only [T.c, T.b] at e1 eH1 e3 e4
        simp only [RZ, reduceAdd, reduceIte, reduceEqDiff, reduceLT, reduceLeDiff, reduceCtorEq, Nat.reduceBEq, UCg_5.d, e1, eH1, e3, e4, en_len]
        refine callC Ca rfl rfl rfl rfl ?_
        cases ba with
        | false =>
          simp only [RZ, reduceAdd, reduceIte, reduceEqDiff, reduceLT, reduceLeDiff, reduceCtorEq, Nat.reduceBEq, UCg_5.d, e1, eH1, e3, e4, en_len]
          refine t35 (fun e => by cases hba.2 e) _ _ _ ?_ ?_ ?_ ?_
          · exact e1
          · exact eH1
          · exact e3
          · exact e4
        | true =>
          by_cases b1 : w.reader = 3
          · have k1 := eqn b1
            by_cases b3 : (w.queue.length : Int) > 0
            · simp only [RZ, reduceAdd, reduceIte, reduceEqDiff, reduceLT, reduceLeDiff, reduceCtorEq, Nat.reduceBEq, UCg_5.d, e1, eH1, e3, e4, en_len, k1, b3]
              refine ES.mk false (no fun g => by have := (g.an p3 (hba.1 rfl)).2; omega) ?_
              simp only [RZ, reduceAdd, reduceIte, reduceEqDiff, reduceLT, reduceLeDiff, reduceCtorEq, Nat.reduceBEq, UCg_5.d, e1, eH1, e3, e4, en_len, k1, b3]
            · simp only [RZ, reduceAdd, reduceIte, reduceEqDiff, reduceLT, reduceLeDiff, reduceCtorEq, Nat.reduceBEq, UCg_5.d, e1, eH1, e3, e4, en_len, k1, b3]
              refine t35 (fun _ => ⟨b1, by omega⟩) _ _ _ ?_ ?_ ?_ ?_
              · exact e1
              · exact eH1
              · exact e3
              · exact e4
          · have k1 := neqn b1
            simp only [RZ, reduceAdd, reduceIte, reduceEqDiff, reduceLT, reduceLeDiff, reduceCtorEq, Nat.reduceBEq, UCg_5.d, e1, eH1, e3, e4, en_len, k1]
            refine ES.mk false (no fun g => b1 (g.an p3 (hba.1 rfl)).1) ?_
            simp only [RZ, reduceAdd, reduceIte, reduceEqDiff, reduceLT, reduceLeDiff, reduceCtorEq, Nat.reduceBEq, UCg_5.d, e1, eH1, e3, e4, en_len, k1]
      by_cases b2 : 2 ≤ w.reader
      · have k1 := b2
        have k2 := eqn (r4 b2)
        simp only [RZ, reduceAdd, reduceIte, reduceEqDiff, reduceLT, reduceLeDiff, reduceCtorEq, Nat.reduceBEq, UCg_6.d, e1, eH1, e3, e4, s0, s1, s2, s3, eI, f0, f1, f2, k1, k2, ge_iff_le]
        refine rest1 _ _ _ ?_ ?_ ?_ ?_
        · exact e1
        · exact eH1
        · exact e3
        · exact e4
      · have k1 := b2
        simp only [RZ, reduceAdd, reduceIte, reduceEqDiff, reduceLT, reduceLeDiff, reduceCtorEq, Nat.reduceBEq, UCg_6.d, e1, eH1, e3, e4, s0, s1, s2, s3, eI, f0, f1, f2, k1, ge_iff_le]
        refine rest1 _ _ _ ?_ ?_ ?_ ?_
        · exact e1
        · exact eH1
        · exact e3
        · exact e4
  by_cases b1 : w.keeper = 4
  · have k1 := eqb b1
    simp only [RZ, reduceAdd, reduceIte, reduceEqDiff, reduceLT, reduceLeDiff, reduceCtorEq, Nat.reduceBEq, UCg_7.d, s3, eI, hst, k1]
    refine main true ⟨fun _ => .inl b1, fun _ => rfl⟩ _ _ _ ?_ ?_ ?_ ?_ <;> rfl
  · have k1 := neqb b1
    by_cases b2 : w.keeper = 5
    · have k2 := eqb b2
      simp only [RZ, reduceAdd, reduceIte, reduceEqDiff, reduceLT, reduceLeDiff, reduceCtorEq, Nat.reduceBEq, UCg_7.d, s3, eI, hst, k1, k2]
      refine main true ⟨fun _ => .inr b2, fun _ => rfl⟩ _ _ _ ?_ ?_ ?_ ?_ <;> rfl
    · have k2 := neqb b2
      simp only [RZ, reduceAdd, reduceIte, reduceEqDiff, reduceLT, reduceLeDiff, reduceCtorEq, Nat.reduceBEq, UCg_7.d, s3, eI, hst, k1, k2]
      refine main false ⟨fun e => (by cases e), fun e => (by omega)⟩ _ _ _ ?_ ?_ ?_ ?_ <;> rfl
end Go.V
set_option linter.unusedSimpArgs false
namespace Go.V
open Go.Proofs
open Nat (reduceAdd reduceEqDiff reduceLT reduceLeDiff)
def rdL (r : Int) : Int := if r = 0 then 2 else if r = 1 then 12 else if r = 2 then 1 else 0
def kpL (k : Int) : Int := if k = 0 then 2 else if k = 1 then 3 else if k = 2 then 2 else if k = 3 then 4 else if k = 4 then 1 else 0
def hdL (s : Int) : Int := if s = 0 then 1 else if s = 1 then 9 else if s = 2 then 8 else 0
def sumL (hs : List Hd) : Int := (hs.map fun h => hdL h.state).sum
def base (w : CW) : Int := 11 * (w.jobs - w.next) + 9 * w.queue.length + 6 * w.results.length + w.out.length + rdL w.reader + 1 - w.closer + kpL w.keeper + 1 - w.user
/-- What is left to be done. -/
def left (w : CW) : Int := base w + sumL w.hands + 4 * (rJobs w.ring).length
theorem rdL_bd (r : Int) : 0 ≤ rdL r ∧ rdL r ≤ 12 := by unfold rdL; repeat' split
                                                        all_goals omega
theorem kpL_bd (r : Int) : 0 ≤ kpL r ∧ kpL r ≤ 4 := by unfold kpL; repeat' split
                                                       all_goals omega
theorem hdL_bd (r : Int) : 0 ≤ hdL r ∧ hdL r ≤ 9 := by unfold hdL; repeat' split
                                                       all_goals omega
theorem sumL_take {hs : List Hd} {i : Nat} {h : Hd} (hx : hs[i]? = some h) : sumL (hs.take (i + 1)) = sumL (hs.take i) + hdL h.state := by
  rw [List.take_add_one, hx]; simp [sumL]
theorem sumL_bd : ∀ hs : List Hd, 0 ≤ sumL hs ∧ sumL hs ≤ 9 * hs.length
  | [] => ⟨by simp [sumL], by simp [sumL]⟩
  | h :: hs => by
    have h1 := sumL_bd hs
    have h2 := hdL_bd h.state
    simp only [sumL, List.map_cons, List.sum_cons, List.length_cons] at h1 ⊢
    omega
theorem base_bd {w : CW} (h : Form w) : 0 ≤ base w ∧ base w ≤ 1000 := by
  have h1 := h.st.j
  have h2 := h.next
  have h3 := h.lq
  have h4 := h.le
  have h5 := h.lo
  have h6 := h.st.k
  have h7 := h.cl
  have h8 := h.us
  have h9 := rdL_bd w.reader
  have h10 := kpL_bd w.keeper
  unfold base
  omega
theorem left_bd {w : CW} (h : Form w) : 0 ≤ left w ∧ left w ≤ 2000 := by
  have h1 := base_bd h
  have h2 := sumL_bd w.hands
  have h3 := rJobs_len w.ring
  have h4 := h.lh
  have h5 := h.lr
  have h6 := h.st.k
  have h7 := h.st.n
  unfold left
  omega
theorem rd_at {r : Int} (h : 0 ≤ r ∧ r ≤ 3) : [[V.s (.int .i64 2)], [V.s (.int .i64 12)], [V.s (.int .i64 1)], [V.s (.int .i64 0)]][r.toNat]? = some [V.s (.int .i64 (rdL r))] := by
  rcases (by omega : r = 0 ∨ r = 1 ∨ r = 2 ∨ r = 3) with rfl | rfl | rfl | rfl <;> rfl
theorem kp_at {r : Int} (h : 0 ≤ r ∧ r ≤ 5) : [[V.s (.int .i64 2)], [V.s (.int .i64 3)], [V.s (.int .i64 2)], [V.s (.int .i64 4)], [V.s (.int .i64 1)], [V.s (.int .i64 0)]][r.toNat]? = some [V.s (.int .i64 (kpL r))] := by
  rcases (by omega : r = 0 ∨ r = 1 ∨ r = 2 ∨ r = 3 ∨ r = 4 ∨ r = 5) with rfl | rfl | rfl | rfl | rfl | rfl <;> rfl
theorem hd_at {r : Int} (h : 0 ≤ r ∧ r ≤ 3) : [[V.s (.int .i64 1)], [V.s (.int .i64 9)], [V.s (.int .i64 8)], [V.s (.int .i64 0)]][r.toNat]? = some [V.s (.int .i64 (hdL r))] := by
  rcases (by omega : r = 0 ∨ r = 1 ∨ r = 2 ∨ r = 3) with rfl | rfl | rfl | rfl <;> rfl
theorem lt4 {r : Int} (h : 0 ≤ r ∧ r ≤ 3) : r < ((4 : Nat) : Int) := by omega
theorem lt6 {r : Int} (h : 0 ≤ r ∧ r ≤ 5) : r < ((6 : Nat) : Int) := by omega
/- loop.example/teagle/spec.l51Left -/
def r37_0 : List AOper := [ao 0 1 (.box 26 (.t 0)),
  ao 1 2 (.mv (.k (.i 0)))]
def r37_1 : List AOper := [ao 0 6 (.fa 0 (.t 1)),
  ao 1 7 (.ld 1 false (.t 6)),
  ao 2 8 (.fa 3 (.t 1)),
  ao 3 9 (.ld 1 false (.t 8)),
  ao 4 10 (.bin .sub (.t 7) (.t 9)),
  ao 5 11 (.bin .mul (.k (.i 11)) (.t 10)),
  ao 6 12 (.fa 5 (.t 1)),
  ao 7 13 (.ld 1 false (.t 12)),
  ao 8 14 (.len (.t 13)),
  ao 9 15 (.bin .mul (.k (.i 9)) (.t 14)),
  ao 10 16 (.bin .add (.t 11) (.t 15)),
  ao 11 17 (.fa 8 (.t 1)),
  ao 12 18 (.ld 1 false (.t 17)),
  ao 13 19 (.len (.t 18)),
  ao 14 20 (.bin .mul (.k (.i 6)) (.t 19)),
  ao 15 21 (.bin .add (.t 16) (.t 20)),
  ao 16 22 (.fa 12 (.t 1)),
  ao 17 23 (.ld 1 false (.t 22)),
  ao 18 24 (.len (.t 23)),
  ao 19 25 (.bin .add (.t 21) (.t 24)),
  ao 20 3 (.mv (.t 25))]
def r37_2 : List AOper := [ao 0 26 (.mv (.t 3)),
  au 1 27 [0] (.bsl 1 3 [(.k (.i 2)), (.k (.i 12)), (.k (.i 1)), (.k (.i 0))]),
  au 2 28 [0, 1] (.fa 4 (.t 1)),
  au 3 29 [0, 1] (.ld 1 false (.t 28)),
  au 4 30 [0] (.ia 1 (.t 27) (.t 29)),
  au 5 31 [0] (.ld 1 false (.t 30)),
  ao 6 32 (.bin .add (.t 26) (.t 31)),
  ao 7 33 (.bin .add (.t 32) (.k (.i 1))),
  au 8 34 (ru 8) (.fa 7 (.t 1)),
  au 9 35 (ru 8) (.ld 1 false (.t 34)),
  ao 10 36 (.bin .sub (.t 33) (.t 35)),
  au 11 37 (ru 11) (.bsl 1 3 [(.k (.i 2)), (.k (.i 3)), (.k (.i 2)), (.k (.i 4)), (.k (.i 1)), (.k (.i 0))]),
  au 12 38 (ru 12) (.fa 9 (.t 1)),
  au 13 39 (ru 12) (.ld 1 false (.t 38)),
  au 14 40 (ru 11) (.ia 1 (.t 37) (.t 39)),
  au 15 41 (ru 11) (.ld 1 false (.t 40)),
  ao 16 42 (.bin .add (.t 36) (.t 41)),
  ao 17 43 (.bin .add (.t 42) (.k (.i 1))),
  au 18 44 (ru 18) (.fa 13 (.t 1)),
  au 19 45 (ru 18) (.ld 1 false (.t 44)),
  ao 20 46 (.bin .sub (.t 43) (.t 45)),
  ao 21 3 (.mv (.t 46))]
def r37_3 : List AOper := [ao 0 4 (.mv (.k (.i 0)))]
def r37_4 : List AOper := [ao 0 47 (.mv (.t 4)),
  ao 1 48 (.fa 6 (.t 1)),
  ao 2 49 (.ld 1 false (.t 48)),
  ao 3 50 (.len (.t 49)),
  ao 4 51 (.bin .lss (.t 47) (.t 50))]
def c37_5 : ACode := .cond (.t 51) .skip (.exit 0)
def c37_6 : ACode := .seq (.reg r37_4) c37_5
def r37_7 : List AOper := [ao 0 54 (.mv (.t 3)),
  ao 1 55 (.bsl 1 3 [(.k (.i 1)), (.k (.i 9)), (.k (.i 8)), (.k (.i 0))]),
  ao 2 56 (.fa 6 (.t 1)),
  ao 3 57 (.ld 1 false (.t 56)),
  ao 4 58 (.mv (.t 4)),
  ao 5 59 (.ia 2 (.t 57) (.t 58)),
  ao 6 60 (.fa 0 (.t 59)),
  ao 7 61 (.ld 1 false (.t 60)),
  ao 8 62 (.ia 1 (.t 55) (.t 61)),
  ao 9 63 (.ld 1 false (.t 62)),
  ao 10 64 (.bin .add (.t 54) (.t 63)),
  ao 11 3 (.mv (.t 64))]
def c37_8 : ACode := .block 1 (.reg r37_7)
def r37_9 : List AOper := [ao 0 52 (.mv (.t 4)),
  ao 1 53 (.bin .add (.t 52) (.k (.i 1))),
  ao 2 4 (.mv (.t 53))]
def c37_10 : ACode := .seq c37_6 (.seq c37_8 (.reg r37_9))
def c37_11 : ACode := .loop c37_10
def c37_12 : ACode := .block 0 c37_11
def c37_13 : ACode := .seq (.reg r37_3) c37_12
def r37_14 : List AOper := [ao 0 5 (.mv (.k (.i 0)))]
def r37_15 : List AOper := [ao 0 65 (.mv (.t 5)),
  ao 1 66 (.fa 10 (.t 1)),
  ao 2 67 (.ld 1 false (.t 66)),
  ao 3 68 (.len (.t 67)),
  ao 4 69 (.bin .lss (.t 65) (.t 68))]
def c37_16 : ACode := .cond (.t 69) .skip (.exit 2)
def c37_17 : ACode := .seq (.reg r37_15) c37_16
def r37_18 : List AOper := [ao 0 72 (.fa 10 (.t 1)),
  ao 1 73 (.ld 1 false (.t 72)),
  ao 2 74 (.mv (.t 5)),
  ao 3 75 (.ia 1 (.t 73) (.t 74)),
  ao 4 76 (.ld 1 false (.t 75)),
  ao 5 77 (.bin .geq (.t 76) (.k (.i 0)))]
def r37_19 : List AOper := [ao 0 78 (.mv (.t 3)),
  ao 1 79 (.bin .add (.t 78) (.k (.i 4))),
  ao 2 3 (.mv (.t 79))]
def c37_20 : ACode := .cond (.t 77) (.reg r37_19) .skip
def c37_21 : ACode := .seq (.reg r37_18) c37_20
def c37_22 : ACode := .block 3 c37_21
def r37_23 : List AOper := [ao 0 70 (.mv (.t 5)),
  ao 1 71 (.bin .add (.t 70) (.k (.i 1))),
  ao 2 5 (.mv (.t 71))]
def c37_24 : ACode := .seq c37_17 (.seq c37_22 (.reg r37_23))
def c37_25 : ACode := .loop c37_24
def c37_26 : ACode := .block 2 c37_25
def c37_27 : ACode := .seq (.reg r37_14) c37_26
def r37_28 : List AOper := [ao 0 80 (.mv (.t 3)),
  ao 1 2 (.mv (.t 80))]
def c37 : ACode := .seq (.reg r37_0) (.seq (.reg r37_1) (.seq (.reg r37_2) (.seq c37_13 (.seq c37_27 (.seq (.reg r37_28) .ret)))))
def s37 : List ARes := [.tmp 2]
theorem ok37 : okF Tryz.prog 37 81 c37 s37 := ⟨Tryz.f37, Tryz.func37, Tryz.ntmps37, by kernel_rfl, by kernel_rfl, by kernel_rfl⟩
def inv48a (w : CW) (v : Nat) (i : Nat) (σ : St) : Prop := σ.t 1 = .c (.ptr 1 v 0) ∧ σ.H 1 = some (cwB v w) ∧ σ.t 3 = .i (base w + sumL (w.hands.take i)) ∧ σ.t 4 = .i i
def inv48b (w : CW) (v : Nat) (i : Nat) (σ : St) : Prop := σ.t 1 = .c (.ptr 1 v 0) ∧ σ.H 1 = some (cwB v w) ∧ σ.t 3 = .i (base w + sumL w.hands + 4 * (rJobs (w.ring.take i)).length) ∧ σ.t 5 = .i i
def UCh_1 := Bx.mk <|
  aN (uA c37.eq_1) <| aN (uR r37_0.eq_1) <| aN (uR r37_1.eq_1) <| aN (uR r37_2.eq_1) <| aN (uA c37_13.eq_1) <| aN (uR r37_3.eq_1) <| aN (uA c37_12.eq_1) <| aN (uA c37_11.eq_1) <| aN (uA c37_27.eq_1) <| aN (uR r37_14.eq_1) <| aN (uA c37_26.eq_1) <| aN (uA c37_25.eq_1) <| aN (uR r37_28.eq_1) <| s37.eq_1
def UCh_3 := Bx.mk <|
  aN (uA c37_10.eq_1) <| aN (uA c37_6.eq_1) <| aN (uR r37_4.eq_1) <| aN (uA c37_5.eq_1) <| aN (uA c37_8.eq_1) <| aN (uR r37_7.eq_1) <| aN (uR r37_9.eq_1) <| aN (uA c37.eq_1) <| aN (uR r37_0.eq_1) <| aN (uR r37_1.eq_1) <| aN (uR r37_2.eq_1) <| aN (uA c37_13.eq_1) <| aN (uR r37_3.eq_1) <| aN (uA c37_12.eq_1) <| aN (uA c37_11.eq_1) <| aN (uA c37_27.eq_1) <| aN (uR r37_14.eq_1) <| aN (uA c37_26.eq_1) <| aN (uA c37_25.eq_1) <| aN (uR r37_28.eq_1) <| s37.eq_1
def UCh_4 := Bx.mk <|
  aN (uA c37_24.eq_1) <| aN (uA c37_17.eq_1) <| aN (uR r37_15.eq_1) <| aN (uA c37_16.eq_1) <| aN (uA c37_22.eq_1) <| aN (uA c37_21.eq_1) <| aN (uR r37_18.eq_1) <| aN (uA c37_20.eq_1) <| aN (uR r37_19.eq_1) <| aN (uR r37_23.eq_1) <| aN (uA c37.eq_1) <| aN (uR r37_0.eq_1) <| aN (uR r37_1.eq_1) <| aN (uR r37_2.eq_1) <| aN (uA c37_13.eq_1) <| aN (uR r37_3.eq_1) <| aN (uA c37_12.eq_1) <| aN (uA c37_11.eq_1) <| aN (uA c37_27.eq_1) <| aN (uR r37_14.eq_1) <| aN (uA c37_26.eq_1) <| aN (uA c37_25.eq_1) <| aN (uR r37_28.eq_1) <| s37.eq_1
set_option maxHeartbeats 1000000 in
theorem left_ok {w : CW} (h : Form w) : ACallsF Tryz.prog 37 [tCW w] [] (.i (left w)) := by
  have hr := h.lr
  have hh := h.lh
  have hn := h.st.n
  have hk := h.st.k
  have hj := h.st.j
  have hx := h.next
  have hq := h.lq
  have he := h.le
  have ho := h.lo
  have hcl := h.cl
  have hus := h.us
  have b1 := rdL_bd w.reader
  have b2 := kpL_bd w.keeper
  have b3 := base_bd h
  have w1 : IntKind.i64.wrap (w.jobs - w.next) = w.jobs - w.next := wrap64 ⟨by omega, by omega⟩
  have w2 : IntKind.i64.wrap (11 * (w.jobs - w.next)) = 11 * (w.jobs - w.next) := wrap64 ⟨by omega, by omega⟩
  have w3 : IntKind.i64.wrap (9 * (w.queue.length : Int)) = 9 * (w.queue.length : Int) := wrap64 ⟨by omega, by omega⟩
  have w4 : IntKind.i64.wrap (6 * (w.results.length : Int)) = 6 * (w.results.length : Int) := wrap64 ⟨by omega, by omega⟩
  have w5 : IntKind.i64.wrap (11 * (w.jobs - w.next) + 9 * (w.queue.length : Int)) = 11 * (w.jobs - w.next) + 9 * (w.queue.length : Int) := wrap64 ⟨by omega, by omega⟩
  have w6 : IntKind.i64.wrap (11 * (w.jobs - w.next) + 9 * (w.queue.length : Int) + 6 * (w.results.length : Int)) = 11 * (w.jobs - w.next) + 9 * (w.queue.length : Int) + 6 * (w.results.length : Int) := wrap64 ⟨by omega, by omega⟩
  have w7 : IntKind.i64.wrap (11 * (w.jobs - w.next) + 9 * (w.queue.length : Int) + 6 * (w.results.length : Int) + (w.out.length : Int)) = 11 * (w.jobs - w.next) + 9 * (w.queue.length : Int) + 6 * (w.results.length : Int) + (w.out.length : Int) := wrap64 ⟨by omega, by omega⟩
  have w8 : IntKind.i64.wrap (11 * (w.jobs - w.next) + 9 * (w.queue.length : Int) + 6 * (w.results.length : Int) + (w.out.length : Int) + rdL w.reader) = 11 * (w.jobs - w.next) + 9 * (w.queue.length : Int) + 6 * (w.results.length : Int) + (w.out.length : Int) + rdL w.reader := wrap64 ⟨by omega, by omega⟩
  have w9 : IntKind.i64.wrap (11 * (w.jobs - w.next) + 9 * (w.queue.length : Int) + 6 * (w.results.length : Int) + (w.out.length : Int) + rdL w.reader + 1) = 11 * (w.jobs - w.next) + 9 * (w.queue.length : Int) + 6 * (w.results.length : Int) + (w.out.length : Int) + rdL w.reader + 1 := wrap64 ⟨by omega, by omega⟩
  have w10 : IntKind.i64.wrap (11 * (w.jobs - w.next) + 9 * (w.queue.length : Int) + 6 * (w.results.length : Int) + (w.out.length : Int) + rdL w.reader + 1 - w.closer) = 11 * (w.jobs - w.next) + 9 * (w.queue.length : Int) + 6 * (w.results.length : Int) + (w.out.length : Int) + rdL w.reader + 1 - w.closer := wrap64 ⟨by omega, by omega⟩
  have w11 : IntKind.i64.wrap (11 * (w.jobs - w.next) + 9 * (w.queue.length : Int) + 6 * (w.results.length : Int) + (w.out.length : Int) + rdL w.reader + 1 - w.closer + kpL w.keeper) = 11 * (w.jobs - w.next) + 9 * (w.queue.length : Int) + 6 * (w.results.length : Int) + (w.out.length : Int) + rdL w.reader + 1 - w.closer + kpL w.keeper := wrap64 ⟨by omega, by omega⟩
  have w12 : IntKind.i64.wrap (11 * (w.jobs - w.next) + 9 * (w.queue.length : Int) + 6 * (w.results.length : Int) + (w.out.length : Int) + rdL w.reader + 1 - w.closer + kpL w.keeper + 1) = 11 * (w.jobs - w.next) + 9 * (w.queue.length : Int) + 6 * (w.results.length : Int) + (w.out.length : Int) + rdL w.reader + 1 - w.closer + kpL w.keeper + 1 := wrap64 ⟨by omega, by omega⟩
  have w13 : IntKind.i64.wrap (11 * (w.jobs - w.next) + 9 * (w.queue.length : Int) + 6 * (w.results.length : Int) + (w.out.length : Int) + rdL w.reader + 1 - w.closer + kpL w.keeper + 1 - w.user) = 11 * (w.jobs - w.next) + 9 * (w.queue.length : Int) + 6 * (w.results.length : Int) + (w.out.length : Int) + rdL w.reader + 1 - w.closer + kpL w.keeper + 1 - w.user := wrap64 ⟨by omega, by omega⟩
  refine ACallsF.intro ok37 follows fun X c0 => ?_
  simp only [RZ, reduceAdd, reduceIte, reduceEqDiff, reduceLT, reduceLeDiff, reduceCtorEq, Nat.reduceBEq, UCh_1.d, en_len, w1, w2, w3, w4, w5, w6, w7, w8, w9, w10, w11, w12, w13, rd_at h.rd, kp_at h.kp, lt4 h.rd, lt6 h.kp, h.rd.1, h.kp.1]
  refine AW.upto w.hands.length (inv48a w c0) ⟨rfl, rfl, ?_, rfl⟩ fun i t H c hi h' => ?_
  · show _ = T.i (base w + sumL (w.hands.take 0))
    simp only [base, sumL, List.take_zero, List.map_nil, List.sum_nil, Int.add_zero]; rfl
  obtain ⟨e1, eH1, e3, e4⟩ := h'
  simp only [T.c, T.i] at e1 eH1 e3 e4
  have b4 := sumL_bd (w.hands.take i)
  have b5 := take_le w.hands i
  by_cases k1 : (i : Int) < w.hands.length
  · obtain ⟨x, hx⟩ : ∃ x, w.hands[i]? = some x := ⟨_, List.getElem?_eq_getElem (by omega)⟩
    have ex := en_at eH hx
    have gz : (0 : Int) ≤ i := by omega
    have gw := w1_ok (i := i) (by omega)
    have hs := (h.hand x (List.mem_of_getElem? hx)).state
    have b6 := hdL_bd x.state
    have v1 : IntKind.i64.wrap (base w + sumL (w.hands.take i) + hdL x.state) = base w + sumL (w.hands.take i) + hdL x.state := wrap64 ⟨by omega, by omega⟩
    simp only [RZ, reduceAdd, reduceIte, reduceEqDiff, reduceLT, reduceLeDiff, reduceCtorEq, Nat.reduceBEq, UCh_3.d, en_len, e1, eH1, e3, e4, k1, ex, gz, gw, eH, hd_at hs, lt4 hs, hs.1, v1]
    exact ⟨by omega, e1, eH1, by show _ = T.i _; rw [sumL_take hx, ← Int.add_assoc]; rfl, rfl⟩
  have hi2 : i = w.hands.length := by omega
  subst hi2
  rw [List.take_length] at e3 b4
  simp only [RZ, reduceAdd, reduceIte, reduceEqDiff, reduceLT, reduceLeDiff, reduceCtorEq, Nat.reduceBEq, UCh_3.d, en_len, e1, eH1, e3, e4, k1]
  refine AW.upto w.ring.length (inv48b w c0) ⟨e1, eH1, ?_, rfl⟩ fun i t H c hi h' => ?_
  · show t 3 = _
    rw [e3]; simp [rJobs]
  clear e1 eH1 e3 e4 k1
  obtain ⟨e1, eH1, e3, e5⟩ := h'
  simp only [T.c, T.i] at e1 eH1 e3 e5
  have b6 := rJobs_len (w.ring.take i)
  have b7 := take_le w.ring i
  by_cases k1 : (i : Int) < w.ring.length
  · obtain ⟨x, hx⟩ : ∃ x, w.ring[i]? = some x := ⟨_, List.getElem?_eq_getElem (by omega)⟩
    have ex := en_at eI hx
    have gz : (0 : Int) ≤ i := by omega
    have gw := w1_ok (i := i) (by omega)
    have ht := rJobs_take hx
    have v1 : IntKind.i64.wrap (base w + sumL w.hands + 4 * ((rJobs (w.ring.take i)).length : Int) + 4) = base w + sumL w.hands + 4 * ((rJobs (w.ring.take i)).length : Int) + 4 := wrap64 ⟨by omega, by omega⟩
    by_cases c1 : 0 ≤ x
    · rw [if_pos c1] at ht
      simp only [RZ, reduceAdd, reduceIte, reduceEqDiff, reduceLT, reduceLeDiff, reduceCtorEq, Nat.reduceBEq, UCh_4.d, en_len, e1, eH1, e3, e5, k1, ex, gz, gw, eI, c1, ge_iff_le, v1]
      exact ⟨by omega, e1, eH1, by show _ = T.i _; rw [ht, List.length_append]; exact congrArg T.i (by simp only [List.length_singleton]; omega), rfl⟩
    · rw [if_neg c1] at ht
      simp only [RZ, reduceAdd, reduceIte, reduceEqDiff, reduceLT, reduceLeDiff, reduceCtorEq, Nat.reduceBEq, UCh_4.d, en_len, e1, eH1, e3, e5, k1, ex, gz, gw, eI, c1, ge_iff_le]
      exact ⟨by omega, e1, eH1, by show t 3 = _; rw [ht]; exact e3, rfl⟩
  have hi2 : i = w.ring.length := by omega
  subst hi2
  rw [List.take_length] at e3
  simp only [RZ, reduceAdd, reduceIte, reduceEqDiff, reduceLT, reduceLeDiff, reduceCtorEq, Nat.reduceBEq, UCh_4.d, en_len, e1, eH1, e3, e5, k1]
  rfl
/-- A world that is ok. -/
structure WOk (w : CW) : Prop where
  form : Form w
  jobs : Jobs w
  ends : Ends w
  ops : w.ops + left w ≤ 11 * w.jobs + w.workers + 7
/- loop.example/teagle/spec.CrewOk -/
def r9_0 : List AOper := [ao 0 1 (.box 26 (.t 0)),
  ao 1 2 (.mv (.k (.b false)))]
def r9_1 : List AOper := [ao 0 3 (.ld 18 true (.t 1)),
  ao 1 4 (.call (.k (.c (.fn 34 []))) [(.t 3)]),
  ao 2 5 (.mv (.t 4)),
  ag 3 6 5 true [] (.ld 18 true (.t 1)),
  ag 4 7 5 true [] (.call (.k (.c (.fn 35 []))) [(.t 6)]),
  ao 5 8 (.pick (.t 5) (.t 7) (.k (.b false))),
  ao 6 9 (.mv (.t 8)),
  ag 7 10 9 true [] (.ld 18 true (.t 1)),
  ag 8 11 9 true [] (.call (.k (.c (.fn 36 []))) [(.t 10)]),
  ao 9 12 (.pick (.t 9) (.t 11) (.k (.b false))),
  ao 10 13 (.mv (.t 12)),
  ag 11 14 13 true [] (.fa 17 (.t 1)),
  ag 12 15 13 true [] (.ld 1 false (.t 14)),
  ag 13 16 13 true [11, 12] (.ld 18 true (.t 1)),
  ag 14 17 13 true [11, 12] (.call (.k (.c (.fn 37 []))) [(.t 16)]),
  ag 15 18 13 true [] (.bin .add (.t 15) (.t 17)),
  ag 16 19 13 true [11, 12, 13, 14, 15] (.fa 0 (.t 1)),
  ag 17 20 13 true [11, 12, 13, 14, 15] (.ld 1 false (.t 19)),
  ag 18 21 13 true [11, 12, 13, 14, 15] (.bin .mul (.k (.i 11)) (.t 20)),
  ag 19 22 13 true [11, 12, 13, 14, 15, 16, 17, 18] (.fa 1 (.t 1)),
  ag 20 23 13 true [11, 12, 13, 14, 15, 16, 17, 18] (.ld 1 false (.t 22)),
  ag 21 24 13 true [11, 12, 13, 14, 15] (.bin .add (.t 21) (.t 23)),
  ag 22 25 13 true [11, 12, 13, 14, 15] (.bin .add (.t 24) (.k (.i 7))),
  ag 23 26 13 true [] (.bin .leq (.t 18) (.t 25)),
  ao 24 27 (.pick (.t 13) (.t 26) (.k (.b false))),
  ao 25 2 (.mv (.t 27))]
def c9 : ACode := .seq (.reg r9_0) (.seq (.reg r9_1) .ret)
def s9 : List ARes := [.tmp 2]
theorem ok9 : okF Tryz.prog 9 28 c9 s9 := ⟨Tryz.f9, Tryz.func9, Tryz.ntmps9, by kernel_rfl, by kernel_rfl, by kernel_rfl⟩
def UCh_2 := Bx.mk <|
  aN (uA c9.eq_1) <| aN (uR r9_0.eq_1) <| aN (uR r9_1.eq_1) <| s9.eq_1
theorem crewOk_ok (w : CW) : YN 9 [tCW w] (WOk w) := by
  obtain ⟨b1, h1, C1⟩ := form_ok w
  refine PC.intro ok9 rfl (fun _ => rfl) fun X => ?_
  simp only [RZ, reduceAdd, reduceIte, reduceEqDiff, reduceLT, reduceLeDiff, reduceCtorEq, Nat.reduceBEq, UCh_2.d]
  refine callC C1 rfl rfl rfl rfl ?_
  cases b1 with
  | false =>
    simp only [RZ, reduceAdd, reduceIte, reduceEqDiff, reduceLT, reduceLeDiff, reduceCtorEq, Nat.reduceBEq, UCh_2.d]
    refine ES.mk false (no fun g => by cases h1.2 g.form) ?_
    simp only [RZ, reduceAdd, reduceIte, reduceEqDiff, reduceLT, reduceLeDiff, reduceCtorEq, Nat.reduceBEq, UCh_2.d]
  | true =>
  have h := h1.1 rfl
  have hj := h.st.j
  have hk := h.st.k
  have ho := h.ops0
  have ho2 := h.ops1
  have hl := left_bd h
  have w1 : IntKind.i64.wrap (w.ops + left w) = w.ops + left w := wrap64 ⟨by omega, by omega⟩
  have w2 : IntKind.i64.wrap (11 * w.jobs) = 11 * w.jobs := wrap64 ⟨by omega, by omega⟩
  have w3 : IntKind.i64.wrap (11 * w.jobs + w.workers) = 11 * w.jobs + w.workers := wrap64 ⟨by omega, by omega⟩
  have w4 : IntKind.i64.wrap (11 * w.jobs + w.workers + 7) = 11 * w.jobs + w.workers + 7 := wrap64 ⟨by omega, by omega⟩
  obtain ⟨b2, h2, C2⟩ := jobs_ok h
  simp only [RZ, reduceAdd, reduceIte, reduceEqDiff, reduceLT, reduceLeDiff, reduceCtorEq, Nat.reduceBEq, UCh_2.d]
  refine callC C2 rfl rfl rfl rfl ?_
  cases b2 with
  | false =>
    simp only [RZ, reduceAdd, reduceIte, reduceEqDiff, reduceLT, reduceLeDiff, reduceCtorEq, Nat.reduceBEq, UCh_2.d]
    refine ES.mk false (no fun g => by cases h2.2 g.jobs) ?_
    simp only [RZ, reduceAdd, reduceIte, reduceEqDiff, reduceLT, reduceLeDiff, reduceCtorEq, Nat.reduceBEq, UCh_2.d]
  | true =>
  obtain ⟨b3, h3, C3⟩ := ends_ok h
  simp only [RZ, reduceAdd, reduceIte, reduceEqDiff, reduceLT, reduceLeDiff, reduceCtorEq, Nat.reduceBEq, UCh_2.d]
  refine callC C3 rfl rfl rfl rfl ?_
  cases b3 with
  | false =>
    simp only [RZ, reduceAdd, reduceIte, reduceEqDiff, reduceLT, reduceLeDiff, reduceCtorEq, Nat.reduceBEq, UCh_2.d]
    refine ES.mk false (no fun g => by cases h3.2 g.ends) ?_
    simp only [RZ, reduceAdd, reduceIte, reduceEqDiff, reduceLT, reduceLeDiff, reduceCtorEq, Nat.reduceBEq, UCh_2.d]
  | true =>
  simp only [RZ, reduceAdd, reduceIte, reduceEqDiff, reduceLT, reduceLeDiff, reduceCtorEq, Nat.reduceBEq, UCh_2.d]
  refine callC (left_ok h) rfl rfl rfl rfl ?_
  by_cases k1 : w.ops + left w ≤ 11 * w.jobs + w.workers + 7
  · simp only [RZ, reduceAdd, reduceIte, reduceEqDiff, reduceLT, reduceLeDiff, reduceCtorEq, Nat.reduceBEq, UCh_2.d, w1, w2, w3, w4, k1]
    refine ES.mk true (yes ⟨h, h2.1 rfl, h3.1 rfl, k1⟩) ?_
    simp only [RZ, reduceAdd, reduceIte, reduceEqDiff, reduceLT, reduceLeDiff, reduceCtorEq, Nat.reduceBEq, UCh_2.d, w1, w2, w3, w4, k1]
  · simp only [RZ, reduceAdd, reduceIte, reduceEqDiff, reduceLT, reduceLeDiff, reduceCtorEq, Nat.reduceBEq, UCh_2.d, w1, w2, w3, w4, k1]
    refine ES.mk false (no fun g => k1 g.ops) ?_
    simp only [RZ, reduceAdd, reduceIte, reduceEqDiff, reduceLT, reduceLeDiff, reduceCtorEq, Nat.reduceBEq, UCh_2.d, w1, w2, w3, w4, k1]
end Go.V

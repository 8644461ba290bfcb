/- For all schemas and all trees the program's KindWiden gives what the reference's gives, leaves its arguments as they were and shares no memory: the law returns true for every input, and its arguments read as before. Conditions: none. -/
import Derived.Test.YtkbelgihflbofaaMX1
set_option linter.unusedVariables false
set_option linter.unusedSimpArgs false
set_option maxRecDepth 20000
namespace Go.V
open Go.Proofs
theorem push_size (r : ByteArray) (b : UInt8) : (r.push b).size = r.size + 1 := by cases r; simp [ByteArray.push, ByteArray.size]
def en {α : Type} (f : α → List V) (xs : List α) : List (List V) := xs.map f
section
variable {α : Type} (f : α → List V)
theorem en_len (xs : List α) : (en f xs).length = xs.length := by simp [en]
theorem en_at {xs : List α} {i : Nat} {x : α} (h : xs[i]? = some x) : (en f xs)[i]? = some (f x) := by simp [en, h]
theorem en_snoc (xs : List α) (x : α) : en f (xs ++ [x]) = en f xs ++ [f x] := by simp [en]
theorem en_app (xs ys : List α) : en f (xs ++ ys) = en f xs ++ en f ys := by simp [en]
theorem en_nil : en f [] = [] := rfl
theorem en_take (xs : List α) : (en f xs).take xs.length = en f xs := by rw [← en_len f xs, List.take_length]
theorem en_cut (xs : List α) (n : Nat) : (en f xs).take n = en f (xs.take n) := by simp [en, List.map_take]
theorem en_drop (xs : List α) (n : Nat) : (en f xs).drop n = en f (xs.drop n) := by simp [en, List.map_drop]
theorem en_set (xs : List α) (i : Nat) (x : α) : (en f xs).set i (f x) = en f (xs.set i x) := by simp [en, List.map_set]
theorem en_rep (n : Nat) (x : α) : List.replicate n (f x) = en f (List.replicate n x) := by simp [en]
theorem en_one {st : Nat} (h : ∀ x, (f x).length = st) (xs : List α) : ∀ e ∈ en f xs, e.length = st := by
  intro e he
  obtain ⟨x, _, rfl⟩ := List.mem_map.1 he
  exact h x
theorem en_all {st : Nat} (h : ∀ x, (f x).length = st) (xs : List α) : (∀ e ∈ en f xs, e.length = st) = True := eq_true (en_one f h xs)
theorem en_flat (h : ∀ x, (f x).all flatV = true) (xs : List α) : ((en f xs).all fun e => e.all flatV) = true := by
  rw [List.all_eq_true]
  intro e he
  obtain ⟨x, _, rfl⟩ := List.mem_map.1 he
  exact h x
def wsum (w : α → Nat) (xs : List α) : Nat := (xs.map w).sum
theorem wsum_take (w : α → Nat) {xs : List α} {i : Nat} {x : α} (h : xs[i]? = some x) : wsum w (xs.take (i + 1)) = wsum w (xs.take i) + w x := by
  rw [List.take_add_one, h]; simp [wsum]
theorem wsum_le (w : α → Nat) : ∀ (xs : List α) (n : Nat), wsum w (xs.take n) ≤ wsum w xs
  | [], n => by simp [wsum]
  | x :: xs, 0 => by simp [wsum]
  | x :: xs, n + 1 => by have := wsum_le w xs n; simp only [wsum, List.take_succ_cons, List.map_cons, List.sum_cons] at this ⊢; omega
theorem wsum_mem (w : α → Nat) {xs : List α} {x : α} (h : x ∈ xs) : w x ≤ wsum w xs := by
  induction xs with
  | nil => cases h
  | cons y ys ih =>
    simp only [wsum, List.map_cons, List.sum_cons]
    rcases List.mem_cons.1 h with rfl | h
    · omega
    · have := ih h; simp only [wsum] at this; omega
end
def sub1 (left : Int) (w : Nat) : Int := if (w : Int) ≤ left then left - w else -1
def zS : ByteArray := ⟨#[]⟩
def wS (s : ByteArray) : Nat := s.size
def okS (s : ByteArray) : Prop := s.size ≤ 9223372036854775807
theorem encS_set (xs : List ByteArray) (i : Nat) (x : ByteArray) : (encS xs).set i [.s (.string x)] = encS (xs.set i x) := by simp [encS, List.map_set]
theorem encS_rep (n : Nat) (x : ByteArray) : List.replicate n [V.s (.string x)] = encS (List.replicate n x) := by simp [encS]
def ok55 := okF.gu (P := Try.prog) tab Try.func55 Try.ntmps55 (by conv => lhs; cbv) (by kernel_rfl)
/-- How far the text of a mark is written. -/
def mtI (k : Nat) : Nat → Nat × ByteArray
  | 0 => (k, ⟨#[]⟩)
  | i + 1 => ((mtI k i).1 / 10, pushB [IntKind.u8.wrap (48 + (((mtI k i).1 % 10 : Nat) : Int))] ++ (mtI k i).2)
theorem mtI_size (k : Nat) : ∀ i, (mtI k i).2.size = i
  | 0 => rfl
  | i + 1 => by
    have hsz : ∀ x : Int, (pushB [x]).size = 1 := fun x => by rw [pushB, List.foldl_cons, List.foldl_nil, push_size]; rfl
    rw [mtI, ByteArray.size_append, hsz, mtI_size k i]; omega
theorem mtI_le (k : Nat) : ∀ i, (mtI k i).1 ≤ k
  | 0 => Nat.le_refl _
  | i + 1 => by have := mtI_le k i; simp only [mtI]; omega
theorem mtI_fall (k : Nat) : ∀ i, (mtI k i).1 * 10 ^ i ≤ k
  | 0 => by simp [mtI]
  | i + 1 => by
    have := mtI_fall k i
    simp only [mtI]
    have h : (mtI k i).1 / 10 * 10 ≤ (mtI k i).1 := Nat.div_mul_le_self _ _
    calc (mtI k i).1 / 10 * 10 ^ (i + 1) = (mtI k i).1 / 10 * 10 * 10 ^ i := by rw [Nat.pow_succ, Nat.mul_comm (10 ^ i) 10, Nat.mul_assoc]
      _ ≤ (mtI k i).1 * 10 ^ i := Nat.mul_le_mul_right _ h
      _ ≤ k := this
def inv55 (k N : Nat) (i : Nat) (σ : St) : Prop := (∀ j, j < i → (mtI k j).1 ≠ 0) ∧ i ≤ N ∧ σ.t 0 = .i (mtI k i).1 ∧ σ.t 3 = tS (mtI k i).2
def mtG (k : Nat) : Nat → Nat → Nat
  | 0, i => i
  | f + 1, i => if (mtI k i).1 = 0 then i else mtG k f (i + 1)
theorem mtG_ok (k : Nat) : ∀ f i, (mtI k (i + f)).1 = 0 → (mtI k (mtG k f i)).1 = 0 ∧ (∀ j, i ≤ j → j < mtG k f i → (mtI k j).1 ≠ 0) ∧ mtG k f i ≤ i + f
  | 0, i, h => ⟨h, fun j h1 h2 => absurd h2 (by simp only [mtG]; omega), Nat.le_refl _⟩
  | f + 1, i, h => by
    by_cases h0 : (mtI k i).1 = 0
    · simp only [mtG, if_pos h0]; exact ⟨h0, fun j h1 h2 => by omega, by omega⟩
    · simp only [mtG, if_neg h0]
      obtain ⟨g1, g2, g3⟩ := mtG_ok k f (i + 1) (by rw [show i + 1 + f = i + (f + 1) by omega]; exact h)
      refine ⟨g1, fun j h1 h2 => ?_, by omega⟩
      rcases Nat.eq_or_lt_of_le h1 with rfl | h1
      · exact h0
      · exact g2 j h1 h2
/-- The text of a mark. -/
def mt (k : Nat) : ByteArray := ⟨#[109]⟩ ++ (mtI k (mtG k 9 0)).2
theorem mark_ok (k : Nat) (h1 : 1 ≤ k) (h2 : k ≤ 100000000) : ACallsF Try.prog 55 [.i k] [] (tS (mt k)) := by
  have h0 : (mtI k 9).1 = 0 := by
    have := mtI_fall k 9
    by_cases h : (mtI k 9).1 = 0
    · exact h
    · have : 1 * 10 ^ 9 ≤ (mtI k 9).1 * 10 ^ 9 := Nat.mul_le_mul_right _ (by omega)
      omega
  obtain ⟨hN, hmin, hN9⟩ := mtG_ok k 9 0 h0
  unfold mt
  generalize mtG k 9 0 = N at *
  have hsz : ∀ x : Int, (pushB [x]).size = 1 := fun x => by rw [pushB, List.foldl_cons, List.foldl_nil, push_size]; rfl
  refine ACallsF.intro ok55 follows fun X c0 => ?_
  have k0 : ¬ (k : Int) ≤ 0 := by omega
  simp only [go_sem, k0]
  refine AW.upto N (inv55 k N) ⟨fun j hj => absurd hj (Nat.not_lt_zero j), Nat.zero_le _, rfl, rfl⟩ fun i t H c hi h => ?_
  obtain ⟨g, _, e0, e3⟩ := h
  simp only [T.c, T.i, T.s] at e0 e3
  have hle := mtI_le k i
  have hz := mtI_size k i
  by_cases hlt : i < N
  · have hne : (mtI k i).1 ≠ 0 := hmin i (Nat.zero_le _) hlt
    have k1 : ((mtI k i).1 : Int) > 0 := by omega
    have q1 : IntKind.i64.wrap (((mtI k i).1 : Int).tdiv 10) = (((mtI k i).1 / 10 : Nat) : Int) := (IntWalk.i64_quo ((mtI k i).1 : Int) 10 ⟨by omega, by omega, by omega⟩).trans (by omega)
    have q2 : ((mtI k i).1 : Int).tmod 10 = (((mtI k i).1 % 10 : Nat) : Int) := rfl
    have q3 : IntKind.i64.wrap (48 + (((mtI k i).1 % 10 : Nat) : Int)) = 48 + (((mtI k i).1 % 10 : Nat) : Int) := wrap64 ⟨by omega, by omega⟩
    have h10 : ¬ (10 : Int) = 0 := by omega
    have hlen : fits (pushB [IntKind.u8.wrap (48 + (((mtI k i).1 % 10 : Nat) : Int))]) (mtI k i).2 := by rw [fits, hsz, hz]; omega
    simp only [go_sem, e0, e3, k1, q1, q2, q3, h10, bytesOf, sStr, hlen]
    exact ⟨hlt, fun j hj => (by rcases Nat.lt_succ_iff_lt_or_eq.1 hj with hj | rfl; exact g j hj; exact hne), hlt, rfl, rfl⟩
  · have hi2 : i = N := by omega
    subst hi2
    have hN' : (mtI k i).1 = 0 := hN
    have k1 : ¬ ((mtI k i).1 : Int) > 0 := by omega
    have hlen : fits ⟨#[109]⟩ (mtI k i).2 := by rw [fits, hz]; show 1 + i ≤ _; omega
    simp only [go_sem, e0, e3, k1, sStr, hlen]
/-- What stands in a list that is marked. -/
def marks {α : Type} (m : Nat → α) (s k n : Nat) : List α := (List.range n).map fun j => m (k + s * j)
theorem marks_len {α : Type} (m : Nat → α) (s k n : Nat) : (marks m s k n).length = n := by simp [marks]
theorem marks_at {α : Type} (m : Nat → α) (s k : Nat) {n i : Nat} (h : i < n) : (marks m s k n)[i]? = some (m (k + s * i)) := by simp [marks, h]
def mrk {α : Type} (m : Nat → α) (s : Nat) (xs : List α) (k i : Nat) : List α := marks m s k i ++ xs.drop i
theorem mrk_len {α : Type} (m : Nat → α) (s : Nat) (xs : List α) (k : Nat) {i : Nat} (h : i ≤ xs.length) : (mrk m s xs k i).length = xs.length := by simp [mrk, marks_len]; omega
theorem mrk_zero {α : Type} (m : Nat → α) (s : Nat) (xs : List α) (k : Nat) : mrk m s xs k 0 = xs := by simp [mrk, marks]
theorem mrk_end {α : Type} (m : Nat → α) (s : Nat) (xs : List α) (k : Nat) : mrk m s xs k xs.length = marks m s k xs.length := by simp [mrk]
theorem mrk_at {α : Type} (m : Nat → α) (s : Nat) (xs : List α) (k : Nat) {i : Nat} {x : α} (h : xs[i]? = some x) : (mrk m s xs k i)[i]? = some x := by
  rw [mrk, List.getElem?_append_right (by rw [marks_len]; omega), marks_len, Nat.sub_self, List.getElem?_drop]; simpa using h
theorem mrk_set {α : Type} (m : Nat → α) (s : Nat) (xs : List α) (k : Nat) {i : Nat} {x : α} (h : xs[i]? = some x) : (mrk m s xs k i).set i (m (k + s * i)) = mrk m s xs k (i + 1) := by
  have hi := (List.getElem?_eq_some_iff.1 h).1
  rw [mrk, List.set_append, if_neg (by rw [marks_len]; omega), marks_len, Nat.sub_self, List.drop_eq_getElem_cons hi, List.set_cons_zero, mrk]
  simp [marks, List.range_succ]
def mS (k : Nat) : ByteArray := mt k
theorem SET : (type_of% @List.getElem?_set_self.{0}) ∧ (type_of% @List.set_set.{0}) ∧ (type_of% @List.length_set.{0}) := ⟨@List.getElem?_set_self.{0}, @List.set_set.{0}, @List.length_set.{0}⟩
/-- An array that is handed on. -/
abbrev arH (c m v st : Nat) (ty : TypeId) (es es' : List (List V)) : Hand := ⟨c, m, some (.arr v true st ty es), .arr v true st ty es', true⟩
/-- A call that works in place on an array of the caller's. -/
theorem callM1 {P : Program} {t : Nat → T} {H : HMap} {c : Nat} {f : Opd} {args : List Opd} {fid : FuncId} {n m v N st : Nat} {ty : TypeId} {es es' : List (List V)} {x r : T} {k : Nat} {d : Option Nat} {un : List Nat} {l : List AOper} {prev : List (Nat × List Nat × List Nat)} {K : St → Prop}
    (hC : ACallsF P fid [.c (.own n v N), x] [arH n m v st ty es es'] r) (hf : ev t f = .pt (.one (.fn fid []))) (hl : args.map (ev t) = [.c (.own m v N), x]) (hH : H m = some (.arr v true st ty es)) (hx : closedA x = true) (hr : closedT r = true)
    (hk : chk prev un ⟨r, [(m, .arr v true st ty es')], [m], [m]⟩ = true ∧ DRun P l ((k, [m], [m]) :: prev) K ⟨updD t d r, upd H m (some (.arr v true st ty es')), c⟩) :
    step P k d un (.call f args) l prev K t H c := by
  have hN : renN [arH n m v st ty es es'] n = some (arH n m v st ty es es') := by simp [renN]
  obtain ⟨x1, x2⟩ := closed_A [arH n m v st ty es es'] H x hx
  refine callW (caps := []) («as» := [.c (.own m v N), x]) (ws := []) (ns := []) (r' := r) (ob := [(m, .arr v true st ty es')]) [arH n m v st ty es es'] hC hf ?_ ?_ ⟨?_, trivial⟩ (by simp) (by simp) (closed_T _ r hr _) ?_ ?_
  · rw [hl]
    have a1 : lendT H (T.c (.own n v N)) (T.c (.own m v N)) = some (T.c (.own m v N), [], []) := rfl
    simp only [List.map_nil, List.append_nil, lendTs, a1, x1]
  · have a1 : renIT [arH n m v st ty es es'] (T.c (.own n v N)) = some (T.c (.own m v N)) := by simp only [T.c, renIT, renI, inN, hN, Option.bind_some, Option.map_some]
    simp only [renITs, a1, x2]
  · show (match renIB [arH n m v st ty es es'] (.arr v true st ty es) with | some B => (updH H []) m = some B | none => False)
    simp only [renIB, updH]
    exact hH
  · simp only [renOBs, renOB, verOf, if_true, Blk.ver]
  · have hq : quiet r [arH n m v st ty es es'] = false := by simp [quiet]
    simpa [hq, updH] using hk
def ok19 := okF.gu (P := Try.prog) tab Try.func19 Try.ntmps19 (by conv => lhs; cbv) (by kernel_rfl)
def inv19 (xs : List ByteArray) (left : Int) (i : Nat) (σ : St) : Prop := ((xs.length + wsum wS (xs.take i) : Nat) : Int) ≤ left ∧ σ.t 0 = .c (.v (.sl (encS xs))) ∧ σ.t 1 = .i (left - ((xs.length + wsum wS (xs.take i) : Nat) : Int)) ∧ σ.t 5 = .i i
theorem szSs_ok (xs : List ByteArray) (left : Int) (h0 : 0 ≤ left ∧ left ≤ 1048576) (hl : xs.length ≤ 9223372036854775807) (hw : ∀ x ∈ xs, okS x) : ACallsF Try.prog 19 [.c (.v (.sl (encS xs))), .i left] [] (.i (sub1 left (xs.length + wsum wS xs))) := by
  refine ACallsF.intro ok19 follows fun X c0 => ?_
  have gw0 : IntKind.i64.wrap (left - xs.length) = left - xs.length := wrap64 ⟨by omega, by omega⟩
  by_cases hA : (xs.length : Int) ≤ left
  · have k0 : ¬ left - (xs.length : Int) < 0 := by omega
    simp only [go_sem, gw0, k0]
    refine AW.upto xs.length (inv19 xs left) ⟨by simpa [wsum] using hA, rfl, by show T.i (left - (xs.length : Int)) = _; simp [wsum], rfl⟩ fun i t H c hi h => ?_
    obtain ⟨g, e0, e1, e5⟩ := h
    simp only [T.c, T.i] at e0 e1 e5
    by_cases hlt : i < xs.length
    · obtain ⟨x, hx⟩ : ∃ x, xs[i]? = some x := ⟨_, List.getElem?_eq_getElem hlt⟩
      have ex := encS_at hx
      have k1 : (i : Int) < xs.length := by omega
      have gz : (0 : Int) ≤ i := by omega
      have gw : IntKind.i64.wrap ((i : Int) + 1) = ((i + 1 : Nat) : Int) := wrap64 (x := (i : Int) + 1) ⟨by omega, by omega⟩
      have hs : wsum wS (xs.take (i + 1)) = wsum wS (xs.take i) + wS x := wsum_take wS hx
      have hle : wsum wS (xs.take (i + 1)) ≤ wsum wS xs := wsum_le wS xs _
      have hwx := hw x (List.mem_of_getElem? hx)
      unfold okS at hwx
      have gw1 : IntKind.i64.wrap (left - ((xs.length + wsum wS (xs.take i) : Nat) : Int) - (x.size : Int)) = left - ((xs.length + wsum wS (xs.take i) : Nat) : Int) - (x.size : Int) := wrap64 ⟨by omega, by omega⟩
      by_cases hB : ((wS x : Nat) : Int) ≤ left - ((xs.length + wsum wS (xs.take i) : Nat) : Int)
      · rw [show wS x = x.size from rfl] at hB
        have hs' : wsum wS (xs.take (i + 1)) = wsum wS (xs.take i) + x.size := hs
        have k2 : left - ((xs.length + wsum wS (xs.take i) : Nat) : Int) - (x.size : Int) = left - ((xs.length + wsum wS (xs.take (i + 1)) : Nat) : Int) := by omega
        have k3 : ¬ left - ((xs.length + wsum wS (xs.take (i + 1)) : Nat) : Int) < 0 := by omega
        simp only [go_sem, e0, e1, e5, encS_len, k1, gz, ex, Int.toNat_natCast, gw1.trans k2, k3, gw]
        exact ⟨hlt, by omega, e0, rfl, rfl⟩
      · rw [show wS x = x.size from rfl] at hB
        have hs' : wsum wS (xs.take (i + 1)) = wsum wS (xs.take i) + x.size := hs
        have k2 : left - ((xs.length + wsum wS (xs.take i) : Nat) : Int) - (x.size : Int) < 0 := by omega
        have k3 : sub1 left (xs.length + wsum wS xs) = -1 := by rw [sub1, if_neg (by omega)]
        simp only [go_sem, e0, e1, e5, encS_len, k1, gz, ex, Int.toNat_natCast, gw1, k2, k3]
    · have k1 : ¬ (i : Int) < xs.length := by omega
      have hi2 : i = xs.length := by omega
      subst hi2
      rw [List.take_length] at g
      rw [List.take_length] at e1
      have k3 : sub1 left (xs.length + wsum wS xs) = left - ((xs.length + wsum wS xs : Nat) : Int) := by rw [sub1, if_pos g]
      simp only [go_sem, e0, e1, e5, encS_len, k1, k3]
  · have k0 : left - (xs.length : Int) < 0 := by omega
    have k3 : sub1 left (xs.length + wsum wS xs) = -1 := by rw [sub1, if_neg (by omega)]
    simp only [go_sem, gw0, k0, k3]
def ok26 := okF.gu (P := Try.prog) tab Try.func26 Try.ntmps26 (by conv => lhs; cbv) (by kernel_rfl)
def inv26 (xs : List ByteArray) (i : Nat) (σ : St) : Prop := σ.t 0 = tL (encS xs) ∧ (∃ v, σ.t 3 = .c (.own 7 v xs.length) ∧ σ.H 7 = some (.arr v true 1 9 (encS (part xs zS i)))) ∧ σ.t 4 = .i i
theorem toSs_ok (xs : List ByteArray) (hl : xs.length ≤ 1048576) (m : Nat) : ACallsF Try.prog 26 [tL (encS xs)] [newH 7 m 1 9 (encS xs)] (.c (.own 7 0 xs.length)) := by
  refine ACallsF.intro ok26 follows fun X c0 => ?_
  have q0 : (0 : Int) ≤ xs.length := by omega
  have q1 : ((16 : Nat) : Int) * (xs.length : Int) ≤ 281474976710656 := by omega
  have q2 : (xs.length : Int) ≤ 9223372036854775807 := by omega
  simp only [go_sem, q0, q1, q2, Int.le_refl]
  refine AW.upto xs.length (inv26 xs) ?_ fun i t H c hi h => ?_
  · unfold inv26
    rw [part_zero, ← encS_rep]
    exact ⟨rfl, ⟨_, rfl, rfl⟩, rfl⟩
  obtain ⟨e0, ⟨v, e3, eH⟩, e4⟩ := h
  simp only [T.c, T.i, tL] at e0 e3 eH e4
  have hpl : (part xs zS i).length = xs.length := part_len xs zS hi
  by_cases hlt : i < xs.length
  · obtain ⟨x, hx⟩ : ∃ x, xs[i]? = some x := ⟨_, List.getElem?_eq_getElem hlt⟩
    have ex := encS_at hx
    have ez := encS_at (part_at xs zS hlt)
    have k1 : (i : Int) < xs.length := by omega
    have gz : (0 : Int) ≤ i := by omega
    have gm : i < xs.length := hlt
    have gw : IntKind.i64.wrap ((i : Int) + 1) = ((i + 1 : Nat) : Int) := wrap64 (x := (i : Int) + 1) ⟨by omega, by omega⟩
    have hn : (encS (part xs zS i)).set i [.s (.string x)] = encS (part xs zS (i + 1)) := by rw [encS_set, part_set xs zS hx]
    simp only [go_sem, e0, e3, eH, e4, encS_len, k1, gz, gm, ex, ez, Int.toNat_natCast, hpl, gw]
    exact ⟨e0, ⟨v, e3, congrArg (fun q => some (Blk.arr v true 1 9 q)) hn⟩, rfl⟩
  · have k1 : ¬ (i : Int) < xs.length := by omega
    have hi2 : i = xs.length := by omega
    subst hi2
    rw [part_end] at eH
    simp only [go_sem, e0, e3, eH, e4, encS_len, k1, imp_self]
def ok33 := okF.gu (P := Try.prog) tab Try.func33 Try.ntmps33 (by conv => lhs; cbv) (by kernel_rfl)
def inv33 (xs : List ByteArray) (i : Nat) (σ : St) : Prop := σ.t 0 = tL (encS xs) ∧ σ.t 1 = tL (encS xs) ∧ σ.t 5 = .i i
theorem eqSs_ok (xs : List ByteArray) (hl : xs.length ≤ 9000000000000000000) : ACallsF Try.prog 33 [tL (encS xs), tL (encS xs)] [] (.b true) := by
  have n0 : ((xs.length : Int) != xs.length) = false := by simp
  refine ACallsF.intro ok33 follows fun X c0 => ?_
  simp only [go_sem, n0]
  refine AW.upto xs.length (inv33 xs) ⟨rfl, rfl, rfl⟩ fun i t H c hi h => ?_
  obtain ⟨e0, e1, e5⟩ := h
  simp only [T.c, T.i, tL] at e0 e1 e5
  by_cases hlt : i < xs.length
  · obtain ⟨x, hx⟩ : ∃ x, xs[i]? = some x := ⟨_, List.getElem?_eq_getElem hlt⟩
    have ex := encS_at hx
    have k1 : (i : Int) < xs.length := by omega
    have gz : (0 : Int) ≤ i := by omega
    have gw : IntKind.i64.wrap ((i : Int) + 1) = ((i + 1 : Nat) : Int) := wrap64 (x := (i : Int) + 1) ⟨by omega, by omega⟩
    simp only [go_sem, e0, e1, e5, encS_len, k1, gz, ex, Int.toNat_natCast, sStr, str_beq, decide_true, gw]
    exact ⟨hlt, e0, e1, rfl⟩
  · have k1 : ¬ (i : Int) < xs.length := by omega
    simp only [go_sem, e0, e1, e5, encS_len, k1]
def ok36 := okF.gu (P := Try.prog) tab Try.func36 Try.ntmps36 (by conv => lhs; cbv) (by kernel_rfl)
def inv36 (xs : List ByteArray) (k v : Nat) (i : Nat) (σ : St) : Prop := σ.t 0 = .c (.own 2001 v xs.length) ∧ σ.H 2001 = some (.arr v true 1 9 (encS (mrk mS 1 xs k i))) ∧ σ.t 1 = .i ((k + 1 * i : Nat) : Int) ∧ σ.t 5 = .i i
theorem markSs_ok (xs : List ByteArray) (k : Nat) (h1 : 1 ≤ k) (hk : k + 1 * xs.length ≤ 100000000) (m v : Nat) : ACallsF Try.prog 36 [.c (.own 2001 v xs.length), .i k] [arH 2001 m v 1 9 (encS xs) (encS (marks mS 1 k xs.length))] (.i ((k + 1 * xs.length : Nat) : Int)) := by
  refine ACallsF.intro ok36 follows fun X c0 => ?_
  simp only [go_sem]
  refine AW.upto xs.length (inv36 xs k v) ?_ fun i t H c hi h => ?_
  · unfold inv36
    rw [mrk_zero]
    exact ⟨rfl, rfl, rfl, rfl⟩
  obtain ⟨e0, eH, e1, e5⟩ := h
  simp only [T.c, T.i] at e0 eH e1 e5
  have hpl : (mrk mS 1 xs k i).length = xs.length := mrk_len mS 1 xs k hi
  by_cases hlt : i < xs.length
  · obtain ⟨x, hx⟩ : ∃ x, xs[i]? = some x := ⟨_, List.getElem?_eq_getElem hlt⟩
    have ex := encS_at (mrk_at mS 1 xs k hx)
    have k1 : (i : Int) < xs.length := by omega
    have gz : (0 : Int) ≤ i := by omega
    have gm : i < xs.length := hlt
    have gw : IntKind.i64.wrap ((i : Int) + 1) = ((i + 1 : Nat) : Int) := wrap64 (x := (i : Int) + 1) ⟨by omega, by omega⟩
    have h30 : ¬ (3 : Int) = 0 := by omega
    have q3 : ((k + 1 * i : Nat) : Int).tmod 3 = (((k + 1 * i) % 3 : Nat) : Int) := rfl
    have g0 : IntKind.i64.wrap (((k + 1 * i : Nat) : Int) + 1) = ((k + 1 * (i + 1) : Nat) : Int) := (wrap64 (x := ((k + 1 * i : Nat) : Int) + 1) ⟨by omega, by omega⟩).trans (by omega)
    have hn : (encS (mrk mS 1 xs k i)).set i [.s (.string (mS (k + 1 * i)))] = encS (mrk mS 1 xs k (i + 1)) := by rw [encS_set, mrk_set mS 1 xs k hx]
    simp only [go_sem, SET, e0, eH, e1, e5, encS_len, hpl, k1, gz, gm, ex, g0, gw, h30, q3]
    refine callC (mark_ok (k + 1 * i) (by omega) (by omega)) rfl rfl rfl rfl ?_
    simp only [go_sem, SET, e0, eH, e1, e5, encS_len, hpl, k1, gz, gm, ex, g0, gw, h30, q3]
    exact ⟨e0, congrArg (fun q => some (Blk.arr v true 1 9 q)) hn, rfl, rfl⟩
  · have k1 : ¬ (i : Int) < xs.length := by omega
    have hi2 : i = xs.length := by omega
    subst hi2
    rw [mrk_end] at eH
    simp only [go_sem, e0, eH, e1, e5, encS_len, k1, imp_self]
def ok39 := okF.gu (P := Try.prog) tab Try.func39 Try.ntmps39 (by conv => lhs; cbv) (by kernel_rfl)
def inv39 (N k : Nat) (i : Nat) (σ : St) : Prop := σ.t 0 = tL (encS (marks mS 1 k N)) ∧ σ.t 1 = .i ((k + 1 * i : Nat) : Int) ∧ σ.t 5 = .i i
theorem heldSs_ok (N : Nat) (k : Nat) (h1 : 1 ≤ k) (hk : k + 1 * N ≤ 100000000) : ACallsF Try.prog 39 [tL (encS (marks mS 1 k N)), .i k] [] (.i ((k + 1 * N : Nat) : Int)) := by
  refine ACallsF.intro ok39 follows fun X c0 => ?_
  simp only [go_sem]
  refine AW.upto N (inv39 N k) ⟨rfl, rfl, rfl⟩ fun i t H c hi h => ?_
  obtain ⟨e0, e1, e5⟩ := h
  simp only [T.c, T.i, tL] at e0 e1 e5
  have hpl : (marks mS 1 k N).length = N := marks_len mS 1 k N
  by_cases hlt : i < N
  · have ex := encS_at (marks_at mS 1 k hlt)
    have k1 : (i : Int) < N := by omega
    have gz : (0 : Int) ≤ i := by omega
    have gw : IntKind.i64.wrap ((i : Int) + 1) = ((i + 1 : Nat) : Int) := wrap64 (x := (i : Int) + 1) ⟨by omega, by omega⟩
    have h30 : ¬ (3 : Int) = 0 := by omega
    have q3 : ((k + 1 * i : Nat) : Int).tmod 3 = (((k + 1 * i) % 3 : Nat) : Int) := rfl
    have g0 : IntKind.i64.wrap (((k + 1 * i : Nat) : Int) + 1) = ((k + 1 * (i + 1) : Nat) : Int) := (wrap64 (x := ((k + 1 * i : Nat) : Int) + 1) ⟨by omega, by omega⟩).trans (by omega)

    simp only [go_sem, e0, e1, e5, encS_len, hpl, k1, gz, ex, mS, g0, gw, h30, q3, sStr, str_beq, decide_true]
    refine callC (mark_ok (k + 1 * i) (by omega) (by omega)) rfl rfl rfl rfl ?_
    simp only [go_sem, e0, e1, e5, encS_len, hpl, k1, gz, ex, mS, g0, gw, h30, q3, sStr, str_beq, decide_true]
    exact ⟨hlt, e0, rfl, rfl⟩
  · have k1 : ¬ (i : Int) < N := by omega
    have hi2 : i = N := by omega
    subst hi2
    simp only [go_sem, e0, e1, e5, encS_len, hpl, k1]
end Go.V
set_option linter.unusedSimpArgs false
set_option maxRecDepth 20000
namespace Go.V
open Go.Proofs
section
variable {P : Program} {t : Nat → T} {H : HMap} {c : Nat} {f : Opd} {args : List Opd} {fid : FuncId} {argsC : List T} {ws : List (Nat × Blk)} {ns : List Nat} {k : Nat} {d : Option Nat} {un : List Nat} {l : List AOper} {prev : List (Nat × List Nat × List Nat)} {K : St → Prop}
/-- A call that makes a row that owns what it holds. -/
theorem callTn {n m N st : Nat} {ty : TypeId} {es : List (List V)} (hC : ACallsF P fid argsC [newT n m st ty es] (.c (.tr n 0 N))) (hf : ev t f = .pt (.one (.fn fid []))) (hl : lendTs H argsC (args.map (ev t)) = some (argsC, ws, ns)) (ha : argsC.all closedA = true)
    (hk : chk prev un ⟨.c (.tr m (c + k) N), [(m, .tree (c + k) true st ty es none)], ns ++ [m], [m]⟩ = true ∧ DRun P l ((k, ns ++ [m], [m]) :: prev) K ⟨updD t d (.c (.tr m (c + k) N)), upd H m (some (.tree (c + k) true st ty es none)), c⟩) :
    step P k d un (.call f args) l prev K t H c := by
  have hN : renN [newT n m st ty es] n = some (newT n m st ty es) := by simp [renN]
  refine callF (r' := .c (.tr m (c + k) N)) (ob := [(m, .tree (c + k) true st ty es none)]) [newT n m st ty es] hC hf hl ha (by simp) (by simp) (by simp) ?_ ?_ ?_ ?_
  · rfl
  · simp only [renOT, renOP, renO, hN, Option.map_some, verOf]; rfl
  · simp only [renOBs, renOB, verOf]; rfl
  · simpa [updH] using hk
/-- A call that works in place on a row that owns what it holds. -/
theorem callTm {n m v N st : Nat} {ty : TypeId} {es es' : List (List V)} {x r : T}
    (hC : ACallsF P fid [.c (.tr n v N), x] [trH n m v st ty es es'] r) (hf : ev t f = .pt (.one (.fn fid []))) (hl : args.map (ev t) = [.c (.tr m v N), x]) (hH : H m = some (.tree v true st ty es none)) (hx : closedA x = true) (hr : closedT r = true)
    (hk : chk prev un ⟨r, [(m, .tree v true st ty es' none)], [m], [m]⟩ = true ∧ DRun P l ((k, [m], [m]) :: prev) K ⟨updD t d r, upd H m (some (.tree v true st ty es' none)), c⟩) :
    step P k d un (.call f args) l prev K t H c := by
  have hN : renN [trH n m v st ty es es'] n = some (trH n m v st ty es es') := by simp [renN]
  obtain ⟨x1, x2⟩ := closed_A [trH n m v st ty es es'] H x hx
  refine callW (caps := []) («as» := [.c (.tr m v N), x]) (ws := []) (ns := []) (r' := r) (ob := [(m, .tree v true st ty es' none)]) [trH n m v st ty es es'] hC hf ?_ ?_ ⟨?_, trivial⟩ (by simp) (by simp) (closed_T _ r hr _) ?_ ?_
  · rw [hl]
    have a1 : lendT H (.c (.tr n v N)) (.c (.tr m v N)) = some (.c (.tr m v N), [], []) := rfl
    simp only [List.map_nil, List.append_nil, lendTs, a1, x1]
  · have a1 : renIT [trH n m v st ty es es'] (.c (.tr n v N)) = some (.c (.tr m v N)) := by simp only [renIT, renI, inN, hN, Option.bind_some, Option.map_some]
    simp only [renITs, a1, x2]
  · show (match renIB [trH n m v st ty es es'] (.tree v true st ty es none) with | some B => (updH H []) m = some B | none => False)
    simp only [renIB, updH]
    exact hH
  · simp only [renOBs, renOB, verOf, if_true, Blk.ver]
  · have hq : quiet r [trH n m v st ty es es'] = false := by simp [quiet]
    simpa [hq, updH] using hk
end
mutual
/-- What a kind counts. -/
def wK : Kd → Nat
  | .mk s ns ks => ((ns.length + wsum wS ns) + (ks.length + wKs ks))
def wKs : List Kd → Nat
  | [] => 0
  | k :: ks => wK k + wKs ks
end
theorem wKs_eq : ∀ ks, wKs ks = wsum wK ks
  | [] => by simp [wKs, wsum]
  | k :: ks => by simp [wKs, wsum, wKs_eq ks]
theorem wKs_take {ks : List Kd} {i : Nat} {x : Kd} (h : ks[i]? = some x) : wKs (ks.take (i + 1)) = wKs (ks.take i) + wK x := by rw [wKs_eq, wKs_eq]; exact wsum_take wK h
theorem wKs_le (ks : List Kd) (n : Nat) : wKs (ks.take n) ≤ wKs ks := by rw [wKs_eq, wKs_eq]; exact wsum_le wK ks n
theorem wKs_mem {ks : List Kd} {x : Kd} (h : x ∈ ks) : wK x ≤ wKs ks := by rw [wKs_eq]; exact wsum_mem wK h
/-- What counts little is small. -/
theorem KB_of : ∀ (y : Kd) (N : Nat), wK y ≤ N → KB N y := by
  intro y
  induction y using Kd.ind with
  | _ s ns ks ih =>
    intro N h
    simp only [wK] at h
    exact .mk _ _ _  (by omega) (by omega) (fun x hx => by have h1 := wsum_mem wS hx; have h2 : wS x = x.size := rfl; omega) fun k hk => ih k hk N (by have := wKs_mem hk; omega)
def ok20 := okF.gu (P := Try.prog) tab Try.func20 Try.ntmps20 (by conv => lhs; cbv) (by kernel_rfl)
def inv20 (xs : List Kd) (left : Int) (i : Nat) (σ : St) : Prop := ((xs.length + wKs (xs.take i) : Nat) : Int) ≤ left ∧ σ.t 0 = tL (encKs xs) ∧ σ.t 1 = .i (left - ((xs.length + wKs (xs.take i) : Nat) : Int)) ∧ σ.t 5 = .i i
theorem szKs_ok (xs : List Kd) (left : Int) (h0 : 0 ≤ left ∧ left ≤ 1048576) (hl : xs.length ≤ 9223372036854775807) (ih : ∀ x ∈ xs, ∀ left : Int, 0 ≤ left ∧ left ≤ 1048576 → ACallsF Try.prog 5 [tK x, .i left] [] (.i (sub1 left (wK x)))) : ACallsF Try.prog 20 [tL (encKs xs), .i left] [] (.i (sub1 left (xs.length + wKs xs))) := by
  refine ACallsF.intro ok20 follows fun X c0 => ?_
  have gw0 : IntKind.i64.wrap (left - xs.length) = left - xs.length := wrap64 ⟨by omega, by omega⟩
  by_cases hA : (xs.length : Int) ≤ left
  · have k0 : ¬ left - (xs.length : Int) < 0 := by omega
    simp only [go_sem, gw0, k0]
    refine AW.upto xs.length (inv20 xs left) ⟨by simpa [wKs] using hA, rfl, by show T.i (left - (xs.length : Int)) = _; simp [wKs], rfl⟩ fun i t H c hi h => ?_
    obtain ⟨g, e0, e1, e5⟩ := h
    simp only [T.c, T.i, tL] at e0 e1 e5
    by_cases hlt : i < xs.length
    · obtain ⟨x, hx⟩ : ∃ x, xs[i]? = some x := ⟨_, List.getElem?_eq_getElem hlt⟩
      have ex := encKs_at hx
      have k1 : (i : Int) < xs.length := by omega
      have gz : (0 : Int) ≤ i := by omega
      have gw : IntKind.i64.wrap ((i : Int) + 1) = ((i + 1 : Nat) : Int) := wrap64 (x := (i : Int) + 1) ⟨by omega, by omega⟩
      have hs := wKs_take hx
      have hle := wKs_le xs (i + 1)
      simp only [go_sem, e0, e1, e5, k1, gz, ex, Int.toNat_natCast, List.length_map, encK_len, takeK, Nat.le_refl]
      refine callC (ih x (List.mem_of_getElem? hx) _ ⟨by omega, by omega⟩) rfl rfl (by simp [closedA, closedP, closedC]) rfl ?_
      by_cases hB : ((wK x : Nat) : Int) ≤ left - ((xs.length + wKs (xs.take i) : Nat) : Int)
      · have k2 : sub1 (left - ((xs.length + wKs (xs.take i) : Nat) : Int)) (wK x) = left - ((xs.length + wKs (xs.take (i + 1)) : Nat) : Int) := by rw [sub1, if_pos hB]; omega
        have k3 : ¬ left - ((xs.length + wKs (xs.take (i + 1)) : Nat) : Int) < 0 := by omega
        simp only [go_sem, e5, k2, k3, gw]
        exact ⟨hlt, by omega, e0, rfl, rfl⟩
      · have k2 : sub1 (left - ((xs.length + wKs (xs.take i) : Nat) : Int)) (wK x) = -1 := by rw [sub1, if_neg hB]
        have k3 : sub1 left (xs.length + wKs xs) = -1 := by rw [sub1, if_neg (by omega)]
        simp only [go_sem, k2, k3, Int.reduceLT]
    · have k1 : ¬ (i : Int) < xs.length := by omega
      have hi2 : i = xs.length := by omega
      subst hi2
      rw [List.take_length] at g e1
      have k3 : sub1 left (xs.length + wKs xs) = left - ((xs.length + wKs xs : Nat) : Int) := by rw [sub1, if_pos g]
      simp only [go_sem, e0, e1, e5, k1, k3]
  · have k0 : left - (xs.length : Int) < 0 := by omega
    have k3 : sub1 left (xs.length + wKs xs) = -1 := by rw [sub1, if_neg (by omega)]
    simp only [go_sem, gw0, k0, k3]
def ok5 := okF.gu (P := Try.prog) tab Try.func5 Try.ntmps5 (by conv => lhs; cbv) (by kernel_rfl)
theorem szK_ok : ∀ (y : Kd), KB 9223372036854775807 y → ∀ left : Int, 0 ≤ left ∧ left ≤ 1048576 → ACallsF Try.prog 5 [tK y, .i left] [] (.i (sub1 left (wK y))) := by
  intro y
  induction y using Kd.ind with
  | _ s ns ks ih =>
    intro hB left h0
    obtain ⟨b1, b2, b3, b4⟩ := hB.inv
    rw [wK]
    refine ACallsF.intro ok5 follows fun X c0 => ?_
    simp only [go_sem, encK_mk]
    refine callC (szSs_ok ns left h0 b1 b3) rfl rfl rfl rfl ?_
    by_cases hA : ((ns.length + wsum wS ns : Nat) : Int) ≤ left
    · have k1 : sub1 left (ns.length + wsum wS ns) = left - ((ns.length + wsum wS ns : Nat) : Int) := by rw [sub1, if_pos hA]
      have k2 : ¬ left - ((ns.length + wsum wS ns : Nat) : Int) < 0 := by omega
      simp only [go_sem, k1, k2]
      refine callC (szKs_ok ks _ ⟨by omega, by omega⟩ b2 fun x hx => ih x hx (b4 x hx)) rfl rfl rfl rfl ?_
      by_cases hB : ((ks.length + wKs ks : Nat) : Int) ≤ left - ((ns.length + wsum wS ns : Nat) : Int)
      · have k3 : sub1 (left - ((ns.length + wsum wS ns : Nat) : Int)) (ks.length + wKs ks) = sub1 left ((ns.length + wsum wS ns) + (ks.length + wKs ks)) := by rw [sub1, sub1, if_pos hB, if_pos (by omega)]; omega
        have k4 : ¬ sub1 left ((ns.length + wsum wS ns) + (ks.length + wKs ks)) < 0 := by rw [sub1, if_pos (by omega)]; omega
        simp only [go_sem, k3, k4]
      · have k3 : sub1 (left - ((ns.length + wsum wS ns : Nat) : Int)) (ks.length + wKs ks) = -1 := by rw [sub1, if_neg hB]
        have k4 : sub1 left ((ns.length + wsum wS ns) + (ks.length + wKs ks)) = -1 := by rw [sub1, if_neg (by omega)]
        simp only [go_sem, k3, k4, Int.reduceLT]
    · have k1 : sub1 left (ns.length + wsum wS ns) = -1 := by rw [sub1, if_neg hA]
      have k4 : sub1 left ((ns.length + wsum wS ns) + (ks.length + wKs ks)) = -1 := by rw [sub1, if_neg (by omega)]
      simp only [go_sem, k1, k4, Int.reduceLT]
def zKd : Kd := .mk 0 [] []
theorem enc_zKd : encK zKd = [.s (.int .i64 0), .sl [], .sl []] := by rw [zKd, encK_mk]; rfl
theorem movKd {H : HMap} {m1 v1 m2 v2 : Nat} {t : Kd} (h1 : H m1 = some (.arr v1 true 1 9 (encS t.n))) (h2 : H m2 = some (.tree v2 true 3 38 (encKs t.k) none)) :
    moveCs H 38 0 [.v (.s (.int .i64 t.s)), .own m1 v1 t.n.length, .tr m2 v2 t.k.length] = some (encK t, [m1, m2]) := by
  simp only [go_sem, h1, h2, take_encS, take_encKs, encK_eta]
theorem thin_zKd (e : List V) (n : Nat) (h : e ∈ List.replicate n (encK zKd)) : thinFrom 38 0 e = true := by
  have := (List.mem_replicate.1 h).2
  subst this
  rw [enc_zKd]; rfl
def ok27 := okF.gu (P := Try.prog) tab Try.func27 Try.ntmps27 (by conv => lhs; cbv) (by kernel_rfl)
def inv27 (xs : List Kd) (i : Nat) (σ : St) : Prop := σ.t 0 = tL (encKs xs) ∧ σ.t 4 = .i i ∧ ∃ v, σ.t 3 = .c (.tr 7 v xs.length) ∧
  ((i = 0 ∧ σ.H 7 = some (.tree v true 3 38 (encKs (part xs zKd 0)) none)) ∨ ∃ j x u1 u2, i = j + 1 ∧ xs[j]? = some x ∧ σ.H 7 = some (.tree v true 3 38 (encKs (part xs zKd j)) (some (j, [.v (.s (.int .i64 x.s)), .own 3003 u1 x.n.length, .tr 3004 u2 x.k.length]))) ∧ σ.H 3003 = some (.arr u1 true 1 9 (encS x.n)) ∧ σ.H 3004 = some (.tree u2 true 3 38 (encKs x.k) none))
def mid27 (xs : List Kd) (i : Nat) (σ : St) : Prop := σ.t 0 = tL (encKs xs) ∧ σ.t 4 = .i i ∧ ∃ v, σ.t 3 = .c (.tr 7 v xs.length) ∧
  (i < xs.length → ∃ cs, σ.H 7 = some (.tree v true 3 38 (encKs (part xs zKd i)) (some (i, cs))) ∧ cs.length = 3) ∧ (i = xs.length → σ.H 7 = some (.tree v true 3 38 (encKs xs) none))
theorem toKs_ok (xs : List Kd) (hl : xs.length ≤ 1048576) (ih : ∀ x ∈ xs, ∀ m1 m2, ACallsF Try.prog 8 [tK x] (kdH 2003 2004 m1 m2 x) (.pt (oKd 2003 0 2004 0 x))) (m : Nat) : ACallsF Try.prog 27 [tL (encKs xs)] [newT 7 m 3 38 (encKs xs)] (.c (.tr 7 0 xs.length)) := by
  refine ACallsF.intro ok27 follows fun X c0 => ?_
  have q0 : (0 : Int) ≤ xs.length := by omega
  have q1 : ((56 : Nat) : Int) * (xs.length : Int) ≤ 281474976710656 := by omega
  have q2 : (xs.length : Int) ≤ 9223372036854775807 := by omega
  have z1 : [.s (.int .i64 0), .sl [], .sl []] = encK zKd := (enc_zKd).symm
  have z2 : List.replicate xs.length (encK zKd) = encKs (part xs zKd 0) := by rw [part_zero, encKs_eq, List.map_replicate]
  simp only [go_sem, q0, q1, q2, Int.le_refl]
  rw [z1]
  refine oneW.plantT 3 rfl rfl (fun e he => thin_zKd e _ he) ?_
  rw [z2]
  refine AW.uptoG xs.length (inv27 xs) (mid27 xs) ⟨rfl, rfl, _, rfl, .inl ⟨rfl, rfl⟩⟩ (fun i t H c hi h => ?_) fun i t H c hi h => ?_
  · obtain ⟨e0, e4, v, e3, hH⟩ := h
    obtain ⟨H1, g1, k1⟩ : ∃ H1, Gh H c H1 c ∧ H1 7 = some (.tree v true 3 38 (encKs (part xs zKd i)) none) := by
      rcases hH with ⟨rfl, hH⟩ | ⟨j, x, u1, u2, rfl, hx, hH, h1, h2⟩
      · exact ⟨H, Gh.refl H c, hH⟩
      · have := gh_close (c := c) hH (movKd h1 h2) (by simp) (by decide)
        rw [set_encKs, part_set xs zKd hx] at this
        exact ⟨_, this, closeH_id _ _ _ _⟩
    by_cases hlt : i < xs.length
    · exact ⟨_, _, g1.trans (gh_open 5000 k1 (encKs_at (part_at xs zKd hlt)) (by decide)), e0, e4, v, e3, fun _ => ⟨_, openH_id H1 7 v 3 38 _ i (encK zKd) 5000 c, by rw [(openCs_at (k := 0)).1, encK_len]⟩, fun h => absurd h (by omega)⟩
    · have : i = xs.length := by omega
      subst this
      rw [part_end] at k1
      exact ⟨_, _, g1, e0, e4, v, e3, fun h => absurd h hlt, fun _ => k1⟩
  · obtain ⟨e0, e4, v, e3, hm, hn⟩ := h
    simp only [T.c, T.i, tL] at e0 e3 e4
    have hpl : (part xs zKd i).length = xs.length := part_len xs zKd hi
    by_cases hlt : i < xs.length
    · obtain ⟨cs, eH, hcs⟩ := hm hlt
      replace eH : H 7 = _ := eH
      have hd : cs.drop 3 = [] := List.drop_of_length_le (by omega)
      obtain ⟨x, hx⟩ : ∃ x, xs[i]? = some x := ⟨_, List.getElem?_eq_getElem hlt⟩
      have ex := encKs_at hx
      have k1 : (i : Int) < xs.length := by omega
      have gz : (0 : Int) ≤ i := by omega
      have gm : i < xs.length := hlt
      have gw : IntKind.i64.wrap ((i : Int) + 1) = ((i + 1 : Nat) : Int) := wrap64 (x := (i : Int) + 1) ⟨by omega, by omega⟩
      simp only [go_sem, e0, e3, e4, k1, gz, gm, ex, Int.toNat_natCast, List.length_map, encK_len, takeK, Nat.le_refl]
      refine callKd (m1 := 3003) (m2 := 3004) (ws := []) (ns := []) (ih x (List.mem_of_getElem? hx) 3003 3004) (by decide) (by decide) rfl (lendC1 (clKd x)) (by simp [clKd]) ⟨?_, ?_⟩
      · simp only [go_sem]
      simp only [go_sem, e0, e3, eH, e4, k1, gz, gm, Int.toNat_natCast, hpl, gw, hcs, hd]
      exact ⟨e0, rfl, v, e3, .inr ⟨i, x, _, _, rfl, hx, rfl, rfl, rfl⟩⟩
    · have k1 : ¬ (i : Int) < xs.length := by omega
      have hi2 : i = xs.length := by omega
      have eH : H 7 = _ := hn hi2
      subst hi2
      simp only [go_sem, e0, e3, eH, e4, k1, imp_self]
def ok8 := okF.gu (P := Try.prog) tab Try.func8 Try.ntmps8 (by conv => lhs; cbv) (by kernel_rfl)
theorem toK_ok : ∀ (y : Kd), KB 1048576 y → ∀ m1 m2, ACallsF Try.prog 8 [tK y] (kdH 2003 2004 m1 m2 y) (.pt (oKd 2003 0 2004 0 y)) := by
  intro y
  induction y using Kd.ind with
  | _ s ns ks ih =>
    intro hB m1 m2
    obtain ⟨b1, b2, b3, b4⟩ := hB.inv
    refine ACallsF.intro ok8 follows fun X c0 => ?_
    simp only [go_sem, encK_mk]
    refine callA1 (m := 2003) (ws := []) (ns := []) (toSs_ok ns b1 2003) rfl rfl rfl (encS_flat _) ⟨rfl, ?_⟩
    simp only [go_sem]
    refine callTn (m := 2004) (ws := []) (ns := []) (toKs_ok ks b2 (fun x hx => ih x hx (b4 x hx)) 2004) rfl rfl rfl ⟨rfl, ?_⟩
    simp only [go_sem, imp_self]
def ok35 := okF.gu (P := Try.prog) tab Try.func35 Try.ntmps35 (by conv => lhs; cbv) (by kernel_rfl)
def inv35 (xs : List Kd) (i : Nat) (σ : St) : Prop := σ.t 0 = tL (encKs xs) ∧ σ.t 1 = tL (encKs xs) ∧ σ.t 5 = .i i
theorem eqKs_ok (xs : List Kd) (hl : xs.length ≤ 9000000000000000000) (ih : ∀ x ∈ xs, ACallsF Try.prog 12 [tK x, tK x] [] (.b true)) : ACallsF Try.prog 35 [tL (encKs xs), tL (encKs xs)] [] (.b true) := by
  have n0 : ((xs.length : Int) != xs.length) = false := by simp
  refine ACallsF.intro ok35 follows fun X c0 => ?_
  simp only [go_sem, n0]
  refine AW.upto xs.length (inv35 xs) ⟨rfl, rfl, rfl⟩ fun i t H c hi h => ?_
  obtain ⟨e0, e1, e5⟩ := h
  simp only [T.c, T.i, tL] at e0 e1 e5
  by_cases hlt : i < xs.length
  · obtain ⟨x, hx⟩ : ∃ x, xs[i]? = some x := ⟨_, List.getElem?_eq_getElem hlt⟩
    have ex := encKs_at hx
    have k1 : (i : Int) < xs.length := by omega
    have gz : (0 : Int) ≤ i := by omega
    have gw : IntKind.i64.wrap ((i : Int) + 1) = ((i + 1 : Nat) : Int) := wrap64 (x := (i : Int) + 1) ⟨by omega, by omega⟩
    simp only [go_sem, e0, e1, e5, k1, gz, ex, Int.toNat_natCast, List.length_map, encK_len, takeK, Nat.le_refl]
    refine callC (ih x (List.mem_of_getElem? hx)) rfl rfl (by simp [closedA, closedP, closedC]) rfl ?_
    simp only [go_sem, e5, gw]
    exact ⟨hlt, e0, e1, rfl⟩
  · have k1 : ¬ (i : Int) < xs.length := by omega
    simp only [go_sem, e0, e1, e5, k1]
def ok12 := okF.gu (P := Try.prog) tab Try.func12 Try.ntmps12 (by conv => lhs; cbv) (by kernel_rfl)
theorem eqK_ok : ∀ (y : Kd), KB 9000000000000000000 y → ACallsF Try.prog 12 [tK y, tK y] [] (.b true) := by
  intro y
  induction y using Kd.ind with
  | _ s ns ks ih =>
    intro hB
    obtain ⟨b1, b2, b3, b4⟩ := hB.inv
    have n0 : (s != s) = false := by simp
    refine ACallsF.intro ok12 follows fun X c0 => ?_
    simp only [go_sem, encK_mk, n0]
    refine callC (eqSs_ok ns b1) rfl rfl rfl rfl ?_
    simp only [go_sem]
    refine callC (eqKs_ok ks b2 fun x hx => ih x hx (b4 x hx)) rfl rfl rfl rfl ?_
    simp only [go_sem]
mutual
/-- What a tree counts. -/
def wT : Tr → Nat
  | .mk s n x ns ks => x.size + ((ns.length + wsum wS ns) + (ks.length + wTs ks))
def wTs : List Tr → Nat
  | [] => 0
  | k :: ks => wT k + wTs ks
end
theorem wTs_eq : ∀ ks, wTs ks = wsum wT ks
  | [] => by simp [wTs, wsum]
  | k :: ks => by simp [wTs, wsum, wTs_eq ks]
theorem wTs_take {ks : List Tr} {i : Nat} {x : Tr} (h : ks[i]? = some x) : wTs (ks.take (i + 1)) = wTs (ks.take i) + wT x := by rw [wTs_eq, wTs_eq]; exact wsum_take wT h
theorem wTs_le (ks : List Tr) (n : Nat) : wTs (ks.take n) ≤ wTs ks := by rw [wTs_eq, wTs_eq]; exact wsum_le wT ks n
theorem wTs_mem {ks : List Tr} {x : Tr} (h : x ∈ ks) : wT x ≤ wTs ks := by rw [wTs_eq]; exact wsum_mem wT h
/-- What counts little is small. -/
theorem TB_of : ∀ (y : Tr) (N : Nat), wT y ≤ N → TB N y := by
  intro y
  induction y using Tr.ind with
  | _ s n x ns ks ih =>
    intro N h
    simp only [wT] at h
    exact .mk _ _ _ _ _ (by omega) (by omega) (by omega) (fun x hx => by have h1 := wsum_mem wS hx; have h2 : wS x = x.size := rfl; omega) fun k hk => ih k hk N (by have := wTs_mem hk; omega)
def ok21 := okF.gu (P := Try.prog) tab Try.func21 Try.ntmps21 (by conv => lhs; cbv) (by kernel_rfl)
def inv21 (xs : List Tr) (left : Int) (i : Nat) (σ : St) : Prop := ((xs.length + wTs (xs.take i) : Nat) : Int) ≤ left ∧ σ.t 0 = tL (encTs xs) ∧ σ.t 1 = .i (left - ((xs.length + wTs (xs.take i) : Nat) : Int)) ∧ σ.t 5 = .i i
theorem szTs_ok (xs : List Tr) (left : Int) (h0 : 0 ≤ left ∧ left ≤ 1048576) (hl : xs.length ≤ 9223372036854775807) (ih : ∀ x ∈ xs, ∀ left : Int, 0 ≤ left ∧ left ≤ 1048576 → ACallsF Try.prog 6 [tT x, .i left] [] (.i (sub1 left (wT x)))) : ACallsF Try.prog 21 [tL (encTs xs), .i left] [] (.i (sub1 left (xs.length + wTs xs))) := by
  refine ACallsF.intro ok21 follows fun X c0 => ?_
  have gw0 : IntKind.i64.wrap (left - xs.length) = left - xs.length := wrap64 ⟨by omega, by omega⟩
  by_cases hA : (xs.length : Int) ≤ left
  · have k0 : ¬ left - (xs.length : Int) < 0 := by omega
    simp only [go_sem, gw0, k0]
    refine AW.upto xs.length (inv21 xs left) ⟨by simpa [wTs] using hA, rfl, by show T.i (left - (xs.length : Int)) = _; simp [wTs], rfl⟩ fun i t H c hi h => ?_
    obtain ⟨g, e0, e1, e5⟩ := h
    simp only [T.c, T.i, tL] at e0 e1 e5
    by_cases hlt : i < xs.length
    · obtain ⟨x, hx⟩ : ∃ x, xs[i]? = some x := ⟨_, List.getElem?_eq_getElem hlt⟩
      have ex := encTs_at hx
      have k1 : (i : Int) < xs.length := by omega
      have gz : (0 : Int) ≤ i := by omega
      have gw : IntKind.i64.wrap ((i : Int) + 1) = ((i + 1 : Nat) : Int) := wrap64 (x := (i : Int) + 1) ⟨by omega, by omega⟩
      have hs := wTs_take hx
      have hle := wTs_le xs (i + 1)
      simp only [go_sem, e0, e1, e5, k1, gz, ex, Int.toNat_natCast, List.length_map, encT_len, takeT, Nat.le_refl]
      refine callC (ih x (List.mem_of_getElem? hx) _ ⟨by omega, by omega⟩) rfl rfl (by simp [closedA, closedP, closedC]) rfl ?_
      by_cases hB : ((wT x : Nat) : Int) ≤ left - ((xs.length + wTs (xs.take i) : Nat) : Int)
      · have k2 : sub1 (left - ((xs.length + wTs (xs.take i) : Nat) : Int)) (wT x) = left - ((xs.length + wTs (xs.take (i + 1)) : Nat) : Int) := by rw [sub1, if_pos hB]; omega
        have k3 : ¬ left - ((xs.length + wTs (xs.take (i + 1)) : Nat) : Int) < 0 := by omega
        simp only [go_sem, e5, k2, k3, gw]
        exact ⟨hlt, by omega, e0, rfl, rfl⟩
      · have k2 : sub1 (left - ((xs.length + wTs (xs.take i) : Nat) : Int)) (wT x) = -1 := by rw [sub1, if_neg hB]
        have k3 : sub1 left (xs.length + wTs xs) = -1 := by rw [sub1, if_neg (by omega)]
        simp only [go_sem, k2, k3, Int.reduceLT]
    · have k1 : ¬ (i : Int) < xs.length := by omega
      have hi2 : i = xs.length := by omega
      subst hi2
      rw [List.take_length] at g e1
      have k3 : sub1 left (xs.length + wTs xs) = left - ((xs.length + wTs xs : Nat) : Int) := by rw [sub1, if_pos g]
      simp only [go_sem, e0, e1, e5, k1, k3]
  · have k0 : left - (xs.length : Int) < 0 := by omega
    have k3 : sub1 left (xs.length + wTs xs) = -1 := by rw [sub1, if_neg (by omega)]
    simp only [go_sem, gw0, k0, k3]
def ok6 := okF.gu (P := Try.prog) tab Try.func6 Try.ntmps6 (by conv => lhs; cbv) (by kernel_rfl)
theorem szT_ok : ∀ (y : Tr), TB 9223372036854775807 y → ∀ left : Int, 0 ≤ left ∧ left ≤ 1048576 → ACallsF Try.prog 6 [tT y, .i left] [] (.i (sub1 left (wT y))) := by
  intro y
  induction y using Tr.ind with
  | _ s n x ns ks ih =>
    intro hB left h0
    obtain ⟨b0, b1, b2, b3, b4⟩ := hB.inv
    have gw0 : IntKind.i64.wrap (left - x.size) = left - x.size := wrap64 ⟨by omega, by omega⟩
    by_cases hX : ((x.size : Nat) : Int) ≤ left
    rotate_left
    · have k3 : sub1 left (wT (.mk s n x ns ks)) = -1 := by rw [sub1, wT, if_neg (by omega)]
      have k0 : left - (x.size : Int) < 0 := by omega
      refine ACallsF.intro ok6 follows fun X c0 => ?_
      simp only [go_sem, encT_mk, gw0, k0, k3]
    have k0 : ¬ left - (x.size : Int) < 0 := by omega
    have hL : sub1 left (wT (.mk s n x ns ks)) = sub1 (left - x.size) ((ns.length + wsum wS ns) + (ks.length + wTs ks)) := by
      unfold sub1; rw [wT]
      split
      · rw [if_pos (by omega)]; omega
      · rw [if_neg (by omega)]
    rw [hL]
    clear hL
    refine ACallsF.intro ok6 follows fun X c0 => ?_
    simp only [go_sem, encT_mk, gw0, k0]
    have h0 : 0 ≤ left - (x.size : Int) ∧ left - (x.size : Int) ≤ 1048576 := ⟨by omega, by omega⟩
    generalize left - (x.size : Int) = left at *
    refine callC (szSs_ok ns left h0 b1 b3) rfl rfl rfl rfl ?_
    by_cases hA : ((ns.length + wsum wS ns : Nat) : Int) ≤ left
    · have k1 : sub1 left (ns.length + wsum wS ns) = left - ((ns.length + wsum wS ns : Nat) : Int) := by rw [sub1, if_pos hA]
      have k2 : ¬ left - ((ns.length + wsum wS ns : Nat) : Int) < 0 := by omega
      simp only [go_sem, k1, k2]
      refine callC (szTs_ok ks _ ⟨by omega, by omega⟩ b2 fun x hx => ih x hx (b4 x hx)) rfl rfl rfl rfl ?_
      by_cases hB : ((ks.length + wTs ks : Nat) : Int) ≤ left - ((ns.length + wsum wS ns : Nat) : Int)
      · have k3 : sub1 (left - ((ns.length + wsum wS ns : Nat) : Int)) (ks.length + wTs ks) = sub1 left ((ns.length + wsum wS ns) + (ks.length + wTs ks)) := by rw [sub1, sub1, if_pos hB, if_pos (by omega)]; omega
        have k4 : ¬ sub1 left ((ns.length + wsum wS ns) + (ks.length + wTs ks)) < 0 := by rw [sub1, if_pos (by omega)]; omega
        simp only [go_sem, k3, k4]
      · have k3 : sub1 (left - ((ns.length + wsum wS ns : Nat) : Int)) (ks.length + wTs ks) = -1 := by rw [sub1, if_neg hB]
        have k4 : sub1 left ((ns.length + wsum wS ns) + (ks.length + wTs ks)) = -1 := by rw [sub1, if_neg (by omega)]
        simp only [go_sem, k3, k4, Int.reduceLT]
    · have k1 : sub1 left (ns.length + wsum wS ns) = -1 := by rw [sub1, if_neg hA]
      have k4 : sub1 left ((ns.length + wsum wS ns) + (ks.length + wTs ks)) = -1 := by rw [sub1, if_neg (by omega)]
      simp only [go_sem, k1, k4, Int.reduceLT]
def zTr : Tr := .mk 0 0 ⟨#[]⟩ [] []
theorem enc_zTr : encT zTr = [.s (.int .i64 0), .s (.int .i64 0), .s (.string ⟨#[]⟩), .sl [], .sl []] := by rw [zTr, encT_mk]; rfl
theorem movTr {H : HMap} {m1 v1 m2 v2 : Nat} {t : Tr} (h1 : H m1 = some (.arr v1 true 1 9 (encS t.n))) (h2 : H m2 = some (.tree v2 true 5 33 (encTs t.k) none)) :
    moveCs H 33 0 [.v (.s (.int .i64 t.s)), .v (.s (.int .i64 t.m)), .v (.s (.string t.x)), .own m1 v1 t.n.length, .tr m2 v2 t.k.length] = some (encT t, [m1, m2]) := by
  simp only [go_sem, h1, h2, take_encS, take_encTs, encT_eta]
theorem thin_zTr (e : List V) (n : Nat) (h : e ∈ List.replicate n (encT zTr)) : thinFrom 33 0 e = true := by
  have := (List.mem_replicate.1 h).2
  subst this
  rw [enc_zTr]; rfl
def ok28 := okF.gu (P := Try.prog) tab Try.func28 Try.ntmps28 (by conv => lhs; cbv) (by kernel_rfl)
def inv28 (xs : List Tr) (i : Nat) (σ : St) : Prop := σ.t 0 = tL (encTs xs) ∧ σ.t 4 = .i i ∧ ∃ v, σ.t 3 = .c (.tr 7 v xs.length) ∧
  ((i = 0 ∧ σ.H 7 = some (.tree v true 5 33 (encTs (part xs zTr 0)) none)) ∨ ∃ j x u1 u2, i = j + 1 ∧ xs[j]? = some x ∧ σ.H 7 = some (.tree v true 5 33 (encTs (part xs zTr j)) (some (j, [.v (.s (.int .i64 x.s)), .v (.s (.int .i64 x.m)), .v (.s (.string x.x)), .own 3003 u1 x.n.length, .tr 3004 u2 x.k.length]))) ∧ σ.H 3003 = some (.arr u1 true 1 9 (encS x.n)) ∧ σ.H 3004 = some (.tree u2 true 5 33 (encTs x.k) none))
def mid28 (xs : List Tr) (i : Nat) (σ : St) : Prop := σ.t 0 = tL (encTs xs) ∧ σ.t 4 = .i i ∧ ∃ v, σ.t 3 = .c (.tr 7 v xs.length) ∧
  (i < xs.length → ∃ cs, σ.H 7 = some (.tree v true 5 33 (encTs (part xs zTr i)) (some (i, cs))) ∧ cs.length = 5) ∧ (i = xs.length → σ.H 7 = some (.tree v true 5 33 (encTs xs) none))
theorem toTs_ok (xs : List Tr) (hl : xs.length ≤ 1048576) (ih : ∀ x ∈ xs, ∀ m1 m2, ACallsF Try.prog 9 [tT x] (trH2 2003 2004 m1 m2 x) (.pt (oTr 2003 0 2004 0 x))) (m : Nat) : ACallsF Try.prog 28 [tL (encTs xs)] [newT 7 m 5 33 (encTs xs)] (.c (.tr 7 0 xs.length)) := by
  refine ACallsF.intro ok28 follows fun X c0 => ?_
  have q0 : (0 : Int) ≤ xs.length := by omega
  have q1 : ((80 : Nat) : Int) * (xs.length : Int) ≤ 281474976710656 := by omega
  have q2 : (xs.length : Int) ≤ 9223372036854775807 := by omega
  have z1 : [.s (.int .i64 0), .s (.int .i64 0), .s (.string ⟨#[]⟩), .sl [], .sl []] = encT zTr := (enc_zTr).symm
  have z2 : List.replicate xs.length (encT zTr) = encTs (part xs zTr 0) := by rw [part_zero, encTs_eq, List.map_replicate]
  simp only [go_sem, q0, q1, q2, Int.le_refl]
  rw [z1]
  refine oneW.plantT 3 rfl rfl (fun e he => thin_zTr e _ he) ?_
  rw [z2]
  refine AW.uptoG xs.length (inv28 xs) (mid28 xs) ⟨rfl, rfl, _, rfl, .inl ⟨rfl, rfl⟩⟩ (fun i t H c hi h => ?_) fun i t H c hi h => ?_
  · obtain ⟨e0, e4, v, e3, hH⟩ := h
    obtain ⟨H1, g1, k1⟩ : ∃ H1, Gh H c H1 c ∧ H1 7 = some (.tree v true 5 33 (encTs (part xs zTr i)) none) := by
      rcases hH with ⟨rfl, hH⟩ | ⟨j, x, u1, u2, rfl, hx, hH, h1, h2⟩
      · exact ⟨H, Gh.refl H c, hH⟩
      · have := gh_close (c := c) hH (movTr h1 h2) (by simp) (by decide)
        rw [set_encTs, part_set xs zTr hx] at this
        exact ⟨_, this, closeH_id _ _ _ _⟩
    by_cases hlt : i < xs.length
    · exact ⟨_, _, g1.trans (gh_open 5000 k1 (encTs_at (part_at xs zTr hlt)) (by decide)), e0, e4, v, e3, fun _ => ⟨_, openH_id H1 7 v 5 33 _ i (encT zTr) 5000 c, by rw [(openCs_at (k := 0)).1, encT_len]⟩, fun h => absurd h (by omega)⟩
    · have : i = xs.length := by omega
      subst this
      rw [part_end] at k1
      exact ⟨_, _, g1, e0, e4, v, e3, fun h => absurd h hlt, fun _ => k1⟩
  · obtain ⟨e0, e4, v, e3, hm, hn⟩ := h
    simp only [T.c, T.i, tL] at e0 e3 e4
    have hpl : (part xs zTr i).length = xs.length := part_len xs zTr hi
    by_cases hlt : i < xs.length
    · obtain ⟨cs, eH, hcs⟩ := hm hlt
      replace eH : H 7 = _ := eH
      have hd : cs.drop 5 = [] := List.drop_of_length_le (by omega)
      obtain ⟨x, hx⟩ : ∃ x, xs[i]? = some x := ⟨_, List.getElem?_eq_getElem hlt⟩
      have ex := encTs_at hx
      have k1 : (i : Int) < xs.length := by omega
      have gz : (0 : Int) ≤ i := by omega
      have gm : i < xs.length := hlt
      have gw : IntKind.i64.wrap ((i : Int) + 1) = ((i + 1 : Nat) : Int) := wrap64 (x := (i : Int) + 1) ⟨by omega, by omega⟩
      simp only [go_sem, e0, e3, e4, k1, gz, gm, ex, Int.toNat_natCast, List.length_map, encT_len, takeT, Nat.le_refl]
      refine callTr (m1 := 3003) (m2 := 3004) (ws := []) (ns := []) (ih x (List.mem_of_getElem? hx) 3003 3004) (by decide) (by decide) rfl (lendC1 (clTr x)) (by simp [clTr]) ⟨?_, ?_⟩
      · simp only [go_sem]
      simp only [go_sem, e0, e3, eH, e4, k1, gz, gm, Int.toNat_natCast, hpl, gw, hcs, hd]
      exact ⟨e0, rfl, v, e3, .inr ⟨i, x, _, _, rfl, hx, rfl, rfl, rfl⟩⟩
    · have k1 : ¬ (i : Int) < xs.length := by omega
      have hi2 : i = xs.length := by omega
      have eH : H 7 = _ := hn hi2
      subst hi2
      simp only [go_sem, e0, e3, eH, e4, k1, imp_self]
def ok9 := okF.gu (P := Try.prog) tab Try.func9 Try.ntmps9 (by conv => lhs; cbv) (by kernel_rfl)
theorem toT_ok : ∀ (y : Tr), TB 1048576 y → ∀ m1 m2, ACallsF Try.prog 9 [tT y] (trH2 2003 2004 m1 m2 y) (.pt (oTr 2003 0 2004 0 y)) := by
  intro y
  induction y using Tr.ind with
  | _ s n x ns ks ih =>
    intro hB m1 m2
    obtain ⟨b0, b1, b2, b3, b4⟩ := hB.inv
    refine ACallsF.intro ok9 follows fun X c0 => ?_
    simp only [go_sem, encT_mk]
    refine callA1 (m := 2003) (ws := []) (ns := []) (toSs_ok ns b1 2003) rfl rfl rfl (encS_flat _) ⟨rfl, ?_⟩
    simp only [go_sem]
    refine callTn (m := 2004) (ws := []) (ns := []) (toTs_ok ks b2 (fun x hx => ih x hx (b4 x hx)) 2004) rfl rfl rfl ⟨rfl, ?_⟩
    simp only [go_sem, imp_self]
def ok34 := okF.gu (P := Try.prog) tab Try.func34 Try.ntmps34 (by conv => lhs; cbv) (by kernel_rfl)
def inv34 (xs : List Tr) (i : Nat) (σ : St) : Prop := σ.t 0 = tL (encTs xs) ∧ σ.t 1 = tL (encTs xs) ∧ σ.t 5 = .i i
theorem eqTs_ok (xs : List Tr) (hl : xs.length ≤ 9000000000000000000) (ih : ∀ x ∈ xs, ACallsF Try.prog 11 [tT x, tT x] [] (.b true)) : ACallsF Try.prog 34 [tL (encTs xs), tL (encTs xs)] [] (.b true) := by
  have n0 : ((xs.length : Int) != xs.length) = false := by simp
  refine ACallsF.intro ok34 follows fun X c0 => ?_
  simp only [go_sem, n0]
  refine AW.upto xs.length (inv34 xs) ⟨rfl, rfl, rfl⟩ fun i t H c hi h => ?_
  obtain ⟨e0, e1, e5⟩ := h
  simp only [T.c, T.i, tL] at e0 e1 e5
  by_cases hlt : i < xs.length
  · obtain ⟨x, hx⟩ : ∃ x, xs[i]? = some x := ⟨_, List.getElem?_eq_getElem hlt⟩
    have ex := encTs_at hx
    have k1 : (i : Int) < xs.length := by omega
    have gz : (0 : Int) ≤ i := by omega
    have gw : IntKind.i64.wrap ((i : Int) + 1) = ((i + 1 : Nat) : Int) := wrap64 (x := (i : Int) + 1) ⟨by omega, by omega⟩
    simp only [go_sem, e0, e1, e5, k1, gz, ex, Int.toNat_natCast, List.length_map, encT_len, takeT, Nat.le_refl]
    refine callC (ih x (List.mem_of_getElem? hx)) rfl rfl (by simp [closedA, closedP, closedC]) rfl ?_
    simp only [go_sem, e5, gw]
    exact ⟨hlt, e0, e1, rfl⟩
  · have k1 : ¬ (i : Int) < xs.length := by omega
    simp only [go_sem, e0, e1, e5, k1]
def ok11 := okF.gu (P := Try.prog) tab Try.func11 Try.ntmps11 (by conv => lhs; cbv) (by kernel_rfl)
theorem eqT_ok : ∀ (y : Tr), TB 9000000000000000000 y → ACallsF Try.prog 11 [tT y, tT y] [] (.b true) := by
  intro y
  induction y using Tr.ind with
  | _ s n x ns ks ih =>
    intro hB
    obtain ⟨b0, b1, b2, b3, b4⟩ := hB.inv
    have n0 : (s != s) = false := by simp
    have n1 : (n != n) = false := by simp
    refine ACallsF.intro ok11 follows fun X c0 => ?_
    simp only [go_sem, encT_mk, n0, n1, sStr, str_beq, decide_true]
    refine callC (eqSs_ok ns b1) rfl rfl rfl rfl ?_
    simp only [go_sem]
    refine callC (eqTs_ok ks b2 fun x hx => ih x hx (b4 x hx)) rfl rfl rfl rfl ?_
    simp only [go_sem]
end Go.V
set_option linter.unusedSimpArgs false
set_option maxRecDepth 20000
namespace Go.V
open Go.Proofs
theorem set_out {α : Type} {outs xs : List α} (hl : outs.length = xs.length) {i : Nat} {o : α} (ho : outs[i]? = some o) : (outs.take i ++ xs.drop i).set i o = outs.take (i + 1) ++ xs.drop (i + 1) := by
  have hi := (List.getElem?_eq_some_iff.1 ho).1
  rw [List.set_append_right _ _ (by rw [List.length_take]; omega), List.length_take, show i - min i outs.length = 0 from by omega, List.take_add_one, ho, List.drop_eq_getElem_cons (by omega : i < xs.length), List.set_cons_zero]
  simp
def OpS (H : HMap) (c : C) (id : Nat) (ns : List ByteArray) : Prop := (ns = [] ∧ c = .v (.sl [])) ∨ ∃ u, c = .own id u ns.length ∧ H id = some (.arr u true 1 9 (encS ns))
theorem OpS.re {H H' : HMap} {c : C} {id : Nat} {ns : List ByteArray} (h : OpS H c id ns) (e : H' id = H id) : OpS H' c id ns := by
  rcases h with h | ⟨u, h1, h2⟩
  · exact .inl h
  · exact .inr ⟨u, h1, e.trans h2⟩
theorem opCS (id nv : Nat) (y : ByteArray) (ys : List ByteArray) : openC (some (1, 9)) id nv (.sl (encS (y :: ys))) = .own id nv (y :: ys).length := by
  show C.own id nv ((encS ys).length + 1) = _
  rw [encS_len]; rfl
theorem callMS {P : Program} {t : Nat → T} {H : HMap} {c : Nat} {f : Opd} {args : List Opd} {fid : FuncId} {k : Nat} {d : Option Nat} {l : List AOper} {prev : List (Nat × List Nat × List Nat)} {K : St → Prop} {cN : C} {id : Nat} {ns ns' : List ByteArray} {x r : T} (hO : OpS H cN id ns) (hC : ∀ m v, ACallsF P fid [.c (.own 2001 v ns.length), x] [arH 2001 m v 1 9 (encS ns) (encS ns')] r) (hC0 : ns = [] → ACallsF P fid [tL [], x] [] r) (hlen : ns'.length = ns.length)
    (hf : ev t f = .pt (.one (.fn fid []))) (hl : args.map (ev t) = [.c cN, x]) (hx : closedA x = true) (hr : closedT r = true) (hk : ∀ H1 prev', (∀ n, n ≠ id → H1 n = H n) → OpS H1 cN id ns' → DRun P l prev' K ⟨updD t d r, H1, c⟩) : step P k d [] (.call f args) l prev K t H c := by
  rcases hO with ⟨h1, rfl⟩ | ⟨u, rfl, h2⟩
  · have : ns' = [] := by rw [h1] at hlen; exact List.length_eq_zero_iff.1 hlen
    exact callC (hC0 h1) hf hl (by simp only [List.all_cons, List.all_nil, hx, Bool.and_true]; rfl) hr (hk H prev (fun _ _ => rfl) (.inl ⟨this, rfl⟩))
  · exact callM1 (m := id) (hC id u) hf hl h2 hx hr ⟨rfl, hk _ _ (fun n hn => upd_ne _ _ hn) (.inr ⟨u, by rw [hlen], upd_same _ _ _⟩)⟩
theorem markSs0_ok (k : Nat) : ACallsF Try.prog 36 [tL [], .i k] [] (.i k) := by
  refine ACallsF.intro ok36 follows fun X c0 => ?_
  simp only [go_sem]
  refine AW.upto 0 (fun i σ => σ.t 0 = tL [] ∧ σ.t 1 = .i k ∧ σ.t 5 = .i i) ⟨rfl, rfl, rfl⟩ fun i t H c hi h => ?_
  obtain ⟨e0, e1, e5⟩ := h
  simp only [T.c, T.i, tL] at e0 e1 e5
  have k1 : ¬ (i : Int) < 0 := by omega
  simp only [go_sem, e0, e1, e5, k1, Int.ofNat_zero, Int.cast_ofNat_Int]
mutual
/-- How many marks are written into a kind of a row. -/
def mK : Kd → Nat
  | .mk s ns ks => 1 + ns.length + mKs ks
def mKs : List Kd → Nat
  | [] => 0
  | k :: ks => mK k + mKs ks
end
mutual
/-- A kind of a row, with its marks. -/
def mkK (k : Nat) : Kd → Kd
  | .mk _ ns ks => .mk ((k : Nat) : Int) (marks mS 1 (k + 1) ns.length) (mkKs (k + 1 + ns.length) ks)
def mkKs (k : Nat) : List Kd → List Kd
  | [] => []
  | x :: xs => mkK k x :: mkKs (k + mK x) xs
end
theorem mKs_eq : ∀ ks, mKs ks = wsum mK ks
  | [] => by simp [mKs, wsum]
  | k :: ks => by simp [mKs, wsum, mKs_eq ks]
theorem mKs_take {ks : List Kd} {i : Nat} {x : Kd} (h : ks[i]? = some x) : mKs (ks.take (i + 1)) = mKs (ks.take i) + mK x := by rw [mKs_eq, mKs_eq]; exact wsum_take mK h
theorem mKs_le (ks : List Kd) (n : Nat) : mKs (ks.take n) ≤ mKs ks := by rw [mKs_eq, mKs_eq]; exact wsum_le mK ks n
theorem mKs_mem {ks : List Kd} {x : Kd} (h : x ∈ ks) : mK x ≤ mKs ks := by rw [mKs_eq]; exact wsum_mem mK h
theorem mK_pos (x : Kd) : 1 ≤ mK x := by cases x; simp only [mK]; omega
theorem mKs_len : ∀ ks, ks.length ≤ mKs ks
  | [] => Nat.zero_le _
  | k :: ks => by have := mK_pos k; have := mKs_len ks; simp only [List.length_cons, mKs]; omega
theorem mKs_of : ∀ (ks : List Kd), (∀ k ∈ ks, mK k ≤ 1 + 1 * wK k) → mKs ks ≤ 1 * ks.length + 1 * wKs ks
  | [], _ => by simp [mKs]
  | k :: ks, ih => by
    have h1 := ih k (by simp)
    have h2 := mKs_of ks fun x hx => ih x (by simp [hx])
    simp only [mKs, wKs, List.length_cons]; omega
theorem mK_w : ∀ y : Kd, mK y ≤ 1 + 1 * wK y := by
  intro y
  induction y using Kd.ind with
  | _ s ns ks ih =>
    have h := mKs_of ks ih
    simp only [mK, wK]
    omega
theorem mKs_w (ks : List Kd) : mKs ks ≤ 1 * ks.length + 1 * wKs ks := mKs_of ks fun k _ => mK_w k
theorem mkKs_len : ∀ (xs : List Kd) (k : Nat), (mkKs k xs).length = xs.length
  | [], _ => rfl
  | x :: xs, k => by simp [mkKs, mkKs_len xs]
theorem mkKs_at : ∀ {xs : List Kd} {k j : Nat} {x : Kd}, xs[j]? = some x → (mkKs k xs)[j]? = some (mkK (k + mKs (xs.take j)) x)
  | [], _, _, _, h => by simp at h
  | y :: xs, k, 0, x, h => by simp at h; subst h; simp [mkKs, mKs]
  | y :: xs, k, j + 1, x, h => by
    have := mkKs_at (k := k + mK y) (show xs[j]? = some x by simpa using h)
    simp only [mkKs, List.getElem?_cons_succ, this, List.take_succ_cons, mKs]
    congr 2; omega
def OpRK (H : HMap) (c : C) (id : Nat) (ks : List Kd) : Prop := (ks = [] ∧ c = .v (.sl [])) ∨ ∃ u, c = .tr id u ks.length ∧ H id = some (.tree u true 3 38 (encKs ks) none)
theorem OpRK.re {H H' : HMap} {c : C} {id : Nat} {ks : List Kd} (h : OpRK H c id ks) (e : H' id = H id) : OpRK H' c id ks := by
  rcases h with h | ⟨u, h1, h2⟩
  · exact .inl h
  · exact .inr ⟨u, h1, e.trans h2⟩
theorem encKs_cons (y : Kd) (ys : List Kd) : encKs (y :: ys) = encK y :: encKs ys := by simp [encKs_eq]
theorem opCK (id nv : Nat) (y : Kd) (ys : List Kd) : openC (some (3, 38)) id nv (.sl (encKs (y :: ys))) = .tr id nv (y :: ys).length := by
  rw [encKs_cons]
  show C.tr id nv ((encKs ys).length + 1) = _
  rw [encKs_len]; rfl
theorem opBK (nv : Nat) (s : Int) (ns : List ByteArray)  (y : Kd) (ys : List Kd) : openB 38 nv (encK (.mk s ns (y :: ys))) 2 = some (.tree nv true 3 38 (encKs (y :: ys)) none) := by
  rw [encK_mk, encKs_cons]; rfl
theorem openK (x : Kd) (nv : Nat) : ∃ cN cK, openCs 38 5000 nv 0 (encK x) = [.v (.s (.int .i64 x.s)), cN, cK] ∧ ∀ H' : HMap, (∀ j, j < 3 → H' (5000 + j) = openB 38 nv (encK x) j) → OpS H' cN 5001 x.n ∧ OpRK H' cK 5002 x.k := by
  obtain ⟨s, ns, ks⟩ := x
  refine ⟨openC (some (1, 9)) 5001 nv (.sl (encS ns)), openC (some (3, 38)) 5002 nv (.sl (encKs ks)), by rw [encK_mk]; rfl, fun H' h => ⟨?_, ?_⟩⟩
  · cases ns with
    | nil => exact .inl ⟨rfl, rfl⟩
    | cons z zs => exact .inr ⟨nv, opCS _ _ z zs, (h 1 (by decide)).trans (by rw [encK_mk]; rfl)⟩
  · cases ks with
    | nil => exact .inl ⟨rfl, by rw [encKs_nil]; rfl⟩
    | cons y ys => exact .inr ⟨nv, opCK _ _ y ys, (h 2 (by decide)).trans (opBK nv s ns y ys)⟩
theorem mopK {H : HMap} {cN cK : C} {s : Int} {ns : List ByteArray} {ks : List Kd} (h1 : OpS H cN 5001 ns) (h2 : OpRK H cK 5002 ks) : ∃ nms, moveCs H 38 0 [.v (.s (.int .i64 s)), cN, cK] = some (encK (.mk s ns ks), nms) ∧ nms.Nodup ∧ 2001 ∉ nms := by
  rcases h1 with ⟨rfl, rfl⟩ | ⟨u, rfl, h1⟩ <;> rcases h2 with ⟨rfl, rfl⟩ | ⟨u', rfl, h2⟩
  · exact ⟨[], by simp only [go_sem, encK_mk], by decide, by decide⟩
  · exact ⟨[5002], by simp only [go_sem, encK_mk, h2, take_encKs], by decide, by decide⟩
  · exact ⟨[5001], by simp only [go_sem, encK_mk, h1, take_encS], by decide, by decide⟩
  · exact ⟨[5001, 5002], by simp only [go_sem, encK_mk, h1, h2, take_encS, take_encKs], by decide, by decide⟩
theorem callMRK {P : Program} {t : Nat → T} {H : HMap} {c : Nat} {f : Opd} {args : List Opd} {fid : FuncId} {k : Nat} {d : Option Nat} {l : List AOper} {prev : List (Nat × List Nat × List Nat)} {K : St → Prop} {cN : C} {id : Nat} {ks ks' : List Kd} {x r : T} (hO : OpRK H cN id ks) (hC : ∀ m v, ACallsF P fid [.c (.tr 2001 v ks.length), x] [trH 2001 m v 3 38 (encKs ks) (encKs ks')] r) (hC0 : ks = [] → ACallsF P fid [tL [], x] [] r) (hlen : ks'.length = ks.length)
    (hf : ev t f = .pt (.one (.fn fid []))) (hl : args.map (ev t) = [.c cN, x]) (hx : closedA x = true) (hr : closedT r = true) (hk : ∀ H1 prev', (∀ n, n ≠ id → H1 n = H n) → OpRK H1 cN id ks' → DRun P l prev' K ⟨updD t d r, H1, c⟩) : step P k d [] (.call f args) l prev K t H c := by
  rcases hO with ⟨h1, rfl⟩ | ⟨u, rfl, h2⟩
  · have : ks' = [] := by rw [h1] at hlen; exact List.length_eq_zero_iff.1 hlen
    exact callC (hC0 h1) hf hl (by simp only [List.all_cons, List.all_nil, hx, Bool.and_true]; rfl) hr (hk H prev (fun _ _ => rfl) (.inl ⟨this, rfl⟩))
  · exact callTm (m := id) (hC id u) hf hl h2 hx hr ⟨rfl, hk _ _ (fun n hn => upd_ne _ _ hn) (.inr ⟨u, by rw [hlen], upd_same _ _ _⟩)⟩
def ok37 := okF.gu (P := Try.prog) tab Try.func37 Try.ntmps37 (by conv => lhs; cbv) (by kernel_rfl)
theorem markKs0_ok (k : Nat) : ACallsF Try.prog 37 [tL [], .i k] [] (.i k) := by
  refine ACallsF.intro ok37 follows fun X c0 => ?_
  simp only [go_sem]
  refine AW.upto 0 (fun i σ => σ.t 0 = tL [] ∧ σ.t 1 = .i k ∧ σ.t 5 = .i i) ⟨rfl, rfl, rfl⟩ fun i t H c hi h => ?_
  obtain ⟨e0, e1, e5⟩ := h
  simp only [T.c, T.i, tL] at e0 e1 e5
  have k1 : ¬ (i : Int) < 0 := by omega
  simp only [go_sem, e0, e1, e5, k1, Int.ofNat_zero, Int.cast_ofNat_Int]
def mkdK (xs : List Kd) (k j : Nat) : List Kd := (mkKs k xs).take j ++ xs.drop j
theorem mkdK_at {xs : List Kd} {k i : Nat} {x : Kd} (h : xs[i]? = some x) : (mkdK xs k i)[i]? = some x := by
  have hi := (List.getElem?_eq_some_iff.1 h).1
  rw [mkdK, List.getElem?_append_right (by rw [List.length_take]; omega), List.length_take, mkKs_len, List.getElem?_drop, show i + (i - min i xs.length) = i from by omega]; exact h
def inv37 (xs : List Kd) (k v : Nat) (i : Nat) (σ : St) : Prop := σ.t 0 = .c (.tr 2001 v xs.length) ∧ σ.t 1 = .i ((k + mKs (xs.take i) : Nat) : Int) ∧ σ.t 5 = .i i ∧
  ((i = 0 ∧ σ.H 2001 = some (.tree v true 3 38 (encKs xs) none)) ∨ ∃ j x cs nms, i = j + 1 ∧ xs[j]? = some x ∧ σ.H 2001 = some (.tree v true 3 38 (encKs (mkdK xs k j)) (some (j, cs))) ∧ moveCs σ.H 38 0 cs = some (encK (mkK (k + mKs (xs.take j)) x), nms) ∧ nms.Nodup ∧ 2001 ∉ nms)
def mid37 (xs : List Kd) (k v : Nat) (i : Nat) (σ : St) : Prop := σ.t 0 = .c (.tr 2001 v xs.length) ∧ σ.t 1 = .i ((k + mKs (xs.take i) : Nat) : Int) ∧ σ.t 5 = .i i ∧
  (i < xs.length → ∃ x cN cK, xs[i]? = some x ∧ σ.H 2001 = some (.tree v true 3 38 (encKs (mkdK xs k i)) (some (i, [.v (.s (.int .i64 x.s)), cN, cK]))) ∧ OpS σ.H cN 5001 x.n ∧ OpRK σ.H cK 5002 x.k) ∧ (i = xs.length → σ.H 2001 = some (.tree v true 3 38 (encKs (mkKs k xs)) none))
def MRK (ks : List Kd) : Prop := ∀ (k m v : Nat), 1 ≤ k → k + mKs ks ≤ 100000000 → ACallsF Try.prog 37 [.c (.tr 2001 v ks.length), .i k] [trH 2001 m v 3 38 (encKs ks) (encKs (mkKs k ks))] (.i ((k + mKs ks : Nat) : Int))
set_option maxHeartbeats 1000000 in
theorem markKs_of (xs : List Kd) (ih : ∀ x ∈ xs, MRK x.k) : MRK xs := by
  intro k m v h1 hk
  have hxl := mKs_len xs
  refine ACallsF.intro ok37 follows fun X c0 => ?_
  simp only [go_sem]
  refine AW.uptoG xs.length (inv37 xs k v) (mid37 xs k v) ⟨rfl, by simp [mKs]; rfl, rfl, .inl ⟨rfl, rfl⟩⟩ (fun i t H c hi h => ?_) fun i t H c hi h => ?_
  · obtain ⟨e0, e1, e5, hH⟩ := h
    obtain ⟨H1, g1, q1⟩ : ∃ H1, Gh H c H1 c ∧ H1 2001 = some (.tree v true 3 38 (encKs (mkdK xs k i)) none) := by
      rcases hH with ⟨rfl, hH⟩ | ⟨j, x, cs, nms, rfl, hx, hH, hM, hn1, hn2⟩
      · exact ⟨H, Gh.refl H c, by simpa [mkdK] using hH⟩
      · have := gh_close (c := c) hH hM hn1 hn2
        rw [set_encKs, mkdK, set_out (mkKs_len xs k) (mkKs_at hx)] at this
        exact ⟨_, this, closeH_id _ _ _ _⟩
    by_cases hlt : i < xs.length
    · obtain ⟨x, hx⟩ : ∃ x, xs[i]? = some x := ⟨_, List.getElem?_eq_getElem hlt⟩
      obtain ⟨cN, cK, o1, o2⟩ := openK x c
      have a1 := openH_id H1 2001 v 3 38 (encKs (mkdK xs k i)) i (encK x) 5000 c
      rw [o1] at a1
      obtain ⟨a2, a3⟩ := o2 (openH H1 2001 v 3 38 (encKs (mkdK xs k i)) i (encK x) 5000 c) fun j hj => openH_in H1 2001 v 3 38 (encKs (mkdK xs k i)) i (encK x) 5000 c j (by omega) hj
      exact ⟨_, _, g1.trans (gh_open 5000 q1 (encKs_at (mkdK_at hx)) (by decide)), e0, e1, e5, fun _ => ⟨x, cN, cK, hx, a1, a2, a3⟩, fun h => absurd h (by omega)⟩
    · have : i = xs.length := by omega
      subst this
      rw [mkdK, List.drop_length, List.append_nil, ← mkKs_len xs k, List.take_length] at q1
      exact ⟨_, _, g1, e0, e1, e5, fun h => absurd h hlt, fun _ => q1⟩
  · obtain ⟨e0, e1, e5, hm, hn⟩ := h
    simp only [T.c, T.i] at e0 e1 e5
    have hpl : (mkdK xs k i).length = xs.length := by rw [mkdK, List.length_append, List.length_take, List.length_drop, mkKs_len]; omega
    by_cases hlt : i < xs.length
    · obtain ⟨x, cN, cK, hx, eH, hON, hOK⟩ := hm hlt
      replace eH : H 2001 = _ := eH
      have k1 : (i : Int) < xs.length := by omega
      have gz : (0 : Int) ≤ i := by omega
      have gm : i < xs.length := hlt
      have gw : IntKind.i64.wrap ((i : Int) + 1) = ((i + 1 : Nat) : Int) := wrap64 (x := (i : Int) + 1) ⟨by omega, by omega⟩
      have hs := mKs_take hx
      have hle := mKs_le xs (i + 1)
      have hmx := List.mem_of_getElem? hx
      obtain ⟨K, hK⟩ : ∃ K, K = k + mKs (xs.take i) := ⟨_, rfl⟩
      rw [← hK] at e1
      have hww : mK x = 1 + x.n.length + mKs x.k := by cases x; rfl
      have g0 : IntKind.i64.wrap ((K : Int) + 1) = ((K + 1 : Nat) : Int) := (wrap64 (x := (K : Int) + 1) ⟨by omega, by omega⟩).trans (by omega)
      simp only [go_sem, e0, eH, e1, e5, k1, gz, gm, hpl, g0, Int.toNat_natCast]
      refine callMS (id := 5001) (hON.re rfl) (fun m v => markSs_ok x.n (K + 1) (by omega) (by omega) m v) (fun h => by rw [h]; exact markSs0_ok (K + 1)) (marks_len mS 1 (K + 1) x.n.length) rfl rfl rfl rfl fun H1 p1 hH1 hO1 => ?_
      have f1 : H1 2001 = some (.tree v true 3 38 (encKs (mkdK xs k i)) (some (i, [.v (.s (.int .i64 ((K : Nat) : Int))), cN, cK]))) := hH1 2001 (by decide)
      simp only [go_sem, e0, f1, e5, k1, gz, gm, hpl, Int.toNat_natCast]
      refine callMRK (id := 5002) (hOK.re (hH1 5002 (by decide))) (fun m v => ih x hmx (K + 1 + 1 * x.n.length) m v (by omega) (by omega)) (fun h => by rw [h]; exact markKs0_ok (K + 1 + 1 * x.n.length)) (mkKs_len x.k (K + 1 + 1 * x.n.length)) rfl rfl rfl rfl fun H2 p2 hH2 hO2 => ?_
      have f2 : H2 2001 = some (.tree v true 3 38 (encKs (mkdK xs k i)) (some (i, [.v (.s (.int .i64 ((K : Nat) : Int))), cN, cK]))) := (hH2 2001 (by decide)).trans f1
      simp only [go_sem, e0, f2, e5, gw]
      obtain ⟨nms, n1, n2, n3⟩ := mopK (s := ((K : Nat) : Int)) (hO1.re (hH2 5001 (by decide))) hO2
      have key : K + 1 + 1 * x.n.length + mKs x.k = k + mKs (xs.take (i + 1)) := by omega
      refine ⟨e0, by rw [← key]; rfl, rfl, .inr ⟨i, x, _, nms, rfl, hx, f2, ?_, n2, n3⟩⟩
      rw [← hK, n1, Nat.one_mul]
      cases x; rfl
    · have k1 : ¬ (i : Int) < xs.length := by omega
      have hi2 : i = xs.length := by omega
      have eH : H 2001 = _ := hn hi2
      subst hi2
      rw [List.take_length] at e1
      simp only [go_sem, e0, eH, e1, e5, k1, imp_self]
theorem markK_all : ∀ x : Kd, MRK x.k := by
  intro x
  induction x using Kd.ind with
  | _ s ns ks ih => exact markKs_of ks ih
theorem markKs_ok (xs : List Kd) : MRK xs := markKs_of xs fun x _ => markK_all x
mutual
/-- How many marks are written into a tree of a row. -/
def mT : Tr → Nat
  | .mk s n x ns ks => 3 + ns.length + mTs ks
def mTs : List Tr → Nat
  | [] => 0
  | k :: ks => mT k + mTs ks
end
mutual
/-- A tree of a row, with its marks. -/
def mkT (k : Nat) : Tr → Tr
  | .mk _ _ _ ns ks => .mk ((k : Nat) : Int) ((k + 1 : Nat) : Int) (mt (k + 2)) (marks mS 1 (k + 3) ns.length) (mkTs (k + 3 + ns.length) ks)
def mkTs (k : Nat) : List Tr → List Tr
  | [] => []
  | x :: xs => mkT k x :: mkTs (k + mT x) xs
end
theorem mTs_eq : ∀ ks, mTs ks = wsum mT ks
  | [] => by simp [mTs, wsum]
  | k :: ks => by simp [mTs, wsum, mTs_eq ks]
theorem mTs_take {ks : List Tr} {i : Nat} {x : Tr} (h : ks[i]? = some x) : mTs (ks.take (i + 1)) = mTs (ks.take i) + mT x := by rw [mTs_eq, mTs_eq]; exact wsum_take mT h
theorem mTs_le (ks : List Tr) (n : Nat) : mTs (ks.take n) ≤ mTs ks := by rw [mTs_eq, mTs_eq]; exact wsum_le mT ks n
theorem mTs_mem {ks : List Tr} {x : Tr} (h : x ∈ ks) : mT x ≤ mTs ks := by rw [mTs_eq]; exact wsum_mem mT h
theorem mT_pos (x : Tr) : 1 ≤ mT x := by cases x; simp only [mT]; omega
theorem mTs_len : ∀ ks, ks.length ≤ mTs ks
  | [] => Nat.zero_le _
  | k :: ks => by have := mT_pos k; have := mTs_len ks; simp only [List.length_cons, mTs]; omega
theorem mTs_of : ∀ (ks : List Tr), (∀ k ∈ ks, mT k ≤ 3 + 3 * wT k) → mTs ks ≤ 3 * ks.length + 3 * wTs ks
  | [], _ => by simp [mTs]
  | k :: ks, ih => by
    have h1 := ih k (by simp)
    have h2 := mTs_of ks fun x hx => ih x (by simp [hx])
    simp only [mTs, wTs, List.length_cons]; omega
theorem mT_w : ∀ y : Tr, mT y ≤ 3 + 3 * wT y := by
  intro y
  induction y using Tr.ind with
  | _ s n x ns ks ih =>
    have h := mTs_of ks ih
    simp only [mT, wT]
    omega
theorem mTs_w (ks : List Tr) : mTs ks ≤ 3 * ks.length + 3 * wTs ks := mTs_of ks fun k _ => mT_w k
theorem mkTs_len : ∀ (xs : List Tr) (k : Nat), (mkTs k xs).length = xs.length
  | [], _ => rfl
  | x :: xs, k => by simp [mkTs, mkTs_len xs]
theorem mkTs_at : ∀ {xs : List Tr} {k j : Nat} {x : Tr}, xs[j]? = some x → (mkTs k xs)[j]? = some (mkT (k + mTs (xs.take j)) x)
  | [], _, _, _, h => by simp at h
  | y :: xs, k, 0, x, h => by simp at h; subst h; simp [mkTs, mTs]
  | y :: xs, k, j + 1, x, h => by
    have := mkTs_at (k := k + mT y) (show xs[j]? = some x by simpa using h)
    simp only [mkTs, List.getElem?_cons_succ, this, List.take_succ_cons, mTs]
    congr 2; omega
def OpRT (H : HMap) (c : C) (id : Nat) (ks : List Tr) : Prop := (ks = [] ∧ c = .v (.sl [])) ∨ ∃ u, c = .tr id u ks.length ∧ H id = some (.tree u true 5 33 (encTs ks) none)
theorem OpRT.re {H H' : HMap} {c : C} {id : Nat} {ks : List Tr} (h : OpRT H c id ks) (e : H' id = H id) : OpRT H' c id ks := by
  rcases h with h | ⟨u, h1, h2⟩
  · exact .inl h
  · exact .inr ⟨u, h1, e.trans h2⟩
theorem encTs_cons (y : Tr) (ys : List Tr) : encTs (y :: ys) = encT y :: encTs ys := by simp [encTs_eq]
theorem opCT (id nv : Nat) (y : Tr) (ys : List Tr) : openC (some (5, 33)) id nv (.sl (encTs (y :: ys))) = .tr id nv (y :: ys).length := by
  rw [encTs_cons]
  show C.tr id nv ((encTs ys).length + 1) = _
  rw [encTs_len]; rfl
theorem opBT (nv : Nat) (s : Int) (n : Int) (x : ByteArray) (ns : List ByteArray)  (y : Tr) (ys : List Tr) : openB 33 nv (encT (.mk s n x ns (y :: ys))) 4 = some (.tree nv true 5 33 (encTs (y :: ys)) none) := by
  rw [encT_mk, encTs_cons]; rfl
theorem openT (x : Tr) (nv : Nat) : ∃ cN cK, openCs 33 5000 nv 0 (encT x) = [.v (.s (.int .i64 x.s)), .v (.s (.int .i64 x.m)), .v (.s (.string x.x)), cN, cK] ∧ ∀ H' : HMap, (∀ j, j < 5 → H' (5000 + j) = openB 33 nv (encT x) j) → OpS H' cN 5003 x.n ∧ OpRT H' cK 5004 x.k := by
  obtain ⟨s, n, x, ns, ks⟩ := x
  refine ⟨openC (some (1, 9)) 5003 nv (.sl (encS ns)), openC (some (5, 33)) 5004 nv (.sl (encTs ks)), by rw [encT_mk]; rfl, fun H' h => ⟨?_, ?_⟩⟩
  · cases ns with
    | nil => exact .inl ⟨rfl, rfl⟩
    | cons z zs => exact .inr ⟨nv, opCS _ _ z zs, (h 3 (by decide)).trans (by rw [encT_mk]; rfl)⟩
  · cases ks with
    | nil => exact .inl ⟨rfl, by rw [encTs_nil]; rfl⟩
    | cons y ys => exact .inr ⟨nv, opCT _ _ y ys, (h 4 (by decide)).trans (opBT nv s n x ns y ys)⟩
theorem mopT {H : HMap} {cN cK : C} {s : Int} {n : Int} {x : ByteArray} {ns : List ByteArray} {ks : List Tr} (h1 : OpS H cN 5003 ns) (h2 : OpRT H cK 5004 ks) : ∃ nms, moveCs H 33 0 [.v (.s (.int .i64 s)), .v (.s (.int .i64 n)), .v (.s (.string x)), cN, cK] = some (encT (.mk s n x ns ks), nms) ∧ nms.Nodup ∧ 2001 ∉ nms := by
  rcases h1 with ⟨rfl, rfl⟩ | ⟨u, rfl, h1⟩ <;> rcases h2 with ⟨rfl, rfl⟩ | ⟨u', rfl, h2⟩
  · exact ⟨[], by simp only [go_sem, encT_mk], by decide, by decide⟩
  · exact ⟨[5004], by simp only [go_sem, encT_mk, h2, take_encTs], by decide, by decide⟩
  · exact ⟨[5003], by simp only [go_sem, encT_mk, h1, take_encS], by decide, by decide⟩
  · exact ⟨[5003, 5004], by simp only [go_sem, encT_mk, h1, h2, take_encS, take_encTs], by decide, by decide⟩
theorem callMRT {P : Program} {t : Nat → T} {H : HMap} {c : Nat} {f : Opd} {args : List Opd} {fid : FuncId} {k : Nat} {d : Option Nat} {l : List AOper} {prev : List (Nat × List Nat × List Nat)} {K : St → Prop} {cN : C} {id : Nat} {ks ks' : List Tr} {x r : T} (hO : OpRT H cN id ks) (hC : ∀ m v, ACallsF P fid [.c (.tr 2001 v ks.length), x] [trH 2001 m v 5 33 (encTs ks) (encTs ks')] r) (hC0 : ks = [] → ACallsF P fid [tL [], x] [] r) (hlen : ks'.length = ks.length)
    (hf : ev t f = .pt (.one (.fn fid []))) (hl : args.map (ev t) = [.c cN, x]) (hx : closedA x = true) (hr : closedT r = true) (hk : ∀ H1 prev', (∀ n, n ≠ id → H1 n = H n) → OpRT H1 cN id ks' → DRun P l prev' K ⟨updD t d r, H1, c⟩) : step P k d [] (.call f args) l prev K t H c := by
  rcases hO with ⟨h1, rfl⟩ | ⟨u, rfl, h2⟩
  · have : ks' = [] := by rw [h1] at hlen; exact List.length_eq_zero_iff.1 hlen
    exact callC (hC0 h1) hf hl (by simp only [List.all_cons, List.all_nil, hx, Bool.and_true]; rfl) hr (hk H prev (fun _ _ => rfl) (.inl ⟨this, rfl⟩))
  · exact callTm (m := id) (hC id u) hf hl h2 hx hr ⟨rfl, hk _ _ (fun n hn => upd_ne _ _ hn) (.inr ⟨u, by rw [hlen], upd_same _ _ _⟩)⟩
def ok38 := okF.gu (P := Try.prog) tab Try.func38 Try.ntmps38 (by conv => lhs; cbv) (by kernel_rfl)
theorem markTs0_ok (k : Nat) : ACallsF Try.prog 38 [tL [], .i k] [] (.i k) := by
  refine ACallsF.intro ok38 follows fun X c0 => ?_
  simp only [go_sem]
  refine AW.upto 0 (fun i σ => σ.t 0 = tL [] ∧ σ.t 1 = .i k ∧ σ.t 5 = .i i) ⟨rfl, rfl, rfl⟩ fun i t H c hi h => ?_
  obtain ⟨e0, e1, e5⟩ := h
  simp only [T.c, T.i, tL] at e0 e1 e5
  have k1 : ¬ (i : Int) < 0 := by omega
  simp only [go_sem, e0, e1, e5, k1, Int.ofNat_zero, Int.cast_ofNat_Int]
def mkdT (xs : List Tr) (k j : Nat) : List Tr := (mkTs k xs).take j ++ xs.drop j
theorem mkdT_at {xs : List Tr} {k i : Nat} {x : Tr} (h : xs[i]? = some x) : (mkdT xs k i)[i]? = some x := by
  have hi := (List.getElem?_eq_some_iff.1 h).1
  rw [mkdT, List.getElem?_append_right (by rw [List.length_take]; omega), List.length_take, mkTs_len, List.getElem?_drop, show i + (i - min i xs.length) = i from by omega]; exact h
def inv38 (xs : List Tr) (k v : Nat) (i : Nat) (σ : St) : Prop := σ.t 0 = .c (.tr 2001 v xs.length) ∧ σ.t 1 = .i ((k + mTs (xs.take i) : Nat) : Int) ∧ σ.t 5 = .i i ∧
  ((i = 0 ∧ σ.H 2001 = some (.tree v true 5 33 (encTs xs) none)) ∨ ∃ j x cs nms, i = j + 1 ∧ xs[j]? = some x ∧ σ.H 2001 = some (.tree v true 5 33 (encTs (mkdT xs k j)) (some (j, cs))) ∧ moveCs σ.H 33 0 cs = some (encT (mkT (k + mTs (xs.take j)) x), nms) ∧ nms.Nodup ∧ 2001 ∉ nms)
def mid38 (xs : List Tr) (k v : Nat) (i : Nat) (σ : St) : Prop := σ.t 0 = .c (.tr 2001 v xs.length) ∧ σ.t 1 = .i ((k + mTs (xs.take i) : Nat) : Int) ∧ σ.t 5 = .i i ∧
  (i < xs.length → ∃ x cN cK, xs[i]? = some x ∧ σ.H 2001 = some (.tree v true 5 33 (encTs (mkdT xs k i)) (some (i, [.v (.s (.int .i64 x.s)), .v (.s (.int .i64 x.m)), .v (.s (.string x.x)), cN, cK]))) ∧ OpS σ.H cN 5003 x.n ∧ OpRT σ.H cK 5004 x.k) ∧ (i = xs.length → σ.H 2001 = some (.tree v true 5 33 (encTs (mkTs k xs)) none))
def MRT (ks : List Tr) : Prop := ∀ (k m v : Nat), 1 ≤ k → k + mTs ks ≤ 100000000 → ACallsF Try.prog 38 [.c (.tr 2001 v ks.length), .i k] [trH 2001 m v 5 33 (encTs ks) (encTs (mkTs k ks))] (.i ((k + mTs ks : Nat) : Int))
set_option maxHeartbeats 1000000 in
theorem markTs_of (xs : List Tr) (ih : ∀ x ∈ xs, MRT x.k) : MRT xs := by
  intro k m v h1 hk
  have hxl := mTs_len xs
  refine ACallsF.intro ok38 follows fun X c0 => ?_
  simp only [go_sem]
  refine AW.uptoG xs.length (inv38 xs k v) (mid38 xs k v) ⟨rfl, by simp [mTs]; rfl, rfl, .inl ⟨rfl, rfl⟩⟩ (fun i t H c hi h => ?_) fun i t H c hi h => ?_
  · obtain ⟨e0, e1, e5, hH⟩ := h
    obtain ⟨H1, g1, q1⟩ : ∃ H1, Gh H c H1 c ∧ H1 2001 = some (.tree v true 5 33 (encTs (mkdT xs k i)) none) := by
      rcases hH with ⟨rfl, hH⟩ | ⟨j, x, cs, nms, rfl, hx, hH, hM, hn1, hn2⟩
      · exact ⟨H, Gh.refl H c, by simpa [mkdT] using hH⟩
      · have := gh_close (c := c) hH hM hn1 hn2
        rw [set_encTs, mkdT, set_out (mkTs_len xs k) (mkTs_at hx)] at this
        exact ⟨_, this, closeH_id _ _ _ _⟩
    by_cases hlt : i < xs.length
    · obtain ⟨x, hx⟩ : ∃ x, xs[i]? = some x := ⟨_, List.getElem?_eq_getElem hlt⟩
      obtain ⟨cN, cK, o1, o2⟩ := openT x c
      have a1 := openH_id H1 2001 v 5 33 (encTs (mkdT xs k i)) i (encT x) 5000 c
      rw [o1] at a1
      obtain ⟨a2, a3⟩ := o2 (openH H1 2001 v 5 33 (encTs (mkdT xs k i)) i (encT x) 5000 c) fun j hj => openH_in H1 2001 v 5 33 (encTs (mkdT xs k i)) i (encT x) 5000 c j (by omega) hj
      exact ⟨_, _, g1.trans (gh_open 5000 q1 (encTs_at (mkdT_at hx)) (by decide)), e0, e1, e5, fun _ => ⟨x, cN, cK, hx, a1, a2, a3⟩, fun h => absurd h (by omega)⟩
    · have : i = xs.length := by omega
      subst this
      rw [mkdT, List.drop_length, List.append_nil, ← mkTs_len xs k, List.take_length] at q1
      exact ⟨_, _, g1, e0, e1, e5, fun h => absurd h hlt, fun _ => q1⟩
  · obtain ⟨e0, e1, e5, hm, hn⟩ := h
    simp only [T.c, T.i] at e0 e1 e5
    have hpl : (mkdT xs k i).length = xs.length := by rw [mkdT, List.length_append, List.length_take, List.length_drop, mkTs_len]; omega
    by_cases hlt : i < xs.length
    · obtain ⟨x, cN, cK, hx, eH, hON, hOK⟩ := hm hlt
      replace eH : H 2001 = _ := eH
      have k1 : (i : Int) < xs.length := by omega
      have gz : (0 : Int) ≤ i := by omega
      have gm : i < xs.length := hlt
      have gw : IntKind.i64.wrap ((i : Int) + 1) = ((i + 1 : Nat) : Int) := wrap64 (x := (i : Int) + 1) ⟨by omega, by omega⟩
      have hs := mTs_take hx
      have hle := mTs_le xs (i + 1)
      have hmx := List.mem_of_getElem? hx
      obtain ⟨K, hK⟩ : ∃ K, K = k + mTs (xs.take i) := ⟨_, rfl⟩
      rw [← hK] at e1
      have hww : mT x = 3 + x.n.length + mTs x.k := by cases x; rfl
      have g0 : IntKind.i64.wrap ((K : Int) + 1) = ((K + 1 : Nat) : Int) := (wrap64 (x := (K : Int) + 1) ⟨by omega, by omega⟩).trans (by omega)
      have g1 : IntKind.i64.wrap (((K + 1 : Nat) : Int) + 1) = ((K + 2 : Nat) : Int) := (wrap64 (x := ((K + 1 : Nat) : Int) + 1) ⟨by omega, by omega⟩).trans (by omega)
      have g2 : IntKind.i64.wrap (((K + 2 : Nat) : Int) + 1) = ((K + 3 : Nat) : Int) := (wrap64 (x := ((K + 2 : Nat) : Int) + 1) ⟨by omega, by omega⟩).trans (by omega)
      simp only [go_sem, e0, eH, e1, e5, k1, gz, gm, hpl, g0, g1, g2, Int.toNat_natCast]
      refine callC (mark_ok (K + 2) (by omega) (by omega)) rfl rfl rfl rfl ?_
      simp only [go_sem, e0, eH, e1, e5, k1, gz, gm, hpl, g0, g1, g2, Int.toNat_natCast]
      refine callMS (id := 5003) (hON.re rfl) (fun m v => markSs_ok x.n (K + 3) (by omega) (by omega) m v) (fun h => by rw [h]; exact markSs0_ok (K + 3)) (marks_len mS 1 (K + 3) x.n.length) rfl rfl rfl rfl fun H1 p1 hH1 hO1 => ?_
      have f1 : H1 2001 = some (.tree v true 5 33 (encTs (mkdT xs k i)) (some (i, [.v (.s (.int .i64 ((K : Nat) : Int))), .v (.s (.int .i64 ((K + 1 : Nat) : Int))), .v (.s (.string (mt (K + 2)))), cN, cK]))) := hH1 2001 (by decide)
      simp only [go_sem, e0, f1, e5, k1, gz, gm, hpl, Int.toNat_natCast]
      refine callMRT (id := 5004) (hOK.re (hH1 5004 (by decide))) (fun m v => ih x hmx (K + 3 + 1 * x.n.length) m v (by omega) (by omega)) (fun h => by rw [h]; exact markTs0_ok (K + 3 + 1 * x.n.length)) (mkTs_len x.k (K + 3 + 1 * x.n.length)) rfl rfl rfl rfl fun H2 p2 hH2 hO2 => ?_
      have f2 : H2 2001 = some (.tree v true 5 33 (encTs (mkdT xs k i)) (some (i, [.v (.s (.int .i64 ((K : Nat) : Int))), .v (.s (.int .i64 ((K + 1 : Nat) : Int))), .v (.s (.string (mt (K + 2)))), cN, cK]))) := (hH2 2001 (by decide)).trans f1
      simp only [go_sem, e0, f2, e5, gw]
      obtain ⟨nms, n1, n2, n3⟩ := mopT (s := ((K : Nat) : Int)) (n := ((K + 1 : Nat) : Int)) (x := mt (K + 2)) (hO1.re (hH2 5003 (by decide))) hO2
      have key : K + 3 + 1 * x.n.length + mTs x.k = k + mTs (xs.take (i + 1)) := by omega
      refine ⟨e0, by rw [← key]; rfl, rfl, .inr ⟨i, x, _, nms, rfl, hx, f2, ?_, n2, n3⟩⟩
      rw [← hK, n1, Nat.one_mul]
      cases x; rfl
    · have k1 : ¬ (i : Int) < xs.length := by omega
      have hi2 : i = xs.length := by omega
      have eH : H 2001 = _ := hn hi2
      subst hi2
      rw [List.take_length] at e1
      simp only [go_sem, e0, eH, e1, e5, k1, imp_self]
theorem markT_all : ∀ x : Tr, MRT x.k := by
  intro x
  induction x using Tr.ind with
  | _ s n x ns ks ih => exact markTs_of ks ih
theorem markTs_ok (xs : List Tr) : MRT xs := markTs_of xs fun x _ => markT_all x
end Go.V
set_option linter.unusedSimpArgs false
set_option maxRecDepth 20000
namespace Go.V
open Go.Proofs
theorem enc_mkK (K : Nat) (x : Kd) : encK (mkK K x) = [.s (.int .i64 ((K : Nat) : Int)), .sl (encS (marks mS 1 (K + 1) x.n.length)), .sl (encKs (mkKs (K + 1 + x.n.length) x.k))] := by
  obtain ⟨_, ns, ks⟩ := x
  simp only [mkK, encK_mk]; rfl
def ok45 := okF.gu (P := Try.prog) tab Try.func45 Try.ntmps45 (by conv => lhs; cbv) (by kernel_rfl)
def HRK (ks : List Kd) : Prop := ∀ (k : Nat), 1 ≤ k → k + mKs ks ≤ 100000000 → ACallsF Try.prog 45 [tL (encKs (mkKs k ks)), .i k] [] (.i ((k + mKs ks : Nat) : Int))
def inv45 (xs : List Kd) (k : Nat) (i : Nat) (σ : St) : Prop := σ.t 0 = tL (encKs (mkKs k xs)) ∧ σ.t 1 = .i ((k + mKs (xs.take i) : Nat) : Int) ∧ σ.t 5 = .i i
set_option maxHeartbeats 1000000 in
theorem heldKs_of (xs : List Kd) (ih : ∀ x ∈ xs, HRK x.k) : HRK xs := by
  intro k h1 hk
  have hxl := mKs_len xs
  have hpl := mkKs_len xs k
  refine ACallsF.intro ok45 follows fun X c0 => ?_
  simp only [go_sem]
  refine AW.upto xs.length (inv45 xs k) ⟨rfl, by simp [mKs]; rfl, rfl⟩ fun i t H c hi h => ?_
  obtain ⟨e0, e1, e5⟩ := h
  simp only [T.c, T.i, tL] at e0 e1 e5
  by_cases hlt : i < xs.length
  · obtain ⟨x, hx⟩ : ∃ x, xs[i]? = some x := ⟨_, List.getElem?_eq_getElem hlt⟩
    have ex := encKs_at (mkKs_at (k := k) hx)
    have k1 : (i : Int) < xs.length := by omega
    have gz : (0 : Int) ≤ i := by omega
    have gw : IntKind.i64.wrap ((i : Int) + 1) = ((i + 1 : Nat) : Int) := wrap64 (x := (i : Int) + 1) ⟨by omega, by omega⟩
    have hs := mKs_take hx
    have hle := mKs_le xs (i + 1)
    have hmx := List.mem_of_getElem? hx
    have hww : mK x = 1 + x.n.length + mKs x.k := by cases x; rfl
    obtain ⟨K, hK⟩ : ∃ K, K = k + mKs (xs.take i) := ⟨_, rfl⟩
    rw [← hK] at e1 ex
    rw [enc_mkK] at ex
    have g0 : IntKind.i64.wrap ((K : Int) + 1) = ((K + 1 : Nat) : Int) := (wrap64 (x := (K : Int) + 1) ⟨by omega, by omega⟩).trans (by omega)
    have n0 : ((K : Int) != (K : Int)) = false := by simp
    have b1 : ¬ ((K + 1 + 1 * x.n.length : Nat) : Int) < 0 := by omega
    have b2 : ¬ ((K + 1 + 1 * x.n.length + mKs x.k : Nat) : Int) < 0 := by omega
    have hC := ih x hmx (K + 1 + x.n.length) (by omega) (by omega)
    have hC1 := heldSs_ok x.n.length (K + 1) (by omega) (by omega)
    rw [show K + 1 + x.n.length = K + 1 + 1 * x.n.length by omega] at hC ex
    simp only [go_sem, e0, e1, e5, k1, gz, hpl, ex, g0, n0, Int.toNat_natCast]
    refine callC hC1 rfl rfl rfl rfl ?_
    simp only [go_sem, e0, e5, b1, gz, ex, Int.toNat_natCast]
    refine callC hC rfl rfl rfl rfl ?_
    simp only [go_sem, e5, b2, gw]
    have key : K + 1 + 1 * x.n.length + mKs x.k = k + mKs (xs.take (i + 1)) := by omega
    exact ⟨hlt, e0, by rw [← key]; rfl, rfl⟩
  · have k1 : ¬ (i : Int) < xs.length := by omega
    have hi2 : i = xs.length := by omega
    subst hi2
    rw [List.take_length] at e1
    simp only [go_sem, e0, e1, e5, k1, hpl]
theorem heldK_all : ∀ x : Kd, HRK x.k := by
  intro x
  induction x using Kd.ind with
  | _ s ns ks ih => exact heldKs_of ks ih
theorem heldKs_ok (xs : List Kd) : HRK xs := heldKs_of xs fun x _ => heldK_all x
/-- A kind whose rows are marked. -/
def topK (k : Nat) : Kd → Kd
  | .mk s ns ks => .mk s (marks mS 1 k ns.length) (mkKs (k + 1 * ns.length) ks)
def topNK (k : Nat) (y : Kd) : Nat := k + 1 * y.n.length + mKs y.k
theorem topNK_le (k : Nat) (y : Kd) : topNK k y ≤ k + 1 * wK y := by
  obtain ⟨s, ns, ks⟩ := y
  have := mKs_w ks
  simp only [topNK, wK]
  show k + 1 * ns.length + mKs ks ≤ _
  omega
theorem topNK_ge (k : Nat) (y : Kd) : k ≤ topNK k y := by unfold topNK; omega
theorem topK_n (k : Nat) (y : Kd) : (topK k y).n = marks mS 1 k y.n.length := by cases y; rfl
theorem topK_k (k : Nat) (y : Kd) : (topK k y).k = mkKs (k + 1 * y.n.length) y.k := by cases y; rfl
abbrev mkKH (m1 m2 v1 v2 : Nat) (y y' : Kd) : List Hand := [arH 2001 m1 v1 1 9 (encS y.n) (encS y'.n), trH 2002 m2 v2 3 38 (encKs y.k) (encKs y'.k)]
def ok13 := okF.gu (P := Try.prog) tab Try.func13 Try.ntmps13 (by conv => lhs; cbv) (by kernel_rfl)
theorem markK_ok (y : Kd) (k : Nat) (h1 : 1 ≤ k) (hk : topNK k y ≤ 100000000) (m1 m2 v1 v2 : Nat) : ACallsF Try.prog 13 [.pt (oKd 2001 v1 2002 v2 y), .i k] (mkKH m1 m2 v1 v2 y (topK k y)) (.i (topNK k y : Nat)) := by
  unfold topNK at *
  unfold mkKH
  rw [topK_n, topK_k]
  refine ACallsF.intro ok13 follows fun X c0 => ?_
  simp only [go_sem]
  refine callM1 (m := 2001) (markSs_ok y.n k h1 (by omega) 2001 v1) rfl rfl rfl rfl rfl ⟨rfl, ?_⟩
  simp only [go_sem]
  refine callTm (m := 2002) (markKs_ok y.k (k + 1 * y.n.length) 2002 v2 (by omega) (by omega)) rfl rfl rfl rfl rfl ⟨rfl, ?_⟩
  simp only [go_sem, imp_self]
def ok18 := okF.gu (P := Try.prog) tab Try.func18 Try.ntmps18 (by conv => lhs; cbv) (by kernel_rfl)
theorem heldK_ok (y : Kd) (k : Nat) (h1 : 1 ≤ k) (hk : topNK k y ≤ 100000000) : ACallsF Try.prog 18 [tK (topK k y), .i k] [] (.i (topNK k y : Nat)) := by
  unfold topNK at *
  have b1 : ¬ ((k + 1 * y.n.length : Nat) : Int) < 0 := by omega
  have b2 : ¬ ((k + 1 * y.n.length + mKs y.k : Nat) : Int) < 0 := by omega
  have e := encK_eta (topK k y)
  rw [topK_n, topK_k] at e
  refine ACallsF.intro ok18 follows fun X c0 => ?_
  simp only [go_sem, e]
  refine callC (heldSs_ok y.n.length k h1 (by omega)) rfl rfl rfl rfl ?_
  simp only [go_sem, b1]
  refine callC (heldKs_ok y.k (k + 1 * y.n.length) (by omega) (by omega)) rfl rfl rfl rfl ?_
  simp only [go_sem, b2]
/-- A call that works in place on a kind. -/
theorem callMkK {P : Program} {t : Nat → T} {H : HMap} {c : Nat} {f : Opd} {args : List Opd} {fid : FuncId} {k : Nat} {d : Option Nat} {un : List Nat} {l : List AOper} {prev : List (Nat × List Nat × List Nat)} {K : St → Prop} {m1 m2 v1 v2 : Nat} {y y' : Kd} {x r : T} (hC : ACallsF P fid [.pt (oKd 2001 v1 2002 v2 y), x] (mkKH m1 m2 v1 v2 y y') r) (hf : ev t f = .pt (.one (.fn fid []))) (hl : args.map (ev t) = [.pt (oKd m1 v1 m2 v2 y), x]) (hx : closedA x = true) (hr : closedT r = true)
    (hm : m1 ≠ m2) (h1 : H m1 = some (.arr v1 true 1 9 (encS y.n))) (h2 : H m2 = some (.tree v2 true 3 38 (encKs y.k) none))
    (hk : chk prev un ⟨r, [(m1, .arr v1 true 1 9 (encS y'.n)), (m2, .tree v2 true 3 38 (encKs y'.k) none)], [m1, m2], [m1, m2]⟩ = true ∧
      DRun P l ((k, [m1, m2], [m1, m2]) :: prev) K ⟨updD t d r, upd (upd H m1 (some (.arr v1 true 1 9 (encS y'.n)))) m2 (some (.tree v2 true 3 38 (encKs y'.k) none)), c⟩) :
    step P k d un (.call f args) l prev K t H c := by
  generalize hhs : mkKH m1 m2 v1 v2 y y' = hs at hC
  have R1 : renN hs 2001 = some (arH 2001 m1 v1 1 9 (encS y.n) (encS y'.n)) := by rw [← hhs]; rfl
  have R2 : renN hs 2002 = some (trH 2002 m2 v2 3 38 (encKs y.k) (encKs y'.k)) := by rw [← hhs]; rfl
  have I1 : inN hs 2001 = some m1 := by simp [inN, R1]
  have I2 : inN hs 2002 = some m2 := by simp [inN, R2]
  obtain ⟨x1, x2⟩ := closed_A hs H x hx
  refine callW (caps := []) («as» := [.pt (oKd m1 v1 m2 v2 y), x]) (ws := []) (ns := []) (r' := r) (ob := [(m1, .arr v1 true 1 9 (encS y'.n)), (m2, .tree v2 true 3 38 (encKs y'.k) none)]) hs hC hf ?_ ?_ ?_ (by rw [← hhs]; simp [hm]) (by rw [← hhs]; simp) (closed_T _ r hr _) ?_ ?_
  · have a1 : lendT H (.pt (oKd 2001 v1 2002 v2 y)) (.pt (oKd m1 v1 m2 v2 y)) = some (.pt (oKd m1 v1 m2 v2 y), [], []) := rfl
    rw [hl]
    simp only [List.map_nil, List.append_nil, lendTs, a1, x1]
  · have a1 : renIT hs (.pt (oKd 2001 v1 2002 v2 y)) = some (.pt (oKd m1 v1 m2 v2 y)) := by simp only [renIT, renIs, renI, I1, I2, Option.map_some]
    simp only [renITs, a1, x2]
  · have B1 : ∀ v wr st ty es, renIB hs (.arr v wr st ty es) = some (.arr v wr st ty es) := fun _ _ _ _ _ => rfl
    have B2 : ∀ v wr st ty es, renIB hs (.tree v wr st ty es none) = some (.tree v wr st ty es none) := fun _ _ _ _ _ => rfl
    have key : handsIn (updH H []) hs (mkKH m1 m2 v1 v2 y y') := by
      simp only [handsIn, B1, B2, updH, h1, h2, and_self]
    rw [hhs] at key
    exact key
  · have key : renOBs hs (c + k) (mkKH m1 m2 v1 v2 y y') = some [(m1, .arr v1 true 1 9 (encS y'.n)), (m2, .tree v2 true 3 38 (encKs y'.k) none)] := by
      simp only [renOBs, renOB, verOf, if_true, Blk.ver]
    rw [hhs] at key
    exact key
  · have hq : quiet r hs = false := by rw [← hhs]; simp [quiet]
    have hms : hs.map (·.m) = [m1, m2] := by rw [← hhs]; rfl
    rw [hq, hms]
    simpa [updH] using hk
theorem enc_mkT (K : Nat) (x : Tr) : encT (mkT K x) = [.s (.int .i64 ((K : Nat) : Int)), .s (.int .i64 ((K + 1 : Nat) : Int)), .s (.string (mt (K + 2))), .sl (encS (marks mS 1 (K + 3) x.n.length)), .sl (encTs (mkTs (K + 3 + x.n.length) x.k))] := by
  obtain ⟨_, _, _, ns, ks⟩ := x
  simp only [mkT, encT_mk]; rfl
def ok40 := okF.gu (P := Try.prog) tab Try.func40 Try.ntmps40 (by conv => lhs; cbv) (by kernel_rfl)
def HRT (ks : List Tr) : Prop := ∀ (k : Nat), 1 ≤ k → k + mTs ks ≤ 100000000 → ACallsF Try.prog 40 [tL (encTs (mkTs k ks)), .i k] [] (.i ((k + mTs ks : Nat) : Int))
def inv40 (xs : List Tr) (k : Nat) (i : Nat) (σ : St) : Prop := σ.t 0 = tL (encTs (mkTs k xs)) ∧ σ.t 1 = .i ((k + mTs (xs.take i) : Nat) : Int) ∧ σ.t 5 = .i i
set_option maxHeartbeats 1000000 in
theorem heldTs_of (xs : List Tr) (ih : ∀ x ∈ xs, HRT x.k) : HRT xs := by
  intro k h1 hk
  have hxl := mTs_len xs
  have hpl := mkTs_len xs k
  refine ACallsF.intro ok40 follows fun X c0 => ?_
  simp only [go_sem]
  refine AW.upto xs.length (inv40 xs k) ⟨rfl, by simp [mTs]; rfl, rfl⟩ fun i t H c hi h => ?_
  obtain ⟨e0, e1, e5⟩ := h
  simp only [T.c, T.i, tL] at e0 e1 e5
  by_cases hlt : i < xs.length
  · obtain ⟨x, hx⟩ : ∃ x, xs[i]? = some x := ⟨_, List.getElem?_eq_getElem hlt⟩
    have ex := encTs_at (mkTs_at (k := k) hx)
    have k1 : (i : Int) < xs.length := by omega
    have gz : (0 : Int) ≤ i := by omega
    have gw : IntKind.i64.wrap ((i : Int) + 1) = ((i + 1 : Nat) : Int) := wrap64 (x := (i : Int) + 1) ⟨by omega, by omega⟩
    have hs := mTs_take hx
    have hle := mTs_le xs (i + 1)
    have hmx := List.mem_of_getElem? hx
    have hww : mT x = 3 + x.n.length + mTs x.k := by cases x; rfl
    obtain ⟨K, hK⟩ : ∃ K, K = k + mTs (xs.take i) := ⟨_, rfl⟩
    rw [← hK] at e1 ex
    rw [enc_mkT] at ex
    have g0 : IntKind.i64.wrap ((K : Int) + 1) = ((K + 1 : Nat) : Int) := (wrap64 (x := (K : Int) + 1) ⟨by omega, by omega⟩).trans (by omega)
    have n0 : ((K : Int) != (K : Int)) = false := by simp
    have g1 : IntKind.i64.wrap (((K + 1 : Nat) : Int) + 1) = ((K + 2 : Nat) : Int) := (wrap64 (x := ((K + 1 : Nat) : Int) + 1) ⟨by omega, by omega⟩).trans (by omega)
    have n1 : (((K + 1 : Nat) : Int) != ((K + 1 : Nat) : Int)) = false := by simp
    have g2 : IntKind.i64.wrap (((K + 2 : Nat) : Int) + 1) = ((K + 3 : Nat) : Int) := (wrap64 (x := ((K + 2 : Nat) : Int) + 1) ⟨by omega, by omega⟩).trans (by omega)
    have b1 : ¬ ((K + 3 + 1 * x.n.length : Nat) : Int) < 0 := by omega
    have b2 : ¬ ((K + 3 + 1 * x.n.length + mTs x.k : Nat) : Int) < 0 := by omega
    have hC := ih x hmx (K + 3 + x.n.length) (by omega) (by omega)
    have hC1 := heldSs_ok x.n.length (K + 3) (by omega) (by omega)
    rw [show K + 3 + x.n.length = K + 3 + 1 * x.n.length by omega] at hC ex
    simp only [go_sem, e0, e1, e5, k1, gz, hpl, ex, g0, n0, g1, n1, g2, Int.toNat_natCast]
    refine callC (mark_ok (K + 2) (by omega) (by omega)) rfl rfl rfl rfl ?_
    simp only [go_sem, e0, e5, k1, gz, hpl, ex, g0, n0, g1, n1, g2, sStr, str_beq, decide_true, Int.toNat_natCast]
    refine callC hC1 rfl rfl rfl rfl ?_
    simp only [go_sem, e0, e5, b1, gz, ex, Int.toNat_natCast]
    refine callC hC rfl rfl rfl rfl ?_
    simp only [go_sem, e5, b2, gw]
    have key : K + 3 + 1 * x.n.length + mTs x.k = k + mTs (xs.take (i + 1)) := by omega
    exact ⟨hlt, e0, by rw [← key]; rfl, rfl⟩
  · have k1 : ¬ (i : Int) < xs.length := by omega
    have hi2 : i = xs.length := by omega
    subst hi2
    rw [List.take_length] at e1
    simp only [go_sem, e0, e1, e5, k1, hpl]
theorem heldT_all : ∀ x : Tr, HRT x.k := by
  intro x
  induction x using Tr.ind with
  | _ s n x ns ks ih => exact heldTs_of ks ih
theorem heldTs_ok (xs : List Tr) : HRT xs := heldTs_of xs fun x _ => heldT_all x
/-- A tree whose rows are marked. -/
def topT (k : Nat) : Tr → Tr
  | .mk s n x ns ks => .mk s n x (marks mS 1 k ns.length) (mkTs (k + 1 * ns.length) ks)
def topNT (k : Nat) (y : Tr) : Nat := k + 1 * y.n.length + mTs y.k
theorem topNT_le (k : Nat) (y : Tr) : topNT k y ≤ k + 3 * wT y := by
  obtain ⟨s, n, x, ns, ks⟩ := y
  have := mTs_w ks
  simp only [topNT, wT]
  show k + 1 * ns.length + mTs ks ≤ _
  omega
theorem topNT_ge (k : Nat) (y : Tr) : k ≤ topNT k y := by unfold topNT; omega
theorem topT_n (k : Nat) (y : Tr) : (topT k y).n = marks mS 1 k y.n.length := by cases y; rfl
theorem topT_k (k : Nat) (y : Tr) : (topT k y).k = mkTs (k + 1 * y.n.length) y.k := by cases y; rfl
abbrev mkTH (m1 m2 v1 v2 : Nat) (y y' : Tr) : List Hand := [arH 2001 m1 v1 1 9 (encS y.n) (encS y'.n), trH 2002 m2 v2 5 33 (encTs y.k) (encTs y'.k)]
def ok14 := okF.gu (P := Try.prog) tab Try.func14 Try.ntmps14 (by conv => lhs; cbv) (by kernel_rfl)
theorem markT_ok (y : Tr) (k : Nat) (h1 : 1 ≤ k) (hk : topNT k y ≤ 100000000) (m1 m2 v1 v2 : Nat) : ACallsF Try.prog 14 [.pt (oTr 2001 v1 2002 v2 y), .i k] (mkTH m1 m2 v1 v2 y (topT k y)) (.i (topNT k y : Nat)) := by
  unfold topNT at *
  unfold mkTH
  rw [topT_n, topT_k]
  refine ACallsF.intro ok14 follows fun X c0 => ?_
  simp only [go_sem]
  refine callM1 (m := 2001) (markSs_ok y.n k h1 (by omega) 2001 v1) rfl rfl rfl rfl rfl ⟨rfl, ?_⟩
  simp only [go_sem]
  refine callTm (m := 2002) (markTs_ok y.k (k + 1 * y.n.length) 2002 v2 (by omega) (by omega)) rfl rfl rfl rfl rfl ⟨rfl, ?_⟩
  simp only [go_sem, imp_self]
def ok15 := okF.gu (P := Try.prog) tab Try.func15 Try.ntmps15 (by conv => lhs; cbv) (by kernel_rfl)
theorem heldT_ok (y : Tr) (k : Nat) (h1 : 1 ≤ k) (hk : topNT k y ≤ 100000000) : ACallsF Try.prog 15 [tT (topT k y), .i k] [] (.i (topNT k y : Nat)) := by
  unfold topNT at *
  have b1 : ¬ ((k + 1 * y.n.length : Nat) : Int) < 0 := by omega
  have b2 : ¬ ((k + 1 * y.n.length + mTs y.k : Nat) : Int) < 0 := by omega
  have e := encT_eta (topT k y)
  rw [topT_n, topT_k] at e
  refine ACallsF.intro ok15 follows fun X c0 => ?_
  simp only [go_sem, e]
  refine callC (heldSs_ok y.n.length k h1 (by omega)) rfl rfl rfl rfl ?_
  simp only [go_sem, b1]
  refine callC (heldTs_ok y.k (k + 1 * y.n.length) (by omega) (by omega)) rfl rfl rfl rfl ?_
  simp only [go_sem, b2]
/-- A call that works in place on a tree. -/
theorem callMkT {P : Program} {t : Nat → T} {H : HMap} {c : Nat} {f : Opd} {args : List Opd} {fid : FuncId} {k : Nat} {d : Option Nat} {un : List Nat} {l : List AOper} {prev : List (Nat × List Nat × List Nat)} {K : St → Prop} {m1 m2 v1 v2 : Nat} {y y' : Tr} {x r : T} (hC : ACallsF P fid [.pt (oTr 2001 v1 2002 v2 y), x] (mkTH m1 m2 v1 v2 y y') r) (hf : ev t f = .pt (.one (.fn fid []))) (hl : args.map (ev t) = [.pt (oTr m1 v1 m2 v2 y), x]) (hx : closedA x = true) (hr : closedT r = true)
    (hm : m1 ≠ m2) (h1 : H m1 = some (.arr v1 true 1 9 (encS y.n))) (h2 : H m2 = some (.tree v2 true 5 33 (encTs y.k) none))
    (hk : chk prev un ⟨r, [(m1, .arr v1 true 1 9 (encS y'.n)), (m2, .tree v2 true 5 33 (encTs y'.k) none)], [m1, m2], [m1, m2]⟩ = true ∧
      DRun P l ((k, [m1, m2], [m1, m2]) :: prev) K ⟨updD t d r, upd (upd H m1 (some (.arr v1 true 1 9 (encS y'.n)))) m2 (some (.tree v2 true 5 33 (encTs y'.k) none)), c⟩) :
    step P k d un (.call f args) l prev K t H c := by
  generalize hhs : mkTH m1 m2 v1 v2 y y' = hs at hC
  have R1 : renN hs 2001 = some (arH 2001 m1 v1 1 9 (encS y.n) (encS y'.n)) := by rw [← hhs]; rfl
  have R2 : renN hs 2002 = some (trH 2002 m2 v2 5 33 (encTs y.k) (encTs y'.k)) := by rw [← hhs]; rfl
  have I1 : inN hs 2001 = some m1 := by simp [inN, R1]
  have I2 : inN hs 2002 = some m2 := by simp [inN, R2]
  obtain ⟨x1, x2⟩ := closed_A hs H x hx
  refine callW (caps := []) («as» := [.pt (oTr m1 v1 m2 v2 y), x]) (ws := []) (ns := []) (r' := r) (ob := [(m1, .arr v1 true 1 9 (encS y'.n)), (m2, .tree v2 true 5 33 (encTs y'.k) none)]) hs hC hf ?_ ?_ ?_ (by rw [← hhs]; simp [hm]) (by rw [← hhs]; simp) (closed_T _ r hr _) ?_ ?_
  · have a1 : lendT H (.pt (oTr 2001 v1 2002 v2 y)) (.pt (oTr m1 v1 m2 v2 y)) = some (.pt (oTr m1 v1 m2 v2 y), [], []) := rfl
    rw [hl]
    simp only [List.map_nil, List.append_nil, lendTs, a1, x1]
  · have a1 : renIT hs (.pt (oTr 2001 v1 2002 v2 y)) = some (.pt (oTr m1 v1 m2 v2 y)) := by simp only [renIT, renIs, renI, I1, I2, Option.map_some]
    simp only [renITs, a1, x2]
  · have B1 : ∀ v wr st ty es, renIB hs (.arr v wr st ty es) = some (.arr v wr st ty es) := fun _ _ _ _ _ => rfl
    have B2 : ∀ v wr st ty es, renIB hs (.tree v wr st ty es none) = some (.tree v wr st ty es none) := fun _ _ _ _ _ => rfl
    have key : handsIn (updH H []) hs (mkTH m1 m2 v1 v2 y y') := by
      simp only [handsIn, B1, B2, updH, h1, h2, and_self]
    rw [hhs] at key
    exact key
  · have key : renOBs hs (c + k) (mkTH m1 m2 v1 v2 y y') = some [(m1, .arr v1 true 1 9 (encS y'.n)), (m2, .tree v2 true 5 33 (encTs y'.k) none)] := by
      simp only [renOBs, renOB, verOf, if_true, Blk.ver]
    rw [hhs] at key
    exact key
  · have hq : quiet r hs = false := by rw [← hhs]; simp [quiet]
    have hms : hs.map (·.m) = [m1, m2] := by rw [← hhs]; rfl
    rw [hq, hms]
    simpa [updH] using hk
end Go.V
set_option linter.unusedSimpArgs false
set_option maxRecDepth 20000
namespace Go.V
open Go.Proofs
def ok81 := okF.gu (P := Try.prog) tab Try.func81 Try.ntmps81 (by conv => lhs; cbv) (by kernel_rfl)
def inv81 (s : ByteArray) (i : Nat) (σ : St) : Prop := (∀ (j : Nat) b, j < i → s.data[j]? = some b → printB b) ∧ σ.t 0 = .s (.string s) ∧ σ.t 3 = .i i
theorem textOkS_ok (s : ByteArray) (hs : s.size ≤ 4611686018427387904) : ACallsF Try.prog 81 [.s (.string s)] [] (.b (textOk s)) := by
  refine ACallsF.intro ok81 follows fun X c0 => ?_
  by_cases h60 : (s.size : Int) > 60
  · have hm : textOk s = false := textOk_false.2 fun h => by have := h.2; omega
    simp only [go_sem, h60, hm]
  simp only [go_sem, h60]
  refine AW.upto s.size (inv81 s) ⟨fun j _ hj => absurd hj (Nat.not_lt_zero j), rfl, rfl⟩ fun i t H c hi h => ?_
  obtain ⟨g0, e0, e3⟩ := h
  simp only [T.c, T.i, T.s] at e0 e3
  by_cases hlt : i < s.size
  · have g1 : (i : Int) < s.size := by omega
    have gz : (0 : Int) ≤ i := by omega
    have gw : IntKind.i64.wrap ((i : Int) + 1) = ((i + 1 : Nat) : Int) := wrap64 (x := (i : Int) + 1) ⟨by omega, by omega⟩
    obtain ⟨b, hb⟩ : ∃ b, s.data[i]? = some b := ⟨_, Array.getElem?_eq_getElem (by rw [← size_data]; omega)⟩
    have hbad : ¬ printB b → textOk s = false := fun h => textOk_false.2 fun h2 => h (h2.1 i b hb)
    by_cases k1 : (b.toNat : Int) < 32
    · have hm := hbad fun h => h.1 k1
      simp only [go_sem, e0, e3, g1, gz, hb, Int.toNat_natCast, k1, hm]
    by_cases k2 : (b.toNat : Int) > 126
    · have hm := hbad fun h => h.2.1 k2
      simp only [go_sem, e0, e3, g1, gz, hb, Int.toNat_natCast, k1, k2, hm]
    by_cases k3 : (b.toNat : Int) = 34
    · have hm := hbad fun h => h.2.2 k3
      have k3b : ((b.toNat : Int) == 34) = true := beq_iff_eq.2 k3
      simp only [go_sem, e0, e3, g1, gz, hb, Int.toNat_natCast, k1, k2, k3b, hm]
    · have k3b : ((b.toNat : Int) == 34) = false := beq_eq_false_iff_ne.2 k3
      simp only [go_sem, e0, e3, g1, gz, hb, Int.toNat_natCast, k1, k2, k3b, gw]
      refine ⟨hlt, fun j b' hj hj2 => ?_, e0, rfl⟩
      rcases Nat.lt_succ_iff_lt_or_eq.1 hj with hj | rfl
      · exact g0 j b' hj hj2
      · rw [hb] at hj2; cases hj2; exact ⟨k1, k2, k3⟩
  · have g1 : ¬ (i : Int) < s.size := by omega
    have hp : printP s := fun j b hj => g0 j b (by have := (Array.getElem?_eq_some_iff.1 hj).1; rw [size_data] at hlt; omega) hj
    have hm : textOk s = true := textOk_true.2 ⟨hp, by omega⟩
    simp only [go_sem, e0, e3, g1, hm]
def ok69 := okF.gu (P := Try.prog) tab Try.func69 Try.ntmps69 (by conv => lhs; cbv) (by kernel_rfl)
theorem add0 (a b : Nat) : ((a : Int) + (b : Int) == 0) = (((a : Int) == 0) && ((b : Int) == 0)) := by
  by_cases h1 : a = 0 <;> by_cases h2 : b = 0
  · subst h1 h2; rfl
  · rw [beq_eq_false_iff_ne.2 (show (a : Int) + (b : Int) ≠ 0 by omega), beq_eq_false_iff_ne.2 (show (b : Int) ≠ 0 by omega), Bool.and_false]
  · rw [beq_eq_false_iff_ne.2 (show (a : Int) + (b : Int) ≠ 0 by omega), beq_eq_false_iff_ne.2 (show (a : Int) ≠ 0 by omega), Bool.false_and]
  · rw [beq_eq_false_iff_ne.2 (show (a : Int) + (b : Int) ≠ 0 by omega), beq_eq_false_iff_ne.2 (show (a : Int) ≠ 0 by omega), Bool.false_and]
set_option maxHeartbeats 2000000 in
theorem alone_ok (s n : Int) (x : ByteArray) (ns : List ByteArray) (ks : List Tr) (hx : x.size ≤ 2000000) (hl : ns.length ≤ 2000000 ∧ ks.length ≤ 2000000) (hs : ∀ s ∈ ns, s.size ≤ 2000000) : ACallsF Try.prog 69 [tT (.mk s n x ns ks)] [] (.b (tshape s n x ns ks.length)) := by
  refine ACallsF.intro ok69 follows fun X c0 => ?_
  by_cases h1 : s = 1
  · subst h1
    have hm : tshape 1 n x ns ks.length = ((decide (-999999999 ≤ n) && decide (n ≤ 999999999)) && (decide (x = ⟨#[]⟩) && (((ns.length : Int) == 0) && ((ks.length : Int) == 0)))) := by rw [← add0]; exact if_pos rfl
    simp only [go_sem, encT_mk, encTs_len, encS_len, Int.reduceBEq]
    refine callC (l6In_ok n (-999999999) 999999999) rfl rfl rfl rfl ?_
    rw [hm]
    generalize (decide (-999999999 ≤ n) && decide (n ≤ 999999999)) = A
    cases A
    · simp only [go_sem, encT_mk, encTs_len, encS_len]
    by_cases hx0 : x = ⟨#[]⟩
    · cases hn0 : ((ns.length : Int) == 0) <;> simp only [go_sem, encT_mk, encTs_len, encS_len, sStr, str_beq, hx0, hn0]
    · simp only [go_sem, encT_mk, encTs_len, encS_len, sStr, str_beq, hx0]
  have b1 : (s == 1) = false := beq_eq_false_iff_ne.2 h1
  by_cases h2 : s = 2
  · subst h2
    have hm : tshape 2 n x ns ks.length = ((n == 0) && (textOk x && (((ns.length : Int) == 0) && ((ks.length : Int) == 0)))) := by rw [← add0]; rfl
    rw [hm]
    cases hn : (n == 0) with
    | false => simp only [go_sem, encT_mk, encTs_len, encS_len, Int.reduceBEq, hn]
    | true =>
      simp only [go_sem, encT_mk, encTs_len, encS_len, Int.reduceBEq, hn]
      refine callC (textOkS_ok x (by omega)) rfl rfl rfl rfl ?_
      cases ht : textOk x with
      | false => simp only [go_sem, encT_mk, encTs_len, encS_len]
      | true => cases hn0 : ((ns.length : Int) == 0) <;> simp only [go_sem, encT_mk, encTs_len, encS_len, hn0]
  have b2 : (s == 2) = false := beq_eq_false_iff_ne.2 h2
  by_cases h3 : s = 3
  · subst h3
    have hm : tshape 3 n x ns ks.length = ((decide (0 ≤ n) && decide (n ≤ 1)) && (decide (x = ⟨#[]⟩) && (((ns.length : Int) == 0) && ((ks.length : Int) == 0)))) := by rw [← add0]; rfl
    simp only [go_sem, encT_mk, encTs_len, encS_len, Int.reduceBEq]
    refine callC (l6In_ok n 0 1) rfl rfl rfl rfl ?_
    rw [hm]
    generalize (decide (0 ≤ n) && decide (n ≤ 1)) = A
    cases A
    · simp only [go_sem, encT_mk, encTs_len, encS_len]
    by_cases hx0 : x = ⟨#[]⟩
    · cases hn0 : ((ns.length : Int) == 0) <;> simp only [go_sem, encT_mk, encTs_len, encS_len, sStr, str_beq, hx0, hn0]
    · simp only [go_sem, encT_mk, encTs_len, encS_len, sStr, str_beq, hx0]
  have b3 : (s == 3) = false := beq_eq_false_iff_ne.2 h3
  by_cases h4 : s = 4
  · subst h4
    have hm : tshape 4 n x ns ks.length = ((n == 0) && (decide (x = ⟨#[]⟩) && (((ns.length : Int) == 0) && decide ((ks.length : Int) ≤ 20)))) := rfl
    rw [hm]
    cases hn : (n == 0) with
    | false => simp only [go_sem, encT_mk, encTs_len, encS_len, Int.reduceBEq, hn]
    | true =>
      by_cases hx0 : x = ⟨#[]⟩
      · cases hl0 : ((ns.length : Int) == 0) <;> simp only [go_sem, encT_mk, encTs_len, encS_len, Int.reduceBEq, hn, sStr, str_beq, hx0, hl0]
      · simp only [go_sem, encT_mk, encTs_len, encS_len, Int.reduceBEq, hn, sStr, str_beq, hx0]
  have b4 : (s == 4) = false := beq_eq_false_iff_ne.2 h4
  by_cases h5 : s = 5
  · subst h5
    have hm : tshape 5 n x ns ks.length = ((n == 0) && (decide (x = ⟨#[]⟩) && (((ns.length : Int) == (ks.length : Int)) && rise ns))) := by rw [Bool.and_comm ((ns.length : Int) == (ks.length : Int)) (rise ns)]; rfl
    rw [hm]
    cases hn : (n == 0) with
    | false => simp only [go_sem, encT_mk, encTs_len, encS_len, Int.reduceBEq, hn]
    | true =>
      by_cases hx0 : x = ⟨#[]⟩
      · cases hl0 : ((ns.length : Int) == (ks.length : Int)) with
        | false => simp only [go_sem, encT_mk, encTs_len, encS_len, Int.reduceBEq, hn, sStr, str_beq, hx0, hl0]
        | true =>
          simp only [go_sem, encT_mk, encTs_len, encS_len, Int.reduceBEq, hn, sStr, str_beq, hx0, hl0]
          refine callC (rise_ok ns (by omega) (fun s h => by have := hs s h; omega)) rfl rfl rfl rfl ?_
          simp only [go_sem]
      · simp only [go_sem, encT_mk, encTs_len, encS_len, Int.reduceBEq, hn, sStr, str_beq, hx0]
  have b5 : (s == 5) = false := beq_eq_false_iff_ne.2 h5
  by_cases h6 : s = 6
  · subst h6
    have hm : tshape 6 n x ns ks.length = ((n == 0) && (decide (x = ⟨#[]⟩) && (((ns.length : Int) == 0) && decide ((ks.length : Int) ≤ 1)))) := rfl
    rw [hm]
    cases hn : (n == 0) with
    | false => simp only [go_sem, encT_mk, encTs_len, encS_len, Int.reduceBEq, hn]
    | true =>
      by_cases hx0 : x = ⟨#[]⟩
      · cases hl0 : ((ns.length : Int) == 0) <;> simp only [go_sem, encT_mk, encTs_len, encS_len, Int.reduceBEq, hn, sStr, str_beq, hx0, hl0]
      · simp only [go_sem, encT_mk, encTs_len, encS_len, Int.reduceBEq, hn, sStr, str_beq, hx0]
  have b6 : (s == 6) = false := beq_eq_false_iff_ne.2 h6
  have hm : tshape s n x ns ks.length = false := by simp [tshape, h1, h2, h3, h4, h5, h6]
  simp only [go_sem, encT_mk, encTs_len, encS_len, b1, b2, b3, b4, b5, b6, hm]
end Go.V
set_option linter.unusedSimpArgs false
set_option maxRecDepth 20000
namespace Go.V
open Go.Proofs
def ok48 := okF.gu (P := Try.prog) tab Try.func48 Try.ntmps48 (by conv => lhs; cbv) (by kernel_rfl)
def PartsS (d : Nat) (k : Tr) (q : Int) : Prop := (TOk d k ∧ tparts k ≤ 120 ∧ q = tparts k) ∨ (¬ (TOk d k ∧ tparts k ≤ 120) ∧ q = -1)
def inv48 (d : Nat) (s n : Int) (x : ByteArray) (ns : List ByteArray) (ks : List Tr) (i : Nat) (σ : St) : Prop :=
  (∀ j k, j < i → ks[j]? = some k → TOk (d + 1) k) ∧ tpartsL (ks.take i) ≤ 119 ∧ σ.t 1 = .i d ∧ σ.t 5 = .i ((1 + tpartsL (ks.take i) : Nat) : Int) ∧ σ.t 6 = .i i ∧
  ∃ u, σ.t 2 = .c (.ptr 2 u 0) ∧ σ.H 2 = some (.var u 33 [.v (.s (.int .i64 s)), .v (.s (.int .i64 n)), .v (.s (.string x)), .v (.sl (encS ns)), .v (.sl (encTs ks))])
theorem partsS_ok : ∀ (k : Tr), TB 2000000 k → ∀ d : Nat, d ≤ 100 → ∃ q, PartsS d k q ∧ ACallsF Try.prog 48 [tT k, .i d] [] (.i q) := by
  intro k
  induction k using Tr.ind with
  | _ s n x ns ks ih =>
    intro hB d hd
    obtain ⟨hB0, hB1, hB2, hB3, hB4⟩ := hB.inv
    have hq : ∃ q, PartsS d (.mk s n x ns ks) q := by
      by_cases h : TOk d (.mk s n x ns ks) ∧ tparts (.mk s n x ns ks) ≤ 120
      · exact ⟨_, .inl ⟨h.1, h.2, rfl⟩⟩
      · exact ⟨_, .inr ⟨h, rfl⟩⟩
    obtain ⟨q, hq⟩ := hq
    refine ⟨q, hq, ACallsF.intro ok48 follows fun X c0 => ?_⟩
    have hno : ¬ (TOk d (.mk s n x ns ks) ∧ tparts (.mk s n x ns ks) ≤ 120) → q = -1 := fun h => by
      rcases hq with ⟨h1, h2, _⟩ | ⟨_, h⟩
      · exact absurd ⟨h1, h2⟩ h
      · exact h
    by_cases hd6 : (d : Int) > 6
    · have hm := hno fun h => by have := h.1.inv.1; omega
      simp only [go_sem, encT_mk, encTs_len, hd6, hm]
    have hCs := alone_ok s n x ns ks hB0 ⟨hB1, hB2⟩ hB3
    simp only [tT, encT_mk, List.map_cons, List.map_nil] at hCs
    simp only [go_sem, encT_mk, encTs_len, hd6]
    refine callC hCs rfl rfl (by simp [closedA, closedP, closedC]) rfl ?_
    cases hsh : tshape s n x ns ks.length with
    | false =>
      have hm := hno fun h => by have := h.1.inv.2.1; rw [hsh] at this; cases this
      simp only [go_sem, hm]
    | true =>
      simp only [go_sem]
      refine AW.upto ks.length (inv48 d s n x ns ks) ⟨fun j _ hj => absurd hj (Nat.not_lt_zero j), by simp [tpartsL], rfl, by simp [tpartsL]; rfl, rfl, ⟨_, rfl, rfl⟩⟩ fun i t H c hi h => ?_
      obtain ⟨g0, g1, e1, e5, e6, ⟨u2, e2, eH⟩⟩ := h
      simp only [T.c, T.i] at e1 e5 e6 e2 eH
      by_cases hlt : i < ks.length
      · have k1 : (i : Int) < ks.length := by omega
        have gz : (0 : Int) ≤ i := by omega
        have gw : IntKind.i64.wrap ((i : Int) + 1) = ((i + 1 : Nat) : Int) := wrap64 (x := (i : Int) + 1) ⟨by omega, by omega⟩
        have gd : IntKind.i64.wrap ((d : Int) + 1) = ((d + 1 : Nat) : Int) := wrap64 (x := (d : Int) + 1) ⟨by omega, by omega⟩
        obtain ⟨kd, hk⟩ : ∃ kd, ks[i]? = some kd := ⟨_, List.getElem?_eq_getElem hlt⟩
        have hmem := List.mem_of_getElem? hk
        have ek := encTs_at hk
        obtain ⟨y, hy, hC⟩ := ih kd hmem (hB4 kd hmem) (d + 1) (by omega)
        have htake : tpartsL (ks.take (i + 1)) = tpartsL (ks.take i) + tparts kd := by
          rw [List.take_add_one, hk]; exact tpartsL_snoc _ _
        have hle := tpartsL_take_le ks (i + 1)
        have hpos := tparts_pos kd
        simp only [go_sem, e1, e2, eH, e6, encTs_len, k1, gz, ek, Int.toNat_natCast, List.length_map, encT_len, takeT, Nat.le_refl, gd]
        refine callC hC rfl rfl (by simp [closedA, closedP, closedC]) rfl ?_
        rcases hy with ⟨x1, x2, rfl⟩ | ⟨x1, rfl⟩
        · have k2 : ¬ (tparts kd : Int) < 0 := by omega
          by_cases k3 : ((1 + tpartsL (ks.take i) : Nat) : Int) + (tparts kd : Int) > 120
          · have hm := hno fun h => by have := h.2; simp only [tparts] at this; omega
            have kw : IntKind.i64.wrap (((1 + tpartsL (ks.take i) : Nat) : Int) + (tparts kd : Int)) = ((1 + tpartsL (ks.take i) : Nat) : Int) + (tparts kd : Int) := wrap64 ⟨by omega, by omega⟩
            simp only [go_sem, e5, k2, kw, k3, hm]
          · have kw : IntKind.i64.wrap (((1 + tpartsL (ks.take i) : Nat) : Int) + (tparts kd : Int)) = ((1 + tpartsL (ks.take (i + 1)) : Nat) : Int) := (wrap64 (x := ((1 + tpartsL (ks.take i) : Nat) : Int) + (tparts kd : Int)) ⟨by omega, by omega⟩).trans (by rw [htake]; omega)
            have k4 : ¬ ((1 + tpartsL (ks.take (i + 1)) : Nat) : Int) > 120 := by rw [htake]; omega
            simp only [go_sem, e5, e6, k2, kw, k4, gw]
            exact ⟨hlt, fun j k hj hj2 => by
              rcases Nat.lt_succ_iff_lt_or_eq.1 hj with hj | rfl
              · exact g0 j k hj hj2
              · rw [hk] at hj2; cases hj2; exact x1, by rw [htake]; omega, e1, rfl, rfl, ⟨u2, e2, eH⟩⟩
        · have hm := hno fun h => x1 ⟨h.1.inv.2.2 kd hmem, by have := h.2; simp only [tparts] at this; have := tpartsL_mem hmem; omega⟩
          have k2 : (-1 : Int) < 0 := by omega
          simp only [go_sem, k2, hm]
      · have hi2 : i = ks.length := by omega
        subst hi2
        have k1 : ¬ ((ks.length : Nat) : Int) < ks.length := by omega
        rw [List.take_length] at g1 e5
        have hm : q = ((1 + tpartsL ks : Nat) : Int) := by
          rcases hq with ⟨_, _, h⟩ | ⟨h, _⟩
          · rw [h]; simp [tparts]
          · refine absurd ⟨.mk _ _ _ _ _ _ (by omega) hsh fun k hk => ?_, by simp only [tparts]; omega⟩ h
            obtain ⟨j, hj⟩ := List.getElem?_of_mem hk
            exact g0 j k (List.getElem?_eq_some_iff.1 hj).1 hj
        simp only [go_sem, e2, eH, e5, e6, encTs_len, k1, hm]
def ok25 := okF.gu (P := Try.prog) tab Try.func25 Try.ntmps25 (by conv => lhs; cbv) (by kernel_rfl)
theorem treeOkS_ok (t : Tr) (hB : TB 2000000 t) : ACallsF Try.prog 25 [tT t] [] (.b (okT t)) := by
  obtain ⟨q, hq, hC⟩ := partsS_ok t hB 1 (by omega)
  refine ACallsF.intro ok25 follows fun X c0 => ?_
  have e1 : ((1 : Nat) : Int) = 1 := rfl
  rw [e1] at hC
  simp only [go_sem, List.length_map, encT_len, takeT, Nat.le_refl]
  refine callC hC rfl rfl (by simp [closedA, closedP, closedC]) rfl ?_
  rcases hq with ⟨h1, h2, rfl⟩ | ⟨h1, rfl⟩
  · have hm : okT t = true := okT_true.2 ⟨h1, h2⟩
    have k1 : (tparts t : Int) > 0 := by have := tparts_pos t; omega
    simp only [go_sem, hm, k1]
  · have hm : okT t = false := okT_false.2 h1
    have k1 : ¬ (-1 : Int) > 0 := by omega
    simp only [go_sem, hm, k1]
end Go.V
set_option linter.unusedSimpArgs false
set_option maxRecDepth 20000
namespace Go.V
open Go.Proofs
def ok47 := okF.gu (P := Try.prog) tab Try.func47 Try.ntmps47 (by conv => lhs; cbv) (by kernel_rfl)
def inv47 (s n : Int) (x : ByteArray) (ns : List ByteArray) (ks : List Kd) (ns' : List ByteArray) (ts : List Tr) (σ : St) : Prop :=
  (∃ u, σ.t 2 = .c (.ptr 2 u 0) ∧ σ.H 2 = some (.var u 38 [.v (.s (.int .i64 s)), .v (.sl (encS ns)), .v (.sl (encKs ks))])) ∧
  (∃ u, σ.t 3 = .c (.ptr 3 u 0) ∧ σ.H 3 = some (.var u 33 [.v (.s (.int .i64 s)), .v (.s (.int .i64 n)), .v (.s (.string x)), .v (.sl (encS ns')), .v (.sl (encTs ts))]))
def inv47a (s n : Int) (x : ByteArray) (ns : List ByteArray) (ks : List Kd) (ns' : List ByteArray) (ts : List Tr) (i : Nat) (σ : St) : Prop := (∀ j, j < i → ns[j]? = ns'[j]?) ∧ inv47 s n x ns ks ns' ts σ ∧ σ.t 5 = .i i
def inv47b (s n : Int) (x : ByteArray) (ns : List ByteArray) (ks : List Kd) (ns' : List ByteArray) (ts : List Tr) (i : Nat) (σ : St) : Prop := (∀ j, j < i → ∀ t k, ts[j]? = some t → sel s ks j = some k → Has k t) ∧ inv47 s n x ns ks ns' ts σ ∧ σ.t 6 = .i i
set_option maxHeartbeats 2000000 in
theorem hasS_ok : ∀ (k : Kd) (t : Tr) (d d' : Nat), KOk d k → TOk d' t → KB 2000 k → TB 2000000 t → ACallsF Try.prog 47 [tK k, tT t] [] (.b (has k t)) := by
  intro k
  induction k using Kd.ind with
  | _ s ns ks ih =>
    intro t d d' hOk hOt hBk hBt
    obtain ⟨s', n, x, ns', ts⟩ := t
    obtain ⟨_, hS, hK⟩ := hOk.inv
    obtain ⟨_, hT, hTk⟩ := hOt.inv
    have hT := tshape_sh hT
    obtain ⟨k1, k2, k3, k4⟩ := hBk.inv
    obtain ⟨t0, t1, t2, t3, t4⟩ := hBt.inv
    refine ACallsF.intro ok47 follows fun X c0 => ?_
    by_cases hss : s = s'
    case neg =>
      have hne : (s != s') = true := by simp [hss]
      have hm : has (.mk s ns ks) (.mk s' n x ns' ts) = false := has_false.2 fun h => hss h.inv.1
      simp only [go_sem, encK_mk, encT_mk, hne, hm]
    subst hss
    have hne : (s != s) = false := by simp
    have hnn : s ≠ 5 → ns = ns' := fun h => by rw [List.length_eq_zero_iff.1 (hS.other h), List.length_eq_zero_iff.1 (hT.other h)]
    have hno : ns ≠ ns' → has (.mk s ns ks) (.mk s n x ns' ts) = false := fun h => has_false.2 fun h2 => h (by
      by_cases h5 : s = 5
      · exact h2.inv.2.1 h5
      · exact hnn h5)
    by_cases hl : ns.length = ns'.length
    case neg =>
      have hln : ((ns.length : Int) != (ns'.length : Int)) = true := by simp; omega
      have hm := hno fun e => hl (by rw [e])
      simp only [go_sem, encK_mk, encT_mk, encS_len, hne, hln, hm]
    have hln : ((ns.length : Int) != (ns'.length : Int)) = false := by simp; omega
    simp only [go_sem, encK_mk, encT_mk, encS_len, hne, hln]
    refine AW.upto ns.length (inv47a s n x ns ks ns' ts) ⟨fun j hj => absurd hj (Nat.not_lt_zero j), ⟨⟨_, rfl, rfl⟩, ⟨_, rfl, rfl⟩⟩, rfl⟩ fun i t H c hi h => ?_
    obtain ⟨g0, ⟨⟨u2, e2, eH2⟩, ⟨u3, e3, eH3⟩⟩, e5⟩ := h
    simp only [T.c, T.i] at e2 eH2 e3 eH3 e5
    by_cases hlt : i < ns.length
    · have g1 : (i : Int) < ns.length := by omega
      have gz : (0 : Int) ≤ i := by omega
      have gw : IntKind.i64.wrap ((i : Int) + 1) = ((i + 1 : Nat) : Int) := wrap64 (x := (i : Int) + 1) ⟨by omega, by omega⟩
      obtain ⟨y, hy⟩ : ∃ y, ns[i]? = some y := ⟨_, List.getElem?_eq_getElem hlt⟩
      obtain ⟨y', hy'⟩ : ∃ y, ns'[i]? = some y := ⟨_, List.getElem?_eq_getElem (by omega)⟩
      have es := encS_at hy
      have es' := encS_at hy'
      by_cases hyy : y = y'
      · subst hyy
        simp only [go_sem, e2, eH2, e3, eH3, e5, encS_len, g1, gz, es, es', Int.toNat_natCast, sStr, str_beq, gw]
        refine ⟨hlt, fun j hj => ?_, ⟨⟨u2, e2, eH2⟩, ⟨u3, e3, eH3⟩⟩, rfl⟩
        rcases Nat.lt_succ_iff_lt_or_eq.1 hj with hj | rfl
        · exact g0 j hj
        · rw [hy, hy']
      · have hm := hno fun e => hyy (by rw [e, hy'] at hy; cases hy; rfl)
        simp only [go_sem, e2, eH2, e3, eH3, e5, encS_len, g1, gz, es, es', Int.toNat_natCast, sStr, str_beq, hyy, hm]
    · have hin : i = ns.length := by omega
      subst hin
      have hnames : ns = ns' := List.ext_getElem? fun j => by
        by_cases hj : j < ns.length
        · exact g0 j hj
        · rw [List.getElem?_eq_none (by omega), List.getElem?_eq_none (by omega)]
      have g1 : ¬ ((ns.length : Nat) : Int) < ns.length := by omega
      simp only [go_sem, e2, eH2, e5, encS_len, g1]
      refine AW.upto ts.length (inv47b s n x ns ks ns' ts) ⟨fun j hj => absurd hj (Nat.not_lt_zero j), ⟨⟨u2, e2, eH2⟩, ⟨u3, e3, eH3⟩⟩, rfl⟩ fun i t H c hi h => ?_
      clear e2 eH2 e3 eH3 e5
      obtain ⟨g2, ⟨⟨u2, e2, eH2⟩, ⟨u3, e3, eH3⟩⟩, e6⟩ := h
      simp only [T.c, T.i] at e2 eH2 e3 eH3 e6
      by_cases hlt : i < ts.length
      · have g1 : (i : Int) < ts.length := by omega
        have gz : (0 : Int) ≤ i := by omega
        have gw : IntKind.i64.wrap ((i : Int) + 1) = ((i + 1 : Nat) : Int) := wrap64 (x := (i : Int) + 1) ⟨by omega, by omega⟩
        obtain ⟨u, hu⟩ : ∃ u, ts[i]? = some u := ⟨_, List.getElem?_eq_getElem hlt⟩
        have hmu := List.mem_of_getElem? hu
        have eu := encTs_at hu
        obtain ⟨k, k0, hsel, hk0, hmk⟩ := sel_some hS hT (fun _ => hnames) hlt
        have ek0 := encKs_at hk0
        have hC := ih k hmk u _ _ (hK k hmk) (hTk u hmu) (k4 k hmk) (t4 u hmu)
        have hno : ¬ Has k u → has (.mk s ns ks) (.mk s n x ns' ts) = false := fun h => has_false.2 fun h2 => h (h2.inv.2.2 i u k hu hsel)
        have hgo : Has k u → ∀ j, j < i + 1 → ∀ t k, ts[j]? = some t → sel s ks j = some k → Has k t := by
          intro h j hj t2 k2 h1 h2
          rcases Nat.lt_succ_iff_lt_or_eq.1 hj with hj | rfl
          · exact g2 j hj t2 k2 h1 h2
          · rw [hu] at h1; rw [hsel] at h2; cases h1; cases h2; exact h
        by_cases h5 : s = 5
        · have h5b : (s == 5) = true := beq_iff_eq.2 h5
          rw [sel, if_pos h5] at hsel
          have ek := encKs_at hsel
          simp only [go_sem, e2, eH2, e3, eH3, e6, encTs_len, g1, gz, eu, ek0, ek, h5b, dropK, List.append_nil, Int.toNat_natCast, Int.toNat_zero, Int.le_refl, List.length_map, encK_len, takeK, encT_len, takeT, Nat.le_refl]
          refine callC hC rfl rfl (by simp [closedA, closedP, closedC]) rfl ?_
          cases hh : has k u with
          | false =>
            have hm := hno (has_false.1 hh)
            simp only [go_sem, hm]
          | true =>
            simp only [go_sem, e6, gw]
            exact ⟨hlt, hgo (has_true.1 hh), ⟨⟨u2, e2, eH2⟩, ⟨u3, e3, eH3⟩⟩, rfl⟩
        · have h5b : (s == 5) = false := beq_eq_false_iff_ne.2 h5
          rw [sel, if_neg h5, hk0] at hsel
          cases hsel
          simp only [go_sem, e2, eH2, e3, eH3, e6, encTs_len, g1, gz, eu, ek0, h5b, Int.toNat_natCast, Int.toNat_zero, Int.le_refl, List.length_map, encK_len, takeK, encT_len, takeT, Nat.le_refl]
          refine callC hC rfl rfl (by simp [closedA, closedP, closedC]) rfl ?_
          cases hh : has k u with
          | false =>
            have hm := hno (has_false.1 hh)
            simp only [go_sem, hm]
          | true =>
            simp only [go_sem, e6, gw]
            exact ⟨hlt, hgo (has_true.1 hh), ⟨⟨u2, e2, eH2⟩, ⟨u3, e3, eH3⟩⟩, rfl⟩
      · have hin : i = ts.length := by omega
        subst hin
        have g1 : ¬ ((ts.length : Nat) : Int) < ts.length := by omega
        have hm : has (.mk s ns ks) (.mk s n x ns' ts) = true := has_true.2 (.mk _ _ _ _ _ _ _ (fun _ => hnames) fun j t k h1 h2 => g2 j (List.getElem?_eq_some_iff.1 h1).1 t k h1 h2)
        simp only [go_sem, e3, eH3, e6, encTs_len, g1, hm]
def ok23 := okF.gu (P := Try.prog) tab Try.func23 Try.ntmps23 (by conv => lhs; cbv) (by kernel_rfl)
theorem kindHasS_ok (k : Kd) (t : Tr) (hk : KB 2000000 k) (ht : TB 2000000 t) : ACallsF Try.prog 23 [tK k, tT t] [] (.b (okK k && (okT t && has k t))) := by
  refine ACallsF.intro ok23 follows fun X c0 => ?_
  simp only [go_sem, List.length_map, encK_len, takeK, encT_len, takeT, Nat.le_refl]
  refine callC (kindOkS_ok k (hk.le (by omega))) rfl rfl (by simp [closedA, closedP, closedC]) rfl ?_
  cases h1 : okK k with
  | false => simp only [go_sem]
  | true =>
    simp only [go_sem, List.length_map, encK_len, takeK, encT_len, takeT, Nat.le_refl]
    refine callC (treeOkS_ok t ht) rfl rfl (by simp [closedA, closedP, closedC]) rfl ?_
    cases h2 : okT t with
    | false => simp only [go_sem]
    | true =>
      simp only [go_sem, List.length_map, encK_len, takeK, encT_len, takeT, Nat.le_refl]
      refine callC (hasS_ok k t 1 1 (okK_true.1 h1).1 (okT_true.1 h2).1 ((okK_KB h1).le (by omega)) ht) rfl rfl (by simp [closedA, closedP, closedC]) rfl ?_
      simp only [go_sem]
end Go.V
set_option linter.unusedSimpArgs false
set_option maxRecDepth 20000
namespace Go.V
open Go.Proofs
def ok24 := okF.gu (P := Try.prog) tab Try.func24 Try.ntmps24 (by conv => lhs; cbv) (by kernel_rfl)
def WS (ns : List ByteArray) (ks : List Kd) (ns' : List ByteArray) (ks' : List Kd) (tks : List Tr) (i : Nat) (o : Tr) : Prop :=
  TB 2000 o ∧ ∃ x k', ns'[i]? = some x ∧ ks'[i]? = some k' ∧ ((∃ (J : Nat) (k : Kd) (u : Tr), ns[J]? = some x ∧ ks[J]? = some k ∧ tks[J]? = some u ∧ Wd k k' u o ∧ ACallsF Try.prog 24 [tK k, tK k', tT u] [] (tT o)) ∨ ((∀ j : Nat, ns[j]? ≠ some x) ∧ o = noT))
def inv24 (ss : Int) (ns : List ByteArray) (ks : List Kd) (s' : Int) (ns' : List ByteArray) (ks' : List Kd) (ts tn : Int) (tx : ByteArray) (tns : List ByteArray) (tks : List Tr) (σ : St) : Prop :=
  (∃ u, σ.t 3 = .c (.ptr 3 u 0) ∧ σ.H 3 = some (.var u 38 [.v (.s (.int .i64 ss)), .v (.sl (encS ns)), .v (.sl (encKs ks))])) ∧ (∃ u, σ.t 4 = .c (.ptr 4 u 0) ∧ σ.H 4 = some (.var u 38 [.v (.s (.int .i64 s')), .v (.sl (encS ns')), .v (.sl (encKs ks'))])) ∧
  (∃ u, σ.t 5 = .c (.ptr 5 u 0) ∧ σ.H 5 = some (.var u 33 [.v (.s (.int .i64 ts)), .v (.s (.int .i64 tn)), .v (.s (.string tx)), .v (.sl (encS tns)), .v (.sl (encTs tks))])) ∧ (∃ u, σ.t 6 = .c (.ptr 6 u 0) ∧ σ.H 6 = some (.var u 33 zT))
def WSC (ks ks' : List Kd) (tks : List Tr) (i : Nat) (o : Tr) : Prop :=
  TB 2000 o ∧ ∃ k k' u, ks[0]? = some k ∧ ks'[0]? = some k' ∧ tks[i]? = some u ∧ Wd k k' u o ∧ ACallsF Try.prog 24 [tK k, tK k', tT u] [] (tT o)
def outK (s' tn : Int) (tx : ByteArray) (outs : List Tr) (i : Nat) (σ : St) : Prop :=
  ∃ u b, σ.t 7 = .c (.ptr 7 u 0) ∧ σ.H 7 = some (.var u 33 [.v (.s (.int .i64 s')), .v (.s (.int .i64 tn)), .v (.s (.string tx)), .nil0, .own 2004 b i]) ∧ σ.H 2004 = some (.arr b true 5 33 (encTs (outs.take i)))
section
variable (ss : Int) (ns : List ByteArray) (ks : List Kd) (s' : Int) (ns' : List ByteArray) (ks' : List Kd) (ts tn : Int) (tx : ByteArray) (tns : List ByteArray) (tks outs : List Tr)
theorem widenS_loop0 (hl : outs.length = tks.length) (hn : tks.length ≤ 2000) (hW : ∀ i, i < tks.length → ∃ o, outs[i]? = some o ∧ WSC ks ks' tks i o) {X : Ctx} {Q : Exit → St → Prop} {t : Nat → T} {H : HMap} {c : Nat}
    (h : inv24 ss ns ks s' ns' ks' ts tn tx tns tks ⟨t, H, c⟩ ∧ outK s' tn tx outs 0 ⟨t, H, c⟩ ∧ t 8 = .i (0 : Nat)) (hQ : ∀ t H c, inv24 ss ns ks s' ns' ks' ts tn tx tns tks ⟨t, H, c⟩ → outK s' tn tx outs tks.length ⟨t, H, c⟩ → Q (.exit 1) ⟨t, H, c⟩) : oneW Try.prog X (ok24.sub [1, 1, 0, 1, 0, 1, 0, 1, 1, 0]) Q ⟨t, H, c⟩ := by
  dsimp only [okF.sub, ACode.sub]
  refine AW.upto tks.length (fun i σ => inv24 ss ns ks s' ns' ks' ts tn tx tns tks σ ∧ outK s' tn tx outs i σ ∧ σ.t 8 = .i i) h fun i t H c hi h => ?_
  have hKI := h
  obtain ⟨⟨⟨u3, e3, eH3⟩, ⟨u4, e4, eH4⟩, ⟨u5, e5, eH5⟩, ⟨u6, e6, eH6⟩⟩, ⟨u7, b7, e7, eH7, eHb⟩, e8⟩ := h
  simp only [T.c, T.i, zT] at e3 eH3 e4 eH4 e5 eH5 e6 eH6 e7 eH7 eHb e8
  by_cases hlt : i < tks.length
  · have g1 : (i : Int) < tks.length := by omega
    have gz : (0 : Int) ≤ i := by omega
    have gw : IntKind.i64.wrap ((i : Int) + 1) = ((i + 1 : Nat) : Int) := wrap64 (x := (i : Int) + 1) ⟨by omega, by omega⟩
    have q3 : (i + 1) * 80 ≤ 140737488355328 := by omega
    have q4 : i ≤ 9223372036854775806 := by omega
    have hlr : (encTs (outs.take i)).length = i := by rw [encTs_len, List.length_take]; omega
    have htk : List.take i (encTs (outs.take i)) = encTs (outs.take i) := List.take_of_length_le (by omega)
    obtain ⟨o, ho, hBo, k, k', u, hk, hk', hu, hWd, hC⟩ := hW i hlt
    have ek := encKs_at hk
    have ek' := encKs_at hk'
    have eu := encTs_at hu
    have hnew : encTs (outs.take (i + 1)) = encTs (outs.take i) ++ [encT o] := by rw [List.take_add_one, ho]; exact encTs_snoc _ _
    simp only [go_sem, e3, eH3, e4, eH4, e5, eH5, e7, eH7, e8, encTs_len, g1, gz, ek, ek', eu, Int.toNat_natCast, Int.toNat_zero, Int.le_refl, List.length_map, encK_len, takeK, encT_len, takeT, Nat.le_refl]
    refine callC hC rfl rfl (by simp [closedA, closedP, closedC]) (closed_map _) ?_
    simp only [go_sem, e7, eH7, eHb, e8, gw, hlr, htk, q3, q4, List.length_map, encT_len, takeT, Nat.le_refl]
    refine ⟨hlt, ⟨⟨u3, e3, eH3⟩, ⟨u4, e4, eH4⟩, ⟨u5, e5, eH5⟩, ⟨u6, e6, eH6⟩⟩, ?_⟩
    unfold outK
    rw [hnew]
    exact ⟨u7, _, e7, rfl, rfl⟩
  · have hin : i = tks.length := by omega
    subst hin
    have g1 : ¬ ((tks.length : Nat) : Int) < tks.length := by omega
    simp only [go_sem, e5, eH5, e8, encTs_len, g1]
    exact hQ _ _ _ hKI.1 hKI.2.1
theorem widenS_loop1 (hl : outs.length = tks.length) (hn : tks.length ≤ 2000) (hW : ∀ i, i < tks.length → ∃ o, outs[i]? = some o ∧ WSC ks ks' tks i o) {X : Ctx} {Q : Exit → St → Prop} {t : Nat → T} {H : HMap} {c : Nat}
    (h : inv24 ss ns ks s' ns' ks' ts tn tx tns tks ⟨t, H, c⟩ ∧ outK s' tn tx outs 0 ⟨t, H, c⟩ ∧ t 9 = .i (0 : Nat)) (hQ : ∀ t H c, inv24 ss ns ks s' ns' ks' ts tn tx tns tks ⟨t, H, c⟩ → outK s' tn tx outs tks.length ⟨t, H, c⟩ → Q (.exit 3) ⟨t, H, c⟩) : oneW Try.prog X (ok24.sub [1, 1, 0, 1, 0, 1, 1, 1, 0, 1, 0]) Q ⟨t, H, c⟩ := by
  dsimp only [okF.sub, ACode.sub]
  refine AW.upto tks.length (fun i σ => inv24 ss ns ks s' ns' ks' ts tn tx tns tks σ ∧ outK s' tn tx outs i σ ∧ σ.t 9 = .i i) h fun i t H c hi h => ?_
  have hKI := h
  obtain ⟨⟨⟨u3, e3, eH3⟩, ⟨u4, e4, eH4⟩, ⟨u5, e5, eH5⟩, ⟨u6, e6, eH6⟩⟩, ⟨u7, b7, e7, eH7, eHb⟩, e9⟩ := h
  simp only [T.c, T.i, zT] at e3 eH3 e4 eH4 e5 eH5 e6 eH6 e7 eH7 eHb e9
  by_cases hlt : i < tks.length
  · have g1 : (i : Int) < tks.length := by omega
    have gz : (0 : Int) ≤ i := by omega
    have gw : IntKind.i64.wrap ((i : Int) + 1) = ((i + 1 : Nat) : Int) := wrap64 (x := (i : Int) + 1) ⟨by omega, by omega⟩
    have q3 : (i + 1) * 80 ≤ 140737488355328 := by omega
    have q4 : i ≤ 9223372036854775806 := by omega
    have hlr : (encTs (outs.take i)).length = i := by rw [encTs_len, List.length_take]; omega
    have htk : List.take i (encTs (outs.take i)) = encTs (outs.take i) := List.take_of_length_le (by omega)
    obtain ⟨o, ho, hBo, k, k', u, hk, hk', hu, hWd, hC⟩ := hW i hlt
    have ek := encKs_at hk
    have ek' := encKs_at hk'
    have eu := encTs_at hu
    have hnew : encTs (outs.take (i + 1)) = encTs (outs.take i) ++ [encT o] := by rw [List.take_add_one, ho]; exact encTs_snoc _ _
    simp only [go_sem, e3, eH3, e4, eH4, e5, eH5, e7, eH7, e9, encTs_len, g1, gz, ek, ek', eu, Int.toNat_natCast, Int.toNat_zero, Int.le_refl, List.length_map, encK_len, takeK, encT_len, takeT, Nat.le_refl]
    refine callC hC rfl rfl (by simp [closedA, closedP, closedC]) (closed_map _) ?_
    simp only [go_sem, e7, eH7, eHb, e9, gw, hlr, htk, q3, q4, List.length_map, encT_len, takeT, Nat.le_refl]
    refine ⟨hlt, ⟨⟨u3, e3, eH3⟩, ⟨u4, e4, eH4⟩, ⟨u5, e5, eH5⟩, ⟨u6, e6, eH6⟩⟩, ?_⟩
    unfold outK
    rw [hnew]
    exact ⟨u7, _, e7, rfl, rfl⟩
  · have hin : i = tks.length := by omega
    subst hin
    have g1 : ¬ ((tks.length : Nat) : Int) < tks.length := by omega
    simp only [go_sem, e5, eH5, e9, encTs_len, g1]
    exact hQ _ _ _ hKI.1 hKI.2.1
def outF (ns' : List ByteArray) (outs : List Tr) (i : Nat) (σ : St) : Prop :=
  (∃ u a b, σ.t 7 = .c (.ptr 7 u 0) ∧ σ.H 7 = some (.var u 33 [.v (.s (.int .i64 5)), .v (.s (.int .i64 0)), .v (.s (.string ⟨#[]⟩)), .own 2003 a i, .own 2004 b i]) ∧ σ.H 2003 = some (.arr a true 1 9 (encS (ns'.take i))) ∧ σ.H 2004 = some (.arr b true 5 33 (encTs (outs.take i)))) ∧ σ.t 10 = .i i
def kidV (ns : List ByteArray) (x : ByteArray) (o : Tr) (j : Nat) (σ : St) : Prop :=
  (∃ u, σ.t 11 = .c (.ptr 11 u 0) ∧ (((∀ l, l < j → ns[l]? ≠ some x) ∧ σ.H 11 = some (.var u 33 [.v (.s (.int .i64 6)), .v (.s (.int .i64 0)), .v (.s (.string ⟨#[]⟩)), .nil0, .nil0])) ∨
    ((∃ l, l < j ∧ ns[l]? = some x) ∧ σ.H 11 = some (.var u 33 ((encT o).map .v))))) ∧ σ.t 12 = .i j
theorem widenS_inner (hr : RiseP ns) (hn : ns.length ≤ 2000) (i : Nat) (o : Tr) (x : ByteArray) (hx : ns'[i]? = some x) (hW : WS ns ks ns' ks' tks i o) {X : Ctx} {Q : Exit → St → Prop} {t : Nat → T} {H : HMap} {c : Nat}
    (h : inv24 ss ns ks s' ns' ks' ts tn tx tns tks ⟨t, H, c⟩ ∧ outF ns' outs i ⟨t, H, c⟩ ∧ kidV ns x o 0 ⟨t, H, c⟩)
    (hQ : ∀ t H c, inv24 ss ns ks s' ns' ks' ts tn tx tns tks ⟨t, H, c⟩ → outF ns' outs i ⟨t, H, c⟩ → kidV ns x o ns.length ⟨t, H, c⟩ → Q (.exit 7) ⟨t, H, c⟩) : oneW Try.prog X (ok24.sub [1, 1, 0, 1, 0, 1, 1, 1, 1, 1, 0, 1, 0, 0, 1, 0, 0, 1, 0, 1, 0]) Q ⟨t, H, c⟩ := by
  dsimp only [okF.sub, ACode.sub]
  obtain ⟨hBo, x2, k', hx2, hk', hcase⟩ := hW
  rw [hx] at hx2; cases hx2
  refine AW.upto ns.length (fun j σ => inv24 ss ns ks s' ns' ks' ts tn tx tns tks σ ∧ outF ns' outs i σ ∧ kidV ns x o j σ) h fun j t H c hi h => ?_
  have hKI := h
  obtain ⟨⟨⟨u3, e3, eH3⟩, ⟨u4, e4, eH4⟩, ⟨u5, e5, eH5⟩, ⟨u6, e6, eH6⟩⟩, ⟨⟨u7, a7, b7, e7, eH7, eHa, eHb⟩, e10⟩, ⟨⟨u11, e11, h11⟩, e12⟩⟩ := h
  simp only [T.c, T.i, zT] at e3 eH3 e4 eH4 e5 eH5 e6 eH6 e7 eH7 eHa eHb e10 e11 h11 e12
  by_cases hlt : j < ns.length
  · have g1 : (j : Int) < ns.length := by omega
    have gz : (0 : Int) ≤ j := by omega
    have gzi : (0 : Int) ≤ i := by omega
    have gw : IntKind.i64.wrap ((j : Int) + 1) = ((j + 1 : Nat) : Int) := wrap64 (x := (j : Int) + 1) ⟨by omega, by omega⟩
    obtain ⟨y, hy⟩ : ∃ y, ns[j]? = some y := ⟨_, List.getElem?_eq_getElem hlt⟩
    have es := encS_at hy
    have es' := encS_at hx
    have ek' := encKs_at hk'
    by_cases hyx : y = x
    · subst hyx
      rcases hcase with ⟨J, k, u, hJ, hk, hu, hWd, hC⟩ | ⟨hno, _⟩
      case inr => exact absurd hy (hno j)
      have hJj := rise_inj hr hJ hy
      subst hJj
      have ek := encKs_at hk
      have eu := encTs_at hu
      have hfresh : H 11 = some (.var u11 33 [.v (.s (.int .i64 6)), .v (.s (.int .i64 0)), .v (.s (.string ⟨#[]⟩)), .nil0, .nil0]) := by
        rcases h11 with ⟨_, h⟩ | ⟨⟨l, hl, h⟩, _⟩
        · exact h
        · have := rise_inj hr h hy; omega
      simp only [go_sem, e3, eH3, e4, eH4, e5, eH5, e10, e12, encS_len, g1, gz, gzi, es, es', ek, ek', eu, sStr, str_beq, Int.toNat_natCast, List.length_map, encK_len, takeK, encT_len, takeT, Nat.le_refl]
      refine callC hC rfl rfl (by simp [closedA, closedP, closedC]) (closed_map _) ?_
      simp only [go_sem, e11, hfresh, e12, gw, List.length_map, encT_len, takeT, Nat.le_refl]
      exact ⟨hlt, ⟨⟨u3, e3, eH3⟩, ⟨u4, e4, eH4⟩, ⟨u5, e5, eH5⟩, ⟨u6, e6, eH6⟩⟩, ⟨⟨u7, a7, b7, e7, eH7, eHa, eHb⟩, e10⟩, ⟨⟨u11, e11, .inr ⟨⟨J, by omega, hy⟩, rfl⟩⟩, rfl⟩⟩
    · simp only [go_sem, e3, eH3, e4, eH4, e10, e12, encS_len, g1, gz, gzi, es, es', sStr, str_beq, hyx, gw, Int.toNat_natCast]
      refine ⟨hlt, ⟨⟨u3, e3, eH3⟩, ⟨u4, e4, eH4⟩, ⟨u5, e5, eH5⟩, ⟨u6, e6, eH6⟩⟩, ⟨⟨u7, a7, b7, e7, eH7, eHa, eHb⟩, e10⟩, ⟨⟨u11, e11, ?_⟩, rfl⟩⟩
      rcases h11 with ⟨hno, h⟩ | ⟨⟨l, hl, h1⟩, h⟩
      · refine .inl ⟨fun l hl => ?_, h⟩
        rcases Nat.lt_succ_iff_lt_or_eq.1 hl with hl | rfl
        · exact hno l hl
        · rw [hy]; intro e; cases e; exact hyx rfl
      · exact .inr ⟨⟨l, by omega, h1⟩, h⟩
  · have hin : j = ns.length := by omega
    subst hin
    have g1 : ¬ ((ns.length : Nat) : Int) < ns.length := by omega
    simp only [go_sem, e3, eH3, e12, encS_len, g1]
    exact hQ _ _ _ hKI.1 hKI.2.1 hKI.2.2
end
end Go.V
set_option linter.unusedSimpArgs false
namespace Go.V
open Go.Proofs
theorem encS_take1 {ns : List ByteArray} {i : Nat} {x : ByteArray} (h : ns[i]? = some x) : encS (ns.take (i + 1)) = encS (ns.take i) ++ [[.s (.string x)]] := by rw [List.take_add_one, h]; exact encS_snoc _ _
theorem encTs_take1 {ks : List Tr} {i : Nat} {k : Tr} (h : ks[i]? = some k) : encTs (ks.take (i + 1)) = encTs (ks.take i) ++ [encT k] := by rw [List.take_add_one, h]; exact encTs_snoc _ _
def invO (ss : Int) (ns : List ByteArray) (ks : List Kd) (s' : Int) (ns' : List ByteArray) (ks' : List Kd) (ts tn : Int) (tx : ByteArray) (tns : List ByteArray) (tks outs : List Tr) (i : Nat) (σ : St) : Prop :=
  inv24 ss ns ks s' ns' ks' ts tn tx tns tks σ ∧ outF ns' outs i σ
set_option maxHeartbeats 2000000 in
theorem widenS_outer (ss : Int) (ns : List ByteArray) (ks : List Kd) (s' : Int) (ns' : List ByteArray) (ks' : List Kd) (ts tn : Int) (tx : ByteArray) (tns : List ByteArray) (tks outs : List Tr) (hr : RiseP ns) (hn : ns.length ≤ 2000) (hl : outs.length = ns'.length) (hn' : ns'.length ≤ 2000) (hW : ∀ i, i < ns'.length → ∃ o, outs[i]? = some o ∧ WS ns ks ns' ks' tks i o) {X : Ctx} {Q : Exit → St → Prop} {t : Nat → T} {H : HMap} {c : Nat}
    (h : invO ss ns ks s' ns' ks' ts tn tx tns tks outs 0 ⟨t, H, c⟩) (hQ : ∀ t H c, invO ss ns ks s' ns' ks' ts tn tx tns tks outs ns'.length ⟨t, H, c⟩ → Q (.exit 5) ⟨t, H, c⟩) : oneW Try.prog X (ok24.sub [1, 1, 0, 1, 0, 1, 1, 1, 1, 1, 0, 1, 0]) Q ⟨t, H, c⟩ := by
  dsimp only [okF.sub, ACode.sub]
  refine AW.upto ns'.length (invO ss ns ks s' ns' ks' ts tn tx tns tks outs) h fun i t H c hi h => ?_
  have hKI := h
  obtain ⟨⟨⟨u3, e3, eH3⟩, ⟨u4, e4, eH4⟩, ⟨u5, e5, eH5⟩, ⟨u6, e6, eH6⟩⟩, ⟨⟨u7, a7, b7, e7, eH7, eHa, eHb⟩, e10⟩⟩ := h
  simp only [T.c, T.i, zT] at e3 eH3 e4 eH4 e5 eH5 e6 eH6 e7 eH7 eHa eHb e10
  by_cases hlt : i < ns'.length
  · have g1 : (i : Int) < ns'.length := by omega
    obtain ⟨o, ho, hWo⟩ := hW i hlt
    obtain ⟨hBo, x, k', hx, hk', hcase⟩ := hWo
    simp only [go_sem, e4, eH4, e10, encS_len, g1]
    refine widenS_inner ss ns ks s' ns' ks' ts tn tx tns tks outs hr hn i o x hx ⟨hBo, x, k', hx, hk', hcase⟩ ?_ fun t H c h1 h2 h3 => ?_
    · unfold inv24 outF kidV
      exact ⟨⟨⟨u3, e3, eH3⟩, ⟨u4, e4, eH4⟩, ⟨u5, e5, eH5⟩, ⟨u6, e6, eH6⟩⟩, ⟨⟨u7, a7, b7, e7, eH7, eHa, eHb⟩, e10⟩, ⟨⟨_, rfl, .inl ⟨fun l hl => absurd hl (Nat.not_lt_zero l), rfl⟩⟩, rfl⟩⟩
    clear e3 eH3 e4 eH4 e5 eH5 e6 eH6 e7 eH7 eHa eHb e10
    obtain ⟨⟨u3, e3, eH3⟩, ⟨u4, e4, eH4⟩, ⟨u5, e5, eH5⟩, ⟨u6, e6, eH6⟩⟩ := h1
    obtain ⟨⟨u7, a7, b7, e7, eH7, eHa, eHb⟩, e10⟩ := h2
    obtain ⟨⟨u11, e11, h11⟩, e12⟩ := h3
    simp only [T.c, T.i, zT] at e3 eH3 e4 eH4 e5 eH5 e6 eH6 e7 eH7 eHa eHb e10 e11 h11 e12
    have gz : (0 : Int) ≤ i := by omega
    have gw : IntKind.i64.wrap ((i : Int) + 1) = ((i + 1 : Nat) : Int) := wrap64 (x := (i : Int) + 1) ⟨by omega, by omega⟩
    have es := encS_at hx
    have q1 : (i + 1) * 16 ≤ 140737488355328 := by omega
    have q3 : (i + 1) * 80 ≤ 140737488355328 := by omega
    have q4 : i ≤ 9223372036854775806 := by omega
    have hlr : (encTs (outs.take i)).length = i := by rw [encTs_len, List.length_take]; omega
    have htk : List.take i (encTs (outs.take i)) = encTs (outs.take i) := List.take_of_length_le (by omega)
    have hls : (encS (ns'.take i)).length = i := by rw [encS_len, List.length_take]; omega
    have hts : List.take i (encS (ns'.take i)) = encS (ns'.take i) := List.take_of_length_le (by omega)
    have k5 := encS_take1 hx
    have k6 := encTs_take1 ho
    rcases h11 with ⟨hno, eH11⟩ | ⟨⟨l, hl2, hlx⟩, eH11⟩
    · have hoT : o = noT := by
        rcases hcase with ⟨J, _, _, hJ, _⟩ | ⟨_, h⟩
        · exact absurd hJ (hno J (List.getElem?_eq_some_iff.1 hJ).1)
        · exact h
      subst hoT
      rw [enc_noT] at k6
      simp only [go_sem, e4, eH4, e7, eH7, eHa, eHb, e10, e11, eH11, gz, es, Int.toNat_natCast, q1, q3, q4, gw, hlr, htk, hls, hts]
      unfold invO inv24 outF
      rw [k5, k6]
      exact ⟨hlt, ⟨⟨u3, e3, eH3⟩, ⟨u4, e4, eH4⟩, ⟨u5, e5, eH5⟩, ⟨u6, e6, eH6⟩⟩, ⟨⟨u7, _, _, e7, rfl, rfl, rfl⟩, rfl⟩⟩
    · simp only [go_sem, e4, eH4, e7, eH7, eHa, eHb, e10, e11, eH11, gz, es, Int.toNat_natCast, q1, q3, q4, gw, hlr, htk, hls, hts, List.length_map, encT_len, takeT, Nat.le_refl]
      unfold invO inv24 outF
      rw [k5, k6]
      exact ⟨hlt, ⟨⟨u3, e3, eH3⟩, ⟨u4, e4, eH4⟩, ⟨u5, e5, eH5⟩, ⟨u6, e6, eH6⟩⟩, ⟨⟨u7, _, _, e7, rfl, rfl, rfl⟩, rfl⟩⟩
  · have hin : i = ns'.length := by omega
    subst hin
    have g1 : ¬ ((ns'.length : Nat) : Int) < ns'.length := by omega
    simp only [go_sem, e4, eH4, e10, encS_len, g1]
    exact hQ _ _ _ hKI
end Go.V
set_option linter.unusedSimpArgs false
namespace Go.V
open Go.Proofs
inductive TDp : Nat → Tr → Prop
  | mk (d : Nat) (s m : Int) (x : ByteArray) (ns : List ByteArray) (ks : List Tr) (h : ∀ k ∈ ks, TDp d k) : TDp (d + 1) (.mk s m x ns ks)
theorem TDp.inv {d : Nat} {s m : Int} {x : ByteArray} {ns : List ByteArray} {ks : List Tr} (h : TDp d (.mk s m x ns ks)) : ∃ e, d = e + 1 ∧ ∀ k ∈ ks, TDp e k := by
  cases h with
  | mk e _ _ _ _ _ h => exact ⟨e, rfl, h⟩
theorem TDp.of {d : Nat} (hd : 1 ≤ d) {s m : Int} {x : ByteArray} {ns : List ByteArray} {ks : List Tr} (h : ∀ k ∈ ks, TDp (d - 1) k) : TDp d (.mk s m x ns ks) := by
  obtain ⟨e, rfl⟩ : ∃ e, d = e + 1 := ⟨d - 1, by omega⟩
  exact .mk _ _ _ _ _ _ (by simpa using h)
/-! The plain law: no program is in sight here. -/
inductive TW : Tr → Prop
  | mk (s n : Int) (x : ByteArray) (ns : List ByteArray) (ks : List Tr) (h2 : tshape s n x ns ks.length = true) (h3 : ∀ k ∈ ks, TW k) : TW (.mk s n x ns ks)
theorem TW.inv {s n : Int} {x : ByteArray} {ns : List ByteArray} {ks : List Tr} (h : TW (.mk s n x ns ks)) : tshape s n x ns ks.length = true ∧ ∀ k ∈ ks, TW k := by
  cases h with
  | mk _ _ _ _ _ h2 h3 => exact ⟨h2, h3⟩
theorem TOk.ts : ∀ {t : Tr} {d : Nat}, TOk d t → TW t ∧ TDp (7 - d) t := by
  intro t
  induction t using Tr.ind with
  | _ s n x ns ks ih =>
    intro d h
    obtain ⟨h1, h2, h3⟩ := h.inv
    refine ⟨.mk _ _ _ _ _ h2 fun k hk => (ih k hk (h3 k hk)).1, ?_⟩
    rw [show 7 - d = (7 - (d + 1)) + 1 from by omega]
    exact .mk _ _ _ _ _ _ fun k hk => (ih k hk (h3 k hk)).2
theorem TW.ok : ∀ {t : Tr} {e d : Nat}, TW t → TDp e t → e + d ≤ 7 → TOk d t := by
  intro t
  induction t using Tr.ind with
  | _ s n x ns ks ih =>
    intro e d h hd hed
    obtain ⟨h2, h3⟩ := h.inv
    obtain ⟨e', rfl, h4⟩ := hd.inv
    exact .mk _ _ _ _ _ _ (by omega) h2 fun k hk => ih k hk (h3 k hk) (h4 k hk) (by omega)
theorem TDp.up : ∀ {t : Tr} {e : Nat}, TDp e t → TDp (e + 1) t := by
  intro t
  induction t using Tr.ind with
  | _ s n x ns ks ih =>
    intro e h
    obtain ⟨e', rfl, h4⟩ := h.inv
    exact .mk _ _ _ _ _ _ fun k hk => ih k hk (h4 k hk)
/-- What is at a place of a form. -/
theorem form_at {s n : Int} {x : ByteArray} {ns : List ByteArray} {ks : List Kd} {ns' : List ByteArray} {ts : List Tr} (hS : Shape 5 ns ks) (hT : TSh s n x ns' ts.length) (hs : s = 5) (h1 : ns = ns') {j : Nat} {y : ByteArray} (hj : ns[j]? = some y) : ∃ k u, ks[j]? = some k ∧ ts[j]? = some u := by
  have e1 := (hS.form rfl).1
  have e2 := (hT.form hs).1
  have hl := (List.getElem?_eq_some_iff.1 hj).1
  subst h1
  exact ⟨_, _, List.getElem?_eq_getElem (by omega), List.getElem?_eq_getElem (by omega)⟩
theorem at_len {α β : Type} {xs : List α} {ys : List β} (h : xs.length = ys.length) {i : Nat} {x : α} (hi : xs[i]? = some x) : ∃ y, ys[i]? = some y :=
  ⟨_, List.getElem?_eq_getElem (by have := (List.getElem?_eq_some_iff.1 hi).1; omega)⟩
theorem one_at {s : Int} {ns : List ByteArray} {ks : List Kd} (hS : Shape s ns ks) (h : s = 4 ∨ s = 6) : ∃ k, ks[0]? = some k := ⟨_, List.getElem?_eq_getElem (by have := hS.one h; omega)⟩
/-- A schema's sort, and a wider one's. -/
theorem Fits.up6 {a b : Kd} (h : Fits a b) (ha : a.sort = 6) : b.sort = 6 := by
  obtain ⟨s, ns, ks⟩ := a
  obtain ⟨s', ns', ks'⟩ := b
  by_cases h6 : s' = 6
  · exact h6
  · have := h.sort_eq h6
    simp only [Kd.sort] at ha ⊢
    omega
/-- Fitting goes on. -/
theorem fits_trans : ∀ (c b a : Kd) (d1 d2 d3 : Nat), KOk d1 a → KOk d2 b → KOk d3 c → Fits a b → Fits b c → Fits a c := by
  intro c
  induction c using Kd.ind with
  | _ sc nc kc ih =>
    intro b a d1 d2 d3 hOa hOb hOc hab hbc
    obtain ⟨sb, nb, kb⟩ := b
    obtain ⟨sa, na, ka⟩ := a
    obtain ⟨_, hSa, hKa⟩ := hOa.inv
    obtain ⟨_, hSb, hKb⟩ := hOb.inv
    obtain ⟨_, hSc, hKc⟩ := hOc.inv
    by_cases hc6 : sc = 6
    · subst hc6
      obtain ⟨c0, hc0⟩ := one_at hSc (.inr rfl)
      have hmc := List.mem_of_getElem? hc0
      by_cases ha6 : sa = 6
      · subst ha6
        have hb6 : sb = 6 := hab.up6 rfl
        subst hb6
        obtain ⟨a0, ha0⟩ := one_at hSa (.inr rfl)
        obtain ⟨b0, hb0⟩ := one_at hSb (.inr rfl)
        exact (Fits.mm_iff ha0 hc0).2 (ih c0 hmc b0 a0 _ _ _ (hKa _ (List.mem_of_getElem? ha0)) (hKb _ (List.mem_of_getElem? hb0)) (hKc _ hmc) ((Fits.mm_iff ha0 hb0).1 hab) ((Fits.mm_iff hb0 hc0).1 hbc))
      · by_cases hb6 : sb = 6
        · subst hb6
          obtain ⟨b0, hb0⟩ := one_at hSb (.inr rfl)
          exact (Fits.m_iff ha6 hc0).2 (ih c0 hmc b0 _ _ _ _ hOa (hKb _ (List.mem_of_getElem? hb0)) (hKc _ hmc) ((Fits.m_iff ha6 hb0).1 hab) ((Fits.mm_iff hb0 hc0).1 hbc))
        · exact (Fits.m_iff ha6 hc0).2 (ih c0 hmc _ _ _ _ _ hOa hOb (hKc _ hmc) hab ((Fits.m_iff hb6 hc0).1 hbc))
    · have e1 := hbc.sort_eq hc6
      subst e1
      have e2 := hab.sort_eq hc6
      subst e2
      by_cases h4 : sa = 4
      · subst h4
        obtain ⟨a0, ha0⟩ := one_at hSa (.inl rfl)
        obtain ⟨b0, hb0⟩ := one_at hSb (.inl rfl)
        obtain ⟨c0, hc0⟩ := one_at hSc (.inl rfl)
        have hmc := List.mem_of_getElem? hc0
        exact (Fits.l_iff ha0 hc0).2 (ih c0 hmc b0 a0 _ _ _ (hKa _ (List.mem_of_getElem? ha0)) (hKb _ (List.mem_of_getElem? hb0)) (hKc _ hmc) ((Fits.l_iff ha0 hb0).1 hab) ((Fits.l_iff hb0 hc0).1 hbc))
      · by_cases h5 : sa = 5
        · subst h5
          obtain ⟨f1, f2, f3⟩ := hab.f_inv
          obtain ⟨g1, g2, g3⟩ := hbc.f_inv
          have la := hSa.form rfl
          have lb := hSb.form rfl
          have lc := hSc.form rfl
          refine .f _ _ _ _ (fun i x hi => ?_) (fun i x k k' hi hk hk' => ?_) fun i x k' hi hk hno => ?_
          · obtain ⟨kb1, hkb1⟩ := f1 i x hi
            obtain ⟨j, hj, _⟩ := kid_mem hkb1
            exact g1 j x hj
          · obtain ⟨kb1, hkb1⟩ := f1 i x hi
            obtain ⟨j, hj, hkb2⟩ := kid_mem hkb1
            obtain ⟨l, hl, hkc2⟩ := kid_mem hk'
            exact ih k' (List.mem_of_getElem? hkc2) kb1 k _ _ _ (hKa _ (List.mem_of_getElem? hk)) (hKb _ (List.mem_of_getElem? hkb2)) (hKc _ (List.mem_of_getElem? hkc2)) (f2 i x k kb1 hi hk hkb1) (g2 j x kb1 k' hj hkb2 hk')
          · cases hb : kid nb kb x with
            | none => exact g3 i x k' hi hk hb
            | some kb1 =>
              obtain ⟨j, hj, hkb2⟩ := kid_mem hb
              have hs6 := f3 j x kb1 hj hkb2 hno
              have hkid : kid nc kc x = some k' := kid_at (fun j hj e => by have := rise_inj (rise_true.1 lc.2) e hi; omega) hi hk
              exact (g2 j x kb1 k' hj hkb2 hkid).up6 hs6
        · have := hSa.lo
          have := hSa.hi
          exact .leaf _ _ _ _ _ (by omega)

theorem noT_has {k : Kd} (h : k.sort = 6) : Has k noT := by
  obtain ⟨s, ns, ks⟩ := k
  have h : s = 6 := h
  subst h
  exact .mk _ _ _ _ _ _ _ (fun h => by omega) fun i t k h => by simp at h
/-- A form's kids, told by names. -/
theorem name_in (ns : List ByteArray) (x : ByteArray) : (∃ j : Nat, ns[j]? = some x) ∨ ∀ j : Nat, ns[j]? ≠ some x := by
  by_cases h : ∃ j : Nat, ns[j]? = some x
  · exact .inl h
  · exact .inr fun j hj => h ⟨j, hj⟩
theorem wd_has : ∀ (b a : Kd) (t y : Tr) (d1 d2 : Nat), KOk d1 a → KOk d2 b → TW t → Fits a b → Has a t → Wd a b t y → Has b y ∧ TW y := by
  intro b
  induction b using Kd.ind with
  | _ sb nb kb ih =>
    intro a t y d1 d2 hOa hOb hT hF hH hW
    obtain ⟨sa, na, ka⟩ := a
    obtain ⟨_, hSa, hKa⟩ := hOa.inv
    obtain ⟨_, hSb, hKb⟩ := hOb.inv
    cases hW with
    | m _ _ _ _ _ b0 _ y' hs hb h =>
      obtain ⟨i1, i2⟩ := ih b0 (List.mem_of_getElem? hb) _ _ _ _ _ hOa (hKb _ (List.mem_of_getElem? hb)) hT ((Fits.m_iff hs hb).1 hF) hH h
      refine ⟨.mk _ _ _ _ _ _ _ (fun h => by omega) fun i t k ht hk => ?_, .mk _ _ _ _ _ (by simp [tshape]) (by simpa using i2)⟩
      cases i with
      | zero =>
        rw [sel, if_neg (by omega), hb] at hk
        simp at ht hk
        subst ht hk; exact i1
      | succ i => simp at ht
    | f _ _ _ _ _ ts tn tx tns tks outs hl h1 h2 =>
      obtain ⟨hss, hnames, hkids⟩ := hH.inv
      have h5 : sa = 5 := hF.sort_eq (by omega)
      subst h5
      obtain ⟨htsh, htk⟩ := hT.inv
      have hTs := tshape_sh htsh
      obtain ⟨f1, f2, f3⟩ := hF.f_inv
      have lb := hSb.form rfl
      have key : ∀ (i : Nat) o, outs[i]? = some o → ∃ x k', nb[i]? = some x ∧ kb[i]? = some k' ∧ Has k' o ∧ TW o := by
        intro i o ho
        obtain ⟨x, hx⟩ := at_len hl ho
        obtain ⟨k', hk'⟩ := at_len lb.1 hx
        have hkid : kid nb kb x = some k' := kid_at (fun j hj e => by have := rise_inj (rise_true.1 lb.2) e hx; omega) hx hk'
        rcases name_in na x with ⟨j, hj⟩ | hno
        · obtain ⟨k, u, hk, hu⟩ := form_at hSa hTs hss.symm (hnames rfl) hj
          obtain ⟨i1, i2⟩ := ih k' (List.mem_of_getElem? hk') k u o _ _ (hKa _ (List.mem_of_getElem? hk)) (hKb _ (List.mem_of_getElem? hk')) (htk u (List.mem_of_getElem? hu)) (f2 j x k k' hj hk hkid) (hkids j u k hu (by rw [sel, if_pos rfl]; exact hk)) (h1 i j x o k k' u hx ho hj hk hk' hu)
          exact ⟨x, k', hx, hk', i1, i2⟩
        · have := h2 i x o hx ho hno
          subst this
          exact ⟨x, k', hx, hk', noT_has (f3 i x k' hx hk' (kid_none hno)), .mk _ _ _ _ _ (by simp [tshape]) (by simp)⟩
      refine ⟨.mk _ _ _ _ _ _ _ (fun _ => rfl) fun i o k ho hk => ?_, .mk _ _ _ _ _ ?_ fun o ho => ?_⟩
      · obtain ⟨x, k', hx, hk', h3, _⟩ := key i o ho
        rw [sel, if_pos rfl, hk'] at hk; cases hk; exact h3
      · have e : ((nb.length : Int) == (outs.length : Int)) = true := beq_iff_eq.2 (by omega)
        show (((0 : Int) == 0) && (decide ((⟨#[]⟩ : ByteArray) = ⟨#[]⟩) && (rise nb && ((nb.length : Int) == (outs.length : Int))))) = true
        rw [lb.2, e]; simp
      · obtain ⟨i, hi⟩ := List.mem_iff_getElem?.1 ho
        obtain ⟨_, _, _, _, _, h4⟩ := key i o hi
        exact h4
    | c _ _ _ _ _ _ ts tn tx tns tks outs hs hs2 hl h =>
      obtain ⟨hss, hnames, hkids⟩ := hH.inv
      subst hss
      obtain ⟨htsh, htk⟩ := hT.inv
      have hTs := tshape_sh htsh
      have hsab : sa = sb := by
        by_cases h6 : sb = 6
        · rw [hs2 h6, h6]
        · exact hF.sort_eq h6
      subst hsab
      have key : ∀ (i : Nat) o, outs[i]? = some o → ∃ k', kb[0]? = some k' ∧ Has k' o ∧ TW o := by
        intro i o ho
        obtain ⟨u, hu⟩ := at_len hl ho
        have hil := (List.getElem?_eq_some_iff.1 hu).1
        have h46 : sa = 4 ∨ sa = 6 := by
          have := hSa.hi
          by_cases h4 : sa < 4
          · have := hTs.leaf h4; omega
          · omega
        obtain ⟨k, hk⟩ := one_at hSa h46
        obtain ⟨k', hk'⟩ := one_at hSb h46
        have hFk : Fits k k' := by
          rcases h46 with rfl | rfl
          · exact (Fits.l_iff hk hk').1 hF
          · exact (Fits.mm_iff hk hk').1 hF
        obtain ⟨i1, i2⟩ := ih k' (List.mem_of_getElem? hk') k u o _ _ (hKa _ (List.mem_of_getElem? hk)) (hKb _ (List.mem_of_getElem? hk')) (htk u (List.mem_of_getElem? hu)) hFk (hkids i u k hu (by rw [sel, if_neg hs]; exact hk)) (h i u o k k' hu ho hk hk')
        exact ⟨k', hk', i1, i2⟩
      refine ⟨.mk _ _ _ _ _ _ _ (fun h => absurd h hs) fun i o k ho hk => ?_, .mk _ _ _ _ _ (by rw [hl]; exact htsh) fun o ho => ?_⟩
      · obtain ⟨k', hk', h3, _⟩ := key i o ho
        rw [sel, if_neg hs, hk'] at hk; cases hk; exact h3
      · obtain ⟨i, hi⟩ := List.mem_iff_getElem?.1 ho
        obtain ⟨_, _, _, h4⟩ := key i o hi
        exact h4
/-- What comes of a tree is one. -/
theorem wd_one : ∀ (b a : Kd) (t y z : Tr) (d1 d2 : Nat), KOk d1 a → KOk d2 b → TW t → Fits a b → Has a t → Wd a b t y → Wd a b t z → y = z := by
  intro b
  induction b using Kd.ind with
  | _ sb nb kb ih =>
    intro a t y z d1 d2 hOa hOb hT hF hH hY hZ
    obtain ⟨sa, na, ka⟩ := a
    obtain ⟨_, hSa, hKa⟩ := hOa.inv
    obtain ⟨_, hSb, hKb⟩ := hOb.inv
    cases hY with
    | m _ _ _ _ _ b0 _ y' hs hb h =>
      cases hZ with
      | m _ _ _ _ _ b1 _ z' _ hb1 h1 =>
        rw [hb] at hb1; cases hb1
        rw [ih b0 (List.mem_of_getElem? hb) _ _ _ _ _ _ hOa (hKb _ (List.mem_of_getElem? hb)) hT ((Fits.m_iff hs hb).1 hF) hH h h1]
      | c _ _ _ _ _ _ _ _ _ _ _ _ _ hs2 => exact absurd (hs2 rfl) hs
    | f _ _ _ _ _ ts tn tx tns tks outs hl h1 h2 =>
      obtain ⟨hss, hnames, hkids⟩ := hH.inv
      have h5 : sa = 5 := hF.sort_eq (by omega)
      subst h5
      obtain ⟨htsh, htk⟩ := hT.inv
      have hTs := tshape_sh htsh
      obtain ⟨f1, f2, f3⟩ := hF.f_inv
      have lb := hSb.form rfl
      cases hZ with
      | f _ _ _ _ _ _ _ _ _ _ outs2 hl2 g1 g2 =>
        have : outs = outs2 := List.ext_getElem? fun i => by
          cases ho : outs[i]? with
          | none =>
            have := List.getElem?_eq_none_iff.1 ho
            exact (List.getElem?_eq_none (by omega)).symm
          | some o =>
            obtain ⟨x, hx⟩ := at_len hl ho
            obtain ⟨o2, ho2⟩ := at_len hl2.symm hx
            obtain ⟨k', hk'⟩ := at_len lb.1 hx
            have hkid : kid nb kb x = some k' := kid_at (fun j hj e => by have := rise_inj (rise_true.1 lb.2) e hx; omega) hx hk'
            rw [ho2]
            congr 1
            rcases name_in na x with ⟨j, hj⟩ | hno
            · obtain ⟨k, u, hk, hu⟩ := form_at hSa hTs hss.symm (hnames rfl) hj
              exact ih k' (List.mem_of_getElem? hk') k u o o2 _ _ (hKa _ (List.mem_of_getElem? hk)) (hKb _ (List.mem_of_getElem? hk')) (htk u (List.mem_of_getElem? hu)) (f2 j x k k' hj hk hkid) (hkids j u k hu (by rw [sel, if_pos rfl]; exact hk)) (h1 i j x o k k' u hx ho hj hk hk' hu) (g1 i j x o2 k k' u hx ho2 hj hk hk' hu)
            · rw [h2 i x o hx ho hno, g2 i x o2 hx ho2 hno]
        rw [this]
      | c _ _ _ _ _ _ _ _ _ _ _ _ hs => exact absurd rfl hs
    | c _ _ _ _ _ _ ts tn tx tns tks outs hs hs2 hl h =>
      obtain ⟨hss, hnames, hkids⟩ := hH.inv
      subst hss
      obtain ⟨htsh, htk⟩ := hT.inv
      have hTs := tshape_sh htsh
      have hsab : sa = sb := by
        by_cases h6 : sb = 6
        · rw [hs2 h6, h6]
        · exact hF.sort_eq h6
      subst hsab
      cases hZ with
      | m _ _ _ _ _ _ _ _ hs6 => exact absurd rfl hs6
      | f => exact absurd rfl hs
      | c _ _ _ _ _ _ _ _ _ _ _ outs2 _ _ hl2 g =>
        have : outs = outs2 := List.ext_getElem? fun i => by
          cases ho : outs[i]? with
          | none =>
            have := List.getElem?_eq_none_iff.1 ho
            exact (List.getElem?_eq_none (by omega)).symm
          | some o =>
            obtain ⟨u, hu⟩ := at_len hl ho
            obtain ⟨o2, ho2⟩ := at_len hl2.symm hu
            have hil := (List.getElem?_eq_some_iff.1 hu).1
            have h46 : sa = 4 ∨ sa = 6 := by
              have := hSa.hi
              by_cases h4 : sa < 4
              · have := hTs.leaf h4; omega
              · omega
            obtain ⟨k, hk⟩ := one_at hSa h46
            obtain ⟨k', hk'⟩ := one_at hSb h46
            have hFk : Fits k k' := by
              rcases h46 with rfl | rfl
              · exact (Fits.l_iff hk hk').1 hF
              · exact (Fits.mm_iff hk hk').1 hF
            rw [ho2]
            congr 1
            exact ih k' (List.mem_of_getElem? hk') k u o o2 _ _ (hKa _ (List.mem_of_getElem? hk)) (hKb _ (List.mem_of_getElem? hk')) (htk u (List.mem_of_getElem? hu)) hFk (hkids i u k hu (by rw [sel, if_neg hs]; exact hk)) (h i u o k k' hu ho hk hk') (g i u o2 k k' hu ho2 hk hk')
        rw [this]
end Go.V
set_option linter.unusedSimpArgs false
namespace Go.V
open Go.Proofs
theorem encTs_one (t : Tr) : encTs [t] = [encT t] := by simp [encTs]
set_option maxHeartbeats 2000000 in
theorem widenS_ok : ∀ (b a : Kd) (t : Tr) (d d' e : Nat), KOk d a → KOk d' b → TOk e t → Fits a b → Has a t → KB 2000 a → KB 2000 b → TB 2000 t → ∃ t', Wd a b t t' ∧ TB 2000 t' ∧ ACallsF Try.prog 24 [tK a, tK b, tT t] [] (tT t') := by
  intro b
  induction b using Kd.ind with
  | _ s' ns' ks' ih =>
    intro a t d d' e hOa hOb hOt hF hH hBa hBb hBt
    obtain ⟨s, ns, ks⟩ := a
    obtain ⟨ts, tn, tx, tns, tks⟩ := t
    obtain ⟨_, hSa, hKa⟩ := hOa.inv
    obtain ⟨_, hSb, hKb⟩ := hOb.inv
    obtain ⟨_, hSt, hKt⟩ := hOt.inv
    have hSt := tshape_sh hSt
    obtain ⟨hss, hnames, hkids⟩ := hH.inv
    subst hss
    obtain ⟨a1, a2, a3, a4⟩ := hBa.inv
    obtain ⟨b1, b2, b3, b4⟩ := hBb.inv
    obtain ⟨t0, t1, t2, t3, t4⟩ := hBt.inv
    have hz0 : (⟨#[]⟩ : ByteArray).size ≤ 2000 := by decide
    have noTB : TB 2000 noT := .mk _ _ _ _ _ hz0 (by simp) (by simp) (by simp) (by simp)
    by_cases hm : s' = 6 ∧ s ≠ 6
    · obtain ⟨rfl, h6⟩ := hm
      have hl' := hSb.one (.inr rfl)
      obtain ⟨kb, hkb⟩ : ∃ k, ks'[0]? = some k := ⟨_, List.getElem?_eq_getElem (by omega)⟩
      have hmb := List.mem_of_getElem? hkb
      have ekb := encKs_at hkb
      obtain ⟨t', hW, hB', hC⟩ := ih kb hmb (.mk s ns ks) (.mk s tn tx tns tks) _ _ _ hOa (hKb kb hmb) hOt ((Fits.m_iff h6 hkb).1 hF) hH hBa (b4 kb hmb) hBt
      refine ⟨.mk 6 0 ⟨#[]⟩ [] [t'], .m _ _ _ _ _ _ _ _ h6 hkb hW, .mk _ _ _ _ _ hz0 (by simp) (by simp) (by simp) (by simpa using hB'), ACallsF.intro ok24 follows fun X c0 => ?_⟩
      have h6b : (s != 6) = true := by simp [h6]
      simp only [tK, tT, encK_mk, encT_mk, List.map_cons, List.map_nil] at hC
      simp only [go_sem, encK_mk, encT_mk, Int.reduceBEq, h6b, ekb, Int.le_refl, Int.toNat_zero, List.length_map, encK_len, takeK]
      refine callC hC rfl rfl (by simp [closedA, closedP, closedC]) (closed_map _) ?_
      simp only [go_sem, encT_mk, encTs_one, List.length_map, encT_len, takeT, Nat.le_refl]
    have hc : s' = 6 → s = 6 := fun h => by
      by_cases h6 : s = 6
      · exact h6
      · exact absurd ⟨h, h6⟩ hm
    have hse : s = s' := by
      by_cases h6 : s' = 6
      · rw [hc h6, h6]
      · exact hF.sort_eq h6
    subst hse
    clear hc hm
    by_cases h5 : s = 5
    · subst h5
      obtain ⟨f1, f2, f3⟩ := hF.f_inv
      have hn := hnames rfl
      subst hn
      have la := hSa.form rfl
      have lb := hSb.form rfl
      have lt := hSt.form rfl
      obtain ⟨rfl, rfl⟩ := hSt.inner (by omega)
      obtain ⟨outs, hlo, houts⟩ := choose_list (WS ns ks ns' ks' tks) ns'.length fun i hi => by
        obtain ⟨x, hx⟩ : ∃ x, ns'[i]? = some x := ⟨_, List.getElem?_eq_getElem hi⟩
        obtain ⟨k', hk'⟩ : ∃ k, ks'[i]? = some k := ⟨_, List.getElem?_eq_getElem (by omega)⟩
        have hmk' := List.mem_of_getElem? hk'
        rcases name_in ns x with ⟨J, hJ⟩ | hno
        · have hJl := (List.getElem?_eq_some_iff.1 hJ).1
          obtain ⟨k, hk⟩ : ∃ k, ks[J]? = some k := ⟨_, List.getElem?_eq_getElem (by omega)⟩
          obtain ⟨u, hu⟩ : ∃ u, tks[J]? = some u := ⟨_, List.getElem?_eq_getElem (by omega)⟩
          have hmk := List.mem_of_getElem? hk
          have hmu := List.mem_of_getElem? hu
          have hkid : kid ns' ks' x = some k' := kid_at (fun j hj e => by have := rise_inj (rise_true.1 lb.2) e hx; omega) hx hk'
          obtain ⟨o, hW, hB', hC⟩ := ih k' hmk' k u _ _ _ (hKa k hmk) (hKb k' hmk') (hKt u hmu) (f2 J x k k' hJ hk hkid) (hkids J u k hu (by rw [sel, if_pos rfl]; exact hk)) (a4 k hmk) (b4 k' hmk') (t4 u hmu)
          exact ⟨o, hB', x, k', hx, hk', .inl ⟨J, k, u, hJ, hk, hu, hW, hC⟩⟩
        · exact ⟨noT, noTB, x, k', hx, hk', .inr ⟨hno, rfl⟩⟩
      refine ⟨.mk 5 0 ⟨#[]⟩ ns' outs, .f _ _ _ _ _ _ _ _ _ _ _ hlo (fun i j x o k k' u hx ho hj hk hk' hu => ?_) (fun i x o hx ho hno => ?_), .mk _ _ _ _ _ hz0 b1 (by omega) b3 (all_of hlo fun i hi => by obtain ⟨o, h1, h2⟩ := houts i hi; exact ⟨o, h1, h2.1⟩), ACallsF.intro ok24 follows fun X c0 => ?_⟩
      · obtain ⟨o', ho', _, x2, k2, hx2, hk2, hcase⟩ := houts i (List.getElem?_eq_some_iff.1 hx).1
        rw [ho] at ho'; rw [hx] at hx2; rw [hk'] at hk2
        cases ho'; cases hx2; cases hk2
        rcases hcase with ⟨J, k3, u3, hJ, hk3, hu3, hW, _⟩ | ⟨hno, _⟩
        · have := rise_inj (rise_true.1 la.2) hj hJ
          subst this
          rw [hk] at hk3; rw [hu] at hu3; cases hk3; cases hu3
          exact hW
        · exact absurd hj (hno j)
      · obtain ⟨o', ho', _, x2, k2, hx2, hk2, hcase⟩ := houts i (List.getElem?_eq_some_iff.1 hx).1
        rw [ho] at ho'; rw [hx] at hx2
        cases ho'; cases hx2
        rcases hcase with ⟨J, k3, u3, hJ, _⟩ | ⟨_, h⟩
        · exact absurd hJ (hno J)
        · exact h
      simp only [go_sem, encK_mk, encT_mk, Int.reduceBEq]
      refine AW.reify 7 3 2003 1 9 rfl rfl rfl (by decide) ?_
      refine AW.reify 7 4 2004 5 33 rfl rfl rfl (by decide) ?_
      refine widenS_outer 5 ns ks 5 ns' ks' 5 0 ⟨#[]⟩ ns tks outs (rise_true.1 la.2) (by omega) hlo (by omega) houts ?_ fun t H c h => ?_
      · unfold invO inv24 outF
        exact ⟨⟨⟨_, rfl, rfl⟩, ⟨_, rfl, rfl⟩, ⟨_, rfl, rfl⟩, ⟨_, rfl, rfl⟩⟩, ⟨⟨_, _, _, rfl, rfl, rfl, rfl⟩, rfl⟩⟩
      obtain ⟨⟨⟨u3, e3, eH3⟩, ⟨u4, e4, eH4⟩, ⟨u5, e5, eH5⟩, ⟨u6, e6, eH6⟩⟩, ⟨⟨u7, a7, b7, e7, eH7, eHa, eHb⟩, e10⟩⟩ := h
      rw [show outs.take ns'.length = outs from by rw [← hlo, List.take_length]] at eHb
      rw [List.take_length] at eHa
      simp only [T.c, T.i, zT] at e6 eH6 e7 eH7 eHa eHb
      have htk : List.take ns'.length (encTs outs) = encTs outs := by rw [← hlo]; exact take_encTs outs
      have hle : ns'.length ≤ (encTs outs).length := by rw [encTs_len]; omega
      have hle2 : ns'.length ≤ (encS ns').length := by rw [encS_len]; omega
      simp only [go_sem, e6, eH6, e7, eH7, eHa, eHb, encT_mk, encS_len, htk, hle, hle2, Nat.le_of_eq hlo.symm]
    · have hkid0 : ∀ i, i < tks.length → ∃ k k' u, ks[0]? = some k ∧ ks'[0]? = some k' ∧ tks[i]? = some u ∧ Fits k k' ∧ Has k u := by
        intro i hi
        obtain ⟨u, hu⟩ : ∃ u, tks[i]? = some u := ⟨_, List.getElem?_eq_getElem hi⟩
        have hs4 : ¬ s < 4 := fun h => by have := hSt.leaf h; omega
        have h46 : s = 4 ∨ s = 6 := by have := hSa.hi; omega
        obtain ⟨k, hk⟩ := one_at hSa h46
        obtain ⟨k', hk'⟩ := one_at hSb h46
        have hHk := hkids i u k hu (by rw [sel, if_neg h5]; exact hk)
        rcases h46 with rfl | rfl
        · exact ⟨k, k', u, hk, hk', hu, (Fits.l_iff hk hk').1 hF, hHk⟩
        · exact ⟨k, k', u, hk, hk', hu, (Fits.mm_iff hk hk').1 hF, hHk⟩
      obtain ⟨outs, hlo, houts⟩ := choose_list (WSC ks ks' tks) tks.length fun i hi => by
        obtain ⟨k, k', u, hk, hk', hu, hFk, hHk⟩ := hkid0 i hi
        have hmk := List.mem_of_getElem? hk
        have hmk' := List.mem_of_getElem? hk'
        have hmu := List.mem_of_getElem? hu
        obtain ⟨o, hW, hB', hC⟩ := ih k' hmk' k u _ _ _ (hKa k hmk) (hKb k' hmk') (hKt u hmu) hFk hHk (a4 k hmk) (b4 k' hmk') (t4 u hmu)
        exact ⟨o, hB', k, k', u, hk, hk', hu, hW, hC⟩
      have hn0 : tns = [] := List.length_eq_zero_iff.1 (hSt.other h5)
      subst hn0
      have hres : Wd (.mk s ns ks) (.mk s ns' ks') (.mk s tn tx [] tks) (.mk s tn tx [] outs) := .c _ _ _ _ _ _ _ _ _ _ _ _ h5 (fun h => h) hlo (fun i u o k k' hu ho hk hk' => by
        obtain ⟨o', ho', _, k2, k2', u2, hk2, hk2', hu2, hW, _⟩ := houts i (List.getElem?_eq_some_iff.1 hu).1
        rw [ho] at ho'; rw [hk] at hk2; rw [hk'] at hk2'; rw [hu] at hu2
        cases ho'; cases hk2; cases hk2'; cases hu2
        exact hW)
      refine ⟨.mk s tn tx [] outs, hres, .mk _ _ _ _ _ t0 (by simp) (by omega) (by simp) (all_of hlo fun i hi => by obtain ⟨o, h1, h2⟩ := houts i hi; exact ⟨o, h1, h2.1⟩), ACallsF.intro ok24 follows fun X c0 => ?_⟩
      have h5b : (s == 5) = false := beq_eq_false_iff_ne.2 h5
      have htk : List.take tks.length (encTs outs) = encTs outs := by rw [← hlo]; exact take_encTs outs
      have hle : tks.length ≤ (encTs outs).length := by rw [encTs_len]; omega
      have hto : outs.take tks.length = outs := by rw [← hlo, List.take_length]
      by_cases h6 : s = 6
      · subst h6
        simp only [go_sem, encK_mk, encT_mk, Int.reduceBEq, Int.reduceBNe]
        refine AW.reify 7 4 2004 5 33 rfl rfl rfl (by decide) ?_
        refine widenS_loop0 6 ns ks 6 ns' ks' 6 tn tx [] tks outs hlo t2 houts ?_ fun t H c h1 h2 => ?_
        · unfold inv24 outK
          exact ⟨⟨⟨_, rfl, rfl⟩, ⟨_, rfl, rfl⟩, ⟨_, rfl, rfl⟩, ⟨_, rfl, rfl⟩⟩, ⟨_, _, rfl, rfl, rfl⟩, rfl⟩
        obtain ⟨⟨u3, e3, eH3⟩, ⟨u4, e4, eH4⟩, ⟨u5, e5, eH5⟩, ⟨u6, e6, eH6⟩⟩ := h1
        obtain ⟨u7, b7, e7, eH7, eHb⟩ := h2
        rw [hto] at eHb
        simp only [T.c, T.i, zT] at e6 eH6 e7 eH7 eHb
        simp only [go_sem, e6, eH6, e7, eH7, eHb, encT_mk, htk, hle, Nat.le_of_eq hlo.symm]
      have h6b : (s == 6) = false := beq_eq_false_iff_ne.2 h6
      by_cases h4 : s = 4
      · subst h4
        simp only [go_sem, encK_mk, encT_mk, Int.reduceBEq, Int.reduceBNe]
        refine AW.reify 7 4 2004 5 33 rfl rfl rfl (by decide) ?_
        refine widenS_loop1 4 ns ks 4 ns' ks' 4 tn tx [] tks outs hlo t2 houts ?_ fun t H c h1 h2 => ?_
        · unfold inv24 outK
          exact ⟨⟨⟨_, rfl, rfl⟩, ⟨_, rfl, rfl⟩, ⟨_, rfl, rfl⟩, ⟨_, rfl, rfl⟩⟩, ⟨_, _, rfl, rfl, rfl⟩, rfl⟩
        obtain ⟨⟨u3, e3, eH3⟩, ⟨u4, e4, eH4⟩, ⟨u5, e5, eH5⟩, ⟨u6, e6, eH6⟩⟩ := h1
        obtain ⟨u7, b7, e7, eH7, eHb⟩ := h2
        rw [hto] at eHb
        simp only [T.c, T.i, zT] at e6 eH6 e7 eH7 eHb
        simp only [go_sem, e6, eH6, e7, eH7, eHb, encT_mk, htk, hle, Nat.le_of_eq hlo.symm]
      have h4b : (s == 4) = false := beq_eq_false_iff_ne.2 h4
      have h0 := hSt.leaf (by have := hSa.hi; omega)
      have ho0 : outs = [] := List.length_eq_zero_iff.1 (by omega)
      subst ho0
      simp only [go_sem, encK_mk, encT_mk, h6b, h4b, h5b]
end Go.V
set_option linter.unusedSimpArgs false
set_option maxRecDepth 20000
namespace Go.V
open Go.Proofs
def ok7 := okF.gu (P := Try.prog) tab Try.func7 Try.ntmps7 (by conv => lhs; cbv) (by kernel_rfl)
theorem kindWidenS_ok (a b : Kd) (t : Tr) (ha : KB 2000000 a) (hb : KB 2000000 b) (ht : TB 2000000 t) : ∃ t' ok, KW a b t t' ok ∧ TB 2000 t' ∧ ACallsF Try.prog 7 [tK a, tK b, tT t] [] (tTB t' ok) := by
  have hCf := kindFitsS_ok a b ha hb
  by_cases h1 : (okK a && (okK b && kfits a b)) = true
  · have hCh := kindHasS_ok a t ha ht
    by_cases h2 : (okK a && (okT t && has a t)) = true
    · have h1' := h1
      have h2' := h2
      simp only [Bool.and_eq_true] at h1' h2'
      have hF := fits_true.1 h1'.2.2
      have hH := has_true.1 h2'.2.2
      obtain ⟨w, hW, hBw, hC⟩ := widenS_ok b a t 1 1 1 (okK_true.1 h1'.1).1 (okK_true.1 h1'.2.1).1 (okT_true.1 h2'.2.1).1 hF hH ((okK_KB h1'.1).le (by omega)) ((okK_KB h1'.2.1).le (by omega)) ((okT_TB h2'.2.1).le (by omega))
      have hCo := treeOkS_ok w (hBw.le (by omega))
      cases hok : okT w with
      | true =>
        refine ⟨w, true, .inl ⟨w, h1'.1, h1'.2.1, hF, h2'.2.1, hH, hW, .inl ⟨hok, rfl, rfl⟩⟩, hBw, ACallsF.intro ok7 follows fun X c0 => ?_⟩
        simp only [go_sem, List.length_map, encK_len, takeK, encT_len, takeT, Nat.le_refl]
        refine callC hCf rfl rfl (by simp [closedA, closedP, closedC]) rfl ?_
        simp only [go_sem, h1, List.length_map, encK_len, takeK, encT_len, takeT, Nat.le_refl]
        refine callC hCh rfl rfl (by simp [closedA, closedP, closedC]) rfl ?_
        simp only [go_sem, h2, List.length_map, encK_len, takeK, encT_len, takeT, Nat.le_refl]
        refine callC hC rfl rfl (by simp [closedA, closedP, closedC]) (closed_map _) ?_
        simp only [go_sem, List.length_map, encT_len, takeT, Nat.le_refl]
        refine callC hCo rfl rfl (by simp [closedA, closedP, closedC]) rfl ?_
        simp only [go_sem, hok, List.length_map, encT_len, takeT, Nat.le_refl]
      | false =>
        refine ⟨z0T, false, .inl ⟨w, h1'.1, h1'.2.1, hF, h2'.2.1, hH, hW, .inr ⟨hok, rfl, rfl⟩⟩, z0T_TB, ACallsF.intro ok7 follows fun X c0 => ?_⟩
        simp only [go_sem, List.length_map, encK_len, takeK, encT_len, takeT, Nat.le_refl]
        refine callC hCf rfl rfl (by simp [closedA, closedP, closedC]) rfl ?_
        simp only [go_sem, h1, List.length_map, encK_len, takeK, encT_len, takeT, Nat.le_refl]
        refine callC hCh rfl rfl (by simp [closedA, closedP, closedC]) rfl ?_
        simp only [go_sem, h2, List.length_map, encK_len, takeK, encT_len, takeT, Nat.le_refl]
        refine callC hC rfl rfl (by simp [closedA, closedP, closedC]) (closed_map _) ?_
        simp only [go_sem, List.length_map, encT_len, takeT, Nat.le_refl]
        refine callC hCo rfl rfl (by simp [closedA, closedP, closedC]) rfl ?_
        simp only [go_sem, hok, encT_mk]
    · refine ⟨z0T, false, .inr ⟨fun h => h2 ?_, rfl, rfl⟩, z0T_TB, ACallsF.intro ok7 follows fun X c0 => ?_⟩
      · simp only [h.1, h.2.2.2.1, has_true.2 h.2.2.2.2, Bool.and_self]
      have h2 : (okK a && (okT t && has a t)) = false := by simpa using h2
      simp only [go_sem, List.length_map, encK_len, takeK, encT_len, takeT, Nat.le_refl]
      refine callC hCf rfl rfl (by simp [closedA, closedP, closedC]) rfl ?_
      simp only [go_sem, h1, List.length_map, encK_len, takeK, encT_len, takeT, Nat.le_refl]
      refine callC hCh rfl rfl (by simp [closedA, closedP, closedC]) rfl ?_
      simp only [go_sem, h2, encT_mk]
  · refine ⟨z0T, false, .inr ⟨fun h => h1 ?_, rfl, rfl⟩, z0T_TB, ACallsF.intro ok7 follows fun X c0 => ?_⟩
    · simp only [h.1, h.2.1, fits_true.2 h.2.2.1, Bool.and_self]
    have h1 : (okK a && (okK b && kfits a b)) = false := by simpa using h1
    simp only [go_sem, List.length_map, encK_len, takeK, encT_len, takeT, Nat.le_refl]
    refine callC hCf rfl rfl (by simp [closedA, closedP, closedC]) rfl ?_
    simp only [go_sem, h1, encT_mk]

theorem fits_refl : ∀ (a : Kd) (d : Nat), KOk d a → Fits a a := by
  intro a
  induction a using Kd.ind with
  | _ s ns ks ih =>
    intro d hO
    obtain ⟨_, hS, hK⟩ := hO.inv
    by_cases h46 : s = 4 ∨ s = 6
    · obtain ⟨k, hk⟩ := one_at hS h46
      have hmk := List.mem_of_getElem? hk
      have := ih k hmk _ (hK k hmk)
      rcases h46 with rfl | rfl
      · exact (Fits.l_iff hk hk).2 this
      · exact (Fits.mm_iff hk hk).2 this
    · by_cases h5 : s = 5
      · subst h5
        have l := hS.form rfl
        have hkid : ∀ (i : Nat) x k, ns[i]? = some x → ks[i]? = some k → kid ns ks x = some k := fun i x k hx hk => kid_at (fun j hj e => by have := rise_inj (rise_true.1 l.2) e hx; omega) hx hk
        refine .f _ _ _ _ (fun i x hx => kid_len (by omega) hx) (fun i x k k' hx hk hk' => ?_) fun i x k' hx hk hno => ?_
        · rw [hkid i x k hx hk] at hk'; cases hk'
          exact ih k (List.mem_of_getElem? hk) _ (hK k (List.mem_of_getElem? hk))
        · rw [hkid i x k' hx hk] at hno; cases hno
      · have := hS.lo
        have := hS.hi
        exact .leaf _ _ _ _ _ (by omega)
theorem wd_refl : ∀ (a : Kd) (t : Tr) (d : Nat), KOk d a → TW t → Has a t → Wd a a t t := by
  intro a
  induction a using Kd.ind with
  | _ s ns ks ih =>
    intro t d hO hT hH
    obtain ⟨ts, tn, tx, tns, tks⟩ := t
    obtain ⟨_, hS, hK⟩ := hO.inv
    obtain ⟨htsh, htk⟩ := hT.inv
    have hTs := tshape_sh htsh
    obtain ⟨hss, hnames, hkids⟩ := hH.inv
    subst hss
    by_cases h5 : s = 5
    · subst h5
      have hn := hnames rfl
      subst hn
      obtain ⟨rfl, rfl⟩ := hTs.inner (by omega)
      have l := hS.form rfl
      have lt := hTs.form rfl
      refine .f _ _ _ _ _ _ _ _ _ _ _ (by omega) (fun i j x o k k' u hx ho hj hk hk' hu => ?_) fun i x o hx ho hno => absurd hx (hno i)
      have := rise_inj (rise_true.1 l.2) hx hj
      subst this
      rw [hk] at hk'; rw [ho] at hu; cases hk'; cases hu
      exact ih k (List.mem_of_getElem? hk) o _ (hK k (List.mem_of_getElem? hk)) (htk o (List.mem_of_getElem? ho)) (hkids i o k ho (by rw [sel, if_pos rfl]; exact hk))
    · refine .c _ _ _ _ _ _ _ _ _ _ _ _ h5 (fun h => h) rfl fun i u o k k' hu ho hk hk' => ?_
      rw [hu] at ho; rw [hk] at hk'; cases ho; cases hk'
      exact ih k (List.mem_of_getElem? hk) u _ (hK k (List.mem_of_getElem? hk)) (htk u (List.mem_of_getElem? hu)) (hkids i u k hu (by rw [sel, if_neg h5]; exact hk))
theorem kw_one {a b : Kd} {t x y : Tr} {p q : Bool} (h1 : KW a b t x p) (h2 : KW a b t y q) : x = y ∧ p = q := by
  rcases h1 with ⟨w1, ha, hb, hF, hT, hH, hW1, r1⟩ | ⟨hn, rfl, rfl⟩
  · rcases h2 with ⟨w2, _, _, _, _, _, hW2, r2⟩ | ⟨hn, _⟩
    · have e := wd_one b a t w1 w2 _ _ (okK_true.1 ha).1 (okK_true.1 hb).1 (TOk.ts (okT_true.1 hT).1).1 hF hH hW1 hW2
      subst e
      rcases r1 with ⟨k1, rfl, rfl⟩ | ⟨k1, rfl, rfl⟩ <;> rcases r2 with ⟨k2, rfl, rfl⟩ | ⟨k2, rfl, rfl⟩
      · exact ⟨rfl, rfl⟩
      · rw [k1] at k2; cases k2
      · rw [k1] at k2; cases k2
      · exact ⟨rfl, rfl⟩
    · exact absurd ⟨ha, hb, hF, hT, hH⟩ hn
  · rcases h2 with ⟨w2, ha, hb, hF, hT, hH, _⟩ | ⟨_, rfl, rfl⟩
    · exact absurd ⟨ha, hb, hF, hT, hH⟩ hn
    · exact ⟨rfl, rfl⟩
end Go.V
set_option linter.unusedSimpArgs false
set_option maxRecDepth 20000
namespace Go.V
open Go.Proofs
theorem sclK (k : Kd) : ((encK k).map C.v).all scalarC = false := by rw [encK_eta]; rfl
theorem sclT (k : Tr) : ((encT k).map C.v).all scalarC = false := by rw [encT_eta]; rfl
attribute [go_sem] sclK sclT
theorem lendKdC {H : HMap} {ma1 ma2 va1 va2 na1 na2 : Nat} {wa1 wa2 : Bool} {y : Kd} (ha1 : H ma1 = some (.arr va1 wa1 1 9 (encS y.n))) (ha2 : H ma2 = some (.tree va2 wa2 3 38 (encKs y.k) none)) (ea1 : na1 = y.n.length) (ea2 : na2 = y.k.length) :
    lendTs H [tK y, tK y] [.pt (.agg [.v (.s (.int .i64 y.s)), .own ma1 va1 na1, .tr ma2 va2 na2]), tK y] = some ([tK y, tK y], kdL ma1 va1 ma2 va2 y, [ma1, ma2]) := by
  have hc := (closed_A [] H (tK y) (clKd y)).1
  simp only [lendTs, lendKd ha1 ha2 ea1 ea2, hc, List.append_nil]
theorem lendKd2 {H : HMap} {ma1 ma2 va1 va2 na1 na2 : Nat} {wa1 wa2 : Bool} {mb1 mb2 vb1 vb2 nb1 nb2 : Nat} {wb1 wb2 : Bool} {y : Kd} (ha1 : H ma1 = some (.arr va1 wa1 1 9 (encS y.n))) (ha2 : H ma2 = some (.tree va2 wa2 3 38 (encKs y.k) none)) (ea1 : na1 = y.n.length) (ea2 : na2 = y.k.length) (hb1 : H mb1 = some (.arr vb1 wb1 1 9 (encS y.n))) (hb2 : H mb2 = some (.tree vb2 wb2 3 38 (encKs y.k) none)) (eb1 : nb1 = y.n.length) (eb2 : nb2 = y.k.length) :
    lendTs H [tK y, tK y] [.pt (.agg [.v (.s (.int .i64 y.s)), .own ma1 va1 na1, .tr ma2 va2 na2]), .pt (.agg [.v (.s (.int .i64 y.s)), .own mb1 vb1 nb1, .tr mb2 vb2 nb2])] = some ([tK y, tK y], kdL ma1 va1 ma2 va2 y ++ kdL mb1 vb1 mb2 vb2 y, [ma1, ma2, mb1, mb2]) := by
  simp only [lendTs, lendKd ha1 ha2 ea1 ea2, lendKd hb1 hb2 eb1 eb2, List.append_nil, List.cons_append, List.nil_append]
/-- A marked one, lent beside a number. -/
theorem lendKdT {H : HMap} {m1 m2 v1 v2 : Nat} {w1 w2 : Bool} {k : Nat} {z : Int} {y : Kd} (h1 : H m1 = some (.arr v1 w1 1 9 (encS (topK k y).n))) (h2 : H m2 = some (.tree v2 w2 3 38 (encKs (topK k y).k) none)) :
    lendTs H [tK (topK k y), .i z] [.pt (.agg [.v (.s (.int .i64 y.s)), .own m1 v1 y.n.length, .tr m2 v2 y.k.length]), .i z] = some ([tK (topK k y), .i z], kdL m1 v1 m2 v2 (topK k y), [m1, m2]) := by
  have hc := (closed_A [] H (.i z) rfl).1
  have h3 := lendKd h1 h2 (n1 := y.n.length) (n2 := y.k.length) (by rw [topK_n, marks_len]) (by rw [topK_k, mkKs_len])
  have e : (topK k y).s = y.s := by cases y; rfl
  rw [e] at h3
  simp only [lendTs, h3, hc, List.append_nil]
theorem lendTrC {H : HMap} {ma1 ma2 va1 va2 na1 na2 : Nat} {wa1 wa2 : Bool} {y : Tr} (ha1 : H ma1 = some (.arr va1 wa1 1 9 (encS y.n))) (ha2 : H ma2 = some (.tree va2 wa2 5 33 (encTs y.k) none)) (ea1 : na1 = y.n.length) (ea2 : na2 = y.k.length) :
    lendTs H [tT y, tT y] [.pt (.agg [.v (.s (.int .i64 y.s)), .v (.s (.int .i64 y.m)), .v (.s (.string y.x)), .own ma1 va1 na1, .tr ma2 va2 na2]), tT y] = some ([tT y, tT y], trL ma1 va1 ma2 va2 y, [ma1, ma2]) := by
  have hc := (closed_A [] H (tT y) (clTr y)).1
  simp only [lendTs, lendTr ha1 ha2 ea1 ea2, hc, List.append_nil]
theorem lendTr2 {H : HMap} {ma1 ma2 va1 va2 na1 na2 : Nat} {wa1 wa2 : Bool} {mb1 mb2 vb1 vb2 nb1 nb2 : Nat} {wb1 wb2 : Bool} {y : Tr} (ha1 : H ma1 = some (.arr va1 wa1 1 9 (encS y.n))) (ha2 : H ma2 = some (.tree va2 wa2 5 33 (encTs y.k) none)) (ea1 : na1 = y.n.length) (ea2 : na2 = y.k.length) (hb1 : H mb1 = some (.arr vb1 wb1 1 9 (encS y.n))) (hb2 : H mb2 = some (.tree vb2 wb2 5 33 (encTs y.k) none)) (eb1 : nb1 = y.n.length) (eb2 : nb2 = y.k.length) :
    lendTs H [tT y, tT y] [.pt (.agg [.v (.s (.int .i64 y.s)), .v (.s (.int .i64 y.m)), .v (.s (.string y.x)), .own ma1 va1 na1, .tr ma2 va2 na2]), .pt (.agg [.v (.s (.int .i64 y.s)), .v (.s (.int .i64 y.m)), .v (.s (.string y.x)), .own mb1 vb1 nb1, .tr mb2 vb2 nb2])] = some ([tT y, tT y], trL ma1 va1 ma2 va2 y ++ trL mb1 vb1 mb2 vb2 y, [ma1, ma2, mb1, mb2]) := by
  simp only [lendTs, lendTr ha1 ha2 ea1 ea2, lendTr hb1 hb2 eb1 eb2, List.append_nil, List.cons_append, List.nil_append]
/-- A marked one, lent beside a number. -/
theorem lendTrT {H : HMap} {m1 m2 v1 v2 : Nat} {w1 w2 : Bool} {k : Nat} {z : Int} {y : Tr} (h1 : H m1 = some (.arr v1 w1 1 9 (encS (topT k y).n))) (h2 : H m2 = some (.tree v2 w2 5 33 (encTs (topT k y).k) none)) :
    lendTs H [tT (topT k y), .i z] [.pt (.agg [.v (.s (.int .i64 y.s)), .v (.s (.int .i64 y.m)), .v (.s (.string y.x)), .own m1 v1 y.n.length, .tr m2 v2 y.k.length]), .i z] = some ([tT (topT k y), .i z], trL m1 v1 m2 v2 (topT k y), [m1, m2]) := by
  have hc := (closed_A [] H (.i z) rfl).1
  have h3 := lendTr h1 h2 (n1 := y.n.length) (n2 := y.k.length) (by rw [topT_n, marks_len]) (by rw [topT_k, mkTs_len])
  have e : (topT k y).s = y.s := by cases y; rfl
  have e' : (topT k y).m = y.m := by cases y; rfl
  have e'' : (topT k y).x = y.x := by cases y; rfl
  rw [e, e', e''] at h3
  simp only [lendTs, h3, hc, List.append_nil]
theorem lendAll3_KKT {H : HMap} {ma1 ma2 va1 va2 na1 na2 : Nat} {wa1 wa2 : Bool} {ya : Kd} (ha1 : H ma1 = some (.arr va1 wa1 1 9 (encS ya.n))) (ha2 : H ma2 = some (.tree va2 wa2 3 38 (encKs ya.k) none)) (ea1 : na1 = ya.n.length) (ea2 : na2 = ya.k.length) {mb1 mb2 vb1 vb2 nb1 nb2 : Nat} {wb1 wb2 : Bool} {yb : Kd} (hb1 : H mb1 = some (.arr vb1 wb1 1 9 (encS yb.n))) (hb2 : H mb2 = some (.tree vb2 wb2 3 38 (encKs yb.k) none)) (eb1 : nb1 = yb.n.length) (eb2 : nb2 = yb.k.length) {mc1 mc2 vc1 vc2 nc1 nc2 : Nat} {wc1 wc2 : Bool} {yc : Tr} (hc1 : H mc1 = some (.arr vc1 wc1 1 9 (encS yc.n))) (hc2 : H mc2 = some (.tree vc2 wc2 5 33 (encTs yc.k) none)) (ec1 : nc1 = yc.n.length) (ec2 : nc2 = yc.k.length) :
    lendTs H [tK ya, tK yb, tT yc] [.pt (.agg [.v (.s (.int .i64 ya.s)), .own ma1 va1 na1, .tr ma2 va2 na2]), .pt (.agg [.v (.s (.int .i64 yb.s)), .own mb1 vb1 nb1, .tr mb2 vb2 nb2]), .pt (.agg [.v (.s (.int .i64 yc.s)), .v (.s (.int .i64 yc.m)), .v (.s (.string yc.x)), .own mc1 vc1 nc1, .tr mc2 vc2 nc2])] = some ([tK ya, tK yb, tT yc], kdL ma1 va1 ma2 va2 ya ++ kdL mb1 vb1 mb2 vb2 yb ++ trL mc1 vc1 mc2 vc2 yc, [ma1, ma2, mb1, mb2, mc1, mc2]) := by
  simp only [lendTs, lendKd ha1 ha2 ea1 ea2, lendKd hb1 hb2 eb1 eb2, lendTr hc1 hc2 ec1 ec2, List.append_nil, List.cons_append, List.nil_append, List.append_assoc]
theorem lendAll2_KK {H : HMap} {ma1 ma2 va1 va2 na1 na2 : Nat} {wa1 wa2 : Bool} {ya : Kd} (ha1 : H ma1 = some (.arr va1 wa1 1 9 (encS ya.n))) (ha2 : H ma2 = some (.tree va2 wa2 3 38 (encKs ya.k) none)) (ea1 : na1 = ya.n.length) (ea2 : na2 = ya.k.length) {mb1 mb2 vb1 vb2 nb1 nb2 : Nat} {wb1 wb2 : Bool} {yb : Kd} (hb1 : H mb1 = some (.arr vb1 wb1 1 9 (encS yb.n))) (hb2 : H mb2 = some (.tree vb2 wb2 3 38 (encKs yb.k) none)) (eb1 : nb1 = yb.n.length) (eb2 : nb2 = yb.k.length) :
    lendTs H [tK ya, tK yb] [.pt (.agg [.v (.s (.int .i64 ya.s)), .own ma1 va1 na1, .tr ma2 va2 na2]), .pt (.agg [.v (.s (.int .i64 yb.s)), .own mb1 vb1 nb1, .tr mb2 vb2 nb2])] = some ([tK ya, tK yb], kdL ma1 va1 ma2 va2 ya ++ kdL mb1 vb1 mb2 vb2 yb, [ma1, ma2, mb1, mb2]) := by
  simp only [lendTs, lendKd ha1 ha2 ea1 ea2, lendKd hb1 hb2 eb1 eb2, List.append_nil, List.cons_append, List.nil_append, List.append_assoc]
/-- A tree that KindWiden gives is small. -/
theorem mT_parts : ∀ y : Tr, TB 1000 y → mT y ≤ 1003 * tparts y := by
  intro y
  induction y using Tr.ind with
  | _ s n x ns ks ih =>
    intro h
    obtain ⟨_, b1, _, _, b4⟩ := h.inv
    have key : ∀ zs : List Tr, (∀ z ∈ zs, z ∈ ks) → mTs zs ≤ 1003 * tpartsL zs := by
      intro zs
      induction zs with
      | nil => intro _; simp [mTs]
      | cons z zs ih2 =>
        intro hz
        have h1 := ih z (hz z (by simp)) (b4 z (hz z (by simp)))
        have h2 := ih2 fun y hy => hz y (by simp [hy])
        simp only [mTs, tpartsL]; omega
    have := key ks fun _ h => h
    simp only [mT, tparts]; omega
theorem topNT_mT (y : Tr) : topNT 1 y ≤ 1 + mT y := by cases y; simp only [topNT, mT]; show 1 + 1 * _ + _ ≤ _; simp only [Tr.mk_n, Tr.mk_k]; omega
theorem kw_small {a b : Kd} {t w : Tr} {ok : Bool} (h : KW a b t w ok) : topNT 1 w ≤ 1000000 := by
  have key : ∀ w, okT w = true → topNT 1 w ≤ 1000000 := fun w hw => by
    have h1 := mT_parts w (okT_TB hw)
    have h2 := (okT_true.1 hw).2
    have h3 := topNT_mT w
    omega
  have hz : topNT 1 z0T ≤ 1000000 := by decide
  rcases h with ⟨_, _, _, _, _, _, _, ⟨h, _, rfl⟩ | ⟨_, _, rfl⟩⟩ | ⟨_, _, rfl⟩
  · exact key _ h
  · exact hz
  · exact hz
/-- KindWiden of the program and of the reference: the law, walked. -/
def ok3 := okF.gu (P := Try.prog) tab Try.func3 Try.ntmps3 (by conv => lhs; cbv) (by kernel_rfl)
set_option maxRecDepth 20000 in
set_option maxHeartbeats 8000000 in
theorem lawKW_ok (a : Kd) (ha : KB 9223372036854775807 a) (b : Kd) (hb : KB 9223372036854775807 b) (t : Tr) (ht : TB 9223372036854775807 t) : ACallsF Try.prog 3 [tK a, tK b, tT t] [] (.b true) := by
  have hS0 := szK_ok a ha (1048576) ⟨by omega, by omega⟩
  by_cases hB0 : ((wK a : Nat) : Int) ≤ 1048576
  rotate_left
  · have e3 : sub1 (1048576) (wK a) = -1 := by rw [sub1, if_neg hB0]
    rw [e3] at hS0
    refine ACallsF.intro ok3 follows fun X c0 => ?_
    simp only [go_sem, List.length_map, encK_len, takeK, encT_len, takeT, Nat.le_refl]
    refine callC hS0 rfl rfl (by simp [closedA, closedP, closedC]) rfl ?_
    simp only [go_sem, Int.reduceLT]
  rw [show sub1 (1048576) (wK a) = 1048576 - ((wK a : Nat) : Int) by rw [sub1, if_pos hB0]] at hS0
  have nq0 : ¬ 1048576 - ((wK a : Nat) : Int) < 0 := by omega
  have hS1 := szK_ok b hb (1048576 - ((wK a : Nat) : Int)) ⟨by omega, by omega⟩
  by_cases hB1 : ((wK b : Nat) : Int) ≤ 1048576 - ((wK a : Nat) : Int)
  rotate_left
  · have e3 : sub1 (1048576 - ((wK a : Nat) : Int)) (wK b) = -1 := by rw [sub1, if_neg hB1]
    rw [e3] at hS1
    refine ACallsF.intro ok3 follows fun X c0 => ?_
    simp only [go_sem, List.length_map, encK_len, takeK, encT_len, takeT, Nat.le_refl]
    refine callC hS0 rfl rfl (by simp [closedA, closedP, closedC]) rfl ?_
    simp only [go_sem, List.length_map, encK_len, takeK, encT_len, takeT, Nat.le_refl, nq0]
    refine callC hS1 rfl rfl (by simp [closedA, closedP, closedC]) rfl ?_
    simp only [go_sem, Int.reduceLT]
  rw [show sub1 (1048576 - ((wK a : Nat) : Int)) (wK b) = 1048576 - ((wK a : Nat) : Int) - ((wK b : Nat) : Int) by rw [sub1, if_pos hB1]] at hS1
  have nq1 : ¬ 1048576 - ((wK a : Nat) : Int) - ((wK b : Nat) : Int) < 0 := by omega
  have hS2 := szT_ok t ht (1048576 - ((wK a : Nat) : Int) - ((wK b : Nat) : Int)) ⟨by omega, by omega⟩
  by_cases hB2 : ((wT t : Nat) : Int) ≤ 1048576 - ((wK a : Nat) : Int) - ((wK b : Nat) : Int)
  rotate_left
  · have e3 : sub1 (1048576 - ((wK a : Nat) : Int) - ((wK b : Nat) : Int)) (wT t) = -1 := by rw [sub1, if_neg hB2]
    rw [e3] at hS2
    refine ACallsF.intro ok3 follows fun X c0 => ?_
    simp only [go_sem, List.length_map, encK_len, takeK, encT_len, takeT, Nat.le_refl]
    refine callC hS0 rfl rfl (by simp [closedA, closedP, closedC]) rfl ?_
    simp only [go_sem, List.length_map, encK_len, takeK, encT_len, takeT, Nat.le_refl, nq0]
    refine callC hS1 rfl rfl (by simp [closedA, closedP, closedC]) rfl ?_
    simp only [go_sem, List.length_map, encK_len, takeK, encT_len, takeT, Nat.le_refl, nq1]
    refine callC hS2 rfl rfl (by simp [closedA, closedP, closedC]) rfl ?_
    simp only [go_sem, Int.reduceLT]
  rw [show sub1 (1048576 - ((wK a : Nat) : Int) - ((wK b : Nat) : Int)) (wT t) = 1048576 - ((wK a : Nat) : Int) - ((wK b : Nat) : Int) - ((wT t : Nat) : Int) by rw [sub1, if_pos hB2]] at hS2
  have nq2 : ¬ 1048576 - ((wK a : Nat) : Int) - ((wK b : Nat) : Int) - ((wT t : Nat) : Int) < 0 := by omega
  have sa : KB 1048576 a := KB_of a 1048576 (by omega)
  have sb : KB 1048576 b := KB_of b 1048576 (by omega)
  have st : TB 1048576 t := TB_of t 1048576 (by omega)
  have ta := toK_ok a sa
  have qa := eqK_ok a (sa.le (by omega))
  have tb := toK_ok b sb
  have qb := eqK_ok b (sb.le (by omega))
  have tt := toT_ok t st
  have qt := eqT_ok t (st.le (by omega))
  obtain ⟨w, ok, hKW, hBw, hS⟩ := kindWidenS_ok a b t (sa.le (by omega)) (sb.le (by omega)) (st.le (by omega))
  obtain ⟨w', ok', hKW', _, hI⟩ := kindWidenO_ok a b t (sa.le (by omega)) (sb.le (by omega)) (st.le (by omega))
  obtain ⟨rfl, rfl⟩ := kw_one hKW' hKW
  have qw := eqT_ok w' (hBw.le (by omega))
  have hwN := kw_small hKW
  generalize w' = w at *
  generalize ok' = ok at *
  have l0 := topNK_le (1) a
  have m0 := topNK_ge (1) a
  have l1 := topNK_le (topNK (1) a) b
  have m1 := topNK_ge (topNK (1) a) b
  have l2 := topNT_le (topNK (topNK (1) a) b) t
  have m2 := topNT_ge (topNK (topNK (1) a) b) t
  have nk : ¬ ((topNT (topNK (topNK (1) a) b) t : Nat) : Int) < 0 := by omega
  have ng : ¬ ((topNT 1 w : Nat) : Int) < 0 := by omega
  have nm : (((topNT 1 w : Nat) : Int) != ((topNT 1 w : Nat) : Int)) = false := by simp
  have hw1 := topNT_ge 1 w
  have nb : (!(ok == ok)) = false := by simp
  refine ACallsF.intro ok3 follows fun X c0 => ?_
  simp only [go_sem, List.length_map, encK_len, takeK, encT_len, takeT, Nat.le_refl]
  refine callC hS0 rfl rfl (by simp [closedA, closedP, closedC]) rfl ?_
  simp only [go_sem, nq0, List.length_map, encK_len, takeK, encT_len, takeT, Nat.le_refl]
  refine callC hS1 rfl rfl (by simp [closedA, closedP, closedC]) rfl ?_
  simp only [go_sem, nq1, List.length_map, encK_len, takeK, encT_len, takeT, Nat.le_refl]
  refine callC hS2 rfl rfl (by simp [closedA, closedP, closedC]) rfl ?_
  simp only [go_sem, nq2, List.length_map, encK_len, takeK, encT_len, takeT, Nat.le_refl]
  refine callKd (m1 := 3001) (m2 := 3002) (ws := []) (ns := []) (ta 3001 3002) (by decide) (by decide) rfl (lendC1 (clKd a)) (by simp [clKd]) ⟨?_, ?_⟩
  · simp only [go_sem]
  simp only [go_sem, List.length_map, encK_len, takeK, encT_len, takeT, Nat.le_refl]
  refine callKd (m1 := 3003) (m2 := 3004) (ws := []) (ns := []) (tb 3003 3004) (by decide) (by decide) rfl (lendC1 (clKd b)) (by simp [clKd]) ⟨?_, ?_⟩
  · simp only [go_sem]
  simp only [go_sem, List.length_map, encK_len, takeK, encT_len, takeT, Nat.le_refl]
  refine callTr (m1 := 3005) (m2 := 3006) (ws := []) (ns := []) (tt 3005 3006) (by decide) (by decide) rfl (lendC1 (clTr t)) (by simp [clTr]) ⟨?_, ?_⟩
  · simp only [go_sem]
  simp only [go_sem, List.length_map, encK_len, takeK, encT_len, takeT, Nat.le_refl]
  refine callL (ws := kdL 3001 _ 3002 _ a ++ kdL 3003 _ 3004 _ b ++ trL 3005 _ 3006 _ t) (ns := [3001, 3002, 3003, 3004, 3005, 3006]) hS rfl (lendAll3_KKT rfl rfl rfl rfl rfl rfl rfl rfl rfl rfl rfl rfl) (by simp [clKd, clTr]) (by simp [closedT, closedP, closedC]) ⟨?_, ?_⟩
  · simp only [go_sem]
  simp only [go_sem, scalarT, scalarP, scalarC, List.all_cons, Bool.false_and, List.length_map, encK_len, takeK, encT_len, takeT, Nat.le_refl]
  refine callKd (m1 := 3101) (m2 := 3102) (ws := []) (ns := []) (ta 3101 3102) (by decide) (by decide) rfl (lendC1 (clKd a)) (by simp [clKd]) ⟨?_, ?_⟩
  · simp only [go_sem]
  simp only [go_sem, List.length_map, encK_len, takeK, encT_len, takeT, Nat.le_refl]
  refine callKd (m1 := 3103) (m2 := 3104) (ws := []) (ns := []) (tb 3103 3104) (by decide) (by decide) rfl (lendC1 (clKd b)) (by simp [clKd]) ⟨?_, ?_⟩
  · simp only [go_sem]
  simp only [go_sem, List.length_map, encK_len, takeK, encT_len, takeT, Nat.le_refl]
  refine callTr (m1 := 3105) (m2 := 3106) (ws := []) (ns := []) (tt 3105 3106) (by decide) (by decide) rfl (lendC1 (clTr t)) (by simp [clTr]) ⟨?_, ?_⟩
  · simp only [go_sem]
  simp only [go_sem, List.length_map, encK_len, takeK, encT_len, takeT, Nat.le_refl]
  refine callTrb (m1 := 3201) (m2 := 3202) (ws := kdL 3101 _ 3102 _ a ++ kdL 3103 _ 3104 _ b ++ trL 3105 _ 3106 _ t) (ns := [3101, 3102, 3103, 3104, 3105, 3106]) (hI 3201 3202) (by decide) (by decide) rfl (lendAll3_KKT rfl rfl rfl rfl rfl rfl rfl rfl rfl rfl rfl rfl) (by simp [clKd, clTr]) ⟨?_, ?_⟩
  · simp only [go_sem]
  simp only [go_sem, List.length_map, encK_len, takeK, encT_len, takeT, Nat.le_refl]
  refine callL (ws := trL 3201 _ 3202 _ w) (ns := [3201, 3202]) qw rfl (lendTrC rfl rfl rfl rfl) (by simp [clKd, clTr]) rfl ⟨?_, ?_⟩
  · simp only [go_sem, scalarT, scalarP, scalarC]
  simp only [go_sem, scalarT, scalarP, scalarC, nb, List.length_map, encK_len, takeK, encT_len, takeT, Nat.le_refl]
  refine callKd (m1 := 3301) (m2 := 3302) (ws := []) (ns := []) (ta 3301 3302) (by decide) (by decide) rfl (lendC1 (clKd a)) (by simp [clKd]) ⟨?_, ?_⟩
  · simp only [go_sem]
  simp only [go_sem, List.length_map, encK_len, takeK, encT_len, takeT, Nat.le_refl]
  refine callL (ws := kdL 3101 _ 3102 _ a ++ kdL 3301 _ 3302 _ a) (ns := [3101, 3102, 3301, 3302]) qa rfl (lendKd2 rfl rfl rfl rfl rfl rfl rfl rfl) (by simp [clKd, clTr]) rfl ⟨?_, ?_⟩
  · simp only [go_sem, scalarT, scalarP, scalarC]
  simp only [go_sem, scalarT, scalarP, scalarC, List.length_map, encK_len, takeK, encT_len, takeT, Nat.le_refl]
  refine callKd (m1 := 3303) (m2 := 3304) (ws := []) (ns := []) (tb 3303 3304) (by decide) (by decide) rfl (lendC1 (clKd b)) (by simp [clKd]) ⟨?_, ?_⟩
  · simp only [go_sem]
  simp only [go_sem, List.length_map, encK_len, takeK, encT_len, takeT, Nat.le_refl]
  refine callL (ws := kdL 3103 _ 3104 _ b ++ kdL 3303 _ 3304 _ b) (ns := [3103, 3104, 3303, 3304]) qb rfl (lendKd2 rfl rfl rfl rfl rfl rfl rfl rfl) (by simp [clKd, clTr]) rfl ⟨?_, ?_⟩
  · simp only [go_sem, scalarT, scalarP, scalarC]
  simp only [go_sem, scalarT, scalarP, scalarC, List.length_map, encK_len, takeK, encT_len, takeT, Nat.le_refl]
  refine callTr (m1 := 3305) (m2 := 3306) (ws := []) (ns := []) (tt 3305 3306) (by decide) (by decide) rfl (lendC1 (clTr t)) (by simp [clTr]) ⟨?_, ?_⟩
  · simp only [go_sem]
  simp only [go_sem, List.length_map, encK_len, takeK, encT_len, takeT, Nat.le_refl]
  refine callL (ws := trL 3105 _ 3106 _ t ++ trL 3305 _ 3306 _ t) (ns := [3105, 3106, 3305, 3306]) qt rfl (lendTr2 rfl rfl rfl rfl rfl rfl rfl rfl) (by simp [clKd, clTr]) rfl ⟨?_, ?_⟩
  · simp only [go_sem, scalarT, scalarP, scalarC]
  simp only [go_sem, scalarT, scalarP, scalarC, List.length_map, encK_len, takeK, encT_len, takeT, Nat.le_refl]
  refine callMkK (m1 := 3101) (m2 := 3102) (markK_ok a (1) (by omega) (by omega) 3101 3102 _ _) rfl rfl rfl rfl (by decide) rfl rfl ⟨rfl, ?_⟩
  simp only [go_sem, nk, List.length_map, encK_len, takeK, encT_len, takeT, Nat.le_refl]
  refine callMkK (m1 := 3103) (m2 := 3104) (markK_ok b (topNK (1) a) (by omega) (by omega) 3103 3104 _ _) rfl rfl rfl rfl (by decide) rfl rfl ⟨rfl, ?_⟩
  simp only [go_sem, nk, List.length_map, encK_len, takeK, encT_len, takeT, Nat.le_refl]
  refine callMkT (m1 := 3105) (m2 := 3106) (markT_ok t (topNK (topNK (1) a) b) (by omega) (by omega) 3105 3106 _ _) rfl rfl rfl rfl (by decide) rfl rfl ⟨rfl, ?_⟩
  simp only [go_sem, nk, List.length_map, encK_len, takeK, encT_len, takeT, Nat.le_refl]
  refine callL (ws := trL 3201 _ 3202 _ w) (ns := [3201, 3202]) qw rfl (lendTrC rfl rfl rfl rfl) (by simp [clKd, clTr]) rfl ⟨?_, ?_⟩
  · simp only [go_sem, scalarT, scalarP, scalarC]
  simp only [go_sem, scalarT, scalarP, scalarC, nb, List.length_map, encK_len, takeK, encT_len, takeT, Nat.le_refl]
  refine callMkT (m1 := 3201) (m2 := 3202) (markT_ok w 1 (by omega) (by omega) 3201 3202 _ _) rfl rfl rfl rfl (by decide) rfl rfl ⟨rfl, ?_⟩
  simp only [go_sem]
  refine callL (ws := trL 3201 _ 3202 _ (topT 1 w)) (ns := [3201, 3202]) (heldT_ok w 1 (by omega) (by omega)) rfl (lendTrT rfl rfl) (by simp [closedA, closedP, closedC]) rfl ⟨?_, ?_⟩
  · simp only [go_sem, scalarT, scalarP, scalarC]
  simp only [go_sem, scalarT, scalarP, scalarC, ng, nm, List.length_map, encK_len, takeK, encT_len, takeT, Nat.le_refl]
  refine callKd (m1 := 3401) (m2 := 3402) (ws := []) (ns := []) (ta 3401 3402) (by decide) (by decide) rfl (lendC1 (clKd a)) (by simp [clKd]) ⟨?_, ?_⟩
  · simp only [go_sem]
  simp only [go_sem, List.length_map, encK_len, takeK, encT_len, takeT, Nat.le_refl]
  refine callKd (m1 := 3403) (m2 := 3404) (ws := []) (ns := []) (tb 3403 3404) (by decide) (by decide) rfl (lendC1 (clKd b)) (by simp [clKd]) ⟨?_, ?_⟩
  · simp only [go_sem]
  simp only [go_sem, List.length_map, encK_len, takeK, encT_len, takeT, Nat.le_refl]
  refine callTr (m1 := 3405) (m2 := 3406) (ws := []) (ns := []) (tt 3405 3406) (by decide) (by decide) rfl (lendC1 (clTr t)) (by simp [clTr]) ⟨?_, ?_⟩
  · simp only [go_sem]
  simp only [go_sem, List.length_map, encK_len, takeK, encT_len, takeT, Nat.le_refl]
  refine callTrb (m1 := 3501) (m2 := 3502) (ws := kdL 3401 _ 3402 _ a ++ kdL 3403 _ 3404 _ b ++ trL 3405 _ 3406 _ t) (ns := [3401, 3402, 3403, 3404, 3405, 3406]) (hI 3501 3502) (by decide) (by decide) rfl (lendAll3_KKT rfl rfl rfl rfl rfl rfl rfl rfl rfl rfl rfl rfl) (by simp [clKd, clTr]) ⟨?_, ?_⟩
  · simp only [go_sem]
  simp only [go_sem, List.length_map, encK_len, takeK, encT_len, takeT, Nat.le_refl]
  refine callL (ws := trL 3501 _ 3502 _ w) (ns := [3501, 3502]) qw rfl (lendTrC rfl rfl rfl rfl) (by simp [clKd, clTr]) rfl ⟨?_, ?_⟩
  · simp only [go_sem, scalarT, scalarP, scalarC]
  simp only [go_sem, scalarT, scalarP, scalarC, nb, List.length_map, encK_len, takeK, encT_len, takeT, Nat.le_refl]
  refine callL (ws := trL 3201 _ 3202 _ (topT 1 w)) (ns := [3201, 3202]) (heldT_ok w 1 (by omega) (by omega)) rfl (lendTrT rfl rfl) (by simp [closedA, closedP, closedC]) rfl ⟨?_, ?_⟩
  · simp only [go_sem, scalarT, scalarP, scalarC]
  simp only [go_sem, scalarT, scalarP, scalarC, ng, nm, List.length_map, encK_len, takeK, encT_len, takeT, Nat.le_refl]
end Go.V

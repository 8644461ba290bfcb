/- The program's StoreOpen returns what the reference's returns, for every disk: no condition but the ones of the given statement. -/
import Derived.Test.YtmcekakcogcckaaGreatDoorMV2
import Derived.Test.YtmcekakcogcckaaGreatDoorMK1
import Derived.Test.YtmcekakcogcckaaGreatDoorProg
set_option linter.unusedVariables false
set_option maxRecDepth 20000
namespace Go.V
open Go.Proofs
theorem follows : Tryz.prog.follows .mixedOrders = true := by kernel_rfl
def tabS : {T : Tab // mkTab Tryz.prog 20 0 246 = T} := by
  apply Subtype.mk
  conv => lhs; cbv
def tab : Tab := tabS.1
def ACode.sub : ACode → List Nat → ACode
  | a, [] => a
  | .seq a b, k :: p => match k with
    | 0 => a.sub p
    | _ => b.sub p
  | .cond _ a b, k :: p => match k with
    | 0 => a.sub p
    | _ => b.sub p
  | .block _ a, _ :: p => a.sub p
  | .loop a, _ :: p => a.sub p
  | _, _ => .skip
/-- A part of a function's code. -/
def okF.sub {P : Program} {f n : Nat} {ac : ACode} {rs : List ARes} (_ : okF P f n ac rs) (p : List Nat) : ACode := ac.sub p
def okF.res {P : Program} {f n : Nat} {ac : ACode} {rs : List ARes} (_ : okF P f n ac rs) : List ARes := rs
section
variable {w w' : World} {imm imm' : Imm} {H H' : HMap} {L L' : Locs} {U U' : Nat → Prop}
theorem PRep.scalar {x : Value} {p : P1} (h : PRep w imm H L U x p) (hc : scalarP p = true) : PRep w' imm' H' L' U' x p := by
  cases p with
  | one c => exact CRep.scalar (show CRep w imm H L U x c from h) hc
  | agg cs =>
    obtain ⟨xs, hx, h⟩ := h
    exact ⟨xs, hx, h.1, fun k x y hx hy => (h.2 k x y hx hy).scalar (List.all_eq_true.1 hc y (List.mem_of_getElem? hy))⟩
end
theorem mkArr (l : List UInt8) : Array.mk l = l.toArray := rfl
attribute [go_sem] mkArr
end Go.V
set_option linter.unusedSimpArgs false
set_option maxRecDepth 20000
namespace Go.V
open Go.Proofs
def encS (ss : List ByteArray) : List (List V) := ss.map fun s => [.s (.string s)]
theorem encS_at {ss : List ByteArray} {i : Nat} {s : ByteArray} (h : ss[i]? = some s) : (encS ss)[i]? = some [.s (.string s)] := by simp [encS, h]
theorem encS_len (ss : List ByteArray) : (encS ss).length = ss.length := by simp [encS]
theorem str_beq (a b : ByteArray) : (a.toList == b.toList) = decide (a = b) := by
  rw [ByteArray.toList_eq, ByteArray.toList_eq]
  by_cases h : a = b
  · subst h; simp
  · have : a.data.toList ≠ b.data.toList := fun e => h (by
      cases a; cases b; simp only [ByteArray.mk.injEq]; exact Array.ext' e)
    rw [decide_eq_false h]; exact beq_eq_false_iff_ne.2 this
def ok61 := okF.gu (P := Tryz.prog) tab Tryz.func61 Tryz.ntmps61 (by conv => lhs; cbv) (by kernel_rfl)
theorem l6In_ok (n lo hi : Int) : ACallsF Tryz.prog 61 [.i n, .i lo, .i hi] [] (.b (decide (lo ≤ n) && decide (n ≤ hi))) := by
  refine ACallsF.intro ok61 follows fun X c0 => ?_
  by_cases h1 : lo ≤ n <;> by_cases h2 : n ≤ hi <;> simp only [go_sem, h1, h2, ge_iff_le]
def lower (b : UInt8) : Bool := decide (97 ≤ b.toNat) && decide (b.toNat ≤ 122)
def digit (b : UInt8) : Bool := decide (48 ≤ b.toNat) && decide (b.toNat ≤ 57)
def nameOk (s : ByteArray) : Bool := decide (1 ≤ s.size) && decide (s.size ≤ 8) && (s.data.toList.head?.any lower) && s.data.toList.all fun b => lower b || digit b
def ok60 := okF.gu (P := Tryz.prog) tab Tryz.func60 Tryz.ntmps60 (by conv => lhs; cbv) (by kernel_rfl)
def inv60 (s : ByteArray) (i : Nat) (σ : St) : Prop := (∀ j b, j < i → s.data[j]? = some b → (lower b || digit b) = true) ∧ σ.t 0 = .s (.string s) ∧ σ.t 3 = .i i
theorem size_data (s : ByteArray) : s.size = s.data.size := rfl
theorem nameOk_ok (s : ByteArray) (hs : s.size ≤ 4611686018427387904) : ACallsF Tryz.prog 60 [.s (.string s)] [] (.b (nameOk s)) := by
  refine ACallsF.intro ok60 follows fun X c0 => ?_
  simp only [go_sem]
  refine callC (l6In_ok _ _ _) rfl rfl rfl rfl ?_
  by_cases h1 : (1 : Int) ≤ s.size
  · by_cases h2 : (s.size : Int) ≤ 8
    · obtain ⟨b0, hb0⟩ : ∃ b, s.data[0]? = some b := ⟨_, Array.getElem?_eq_getElem (by rw [← size_data]; omega)⟩
      have hhead : s.data.toList.head? = some b0 := by rw [List.head?_eq_getElem?, Array.getElem?_toList]; exact hb0
      by_cases h3 : (b0.toNat : Int) < 97
      · have hm : nameOk s = false := by
          have : lower b0 = false := by simp only [lower, Bool.and_eq_false_imp, decide_eq_true_eq, decide_eq_false_iff_not]; omega
          simp [nameOk, hhead, this]
        simp only [go_sem, h1, h2, hb0, h3, hm, Int.toNat_zero, Int.le_refl]
      · by_cases h4 : (b0.toNat : Int) > 122
        · have hm : nameOk s = false := by
            have : lower b0 = false := by simp only [lower, Bool.and_eq_false_imp, decide_eq_true_eq, decide_eq_false_iff_not]; omega
            simp [nameOk, hhead, this]
          simp only [go_sem, h1, h2, hb0, h3, h4, hm, Int.toNat_zero, Int.le_refl]
        · simp only [go_sem, h1, h2, hb0, h3, h4, Int.toNat_zero, Int.le_refl]
          have hlow : lower b0 = true := by simp only [lower, Bool.and_eq_true, decide_eq_true_eq]; omega
          refine AW.upto s.size (inv60 s) ⟨fun j _ hj => absurd hj (Nat.not_lt_zero j), rfl, rfl⟩ fun i t H c hi h => ?_
          obtain ⟨g0, e0, e3⟩ := h
          simp only [T.c, T.i, T.s] at e0 e3
          by_cases hlt : i < s.size
          · have g1 : (i : Int) < s.size := by omega
            have gz : (0 : Int) ≤ i := by omega
            have gw : IntKind.i64.wrap ((i : Int) + 1) = ((i + 1 : Nat) : Int) := wrap64 (x := (i : Int) + 1) ⟨by omega, by omega⟩
            obtain ⟨b, hb⟩ : ∃ b, s.data[i]? = some b := ⟨_, Array.getElem?_eq_getElem (by rw [← size_data]; omega)⟩
            have key : ∀ j b', j < i + 1 → (lower b || digit b) = true → s.data[j]? = some b' → (lower b' || digit b') = true := by
              intro j b' hj hl hj2
              rcases Nat.lt_succ_iff_lt_or_eq.1 hj with hj | rfl
              · exact g0 j b' hj hj2
              · rw [hb] at hj2; cases hj2; exact hl
            by_cases hl : (lower b || digit b) = true
            · have hl2 : (97 ≤ (b.toNat : Int) ∧ (b.toNat : Int) ≤ 122) ∨ (48 ≤ (b.toNat : Int) ∧ (b.toNat : Int) ≤ 57) := by
                simp only [lower, digit, Bool.or_eq_true, Bool.and_eq_true, decide_eq_true_eq] at hl; omega
              rcases hl2 with ⟨q1, q2⟩ | ⟨q3, q4⟩
              · simp only [go_sem, e0, e3, g1, gz, hb, Int.toNat_natCast, q1, q2, gw, ge_iff_le]
                exact ⟨hlt, fun j b' hj hj2 => key j b' hj hl hj2, e0, rfl⟩
              · have q1 : ¬ 97 ≤ (b.toNat : Int) := by omega
                simp only [go_sem, e0, e3, g1, gz, hb, Int.toNat_natCast, q1, q3, q4, gw, ge_iff_le]
                exact ⟨hlt, fun j b' hj hj2 => key j b' hj hl hj2, e0, rfl⟩
            · have hm : nameOk s = false := by
                have : (s.data.toList.all fun b => lower b || digit b) = false := by
                  rw [List.all_eq_false]
                  exact ⟨b, by rw [Array.mem_toList_iff]; exact Array.mem_of_getElem? hb, hl⟩
                simp [nameOk, this]
              have hl2 : (¬ 97 ≤ (b.toNat : Int) ∧ ¬ 48 ≤ (b.toNat : Int)) ∨ (¬ 97 ≤ (b.toNat : Int) ∧ 48 ≤ (b.toNat : Int) ∧ ¬ (b.toNat : Int) ≤ 57) ∨ (97 ≤ (b.toNat : Int) ∧ ¬ (b.toNat : Int) ≤ 122 ∧ 48 ≤ (b.toNat : Int) ∧ ¬ (b.toNat : Int) ≤ 57) := by
                simp only [lower, digit, Bool.or_eq_true, Bool.and_eq_true, decide_eq_true_eq] at hl; omega
              rcases hl2 with ⟨q1, q3⟩ | ⟨q1, q3, q4⟩ | ⟨q1, q2, q3, q4⟩
              · simp only [go_sem, e0, e3, g1, gz, hb, Int.toNat_natCast, q1, q3, hm, ge_iff_le]
              · simp only [go_sem, e0, e3, g1, gz, hb, Int.toNat_natCast, q1, q3, q4, hm, ge_iff_le]
              · simp only [go_sem, e0, e3, g1, gz, hb, Int.toNat_natCast, q1, q2, q3, q4, hm, ge_iff_le]
          · have g1 : ¬ (i : Int) < s.size := by omega
            have hm : nameOk s = true := by
              have : (s.data.toList.all fun b => lower b || digit b) = true := by
                rw [List.all_eq_true]
                intro b hb
                rw [Array.mem_toList_iff, Array.mem_iff_getElem?] at hb
                obtain ⟨j, hj⟩ := hb
                exact g0 j b (by have := (Array.getElem?_eq_some_iff.1 hj).1; rw [size_data] at hlt; omega) hj
              simp [nameOk, this, hhead, hlow]; omega
            simp only [go_sem, e0, e3, g1, hm]
    · have hm : nameOk s = false := by simp [nameOk]; omega
      simp only [go_sem, h1, h2, hm]
  · have hm : nameOk s = false := by simp [nameOk]; omega
    simp only [go_sem, h1, hm]
def ok48 := okF.gu (P := Tryz.prog) tab Tryz.func48 Tryz.ntmps48 (by conv => lhs; cbv) (by kernel_rfl)
theorem inRange_ok (n lo hi : Int) : ACallsF Tryz.prog 48 [.i n, .i lo, .i hi] [] (.b (decide (lo ≤ n) && decide (n ≤ hi))) := by
  refine ACallsF.intro ok48 follows fun X c0 => ?_
  by_cases h1 : lo ≤ n <;> by_cases h2 : n ≤ hi <;> simp only [go_sem, h1, h2]
def ok46 := okF.gu (P := Tryz.prog) tab Tryz.func46 Tryz.ntmps46 (by conv => lhs; cbv) (by kernel_rfl)
def inv46 (s : ByteArray) (i : Nat) (σ : St) : Prop := (∀ j b, j < i → s.data[j]? = some b → (lower b || digit b) = true ∧ (j = 0 → lower b = true)) ∧ σ.t 0 = .s (.string s) ∧ σ.t 6 = .i s.size ∧ σ.t 7 = .i i
theorem isName_ok (s : ByteArray) (hs : s.size ≤ 4611686018427387904) : ACallsF Tryz.prog 46 [.s (.string s)] [] (.b (nameOk s)) := by
  refine ACallsF.intro ok46 follows fun X c0 => ?_
  simp only [go_sem]
  refine AW.upto s.size (inv46 s) ⟨fun j _ hj => absurd hj (Nat.not_lt_zero j), rfl, rfl, rfl⟩ fun i t H c hi h => ?_
  obtain ⟨g0, e0, e6, e7⟩ := h
  simp only [T.c, T.i, T.s] at e0 e6 e7
  by_cases hlt : i < s.size
  · have g1 : (i : Int) < s.size := by omega
    have gz : (0 : Int) ≤ i := by omega
    have gw : IntKind.i64.wrap ((i : Int) + 1) = ((i + 1 : Nat) : Int) := wrap64 (x := (i : Int) + 1) ⟨by omega, by omega⟩
    obtain ⟨b, hb⟩ : ∃ b, s.data[i]? = some b := ⟨_, Array.getElem?_eq_getElem (by rw [← size_data]; omega)⟩
    have hbad : ¬ ((lower b || digit b) = true ∧ (i = 0 → lower b = true)) → nameOk s = false := by
      intro h
      by_cases hl : (lower b || digit b) = true
      · have hi0 : i = 0 := by
          by_cases h0 : i = 0
          · exact h0
          · exact absurd ⟨hl, fun e => absurd e h0⟩ h
        have hlow : lower b = false := by
          cases hlb : lower b with
          | false => rfl
          | true => exact absurd ⟨hl, fun _ => hlb⟩ h
        subst hi0
        have hhead : s.data.toList.head? = some b := by rw [List.head?_eq_getElem?, Array.getElem?_toList]; exact hb
        simp [nameOk, hhead, hlow]
      · have : (s.data.toList.all fun b => lower b || digit b) = false := by
          rw [List.all_eq_false]
          exact ⟨b, by rw [Array.mem_toList_iff]; exact Array.mem_of_getElem? hb, hl⟩
        simp [nameOk, this]
    have hgood : ((lower b || digit b) = true ∧ (i = 0 → lower b = true)) → ∀ j b', j < i + 1 → s.data[j]? = some b' → (lower b' || digit b') = true ∧ (j = 0 → lower b' = true) := by
      intro hl j b' hj hj2
      rcases Nat.lt_succ_iff_lt_or_eq.1 hj with hj | rfl
      · exact g0 j b' hj hj2
      · rw [hb] at hj2; cases hj2; exact hl
    have hlo : lower b = true ↔ (97 ≤ (b.toNat : Int) ∧ (b.toNat : Int) ≤ 122) := by simp only [lower, Bool.and_eq_true, decide_eq_true_eq]; omega
    have hdi : digit b = true ↔ (48 ≤ (b.toNat : Int) ∧ (b.toNat : Int) ≤ 57) := by simp only [digit, Bool.and_eq_true, decide_eq_true_eq]; omega
    rw [Bool.or_eq_true, hlo, hdi] at hgood hbad
    have hfin : (97 ≤ (b.toNat : Int) ∧ (b.toNat : Int) ≤ 122 ∨ 48 ≤ (b.toNat : Int) ∧ (b.toNat : Int) ≤ 57) ∧ (i = 0 → 97 ≤ (b.toNat : Int) ∧ (b.toNat : Int) ≤ 122) → ∀ t' H' c', t' 0 = t 0 → t' 6 = t 6 → t' 7 = .i (i + 1 : Nat) → i < s.size ∧ inv46 s (i + 1) ⟨t', H', c'⟩ := by
      intro hl t' H' c' r1 r2 r3
      exact ⟨hlt, hgood hl, r1.trans e0, r2.trans e6, r3⟩
    have hbad' : ¬ ((97 ≤ (b.toNat : Int) ∧ (b.toNat : Int) ≤ 122 ∨ 48 ≤ (b.toNat : Int) ∧ (b.toNat : Int) ≤ 57) ∧ (i = 0 → 97 ≤ (b.toNat : Int) ∧ (b.toNat : Int) ≤ 122)) → nameOk s = false := hbad
    clear hbad hgood hlo hdi
    rcases (by omega : (97 ≤ (b.toNat : Int) ∧ (b.toNat : Int) ≤ 122) ∨ (48 ≤ (b.toNat : Int) ∧ (b.toNat : Int) ≤ 57) ∨ (b.toNat : Int) < 48 ∨ (57 < (b.toNat : Int) ∧ (b.toNat : Int) < 97) ∨ 122 < (b.toNat : Int)) with ⟨c1, c2⟩ | ⟨c1, c2⟩ | c1 | ⟨c1, c2⟩ | c1
    · have k1 : (b.toNat : Int) ≥ 48 := by omega
      have k2 : ¬ (b.toNat : Int) ≤ 57 := by omega
      have k3 : ¬ (b.toNat : Int) < 97 := by omega
      have k4 : ¬ (b.toNat : Int) > 122 := by omega
      have hf := hfin ⟨.inl ⟨c1, c2⟩, fun _ => ⟨c1, c2⟩⟩
      clear hfin hbad'
      simp only [go_sem, e0, e6, e7, g1, gz, hb, Int.toNat_natCast, k1, k2, k3, k4, gw]
      exact hf _ _ _ rfl rfl rfl
    · have k1 : (b.toNat : Int) ≥ 48 := by omega
      have k3 : (b.toNat : Int) < 97 := by omega
      by_cases hi0 : i = 0
      · have k5 : ((i : Int) == 0) = true := beq_iff_eq.2 (by omega)
        have hm := hbad' fun h => by have := h.2 hi0; omega
        clear hfin hbad'
        simp only [go_sem, e0, e6, e7, g1, gz, hb, Int.toNat_natCast, k1, c2, k3, k5, hm]
      · have k5 : ((i : Int) == 0) = false := beq_eq_false_iff_ne.2 (by omega)
        have hf := hfin ⟨.inr ⟨c1, c2⟩, fun h => absurd h hi0⟩
        clear hfin hbad'
        simp only [go_sem, e0, e6, e7, g1, gz, hb, Int.toNat_natCast, k1, c2, k3, k5, gw]
        exact hf _ _ _ rfl rfl rfl
    · have k1 : ¬ (b.toNat : Int) ≥ 48 := by omega
      have k3 : (b.toNat : Int) < 97 := by omega
      have hm := hbad' fun h => by have := h.1; omega
      clear hfin hbad'
      simp only [go_sem, e0, e6, e7, g1, gz, hb, Int.toNat_natCast, k1, k3, hm]
    · have k1 : (b.toNat : Int) ≥ 48 := by omega
      have k2 : ¬ (b.toNat : Int) ≤ 57 := by omega
      have hm := hbad' fun h => by have := h.1; omega
      clear hfin hbad'
      simp only [go_sem, e0, e6, e7, g1, gz, hb, Int.toNat_natCast, k1, k2, c2, hm]
    · have k1 : (b.toNat : Int) ≥ 48 := by omega
      have k2 : ¬ (b.toNat : Int) ≤ 57 := by omega
      have k3 : ¬ (b.toNat : Int) < 97 := by omega
      have k4 : (b.toNat : Int) > 122 := by omega
      have hm := hbad' fun h => by have := h.1; omega
      clear hfin hbad'
      simp only [go_sem, e0, e6, e7, g1, gz, hb, Int.toNat_natCast, k1, k2, k3, k4, hm]
  · have g1 : ¬ (i : Int) < s.size := by omega
    have hall : (s.data.toList.all fun b => lower b || digit b) = true := by
      rw [List.all_eq_true]
      intro b hb
      rw [Array.mem_toList_iff, Array.mem_iff_getElem?] at hb
      obtain ⟨j, hj⟩ := hb
      exact (g0 j b (by have := (Array.getElem?_eq_some_iff.1 hj).1; rw [size_data] at hlt; omega) hj).1
    have hm : (decide ((1 : Int) ≤ s.size) && decide ((s.size : Int) ≤ 8)) = nameOk s := by
      by_cases h0 : s.size = 0
      · have h1 : ¬ (1 : Int) ≤ s.size := by omega
        have h2 : ¬ 1 ≤ s.size := by omega
        simp [nameOk, h0]
      · obtain ⟨b0, hb0⟩ : ∃ b, s.data[0]? = some b := ⟨_, Array.getElem?_eq_getElem (by rw [← size_data]; omega)⟩
        have hhead : s.data.toList.head? = some b0 := by rw [List.head?_eq_getElem?, Array.getElem?_toList]; exact hb0
        have hlow := (g0 0 b0 (by omega) hb0).2 rfl
        have e1 : decide ((1 : Int) ≤ s.size) = decide (1 ≤ s.size) := decide_eq_decide.2 (by omega)
        have e2 : decide ((s.size : Int) ≤ 8) = decide (s.size ≤ 8) := decide_eq_decide.2 (by omega)
        simp only [nameOk, hall, hhead, Option.any_some, hlow, e1, e2, Bool.and_true]
    simp only [go_sem, e0, e6, e7, g1]
    refine callC (inRange_ok _ _ _) rfl rfl rfl rfl ?_
    simp only [go_sem, hm]
end Go.V
set_option linter.unusedSimpArgs false
set_option maxRecDepth 20000
namespace Go.V
open Go.Proofs
def en {α : Type} (f : α → List V) (xs : List α) : List (List V) := xs.map f
section
variable {α : Type} (f : α → List V)
theorem en_len (xs : List α) : (en f xs).length = xs.length := by simp [en]
theorem en_at {xs : List α} {i : Nat} {x : α} (h : xs[i]? = some x) : (en f xs)[i]? = some (f x) := by simp [en, h]
theorem en_snoc (xs : List α) (x : α) : en f (xs ++ [x]) = en f xs ++ [f x] := by simp [en]
theorem en_app (xs ys : List α) : en f (xs ++ ys) = en f xs ++ en f ys := by simp [en]
theorem en_nil : en f [] = [] := rfl
theorem en_take (xs : List α) : (en f xs).take xs.length = en f xs := by rw [← en_len f xs, List.take_length]
theorem en_cut (xs : List α) (n : Nat) : (en f xs).take n = en f (xs.take n) := by simp [en, List.map_take]
theorem en_set (xs : List α) (i : Nat) (x : α) : (en f xs).set i (f x) = en f (xs.set i x) := by simp [en, List.map_set]
theorem en_rep (n : Nat) (x : α) : List.replicate n (f x) = en f (List.replicate n x) := by simp [en]
theorem en_one {st : Nat} (h : ∀ x, (f x).length = st) (xs : List α) : ∀ e ∈ en f xs, e.length = st := by
  intro e he
  obtain ⟨x, _, rfl⟩ := List.mem_map.1 he
  exact h x
theorem en_all {st : Nat} (h : ∀ x, (f x).length = st) (xs : List α) : (∀ e ∈ en f xs, e.length = st) = True := eq_true (en_one f h xs)
theorem en_flat (h : ∀ x, (f x).all flatV = true) (xs : List α) : ((en f xs).all fun e => e.all flatV) = true := by
  rw [List.all_eq_true]
  intro e he
  obtain ⟨x, _, rfl⟩ := List.mem_map.1 he
  exact h x
def wsum (w : α → Nat) (xs : List α) : Nat := (xs.map w).sum
theorem wsum_take (w : α → Nat) {xs : List α} {i : Nat} {x : α} (h : xs[i]? = some x) : wsum w (xs.take (i + 1)) = wsum w (xs.take i) + w x := by
  rw [List.take_add_one, h]; simp [wsum]
theorem wsum_le (w : α → Nat) : ∀ (xs : List α) (n : Nat), wsum w (xs.take n) ≤ wsum w xs
  | [], n => by simp [wsum]
  | x :: xs, 0 => by simp [wsum]
  | x :: xs, n + 1 => by have := wsum_le w xs n; simp only [wsum, List.take_succ_cons, List.map_cons, List.sum_cons] at this ⊢; omega
theorem wsum_mem (w : α → Nat) {xs : List α} {x : α} (h : x ∈ xs) : w x ≤ wsum w xs := by
  induction xs with
  | nil => cases h
  | cons y ys ih =>
    simp only [wsum, List.map_cons, List.sum_cons]
    rcases List.mem_cons.1 h with rfl | h
    · omega
    · have := ih h; simp only [wsum] at this; omega
end
def sub1 (left : Int) (w : Nat) : Int := if (w : Int) ≤ left then left - w else -1
/-! what is stored -/
structure DF where
  name : ByteArray
  data : ByteArray
  kept : Int
structure DM where
  gone : Bool
  name : ByteArray
structure Dk where
  files : List DF
  names : List ByteArray
  moves : List DM
structure DW where
  kind : Int
  name : ByteArray
  data : ByteArray
def eS (s : ByteArray) : List V := [.s (.string s)]
def eI (n : Int) : List V := [.s (.int .i64 n)]
def eF (f : DF) : List V := [.s (.string f.name), .s (.string f.data), .s (.int .i64 f.kept)]
def eM (m : DM) : List V := [.s (.bool m.gone), .s (.string m.name)]
def eW (w : DW) : List V := [.s (.int .i64 w.kind), .s (.string w.name), .s (.string w.data)]
theorem eS_len (s : ByteArray) : (eS s).length = 1 := rfl
theorem eI_len (s : Int) : (eI s).length = 1 := rfl
theorem eF_len (f : DF) : (eF f).length = 3 := rfl
theorem eM_len (f : DM) : (eM f).length = 2 := rfl
theorem eW_len (f : DW) : (eW f).length = 3 := rfl
theorem eS_flat (s : ByteArray) : (eS s).all flatV = true := rfl
theorem eF_flat (s : DF) : (eF s).all flatV = true := rfl
theorem eM_flat (s : DM) : (eM s).all flatV = true := rfl
abbrev tL (es : List (List V)) : T := .c (.v (.sl es))
abbrev tS (s : ByteArray) : T := .s (.string s)
abbrev tDk (d : Dk) : T := .pt (.agg [.v (.sl (en eF d.files)), .v (.sl (en eS d.names)), .v (.sl (en eM d.moves))])
abbrev tDF (f : DF) : T := .pt (.agg [.v (.s (.string f.name)), .v (.s (.string f.data)), .v (.s (.int .i64 f.kept))])
abbrev tDM (m : DM) : T := .pt (.agg [.v (.s (.bool m.gone)), .v (.s (.string m.name))])
theorem alF : type_of% (@en_all DF eF 3 eF_len) := @en_all DF eF 3 eF_len
theorem alM : type_of% (@en_all DM eM 2 eM_len) := @en_all DM eM 2 eM_len
theorem alW : type_of% (@en_all DW eW 3 eW_len) := @en_all DW eW 3 eW_len
theorem alS : type_of% (@en_all ByteArray eS 1 eS_len) := @en_all ByteArray eS 1 eS_len
theorem alI : type_of% (@en_all Int eI 1 eI_len) := @en_all Int eI 1 eI_len
attribute [go_sem] en_len en_take en_nil alF alM alW alS alI
/-! what an argument of the given type may be -/
def okS (s : ByteArray) : Prop := s.size ≤ 9223372036854775807
def okDF (f : DF) : Prop := okS f.name ∧ okS f.data
def okDM (m : DM) : Prop := okS m.name
def wF (f : DF) : Nat := f.name.size + f.data.size
def wM (m : DM) : Nat := m.name.size
def wS (s : ByteArray) : Nat := s.size
def ok32 := okF.gu (P := Tryz.prog) tab Tryz.func32 Tryz.ntmps32 (by conv => lhs; cbv) (by kernel_rfl)
theorem szDF_ok (x : DF) (left : Int) (h0 : 0 ≤ left ∧ left ≤ 1048576) (hx : okDF x) : ACallsF Tryz.prog 32 [tDF x, .i left] [] (.i (sub1 left (wF x))) := by
  obtain ⟨h1, h2⟩ := hx
  unfold okS at h1 h2
  have gw1 : IntKind.i64.wrap (left - x.name.size) = left - x.name.size := wrap64 ⟨by omega, by omega⟩
  have gw2 : IntKind.i64.wrap (left - x.name.size - x.data.size) = if (x.name.size : Int) ≤ left then left - x.name.size - x.data.size else IntKind.i64.wrap (left - x.name.size - x.data.size) := by
    split
    · exact wrap64 ⟨by omega, by omega⟩
    · rfl
  refine ACallsF.intro ok32 follows fun X c0 => ?_
  by_cases hA : (x.name.size : Int) ≤ left
  · have k0 : ¬ left - (x.name.size : Int) < 0 := by omega
    rw [if_pos hA] at gw2
    by_cases hB : ((wF x : Nat) : Int) ≤ left
    · have hB' := hB
      unfold wF at hB
      have k1 : ¬ left - (x.name.size : Int) - (x.data.size : Int) < 0 := by omega
      have k2 : sub1 left (wF x) = left - (x.name.size : Int) - (x.data.size : Int) := by rw [sub1, if_pos hB', wF]; omega
      simp only [go_sem, gw1, gw2, k0, k1, k2]
    · have hB' := hB
      unfold wF at hB
      have k1 : left - (x.name.size : Int) - (x.data.size : Int) < 0 := by omega
      have k2 : sub1 left (wF x) = -1 := by rw [sub1, if_neg hB']
      simp only [go_sem, gw1, gw2, k0, k1, k2]
  · have k0 : left - (x.name.size : Int) < 0 := by omega
    have k2 : sub1 left (wF x) = -1 := by rw [sub1, if_neg (by unfold wF; omega)]
    simp only [go_sem, gw1, k0, k2]
def ok33 := okF.gu (P := Tryz.prog) tab Tryz.func33 Tryz.ntmps33 (by conv => lhs; cbv) (by kernel_rfl)
theorem szDM_ok (x : DM) (left : Int) (h0 : 0 ≤ left ∧ left ≤ 1048576) (hx : okDM x) : ACallsF Tryz.prog 33 [tDM x, .i left] [] (.i (sub1 left (wM x))) := by
  unfold okDM okS at hx
  have gw1 : IntKind.i64.wrap (left - x.name.size) = left - x.name.size := wrap64 ⟨by omega, by omega⟩
  refine ACallsF.intro ok33 follows fun X c0 => ?_
  by_cases hA : (x.name.size : Int) ≤ left
  · have k0 : ¬ left - (x.name.size : Int) < 0 := by omega
    have k2 : sub1 left (wM x) = left - (x.name.size : Int) := by rw [sub1, if_pos (by unfold wM; omega), wM]
    simp only [go_sem, gw1, k0, k2]
  · have k0 : left - (x.name.size : Int) < 0 := by omega
    have k2 : sub1 left (wM x) = -1 := by rw [sub1, if_neg (by unfold wM; omega)]
    simp only [go_sem, gw1, k0, k2]
def ok13 := okF.gu (P := Tryz.prog) tab Tryz.func13 Tryz.ntmps13 (by conv => lhs; cbv) (by kernel_rfl)
def inv13 (xs : List DF) (left : Int) (i : Nat) (σ : St) : Prop := ((xs.length + wsum wF (xs.take i) : Nat) : Int) ≤ left ∧ σ.t 0 = .c (.v (.sl (en eF xs))) ∧ σ.t 1 = .i (left - ((xs.length + wsum wF (xs.take i) : Nat) : Int)) ∧ σ.t 5 = .i i
theorem szDFs_ok (xs : List DF) (left : Int) (h0 : 0 ≤ left ∧ left ≤ 1048576) (hl : xs.length ≤ 9223372036854775807) (hw : ∀ x ∈ xs, okDF x) : ACallsF Tryz.prog 13 [.c (.v (.sl (en eF xs))), .i left] [] (.i (sub1 left (xs.length + wsum wF xs))) := by
  refine ACallsF.intro ok13 follows fun X c0 => ?_
  have gw0 : IntKind.i64.wrap (left - xs.length) = left - xs.length := wrap64 ⟨by omega, by omega⟩
  by_cases hA : (xs.length : Int) ≤ left
  · have k0 : ¬ left - (xs.length : Int) < 0 := by omega
    simp only [go_sem, gw0, k0]
    refine AW.upto xs.length (inv13 xs left) ⟨by simpa [wsum] using hA, rfl, by show T.i (left - (xs.length : Int)) = _; simp [wsum], rfl⟩ fun i t H c hi h => ?_
    obtain ⟨g, e0, e1, e5⟩ := h
    simp only [T.c, T.i] at e0 e1 e5
    by_cases hlt : i < xs.length
    · obtain ⟨x, hx⟩ : ∃ x, xs[i]? = some x := ⟨_, List.getElem?_eq_getElem hlt⟩
      have ex := en_at eF hx
      have k1 : (i : Int) < xs.length := by omega
      have gz : (0 : Int) ≤ i := by omega
      have gw : IntKind.i64.wrap ((i : Int) + 1) = ((i + 1 : Nat) : Int) := wrap64 (x := (i : Int) + 1) ⟨by omega, by omega⟩
      have hs : wsum wF (xs.take (i + 1)) = wsum wF (xs.take i) + wF x := wsum_take wF hx
      have hle : wsum wF (xs.take (i + 1)) ≤ wsum wF xs := wsum_le wF xs _
      have hwx := hw x (List.mem_of_getElem? hx)
      simp only [go_sem, e0, e1, e5, en_len, k1, gz, ex, Int.toNat_natCast, eF]
      refine callC (szDF_ok x _ ⟨by omega, by omega⟩ hwx) rfl rfl (by simp [closedA, closedP, closedC]) rfl ?_
      by_cases hB : ((wF x : Nat) : Int) ≤ left - ((xs.length + wsum wF (xs.take i) : Nat) : Int)
      · have k2 : sub1 (left - ((xs.length + wsum wF (xs.take i) : Nat) : Int)) (wF x) = left - ((xs.length + wsum wF (xs.take (i + 1)) : Nat) : Int) := by rw [sub1, if_pos hB]; omega
        have k3 : ¬ left - ((xs.length + wsum wF (xs.take (i + 1)) : Nat) : Int) < 0 := by omega
        simp only [go_sem, e5, k2, k3, gw]
        exact ⟨hlt, by omega, e0, rfl, rfl⟩
      · have k2 : sub1 (left - ((xs.length + wsum wF (xs.take i) : Nat) : Int)) (wF x) = -1 := by rw [sub1, if_neg hB]
        have k3 : sub1 left (xs.length + wsum wF xs) = -1 := by rw [sub1, if_neg (by omega)]
        simp only [go_sem, k2, k3, Int.reduceLT]
    · have k1 : ¬ (i : Int) < xs.length := by omega
      have hi2 : i = xs.length := by omega
      subst hi2
      rw [List.take_length] at g
      rw [List.take_length] at e1
      have k3 : sub1 left (xs.length + wsum wF xs) = left - ((xs.length + wsum wF xs : Nat) : Int) := by rw [sub1, if_pos g]
      simp only [go_sem, e0, e1, e5, en_len, k1, k3]
  · have k0 : left - (xs.length : Int) < 0 := by omega
    have k3 : sub1 left (xs.length + wsum wF xs) = -1 := by rw [sub1, if_neg (by omega)]
    simp only [go_sem, gw0, k0, k3]
def ok15 := okF.gu (P := Tryz.prog) tab Tryz.func15 Tryz.ntmps15 (by conv => lhs; cbv) (by kernel_rfl)
def inv15 (xs : List DM) (left : Int) (i : Nat) (σ : St) : Prop := ((xs.length + wsum wM (xs.take i) : Nat) : Int) ≤ left ∧ σ.t 0 = .c (.v (.sl (en eM xs))) ∧ σ.t 1 = .i (left - ((xs.length + wsum wM (xs.take i) : Nat) : Int)) ∧ σ.t 5 = .i i
theorem szDMs_ok (xs : List DM) (left : Int) (h0 : 0 ≤ left ∧ left ≤ 1048576) (hl : xs.length ≤ 9223372036854775807) (hw : ∀ x ∈ xs, okDM x) : ACallsF Tryz.prog 15 [.c (.v (.sl (en eM xs))), .i left] [] (.i (sub1 left (xs.length + wsum wM xs))) := by
  refine ACallsF.intro ok15 follows fun X c0 => ?_
  have gw0 : IntKind.i64.wrap (left - xs.length) = left - xs.length := wrap64 ⟨by omega, by omega⟩
  by_cases hA : (xs.length : Int) ≤ left
  · have k0 : ¬ left - (xs.length : Int) < 0 := by omega
    simp only [go_sem, gw0, k0]
    refine AW.upto xs.length (inv15 xs left) ⟨by simpa [wsum] using hA, rfl, by show T.i (left - (xs.length : Int)) = _; simp [wsum], rfl⟩ fun i t H c hi h => ?_
    obtain ⟨g, e0, e1, e5⟩ := h
    simp only [T.c, T.i] at e0 e1 e5
    by_cases hlt : i < xs.length
    · obtain ⟨x, hx⟩ : ∃ x, xs[i]? = some x := ⟨_, List.getElem?_eq_getElem hlt⟩
      have ex := en_at eM hx
      have k1 : (i : Int) < xs.length := by omega
      have gz : (0 : Int) ≤ i := by omega
      have gw : IntKind.i64.wrap ((i : Int) + 1) = ((i + 1 : Nat) : Int) := wrap64 (x := (i : Int) + 1) ⟨by omega, by omega⟩
      have hs : wsum wM (xs.take (i + 1)) = wsum wM (xs.take i) + wM x := wsum_take wM hx
      have hle : wsum wM (xs.take (i + 1)) ≤ wsum wM xs := wsum_le wM xs _
      have hwx := hw x (List.mem_of_getElem? hx)
      simp only [go_sem, e0, e1, e5, en_len, k1, gz, ex, Int.toNat_natCast, eM]
      refine callC (szDM_ok x _ ⟨by omega, by omega⟩ hwx) rfl rfl (by simp [closedA, closedP, closedC]) rfl ?_
      by_cases hB : ((wM x : Nat) : Int) ≤ left - ((xs.length + wsum wM (xs.take i) : Nat) : Int)
      · have k2 : sub1 (left - ((xs.length + wsum wM (xs.take i) : Nat) : Int)) (wM x) = left - ((xs.length + wsum wM (xs.take (i + 1)) : Nat) : Int) := by rw [sub1, if_pos hB]; omega
        have k3 : ¬ left - ((xs.length + wsum wM (xs.take (i + 1)) : Nat) : Int) < 0 := by omega
        simp only [go_sem, e5, k2, k3, gw]
        exact ⟨hlt, by omega, e0, rfl, rfl⟩
      · have k2 : sub1 (left - ((xs.length + wsum wM (xs.take i) : Nat) : Int)) (wM x) = -1 := by rw [sub1, if_neg hB]
        have k3 : sub1 left (xs.length + wsum wM xs) = -1 := by rw [sub1, if_neg (by omega)]
        simp only [go_sem, k2, k3, Int.reduceLT]
    · have k1 : ¬ (i : Int) < xs.length := by omega
      have hi2 : i = xs.length := by omega
      subst hi2
      rw [List.take_length] at g
      rw [List.take_length] at e1
      have k3 : sub1 left (xs.length + wsum wM xs) = left - ((xs.length + wsum wM xs : Nat) : Int) := by rw [sub1, if_pos g]
      simp only [go_sem, e0, e1, e5, en_len, k1, k3]
  · have k0 : left - (xs.length : Int) < 0 := by omega
    have k3 : sub1 left (xs.length + wsum wM xs) = -1 := by rw [sub1, if_neg (by omega)]
    simp only [go_sem, gw0, k0, k3]
def ok14 := okF.gu (P := Tryz.prog) tab Tryz.func14 Tryz.ntmps14 (by conv => lhs; cbv) (by kernel_rfl)
def inv14 (xs : List ByteArray) (left : Int) (i : Nat) (σ : St) : Prop := ((xs.length + wsum wS (xs.take i) : Nat) : Int) ≤ left ∧ σ.t 0 = .c (.v (.sl (en eS xs))) ∧ σ.t 1 = .i (left - ((xs.length + wsum wS (xs.take i) : Nat) : Int)) ∧ σ.t 5 = .i i
theorem szSs_ok (xs : List ByteArray) (left : Int) (h0 : 0 ≤ left ∧ left ≤ 1048576) (hl : xs.length ≤ 9223372036854775807) (hw : ∀ x ∈ xs, okS x) : ACallsF Tryz.prog 14 [.c (.v (.sl (en eS xs))), .i left] [] (.i (sub1 left (xs.length + wsum wS xs))) := by
  refine ACallsF.intro ok14 follows fun X c0 => ?_
  have gw0 : IntKind.i64.wrap (left - xs.length) = left - xs.length := wrap64 ⟨by omega, by omega⟩
  by_cases hA : (xs.length : Int) ≤ left
  · have k0 : ¬ left - (xs.length : Int) < 0 := by omega
    simp only [go_sem, gw0, k0]
    refine AW.upto xs.length (inv14 xs left) ⟨by simpa [wsum] using hA, rfl, by show T.i (left - (xs.length : Int)) = _; simp [wsum], rfl⟩ fun i t H c hi h => ?_
    obtain ⟨g, e0, e1, e5⟩ := h
    simp only [T.c, T.i] at e0 e1 e5
    by_cases hlt : i < xs.length
    · obtain ⟨x, hx⟩ : ∃ x, xs[i]? = some x := ⟨_, List.getElem?_eq_getElem hlt⟩
      have ex := en_at eS hx
      have k1 : (i : Int) < xs.length := by omega
      have gz : (0 : Int) ≤ i := by omega
      have gw : IntKind.i64.wrap ((i : Int) + 1) = ((i + 1 : Nat) : Int) := wrap64 (x := (i : Int) + 1) ⟨by omega, by omega⟩
      have hs : wsum wS (xs.take (i + 1)) = wsum wS (xs.take i) + wS x := wsum_take wS hx
      have hle : wsum wS (xs.take (i + 1)) ≤ wsum wS xs := wsum_le wS xs _
      have hwx := hw x (List.mem_of_getElem? hx)
      unfold okS at hwx
      have gw1 : IntKind.i64.wrap (left - ((xs.length + wsum wS (xs.take i) : Nat) : Int) - (x.size : Int)) = left - ((xs.length + wsum wS (xs.take i) : Nat) : Int) - (x.size : Int) := wrap64 ⟨by omega, by omega⟩
      by_cases hB : ((wS x : Nat) : Int) ≤ left - ((xs.length + wsum wS (xs.take i) : Nat) : Int)
      · rw [show wS x = x.size from rfl] at hB
        have hs' : wsum wS (xs.take (i + 1)) = wsum wS (xs.take i) + x.size := hs
        have k2 : left - ((xs.length + wsum wS (xs.take i) : Nat) : Int) - (x.size : Int) = left - ((xs.length + wsum wS (xs.take (i + 1)) : Nat) : Int) := by omega
        have k3 : ¬ left - ((xs.length + wsum wS (xs.take (i + 1)) : Nat) : Int) < 0 := by omega
        simp only [go_sem, e0, e1, e5, en_len, k1, gz, ex, Int.toNat_natCast, eS, gw1.trans k2, k3, gw]
        exact ⟨hlt, by omega, e0, rfl, rfl⟩
      · rw [show wS x = x.size from rfl] at hB
        have hs' : wsum wS (xs.take (i + 1)) = wsum wS (xs.take i) + x.size := hs
        have k2 : left - ((xs.length + wsum wS (xs.take i) : Nat) : Int) - (x.size : Int) < 0 := by omega
        have k3 : sub1 left (xs.length + wsum wS xs) = -1 := by rw [sub1, if_neg (by omega)]
        simp only [go_sem, e0, e1, e5, en_len, k1, gz, ex, Int.toNat_natCast, eS, gw1, k2, k3]
    · have k1 : ¬ (i : Int) < xs.length := by omega
      have hi2 : i = xs.length := by omega
      subst hi2
      rw [List.take_length] at g
      rw [List.take_length] at e1
      have k3 : sub1 left (xs.length + wsum wS xs) = left - ((xs.length + wsum wS xs : Nat) : Int) := by rw [sub1, if_pos g]
      simp only [go_sem, e0, e1, e5, en_len, k1, k3]
  · have k0 : left - (xs.length : Int) < 0 := by omega
    have k3 : sub1 left (xs.length + wsum wS xs) = -1 := by rw [sub1, if_neg (by omega)]
    simp only [go_sem, gw0, k0, k3]
end Go.V
set_option linter.unusedSimpArgs false
set_option maxRecDepth 20000
namespace Go.V
open Go.Proofs
/-- An array that a call makes. -/
abbrev newH (c m st : Nat) (ty : TypeId) (es : List (List V)) : Hand := ⟨c, m, none, .arr 0 true st ty es, false⟩
/-- What a call does for every empty slice it does for the empty list. -/
theorem nilArgH {P : Program} {f : FuncId} {hs : List Hand} {r : T} (h : ∀ ad c, ACallsF P f [.s (.slice ad 0 c)] hs r) : ACallsF P f [.c (.v (.sl []))] hs r := by
  refine ⟨(h none 0).1, fun w imm L c vs hH hT => ?_⟩
  obtain ⟨x, rfl⟩ : ∃ x, vs = [x] := by
    have := hT.1
    cases vs with
    | nil => simp at this
    | cons x l => cases l with
      | nil => exact ⟨x, rfl⟩
      | cons _ _ => simp at this
  have hx : VRep w imm x (.sl []) := hT.2 0 x _ rfl rfl
  cases hx with
  | nil a cap => exact (h a cap).2 w imm L c _ hH ⟨rfl, fun k x y hx hy => by
      cases k with
      | zero => simp at hx hy; subst hx hy; exact .s _ rfl
      | succ k => simp at hx⟩
  | sl _ _ _ _ _ _ _ hne => exact absurd rfl hne
/-- A nil slice that is returned is an array of the call's own, too. -/
theorem ownNil {P : Program} {f : FuncId} {args : List T} {n m st : Nat} {ty : TypeId} (hst : 0 < st) (h : ACallsF P f args [] (.c .nil0)) : ACallsF P f args [newH n m st ty []] (.c (.own n 0 0)) := by
  refine ⟨h.1, fun w imm L c vs hH hT => ?_⟩
  have e0 : hinOf [newH n m st ty []] = hinOf [] := by
    funext k; rw [hinOf_cons]; split <;> rfl
  rw [e0] at hH hT ⊢
  refine (h.2 w imm L c vs hH hT).mono ?_
  rintro e w' ⟨x, r, h', imm', L', c', he, ⟨ν, hr, _⟩, hx, hHo, hS, hN, hE⟩
  subst hr
  obtain ⟨a, hxa⟩ : ∃ a, x = .slice a 0 0 := hx
  subst hxa
  have hcc : c ≤ c' := by
    rcases Nat.eq_zero_or_pos c with h0 | h0
    · omega
    · have := hE.use (c - 1) (by omega); omega
  refine ⟨.slice a 0 0, .c (.own n c' 0), fun k => if k = n then some (.arr c' true st ty []) else none, imm', ⟨fun _ => none, fun _ _ => False⟩, c' + 1, he, ⟨fun _ => c', rfl, fun k hd hh => ?_⟩, ?_, ⟨fun k B hB => ?_, fun _ _ g _ _ hg => (by rcases hg with hg | hg <;> cases hg), fun _ _ _ hg => hg.elim, hHo.glob, hHo.imm⟩, hS, fun _ g _ hg => (by rcases hg with hg | hg <;> cases hg), ⟨fun v hv => ?_, fun k ver ty' cs hu hk => ?_, fun k ver wr st' ty' es hu hk => ?_, fun k ver wr st' ty' es g cur hu hk hg => (by cases hg), fun k ver wr st' ty' es op hu hk => ?_, fun k ver wr st' ty' es op g cur hu hk hg => (by cases hg)⟩⟩
  · obtain ⟨h1, h2⟩ := renN_mem hh
    rw [List.mem_singleton] at h1
    subst h1
    have h2' : n = k := h2
    subst h2'
    simp [newH, verB]
  · refine ⟨Nat.lt_succ_self _, ⟨a, 0, rfl, Nat.le_refl _⟩, fun wr st' ty' es hes => ⟨Nat.zero_le _, .inl ⟨a, rfl, rfl⟩⟩⟩
  · have hB' : (if k = n then some (Blk.arr c' true st ty []) else none) = some B := hB
    split at hB'
    · cases hB'
      exact ⟨Nat.lt_succ_self _, hst, fun e he => (by cases he), .inl ⟨rfl, rfl⟩⟩
    · cases hB'
  · have := hE.use v hv; omega
  · have hk' : (if k = n then some (Blk.arr c' true st ty []) else none) = some (Blk.var ver ty' cs) := hk
    split at hk' <;> cases hk'
  · have hk' : (if k = n then some (Blk.arr c' true st ty []) else none) = some (Blk.arr ver wr st' ty' es) := hk
    split at hk'
    · cases hk'; omega
    · cases hk'
  · have hk' : (if k = n then some (Blk.arr c' true st ty []) else none) = some (Blk.tree ver wr st' ty' es op) := hk
    split at hk' <;> cases hk'
section
variable {P : Program} {t : Nat → T} {H : HMap} {c : Nat} {f : Opd} {args : List Opd} {fid : FuncId} {argsC : List T} {ws : List (Nat × Blk)} {ns : List Nat} {k : Nat} {d : Option Nat} {un : List Nat} {l : List AOper} {prev : List (Nat × List Nat × List Nat)} {K : St → Prop}
/-- A call that makes arrays, and is lent slices. -/
theorem callF (hs : List Hand) {r r' : T} {ob : List (Nat × Blk)} (hC : ACallsF P fid argsC hs r) (hf : ev t f = .pt (.one (.fn fid []))) (hl : lendTs H argsC (args.map (ev t)) = some (argsC, ws, ns)) (ha : argsC.all closedA = true) (hb : ∀ h ∈ hs, h.b = none) (hm : (hs.map (·.m)).Nodup) (hc : (hs.map (·.c)).Nodup)
    (hq : quiet r hs = true) (hr : renOT hs (c + k) r = some r') (ho : renOBs hs (c + k) hs = some ob)
    (hk : chk prev un ⟨r', ob, ns ++ hs.map (·.m), hs.map (·.m)⟩ = true ∧ DRun P l ((k, ns ++ hs.map (·.m), hs.map (·.m)) :: prev) K ⟨updD t d r', updH H ob, c⟩) :
    step P k d un (.call f args) l prev K t H c := by
  refine callW (caps := []) («as» := argsC) (ws := ws) (ns := ns) (r' := r') (ob := ob) hs hC hf (by simpa using hl) (closed_As hs H argsC ha).2 ?_ hm hc hr ho (by simpa [hq] using hk)
  have : ∀ l : List Hand, (∀ h ∈ l, h.b = none) → handsIn (updH H ws) hs l := by
    intro l
    induction l with
    | nil => intro _; trivial
    | cons h l ih => intro hl; exact ⟨by rw [hl h (by simp)]; trivial, ih fun x hx => hl x (by simp [hx])⟩
  exact this hs hb
/-- A call that makes one array. -/
theorem callA1 {n m N st : Nat} {ty : TypeId} {es : List (List V)} (hC : ACallsF P fid argsC [newH n m st ty es] (.c (.own n 0 N))) (hf : ev t f = .pt (.one (.fn fid []))) (hl : lendTs H argsC (args.map (ev t)) = some (argsC, ws, ns)) (ha : argsC.all closedA = true) (he : (es.all fun e => e.all flatV) = true)
    (hk : chk prev un ⟨.c (.own m (c + k) N), [(m, .arr (c + k) true st ty es)], ns ++ [m], [m]⟩ = true ∧ DRun P l ((k, ns ++ [m], [m]) :: prev) K ⟨updD t d (.c (.own m (c + k) N)), upd H m (some (.arr (c + k) true st ty es)), c⟩) :
    step P k d un (.call f args) l prev K t H c := by
  have hN : renN [newH n m st ty es] n = some (newH n m st ty es) := by simp [renN]
  refine callF (r' := .c (.own m (c + k) N)) (ob := [(m, .arr (c + k) true st ty es)]) [newH n m st ty es] hC hf hl ha (by simp) (by simp) (by simp) ?_ ?_ ?_ ?_
  · simp only [quiet, List.all_cons, List.all_nil, flatB, he]; rfl
  · simp only [T.c, renOT, renOP, renO, hN, Option.map_some, verOf]; rfl
  · simp only [renOBs, renOB, verOf]; rfl
  · simpa [updH] using hk
end
def part {α : Type} (xs : List α) (z : α) (i : Nat) : List α := xs.take i ++ List.replicate (xs.length - i) z
theorem part_len {α : Type} (xs : List α) (z : α) {i : Nat} (h : i ≤ xs.length) : (part xs z i).length = xs.length := by simp [part]; omega
theorem part_zero {α : Type} (xs : List α) (z : α) : part xs z 0 = List.replicate xs.length z := by simp [part]
theorem part_end {α : Type} (xs : List α) (z : α) : part xs z xs.length = xs := by simp [part]
theorem part_set {α : Type} (xs : List α) (z : α) {i : Nat} {x : α} (h : xs[i]? = some x) : (part xs z i).set i x = part xs z (i + 1) := by
  have hi := (List.getElem?_eq_some_iff.1 h).1
  have e : xs.length - i = (xs.length - (i + 1)) + 1 := by omega
  have hl : (xs.take i).length = i := by simp; omega
  rw [part, e, List.replicate_succ, List.set_append, if_neg (by omega), hl, Nat.sub_self, List.set_cons_zero, part, List.take_add_one, h]
  simp
theorem part_at {α : Type} (xs : List α) (z : α) {i : Nat} (h : i < xs.length) : (part xs z i)[i]? = some z := by
  have hl : (xs.take i).length = i := by simp; omega
  rw [part, List.getElem?_append_right (by omega), hl, Nat.sub_self, List.getElem?_replicate, if_pos (by omega)]
def zF : DF := ⟨⟨#[]⟩, ⟨#[]⟩, 0⟩
def zM : DM := ⟨false, ⟨#[]⟩⟩
def zS : ByteArray := ⟨#[]⟩
def ok41 := okF.gu (P := Tryz.prog) tab Tryz.func41 Tryz.ntmps41 (by conv => lhs; cbv) (by kernel_rfl)
theorem toDF_ok (x : DF) : ACallsF Tryz.prog 41 [tDF x] [] (tDF x) := by
  refine ACallsF.intro ok41 follows fun X c0 => ?_
  simp only [go_sem]
def ok42 := okF.gu (P := Tryz.prog) tab Tryz.func42 Tryz.ntmps42 (by conv => lhs; cbv) (by kernel_rfl)
theorem toDM_ok (x : DM) : ACallsF Tryz.prog 42 [tDM x] [] (tDM x) := by
  refine ACallsF.intro ok42 follows fun X c0 => ?_
  simp only [go_sem]
def ok18 := okF.gu (P := Tryz.prog) tab Tryz.func18 Tryz.ntmps18 (by conv => lhs; cbv) (by kernel_rfl)
def inv18 (xs : List DF) (i : Nat) (σ : St) : Prop := σ.t 0 = tL (en eF xs) ∧ (∃ v, σ.t 3 = .c (.own 7 v xs.length) ∧ σ.H 7 = some (.arr v true 3 89 (en eF (part xs zF i)))) ∧ σ.t 4 = .i i
theorem toDFs_ok (xs : List DF) (hl : xs.length ≤ 1048576) (m : Nat) : ACallsF Tryz.prog 18 [tL (en eF xs)] [newH 7 m 3 89 (en eF xs)] (.c (.own 7 0 xs.length)) := by
  refine ACallsF.intro ok18 follows fun X c0 => ?_
  have q0 : (0 : Int) ≤ xs.length := by omega
  have q1 : ((40 : Nat) : Int) * (xs.length : Int) ≤ 281474976710656 := by omega
  have q2 : (xs.length : Int) ≤ 9223372036854775807 := by omega
  simp only [go_sem, q0, q1, q2, Int.le_refl]
  refine AW.upto xs.length (inv18 xs) ?_ fun i t H c hi h => ?_
  · unfold inv18
    rw [part_zero, ← en_rep]
    exact ⟨rfl, ⟨_, rfl, rfl⟩, rfl⟩
  obtain ⟨e0, ⟨v, e3, eH⟩, e4⟩ := h
  simp only [T.c, T.i, tL] at e0 e3 eH e4
  have hpl : (part xs zF i).length = xs.length := part_len xs zF hi
  by_cases hlt : i < xs.length
  · obtain ⟨x, hx⟩ : ∃ x, xs[i]? = some x := ⟨_, List.getElem?_eq_getElem hlt⟩
    have ex := en_at eF hx
    have ez := en_at eF (part_at xs zF hlt)
    have k1 : (i : Int) < xs.length := by omega
    have gz : (0 : Int) ≤ i := by omega
    have gm : i < xs.length := hlt
    have gw : IntKind.i64.wrap ((i : Int) + 1) = ((i + 1 : Nat) : Int) := wrap64 (x := (i : Int) + 1) ⟨by omega, by omega⟩
    have hn : (en eF (part xs zF i)).set i (eF x) = en eF (part xs zF (i + 1)) := by rw [en_set, part_set xs zF hx]
    simp only [go_sem, e0, e3, eH, e4, en_len, k1, gz, gm, ex, ez, eF, Int.toNat_natCast, hpl, gw]
    refine callC (toDF_ok x) rfl rfl (by simp [closedA, closedP, closedC]) (by simp [closedT, closedP, closedC]) ?_
    simp only [go_sem, e0, e3, eH, e4, en_len, k1, gz, gm, ex, ez, eF, Int.toNat_natCast, hpl, gw]
    exact ⟨e0, ⟨v, e3, congrArg (fun q => some (Blk.arr v true 3 89 q)) hn⟩, rfl⟩
  · have k1 : ¬ (i : Int) < xs.length := by omega
    have hi2 : i = xs.length := by omega
    subst hi2
    rw [part_end] at eH
    simp only [go_sem, e0, e3, eH, e4, en_len, k1, imp_self]
def ok20 := okF.gu (P := Tryz.prog) tab Tryz.func20 Tryz.ntmps20 (by conv => lhs; cbv) (by kernel_rfl)
def inv20 (xs : List DM) (i : Nat) (σ : St) : Prop := σ.t 0 = tL (en eM xs) ∧ (∃ v, σ.t 3 = .c (.own 7 v xs.length) ∧ σ.H 7 = some (.arr v true 2 91 (en eM (part xs zM i)))) ∧ σ.t 4 = .i i
theorem toDMs_ok (xs : List DM) (hl : xs.length ≤ 1048576) (m : Nat) : ACallsF Tryz.prog 20 [tL (en eM xs)] [newH 7 m 2 91 (en eM xs)] (.c (.own 7 0 xs.length)) := by
  refine ACallsF.intro ok20 follows fun X c0 => ?_
  have q0 : (0 : Int) ≤ xs.length := by omega
  have q1 : ((24 : Nat) : Int) * (xs.length : Int) ≤ 281474976710656 := by omega
  have q2 : (xs.length : Int) ≤ 9223372036854775807 := by omega
  simp only [go_sem, q0, q1, q2, Int.le_refl]
  refine AW.upto xs.length (inv20 xs) ?_ fun i t H c hi h => ?_
  · unfold inv20
    rw [part_zero, ← en_rep]
    exact ⟨rfl, ⟨_, rfl, rfl⟩, rfl⟩
  obtain ⟨e0, ⟨v, e3, eH⟩, e4⟩ := h
  simp only [T.c, T.i, tL] at e0 e3 eH e4
  have hpl : (part xs zM i).length = xs.length := part_len xs zM hi
  by_cases hlt : i < xs.length
  · obtain ⟨x, hx⟩ : ∃ x, xs[i]? = some x := ⟨_, List.getElem?_eq_getElem hlt⟩
    have ex := en_at eM hx
    have ez := en_at eM (part_at xs zM hlt)
    have k1 : (i : Int) < xs.length := by omega
    have gz : (0 : Int) ≤ i := by omega
    have gm : i < xs.length := hlt
    have gw : IntKind.i64.wrap ((i : Int) + 1) = ((i + 1 : Nat) : Int) := wrap64 (x := (i : Int) + 1) ⟨by omega, by omega⟩
    have hn : (en eM (part xs zM i)).set i (eM x) = en eM (part xs zM (i + 1)) := by rw [en_set, part_set xs zM hx]
    simp only [go_sem, e0, e3, eH, e4, en_len, k1, gz, gm, ex, ez, eM, Int.toNat_natCast, hpl, gw]
    refine callC (toDM_ok x) rfl rfl (by simp [closedA, closedP, closedC]) (by simp [closedT, closedP, closedC]) ?_
    simp only [go_sem, e0, e3, eH, e4, en_len, k1, gz, gm, ex, ez, eM, Int.toNat_natCast, hpl, gw]
    exact ⟨e0, ⟨v, e3, congrArg (fun q => some (Blk.arr v true 2 91 q)) hn⟩, rfl⟩
  · have k1 : ¬ (i : Int) < xs.length := by omega
    have hi2 : i = xs.length := by omega
    subst hi2
    rw [part_end] at eH
    simp only [go_sem, e0, e3, eH, e4, en_len, k1, imp_self]
def ok19 := okF.gu (P := Tryz.prog) tab Tryz.func19 Tryz.ntmps19 (by conv => lhs; cbv) (by kernel_rfl)
def inv19 (xs : List ByteArray) (i : Nat) (σ : St) : Prop := σ.t 0 = tL (en eS xs) ∧ (∃ v, σ.t 3 = .c (.own 7 v xs.length) ∧ σ.H 7 = some (.arr v true 1 9 (en eS (part xs zS i)))) ∧ σ.t 4 = .i i
theorem toSs_ok (xs : List ByteArray) (hl : xs.length ≤ 1048576) (m : Nat) : ACallsF Tryz.prog 19 [tL (en eS xs)] [newH 7 m 1 9 (en eS xs)] (.c (.own 7 0 xs.length)) := by
  refine ACallsF.intro ok19 follows fun X c0 => ?_
  have q0 : (0 : Int) ≤ xs.length := by omega
  have q1 : ((16 : Nat) : Int) * (xs.length : Int) ≤ 281474976710656 := by omega
  have q2 : (xs.length : Int) ≤ 9223372036854775807 := by omega
  simp only [go_sem, q0, q1, q2, Int.le_refl]
  refine AW.upto xs.length (inv19 xs) ?_ fun i t H c hi h => ?_
  · unfold inv19
    rw [part_zero, ← en_rep]
    exact ⟨rfl, ⟨_, rfl, rfl⟩, rfl⟩
  obtain ⟨e0, ⟨v, e3, eH⟩, e4⟩ := h
  simp only [T.c, T.i, tL] at e0 e3 eH e4
  have hpl : (part xs zS i).length = xs.length := part_len xs zS hi
  by_cases hlt : i < xs.length
  · obtain ⟨x, hx⟩ : ∃ x, xs[i]? = some x := ⟨_, List.getElem?_eq_getElem hlt⟩
    have ex := en_at eS hx
    have ez := en_at eS (part_at xs zS hlt)
    have k1 : (i : Int) < xs.length := by omega
    have gz : (0 : Int) ≤ i := by omega
    have gm : i < xs.length := hlt
    have gw : IntKind.i64.wrap ((i : Int) + 1) = ((i + 1 : Nat) : Int) := wrap64 (x := (i : Int) + 1) ⟨by omega, by omega⟩
    have hn : (en eS (part xs zS i)).set i (eS x) = en eS (part xs zS (i + 1)) := by rw [en_set, part_set xs zS hx]
    simp only [go_sem, e0, e3, eH, e4, en_len, k1, gz, gm, ex, ez, eS, Int.toNat_natCast, hpl, gw]
    exact ⟨e0, ⟨v, e3, congrArg (fun q => some (Blk.arr v true 1 9 q)) hn⟩, rfl⟩
  · have k1 : ¬ (i : Int) < xs.length := by omega
    have hi2 : i = xs.length := by omega
    subst hi2
    rw [part_end] at eH
    simp only [go_sem, e0, e3, eH, e4, en_len, k1, imp_self]
end Go.V
set_option linter.unusedSimpArgs false
set_option maxRecDepth 20000
namespace Go.V
open Go.Proofs
/-- A disk's three arrays, new. -/
abbrev dkH (c1 c2 c3 m1 m2 m3 : Nat) (d : Dk) : List Hand := [newH c1 m1 3 89 (en eF d.files), newH c2 m2 1 9 (en eS d.names), newH c3 m3 2 91 (en eM d.moves)]
abbrev oDk (c1 v1 c2 v2 c3 v3 : Nat) (d : Dk) : P1 := .agg [.own c1 v1 d.files.length, .own c2 v2 d.names.length, .own c3 v3 d.moves.length]
structure smallDk (d : Dk) : Prop where
  f : d.files.length ≤ 1048576
  n : d.names.length ≤ 1048576
  m : d.moves.length ≤ 1048576
def ok6 := okF.gu (P := Tryz.prog) tab Tryz.func6 Tryz.ntmps6 (by conv => lhs; cbv) (by kernel_rfl)
theorem toDk_ok (d : Dk) (hd : smallDk d) (m1 m2 m3 : Nat) : ACallsF Tryz.prog 6 [tDk d] (dkH 1001 1002 1003 m1 m2 m3 d) (.pt (oDk 1001 0 1002 0 1003 0 d)) := by
  refine ACallsF.intro ok6 follows fun X c0 => ?_
  simp only [go_sem]
  refine callA1 (m := 1001) (ws := []) (ns := []) (toDFs_ok d.files hd.f 1001) rfl rfl rfl (en_flat eF eF_flat _) ⟨rfl, ?_⟩
  simp only [go_sem]
  refine callA1 (m := 1002) (ws := []) (ns := []) (toSs_ok d.names hd.n 1002) rfl rfl rfl (en_flat eS eS_flat _) ⟨rfl, ?_⟩
  simp only [go_sem]
  refine callA1 (m := 1003) (ws := []) (ns := []) (toDMs_ok d.moves hd.m 1003) rfl rfl rfl (en_flat eM eM_flat _) ⟨rfl, ?_⟩
  simp only [go_sem, imp_self]
def ok43 := okF.gu (P := Tryz.prog) tab Tryz.func43 Tryz.ntmps43 (by conv => lhs; cbv) (by kernel_rfl)
theorem cloneS_ok (xs : List ByteArray) (hl : xs.length ≤ 2000000) (m : Nat) : ACallsF Tryz.prog 43 [tL (en eS xs)] [newH 5 m 1 9 (en eS xs)] (.c (.own 5 0 xs.length)) := by
  have q1 : xs.length * 16 ≤ 140737488355328 := by omega
  have q2 : xs.length ≤ 9223372036854775807 := by omega
  have hb1 : (true != false) = true := rfl
  have hb2 : (false != false) = false := rfl
  cases xs with
  | nil =>
    refine nilArgH fun ad c => ?_
    cases ad with
    | none =>
      refine ownNil (by decide) (ACallsF.intro ok43 follows fun X c0 => ?_)
      simp only [go_sem, Option.isNone_none, hb1]
    | some a =>
      refine ACallsF.intro ok43 follows fun X c0 => ?_
      simp only [go_sem, Option.isNone_some, hb2, Nat.zero_mul, Nat.zero_le, List.not_mem_nil, false_implies, implies_true, imp_self]
  | cons y ys =>
    refine ACallsF.intro ok43 follows fun X c0 => ?_
    obtain ⟨x, es, he⟩ : ∃ x es, en eS (y :: ys) = x :: es := ⟨_, _, rfl⟩
    have hall := en_all eS eS_len (y :: ys)
    have hlen := en_len eS (y :: ys)
    rw [he] at hall hlen ⊢
    simp only [List.length_cons] at hlen q1 q2
    have hlen' : es.length = ys.length := by omega
    simp only [go_sem, hall, hlen', q1, q2, Nat.zero_add, imp_self]
def ok4 := okF.gu (P := Tryz.prog) tab Tryz.func4 Tryz.ntmps4 (by conv => lhs; cbv) (by kernel_rfl)
theorem szDk_ok (d : Dk) (left : Int) (h0 : 0 ≤ left ∧ left ≤ 1048576) (hf : d.files.length ≤ 9223372036854775807 ∧ ∀ x ∈ d.files, okDF x) (hn : d.names.length ≤ 9223372036854775807 ∧ ∀ x ∈ d.names, okS x) (hm : d.moves.length ≤ 9223372036854775807 ∧ ∀ x ∈ d.moves, okDM x) :
    ∃ q, ((q = -1) ∨ (0 ≤ q ∧ q ≤ left ∧ ((d.files.length + wsum wF d.files + (d.names.length + wsum wS d.names) + (d.moves.length + wsum wM d.moves) : Nat) : Int) ≤ left)) ∧ ACallsF Tryz.prog 4 [tDk d, .i left] [] (.i q) := by
  have C1 := szDFs_ok d.files left h0 hf.1 hf.2
  by_cases hA : ((d.files.length + wsum wF d.files : Nat) : Int) ≤ left
  · have e1 : sub1 left (d.files.length + wsum wF d.files) = left - ((d.files.length + wsum wF d.files : Nat) : Int) := by rw [sub1, if_pos hA]
    rw [e1] at C1
    have k1 : ¬ left - ((d.files.length + wsum wF d.files : Nat) : Int) < 0 := by omega
    have C2 := szSs_ok d.names _ (show 0 ≤ left - ((d.files.length + wsum wF d.files : Nat) : Int) ∧ left - ((d.files.length + wsum wF d.files : Nat) : Int) ≤ 1048576 from ⟨by omega, by omega⟩) hn.1 hn.2
    generalize hl1 : left - ((d.files.length + wsum wF d.files : Nat) : Int) = l1 at *
    by_cases hB : ((d.names.length + wsum wS d.names : Nat) : Int) ≤ l1
    · have e2 : sub1 l1 (d.names.length + wsum wS d.names) = l1 - ((d.names.length + wsum wS d.names : Nat) : Int) := by rw [sub1, if_pos hB]
      rw [e2] at C2
      have k2 : ¬ l1 - ((d.names.length + wsum wS d.names : Nat) : Int) < 0 := by omega
      have C3 := szDMs_ok d.moves _ (show 0 ≤ l1 - ((d.names.length + wsum wS d.names : Nat) : Int) ∧ l1 - ((d.names.length + wsum wS d.names : Nat) : Int) ≤ 1048576 from ⟨by omega, by omega⟩) hm.1 hm.2
      generalize hl2 : l1 - ((d.names.length + wsum wS d.names : Nat) : Int) = l2 at *
      refine ⟨sub1 l2 (d.moves.length + wsum wM d.moves), ?_, ACallsF.intro ok4 follows fun X c0 => ?_⟩
      · unfold sub1
        split
        · exact .inr ⟨by omega, by omega, by omega⟩
        · exact .inl rfl
      · simp only [go_sem]
        refine callC C1 rfl rfl (by simp [closedA, closedP, closedC]) rfl ?_
        simp only [go_sem, k1]
        refine callC C2 rfl rfl (by simp [closedA, closedP, closedC]) rfl ?_
        simp only [go_sem, k2]
        refine callC C3 rfl rfl (by simp [closedA, closedP, closedC]) rfl ?_
        by_cases k3 : sub1 l2 (d.moves.length + wsum wM d.moves) < 0
        · have e3 : sub1 l2 (d.moves.length + wsum wM d.moves) = -1 := by
            unfold sub1 at k3 ⊢
            split
            · rename_i h; rw [if_pos h] at k3; omega
            · rfl
          simp only [go_sem, e3, Int.reduceLT]
        · simp only [go_sem, k3]
    · have e2 : sub1 l1 (d.names.length + wsum wS d.names) = -1 := by rw [sub1, if_neg hB]
      rw [e2] at C2
      refine ⟨-1, .inl rfl, ACallsF.intro ok4 follows fun X c0 => ?_⟩
      simp only [go_sem]
      refine callC C1 rfl rfl (by simp [closedA, closedP, closedC]) rfl ?_
      simp only [go_sem, k1]
      refine callC C2 rfl rfl (by simp [closedA, closedP, closedC]) rfl ?_
      simp only [go_sem, Int.reduceLT]
  · have e1 : sub1 left (d.files.length + wsum wF d.files) = -1 := by rw [sub1, if_neg hA]
    rw [e1] at C1
    refine ⟨-1, .inl rfl, ACallsF.intro ok4 follows fun X c0 => ?_⟩
    simp only [go_sem]
    refine callC C1 rfl rfl (by simp [closedA, closedP, closedC]) rfl ?_
    simp only [go_sem, Int.reduceLT]
end Go.V
set_option linter.unusedSimpArgs false
set_option maxRecDepth 20000
namespace Go.V
open Go.Proofs
theorem push_size (r : ByteArray) (b : UInt8) : (r.push b).size = r.size + 1 := by cases r; simp [ByteArray.push, ByteArray.size]
def ok54 := okF.gu (P := Tryz.prog) tab Tryz.func54 Tryz.ntmps54 (by conv => lhs; cbv) (by kernel_rfl)
theorem eqDF_ok (x : DF) : ACallsF Tryz.prog 54 [tDF x, tDF x] [] (.b true) := by
  have n0 : (x.kept != x.kept) = false := by simp
  refine ACallsF.intro ok54 follows fun X c0 => ?_
  simp only [go_sem, sStr, str_beq, decide_true, n0]
def ok55 := okF.gu (P := Tryz.prog) tab Tryz.func55 Tryz.ntmps55 (by conv => lhs; cbv) (by kernel_rfl)
theorem eqDM_ok (x : DM) : ACallsF Tryz.prog 55 [tDM x, tDM x] [] (.b true) := by
  have n0 : (x.gone != x.gone) = false := by simp
  refine ACallsF.intro ok55 follows fun X c0 => ?_
  simp only [go_sem, sStr, str_beq, decide_true, n0]
def ok24 := okF.gu (P := Tryz.prog) tab Tryz.func24 Tryz.ntmps24 (by conv => lhs; cbv) (by kernel_rfl)
def inv24 (xs : List DF) (i : Nat) (σ : St) : Prop := σ.t 0 = tL (en eF xs) ∧ σ.t 1 = tL (en eF xs) ∧ σ.t 5 = .i i
theorem eqDFs_ok (xs : List DF) (hl : xs.length ≤ 9000000000000000000) : ACallsF Tryz.prog 24 [tL (en eF xs), tL (en eF xs)] [] (.b true) := by
  have n0 : ((xs.length : Int) != xs.length) = false := by simp
  refine ACallsF.intro ok24 follows fun X c0 => ?_
  simp only [go_sem, n0]
  refine AW.upto xs.length (inv24 xs) ⟨rfl, rfl, rfl⟩ fun i t H c hi h => ?_
  obtain ⟨e0, e1, e5⟩ := h
  simp only [T.c, T.i, tL] at e0 e1 e5
  by_cases hlt : i < xs.length
  · obtain ⟨x, hx⟩ : ∃ x, xs[i]? = some x := ⟨_, List.getElem?_eq_getElem hlt⟩
    have ex := en_at eF hx
    have k1 : (i : Int) < xs.length := by omega
    have gz : (0 : Int) ≤ i := by omega
    have gw : IntKind.i64.wrap ((i : Int) + 1) = ((i + 1 : Nat) : Int) := wrap64 (x := (i : Int) + 1) ⟨by omega, by omega⟩
    simp only [go_sem, e0, e1, e5, en_len, k1, gz, ex, eF, Int.toNat_natCast]
    refine callC (eqDF_ok x) rfl rfl (by simp [closedA, closedP, closedC]) rfl ?_
    simp only [go_sem, e5, gw]
    exact ⟨hlt, e0, e1, rfl⟩
  · have k1 : ¬ (i : Int) < xs.length := by omega
    simp only [go_sem, e0, e1, e5, en_len, k1]
def ok26 := okF.gu (P := Tryz.prog) tab Tryz.func26 Tryz.ntmps26 (by conv => lhs; cbv) (by kernel_rfl)
def inv26 (xs : List DM) (i : Nat) (σ : St) : Prop := σ.t 0 = tL (en eM xs) ∧ σ.t 1 = tL (en eM xs) ∧ σ.t 5 = .i i
theorem eqDMs_ok (xs : List DM) (hl : xs.length ≤ 9000000000000000000) : ACallsF Tryz.prog 26 [tL (en eM xs), tL (en eM xs)] [] (.b true) := by
  have n0 : ((xs.length : Int) != xs.length) = false := by simp
  refine ACallsF.intro ok26 follows fun X c0 => ?_
  simp only [go_sem, n0]
  refine AW.upto xs.length (inv26 xs) ⟨rfl, rfl, rfl⟩ fun i t H c hi h => ?_
  obtain ⟨e0, e1, e5⟩ := h
  simp only [T.c, T.i, tL] at e0 e1 e5
  by_cases hlt : i < xs.length
  · obtain ⟨x, hx⟩ : ∃ x, xs[i]? = some x := ⟨_, List.getElem?_eq_getElem hlt⟩
    have ex := en_at eM hx
    have k1 : (i : Int) < xs.length := by omega
    have gz : (0 : Int) ≤ i := by omega
    have gw : IntKind.i64.wrap ((i : Int) + 1) = ((i + 1 : Nat) : Int) := wrap64 (x := (i : Int) + 1) ⟨by omega, by omega⟩
    simp only [go_sem, e0, e1, e5, en_len, k1, gz, ex, eM, Int.toNat_natCast]
    refine callC (eqDM_ok x) rfl rfl (by simp [closedA, closedP, closedC]) rfl ?_
    simp only [go_sem, e5, gw]
    exact ⟨hlt, e0, e1, rfl⟩
  · have k1 : ¬ (i : Int) < xs.length := by omega
    simp only [go_sem, e0, e1, e5, en_len, k1]
def ok25 := okF.gu (P := Tryz.prog) tab Tryz.func25 Tryz.ntmps25 (by conv => lhs; cbv) (by kernel_rfl)
def inv25 (xs : List ByteArray) (i : Nat) (σ : St) : Prop := σ.t 0 = tL (en eS xs) ∧ σ.t 1 = tL (en eS xs) ∧ σ.t 5 = .i i
theorem eqSs_ok (xs : List ByteArray) (hl : xs.length ≤ 9000000000000000000) : ACallsF Tryz.prog 25 [tL (en eS xs), tL (en eS xs)] [] (.b true) := by
  have n0 : ((xs.length : Int) != xs.length) = false := by simp
  refine ACallsF.intro ok25 follows fun X c0 => ?_
  simp only [go_sem, n0]
  refine AW.upto xs.length (inv25 xs) ⟨rfl, rfl, rfl⟩ fun i t H c hi h => ?_
  obtain ⟨e0, e1, e5⟩ := h
  simp only [T.c, T.i, tL] at e0 e1 e5
  by_cases hlt : i < xs.length
  · obtain ⟨x, hx⟩ : ∃ x, xs[i]? = some x := ⟨_, List.getElem?_eq_getElem hlt⟩
    have ex := en_at eS hx
    have k1 : (i : Int) < xs.length := by omega
    have gz : (0 : Int) ≤ i := by omega
    have gw : IntKind.i64.wrap ((i : Int) + 1) = ((i + 1 : Nat) : Int) := wrap64 (x := (i : Int) + 1) ⟨by omega, by omega⟩
    simp only [go_sem, e0, e1, e5, en_len, k1, gz, ex, eS, Int.toNat_natCast, sStr, str_beq, decide_true, gw]
    exact ⟨hlt, e0, e1, rfl⟩
  · have k1 : ¬ (i : Int) < xs.length := by omega
    simp only [go_sem, e0, e1, e5, en_len, k1]
def ok9 := okF.gu (P := Tryz.prog) tab Tryz.func9 Tryz.ntmps9 (by conv => lhs; cbv) (by kernel_rfl)
theorem eqDk_ok (d : Dk) (hd : smallDk d) : ACallsF Tryz.prog 9 [tDk d, tDk d] [] (.b true) := by
  refine ACallsF.intro ok9 follows fun X c0 => ?_
  simp only [go_sem]
  refine callC (eqDFs_ok d.files (by have := hd.f; omega)) rfl rfl rfl rfl ?_
  simp only [go_sem]
  refine callC (eqSs_ok d.names (by have := hd.n; omega)) rfl rfl rfl rfl ?_
  simp only [go_sem]
  refine callC (eqDMs_ok d.moves (by have := hd.m; omega)) rfl rfl rfl rfl ?_
  simp only [go_sem]
def ok56 := okF.gu (P := Tryz.prog) tab Tryz.func56 Tryz.ntmps56 (by conv => lhs; cbv) (by kernel_rfl)
/-- How far the text of a mark is written. -/
def mtI (k : Nat) : Nat → Nat × ByteArray
  | 0 => (k, ⟨#[]⟩)
  | i + 1 => ((mtI k i).1 / 10, pushB [IntKind.u8.wrap (48 + (((mtI k i).1 % 10 : Nat) : Int))] ++ (mtI k i).2)
theorem mtI_size (k : Nat) : ∀ i, (mtI k i).2.size = i
  | 0 => rfl
  | i + 1 => by
    have hsz : ∀ x : Int, (pushB [x]).size = 1 := fun x => by rw [pushB, List.foldl_cons, List.foldl_nil, push_size]; rfl
    rw [mtI, ByteArray.size_append, hsz, mtI_size k i]; omega
theorem mtI_le (k : Nat) : ∀ i, (mtI k i).1 ≤ k
  | 0 => Nat.le_refl _
  | i + 1 => by have := mtI_le k i; simp only [mtI]; omega
theorem mtI_fall (k : Nat) : ∀ i, (mtI k i).1 * 10 ^ i ≤ k
  | 0 => by simp [mtI]
  | i + 1 => by
    have := mtI_fall k i
    simp only [mtI]
    have h : (mtI k i).1 / 10 * 10 ≤ (mtI k i).1 := Nat.div_mul_le_self _ _
    calc (mtI k i).1 / 10 * 10 ^ (i + 1) = (mtI k i).1 / 10 * 10 * 10 ^ i := by rw [Nat.pow_succ, Nat.mul_comm (10 ^ i) 10, Nat.mul_assoc]
      _ ≤ (mtI k i).1 * 10 ^ i := Nat.mul_le_mul_right _ h
      _ ≤ k := this
def inv56 (k N : Nat) (i : Nat) (σ : St) : Prop := (∀ j, j < i → (mtI k j).1 ≠ 0) ∧ i ≤ N ∧ σ.t 0 = .i (mtI k i).1 ∧ σ.t 3 = tS (mtI k i).2
def mtG (k : Nat) : Nat → Nat → Nat
  | 0, i => i
  | f + 1, i => if (mtI k i).1 = 0 then i else mtG k f (i + 1)
theorem mtG_ok (k : Nat) : ∀ f i, (mtI k (i + f)).1 = 0 → (mtI k (mtG k f i)).1 = 0 ∧ (∀ j, i ≤ j → j < mtG k f i → (mtI k j).1 ≠ 0) ∧ mtG k f i ≤ i + f
  | 0, i, h => ⟨h, fun j h1 h2 => absurd h2 (by simp only [mtG]; omega), Nat.le_refl _⟩
  | f + 1, i, h => by
    by_cases h0 : (mtI k i).1 = 0
    · simp only [mtG, if_pos h0]; exact ⟨h0, fun j h1 h2 => by omega, by omega⟩
    · simp only [mtG, if_neg h0]
      obtain ⟨g1, g2, g3⟩ := mtG_ok k f (i + 1) (by rw [show i + 1 + f = i + (f + 1) by omega]; exact h)
      refine ⟨g1, fun j h1 h2 => ?_, by omega⟩
      rcases Nat.eq_or_lt_of_le h1 with rfl | h1
      · exact h0
      · exact g2 j h1 h2
/-- The text of a mark. -/
def mt (k : Nat) : ByteArray := ⟨#[109]⟩ ++ (mtI k (mtG k 15 0)).2
theorem mark_ok (k : Nat) (h1 : 1 ≤ k) (h2 : k ≤ 100000000000000) : ACallsF Tryz.prog 56 [.i k] [] (tS (mt k)) := by
  have h0 : (mtI k 15).1 = 0 := by
    have := mtI_fall k 15
    by_cases h : (mtI k 15).1 = 0
    · exact h
    · have : 1 * 10 ^ 15 ≤ (mtI k 15).1 * 10 ^ 15 := Nat.mul_le_mul_right _ (by omega)
      omega
  obtain ⟨hN, hmin, hN15⟩ := mtG_ok k 15 0 h0
  unfold mt
  generalize mtG k 15 0 = N at *
  have hsz : ∀ x : Int, (pushB [x]).size = 1 := fun x => by rw [pushB, List.foldl_cons, List.foldl_nil, push_size]; rfl
  refine ACallsF.intro ok56 follows fun X c0 => ?_
  have k0 : ¬ (k : Int) ≤ 0 := by omega
  simp only [go_sem, k0]
  refine AW.upto N (inv56 k N) ⟨fun j hj => absurd hj (Nat.not_lt_zero j), Nat.zero_le _, rfl, rfl⟩ fun i t H c hi h => ?_
  obtain ⟨g, _, e0, e3⟩ := h
  simp only [T.c, T.i, T.s] at e0 e3
  have hle := mtI_le k i
  have hz := mtI_size k i
  by_cases hlt : i < N
  · have hne : (mtI k i).1 ≠ 0 := hmin i (Nat.zero_le _) hlt
    have k1 : ((mtI k i).1 : Int) > 0 := by omega
    have q1 : IntKind.i64.wrap (((mtI k i).1 : Int).tdiv 10) = (((mtI k i).1 / 10 : Nat) : Int) := (IntWalk.i64_quo ((mtI k i).1 : Int) 10 ⟨by omega, by omega, by omega⟩).trans (by omega)
    have q2 : ((mtI k i).1 : Int).tmod 10 = (((mtI k i).1 % 10 : Nat) : Int) := rfl
    have q3 : IntKind.i64.wrap (48 + (((mtI k i).1 % 10 : Nat) : Int)) = 48 + (((mtI k i).1 % 10 : Nat) : Int) := wrap64 ⟨by omega, by omega⟩
    have h10 : ¬ (10 : Int) = 0 := by omega
    have hlen : fits (pushB [IntKind.u8.wrap (48 + (((mtI k i).1 % 10 : Nat) : Int))]) (mtI k i).2 := by rw [fits, hsz, hz]; omega
    simp only [go_sem, e0, e3, k1, q1, q2, q3, h10, bytesOf, sStr, hlen]
    exact ⟨hlt, fun j hj => (by rcases Nat.lt_succ_iff_lt_or_eq.1 hj with hj | rfl; exact g j hj; exact hne), hlt, rfl, rfl⟩
  · have hi2 : i = N := by omega
    subst hi2
    have hN' : (mtI k i).1 = 0 := hN
    have k1 : ¬ ((mtI k i).1 : Int) > 0 := by omega
    have hlen : fits ⟨#[109]⟩ (mtI k i).2 := by rw [fits, hz]; show 1 + i ≤ _; omega
    simp only [go_sem, e0, e3, k1, sStr, hlen]
end Go.V
set_option linter.unusedSimpArgs false
set_option maxRecDepth 20000
namespace Go.V
open Go.Proofs
/-- What stands in a list that is marked. -/
def marks {α : Type} (m : Nat → α) (s k n : Nat) : List α := (List.range n).map fun j => m (k + s * j)
theorem marks_len {α : Type} (m : Nat → α) (s k n : Nat) : (marks m s k n).length = n := by simp [marks]
theorem marks_at {α : Type} (m : Nat → α) (s k : Nat) {n i : Nat} (h : i < n) : (marks m s k n)[i]? = some (m (k + s * i)) := by simp [marks, h]
def mrk {α : Type} (m : Nat → α) (s : Nat) (xs : List α) (k i : Nat) : List α := marks m s k i ++ xs.drop i
theorem mrk_len {α : Type} (m : Nat → α) (s : Nat) (xs : List α) (k : Nat) {i : Nat} (h : i ≤ xs.length) : (mrk m s xs k i).length = xs.length := by simp [mrk, marks_len]; omega
theorem mrk_zero {α : Type} (m : Nat → α) (s : Nat) (xs : List α) (k : Nat) : mrk m s xs k 0 = xs := by simp [mrk, marks]
theorem mrk_end {α : Type} (m : Nat → α) (s : Nat) (xs : List α) (k : Nat) : mrk m s xs k xs.length = marks m s k xs.length := by simp [mrk]
theorem mrk_at {α : Type} (m : Nat → α) (s : Nat) (xs : List α) (k : Nat) {i : Nat} {x : α} (h : xs[i]? = some x) : (mrk m s xs k i)[i]? = some x := by
  rw [mrk, List.getElem?_append_right (by rw [marks_len]; omega), marks_len, Nat.sub_self, List.getElem?_drop]; simpa using h
theorem mrk_set {α : Type} (m : Nat → α) (s : Nat) (xs : List α) (k : Nat) {i : Nat} {x : α} (h : xs[i]? = some x) : (mrk m s xs k i).set i (m (k + s * i)) = mrk m s xs k (i + 1) := by
  have hi := (List.getElem?_eq_some_iff.1 h).1
  rw [mrk, List.set_append, if_neg (by rw [marks_len]; omega), marks_len, Nat.sub_self, List.drop_eq_getElem_cons hi, List.set_cons_zero, mrk]
  simp [marks, List.range_succ]
def mS (k : Nat) : ByteArray := mt k
def mF (k : Nat) : DF := ⟨mt k, mt (k + 1), ((k + 2 : Nat) : Int)⟩
def mM (k : Nat) : DM := ⟨(((k % 3 : Nat) : Int) == 0), mt (k + 1)⟩
theorem SET : (type_of% @List.getElem?_set_self.{0}) ∧ (type_of% @List.set_set.{0}) ∧ (type_of% @List.length_set.{0}) := ⟨@List.getElem?_set_self.{0}, @List.set_set.{0}, @List.length_set.{0}⟩
/-- An array that is handed on. -/
abbrev arH (c m v st : Nat) (ty : TypeId) (es es' : List (List V)) : Hand := ⟨c, m, some (.arr v true st ty es), .arr v true st ty es', true⟩
def ok28 := okF.gu (P := Tryz.prog) tab Tryz.func28 Tryz.ntmps28 (by conv => lhs; cbv) (by kernel_rfl)
def inv28 (xs : List ByteArray) (k v : Nat) (i : Nat) (σ : St) : Prop := σ.t 0 = .c (.own 2001 v xs.length) ∧ σ.H 2001 = some (.arr v true 1 9 (en eS (mrk mS 1 xs k i))) ∧ σ.t 1 = .i ((k + 1 * i : Nat) : Int) ∧ σ.t 5 = .i i
theorem markSs_ok (xs : List ByteArray) (k : Nat) (h1 : 1 ≤ k) (hk : k + 1 * xs.length ≤ 100000000000000) (m v : Nat) : ACallsF Tryz.prog 28 [.c (.own 2001 v xs.length), .i k] [arH 2001 m v 1 9 (en eS xs) (en eS (marks mS 1 k xs.length))] (.i ((k + 1 * xs.length : Nat) : Int)) := by
  refine ACallsF.intro ok28 follows fun X c0 => ?_
  simp only [go_sem]
  refine AW.upto xs.length (inv28 xs k v) ?_ fun i t H c hi h => ?_
  · unfold inv28
    rw [mrk_zero]
    exact ⟨rfl, rfl, rfl, rfl⟩
  obtain ⟨e0, eH, e1, e5⟩ := h
  simp only [T.c, T.i] at e0 eH e1 e5
  have hpl : (mrk mS 1 xs k i).length = xs.length := mrk_len mS 1 xs k hi
  by_cases hlt : i < xs.length
  · obtain ⟨x, hx⟩ : ∃ x, xs[i]? = some x := ⟨_, List.getElem?_eq_getElem hlt⟩
    have ex := en_at eS (mrk_at mS 1 xs k hx)
    have k1 : (i : Int) < xs.length := by omega
    have gz : (0 : Int) ≤ i := by omega
    have gm : i < xs.length := hlt
    have gw : IntKind.i64.wrap ((i : Int) + 1) = ((i + 1 : Nat) : Int) := wrap64 (x := (i : Int) + 1) ⟨by omega, by omega⟩
    have h30 : ¬ (3 : Int) = 0 := by omega
    have q3 : ((k + 1 * i : Nat) : Int).tmod 3 = (((k + 1 * i) % 3 : Nat) : Int) := rfl
    have g0 : IntKind.i64.wrap (((k + 1 * i : Nat) : Int) + 1) = ((k + 1 * (i + 1) : Nat) : Int) := (wrap64 (x := ((k + 1 * i : Nat) : Int) + 1) ⟨by omega, by omega⟩).trans (by omega)
    have hn : (en eS (mrk mS 1 xs k i)).set i (eS (mS (k + 1 * i))) = en eS (mrk mS 1 xs k (i + 1)) := by rw [en_set, mrk_set mS 1 xs k hx]
    simp only [go_sem, SET, e0, eH, e1, e5, en_len, hpl, k1, gz, gm, ex, eS, g0, gw, h30, q3]
    refine callC (mark_ok (k + 1 * i) (by omega) (by omega)) rfl rfl rfl rfl ?_
    simp only [go_sem, SET, e0, eH, e1, e5, en_len, hpl, k1, gz, gm, ex, eS, g0, gw, h30, q3]
    exact ⟨e0, congrArg (fun q => some (Blk.arr v true 1 9 q)) hn, rfl, rfl⟩
  · have k1 : ¬ (i : Int) < xs.length := by omega
    have hi2 : i = xs.length := by omega
    subst hi2
    rw [mrk_end] at eH
    simp only [go_sem, e0, eH, e1, e5, en_len, k1, imp_self]
def ok27 := okF.gu (P := Tryz.prog) tab Tryz.func27 Tryz.ntmps27 (by conv => lhs; cbv) (by kernel_rfl)
def inv27 (xs : List DF) (k v : Nat) (i : Nat) (σ : St) : Prop := σ.t 0 = .c (.own 2001 v xs.length) ∧ σ.H 2001 = some (.arr v true 3 89 (en eF (mrk mF 3 xs k i))) ∧ σ.t 1 = .i ((k + 3 * i : Nat) : Int) ∧ σ.t 5 = .i i
theorem markDFs_ok (xs : List DF) (k : Nat) (h1 : 1 ≤ k) (hk : k + 3 * xs.length ≤ 100000000000000) (m v : Nat) : ACallsF Tryz.prog 27 [.c (.own 2001 v xs.length), .i k] [arH 2001 m v 3 89 (en eF xs) (en eF (marks mF 3 k xs.length))] (.i ((k + 3 * xs.length : Nat) : Int)) := by
  refine ACallsF.intro ok27 follows fun X c0 => ?_
  simp only [go_sem]
  refine AW.upto xs.length (inv27 xs k v) ?_ fun i t H c hi h => ?_
  · unfold inv27
    rw [mrk_zero]
    exact ⟨rfl, rfl, rfl, rfl⟩
  obtain ⟨e0, eH, e1, e5⟩ := h
  simp only [T.c, T.i] at e0 eH e1 e5
  have hpl : (mrk mF 3 xs k i).length = xs.length := mrk_len mF 3 xs k hi
  by_cases hlt : i < xs.length
  · obtain ⟨x, hx⟩ : ∃ x, xs[i]? = some x := ⟨_, List.getElem?_eq_getElem hlt⟩
    have ex := en_at eF (mrk_at mF 3 xs k hx)
    have k1 : (i : Int) < xs.length := by omega
    have gz : (0 : Int) ≤ i := by omega
    have gm : i < xs.length := hlt
    have gw : IntKind.i64.wrap ((i : Int) + 1) = ((i + 1 : Nat) : Int) := wrap64 (x := (i : Int) + 1) ⟨by omega, by omega⟩
    have h30 : ¬ (3 : Int) = 0 := by omega
    have q3 : ((k + 3 * i : Nat) : Int).tmod 3 = (((k + 3 * i) % 3 : Nat) : Int) := rfl
    have g0 : IntKind.i64.wrap (((k + 3 * i : Nat) : Int) + 1) = ((k + 3 * i + 1 : Nat) : Int) := (wrap64 (x := ((k + 3 * i : Nat) : Int) + 1) ⟨by omega, by omega⟩).trans (by omega)
    have g1 : IntKind.i64.wrap (((k + 3 * i + 1 : Nat) : Int) + 1) = ((k + 3 * i + 2 : Nat) : Int) := (wrap64 (x := ((k + 3 * i + 1 : Nat) : Int) + 1) ⟨by omega, by omega⟩).trans (by omega)
    have g2 : IntKind.i64.wrap (((k + 3 * i + 2 : Nat) : Int) + 1) = ((k + 3 * (i + 1) : Nat) : Int) := (wrap64 (x := ((k + 3 * i + 2 : Nat) : Int) + 1) ⟨by omega, by omega⟩).trans (by omega)
    have hn : (en eF (mrk mF 3 xs k i)).set i (eF (mF (k + 3 * i))) = en eF (mrk mF 3 xs k (i + 1)) := by rw [en_set, mrk_set mF 3 xs k hx]
    simp only [go_sem, SET, e0, eH, e1, e5, en_len, hpl, k1, gz, gm, ex, eF, g0, g1, g2, gw, h30, q3]
    refine callC (mark_ok (k + 3 * i) (by omega) (by omega)) rfl rfl rfl rfl ?_
    simp only [go_sem, SET, e0, eH, e1, e5, en_len, hpl, k1, gz, gm, ex, eF, g0, g1, g2, gw, h30, q3]
    refine callC (mark_ok (k + 3 * i + 1) (by omega) (by omega)) rfl rfl rfl rfl ?_
    simp only [go_sem, SET, e0, eH, e1, e5, en_len, hpl, k1, gz, gm, ex, eF, g0, g1, g2, gw, h30, q3]
    exact ⟨e0, congrArg (fun q => some (Blk.arr v true 3 89 q)) hn, rfl, rfl⟩
  · have k1 : ¬ (i : Int) < xs.length := by omega
    have hi2 : i = xs.length := by omega
    subst hi2
    rw [mrk_end] at eH
    simp only [go_sem, e0, eH, e1, e5, en_len, k1, imp_self]
def ok29 := okF.gu (P := Tryz.prog) tab Tryz.func29 Tryz.ntmps29 (by conv => lhs; cbv) (by kernel_rfl)
def inv29 (xs : List DM) (k v : Nat) (i : Nat) (σ : St) : Prop := σ.t 0 = .c (.own 2001 v xs.length) ∧ σ.H 2001 = some (.arr v true 2 91 (en eM (mrk mM 2 xs k i))) ∧ σ.t 1 = .i ((k + 2 * i : Nat) : Int) ∧ σ.t 5 = .i i
theorem markDMs_ok (xs : List DM) (k : Nat) (h1 : 1 ≤ k) (hk : k + 2 * xs.length ≤ 100000000000000) (m v : Nat) : ACallsF Tryz.prog 29 [.c (.own 2001 v xs.length), .i k] [arH 2001 m v 2 91 (en eM xs) (en eM (marks mM 2 k xs.length))] (.i ((k + 2 * xs.length : Nat) : Int)) := by
  refine ACallsF.intro ok29 follows fun X c0 => ?_
  simp only [go_sem]
  refine AW.upto xs.length (inv29 xs k v) ?_ fun i t H c hi h => ?_
  · unfold inv29
    rw [mrk_zero]
    exact ⟨rfl, rfl, rfl, rfl⟩
  obtain ⟨e0, eH, e1, e5⟩ := h
  simp only [T.c, T.i] at e0 eH e1 e5
  have hpl : (mrk mM 2 xs k i).length = xs.length := mrk_len mM 2 xs k hi
  by_cases hlt : i < xs.length
  · obtain ⟨x, hx⟩ : ∃ x, xs[i]? = some x := ⟨_, List.getElem?_eq_getElem hlt⟩
    have ex := en_at eM (mrk_at mM 2 xs k hx)
    have k1 : (i : Int) < xs.length := by omega
    have gz : (0 : Int) ≤ i := by omega
    have gm : i < xs.length := hlt
    have gw : IntKind.i64.wrap ((i : Int) + 1) = ((i + 1 : Nat) : Int) := wrap64 (x := (i : Int) + 1) ⟨by omega, by omega⟩
    have h30 : ¬ (3 : Int) = 0 := by omega
    have q3 : ((k + 2 * i : Nat) : Int).tmod 3 = (((k + 2 * i) % 3 : Nat) : Int) := rfl
    have g0 : IntKind.i64.wrap (((k + 2 * i : Nat) : Int) + 1) = ((k + 2 * i + 1 : Nat) : Int) := (wrap64 (x := ((k + 2 * i : Nat) : Int) + 1) ⟨by omega, by omega⟩).trans (by omega)
    have g1 : IntKind.i64.wrap (((k + 2 * i + 1 : Nat) : Int) + 1) = ((k + 2 * (i + 1) : Nat) : Int) := (wrap64 (x := ((k + 2 * i + 1 : Nat) : Int) + 1) ⟨by omega, by omega⟩).trans (by omega)
    have hn : (en eM (mrk mM 2 xs k i)).set i (eM (mM (k + 2 * i))) = en eM (mrk mM 2 xs k (i + 1)) := by rw [en_set, mrk_set mM 2 xs k hx]
    simp only [go_sem, SET, e0, eH, e1, e5, en_len, hpl, k1, gz, gm, ex, eM, g0, g1, gw, h30, q3]
    refine callC (mark_ok (k + 2 * i + 1) (by omega) (by omega)) rfl rfl rfl rfl ?_
    simp only [go_sem, SET, e0, eH, e1, e5, en_len, hpl, k1, gz, gm, ex, eM, g0, g1, gw, h30, q3]
    exact ⟨e0, congrArg (fun q => some (Blk.arr v true 2 91 q)) hn, rfl, rfl⟩
  · have k1 : ¬ (i : Int) < xs.length := by omega
    have hi2 : i = xs.length := by omega
    subst hi2
    rw [mrk_end] at eH
    simp only [go_sem, e0, eH, e1, e5, en_len, k1, imp_self]
end Go.V
set_option linter.unusedSimpArgs false
set_option maxRecDepth 20000
namespace Go.V
open Go.Proofs
/-- A call that works in place on an array of the caller's. -/
theorem callM1 {P : Program} {t : Nat → T} {H : HMap} {c : Nat} {f : Opd} {args : List Opd} {fid : FuncId} {n m v N st : Nat} {ty : TypeId} {es es' : List (List V)} {x r : T} {k : Nat} {d : Option Nat} {un : List Nat} {l : List AOper} {prev : List (Nat × List Nat × List Nat)} {K : St → Prop}
    (hC : ACallsF P fid [.c (.own n v N), x] [arH n m v st ty es es'] r) (hf : ev t f = .pt (.one (.fn fid []))) (hl : args.map (ev t) = [.c (.own m v N), x]) (hH : H m = some (.arr v true st ty es)) (hx : closedA x = true) (hr : closedT r = true)
    (hk : chk prev un ⟨r, [(m, .arr v true st ty es')], [m], [m]⟩ = true ∧ DRun P l ((k, [m], [m]) :: prev) K ⟨updD t d r, upd H m (some (.arr v true st ty es')), c⟩) :
    step P k d un (.call f args) l prev K t H c := by
  have hN : renN [arH n m v st ty es es'] n = some (arH n m v st ty es es') := by simp [renN]
  obtain ⟨x1, x2⟩ := closed_A [arH n m v st ty es es'] H x hx
  refine callW (caps := []) («as» := [.c (.own m v N), x]) (ws := []) (ns := []) (r' := r) (ob := [(m, .arr v true st ty es')]) [arH n m v st ty es es'] hC hf ?_ ?_ ⟨?_, trivial⟩ (by simp) (by simp) (closed_T _ r hr _) ?_ ?_
  · rw [hl]
    have a1 : lendT H (T.c (.own n v N)) (T.c (.own m v N)) = some (T.c (.own m v N), [], []) := rfl
    simp only [List.map_nil, List.append_nil, lendTs, a1, x1]
  · have a1 : renIT [arH n m v st ty es es'] (T.c (.own n v N)) = some (T.c (.own m v N)) := by simp only [T.c, renIT, renI, inN, hN, Option.bind_some, Option.map_some]
    simp only [renITs, a1, x2]
  · show (match renIB [arH n m v st ty es es'] (.arr v true st ty es) with | some B => (updH H []) m = some B | none => False)
    simp only [renIB, updH]
    exact hH
  · simp only [renOBs, renOB, verOf, if_true, Blk.ver]
  · have hq : quiet r [arH n m v st ty es es'] = false := by simp [quiet]
    simpa [hq, updH] using hk
/-- A disk that is marked. -/
def mkDk (k : Nat) (d : Dk) : Dk := ⟨marks mF 3 k d.files.length, marks mS 1 (k + 3 * d.files.length) d.names.length, marks mM 2 (k + 3 * d.files.length + 1 * d.names.length) d.moves.length⟩
def mkN (k : Nat) (d : Dk) : Nat := k + 3 * d.files.length + 1 * d.names.length + 2 * d.moves.length
/-- A disk's three arrays, as they are handed on. -/
abbrev dkM (m1 m2 m3 v1 v2 v3 : Nat) (d d' : Dk) : List Hand := [arH 2001 m1 v1 3 89 (en eF d.files) (en eF d'.files), arH 2002 m2 v2 1 9 (en eS d.names) (en eS d'.names), arH 2003 m3 v3 2 91 (en eM d.moves) (en eM d'.moves)]
def ok10 := okF.gu (P := Tryz.prog) tab Tryz.func10 Tryz.ntmps10 (by conv => lhs; cbv) (by kernel_rfl)
theorem markDk_ok (d : Dk) (k : Nat) (h1 : 1 ≤ k) (hk : mkN k d ≤ 100000000000000) (m1 m2 m3 v1 v2 v3 : Nat) : ACallsF Tryz.prog 10 [.pt (oDk 2001 v1 2002 v2 2003 v3 d), .i k] (dkM m1 m2 m3 v1 v2 v3 d (mkDk k d)) (.i (mkN k d)) := by
  unfold mkN at hk
  refine ACallsF.intro ok10 follows fun X c0 => ?_
  simp only [go_sem]
  refine callM1 (m := 2001) (markDFs_ok d.files k h1 (by omega) 2001 v1) rfl rfl rfl rfl rfl ⟨rfl, ?_⟩
  simp only [go_sem]
  refine callM1 (m := 2002) (markSs_ok d.names (k + 3 * d.files.length) (by omega) (by omega) 2002 v2) rfl rfl rfl rfl rfl ⟨rfl, ?_⟩
  simp only [go_sem]
  refine callM1 (m := 2003) (markDMs_ok d.moves (k + 3 * d.files.length + 1 * d.names.length) (by omega) (by omega) 2003 v3) rfl rfl rfl rfl rfl ⟨rfl, ?_⟩
  simp only [go_sem, mkDk, mkN, imp_self, Nat.reduceEqDiff]
def ok84 := okF.gu (P := Tryz.prog) tab Tryz.func84 Tryz.ntmps84 (by conv => lhs; cbv) (by kernel_rfl)
def inv84 (N k : Nat) (i : Nat) (σ : St) : Prop := σ.t 0 = tL (en eS (marks mS 1 k N)) ∧ σ.t 1 = .i ((k + 1 * i : Nat) : Int) ∧ σ.t 5 = .i i
theorem heldSs_ok (N : Nat) (k : Nat) (h1 : 1 ≤ k) (hk : k + 1 * N ≤ 100000000000000) : ACallsF Tryz.prog 84 [tL (en eS (marks mS 1 k N)), .i k] [] (.i ((k + 1 * N : Nat) : Int)) := by
  refine ACallsF.intro ok84 follows fun X c0 => ?_
  simp only [go_sem]
  refine AW.upto N (inv84 N k) ⟨rfl, rfl, rfl⟩ fun i t H c hi h => ?_
  obtain ⟨e0, e1, e5⟩ := h
  simp only [T.c, T.i, tL] at e0 e1 e5
  have hpl : (marks mS 1 k N).length = N := marks_len mS 1 k N
  by_cases hlt : i < N
  · have ex := en_at eS (marks_at mS 1 k hlt)
    have k1 : (i : Int) < N := by omega
    have gz : (0 : Int) ≤ i := by omega
    have gw : IntKind.i64.wrap ((i : Int) + 1) = ((i + 1 : Nat) : Int) := wrap64 (x := (i : Int) + 1) ⟨by omega, by omega⟩
    have h30 : ¬ (3 : Int) = 0 := by omega
    have q3 : ((k + 1 * i : Nat) : Int).tmod 3 = (((k + 1 * i) % 3 : Nat) : Int) := rfl
    have g0 : IntKind.i64.wrap (((k + 1 * i : Nat) : Int) + 1) = ((k + 1 * (i + 1) : Nat) : Int) := (wrap64 (x := ((k + 1 * i : Nat) : Int) + 1) ⟨by omega, by omega⟩).trans (by omega)

    simp only [go_sem, e0, e1, e5, en_len, hpl, k1, gz, ex, eS, mS, g0, gw, h30, q3, sStr, str_beq, decide_true]
    refine callC (mark_ok (k + 1 * i) (by omega) (by omega)) rfl rfl rfl rfl ?_
    simp only [go_sem, e0, e1, e5, en_len, hpl, k1, gz, ex, eS, mS, g0, gw, h30, q3, sStr, str_beq, decide_true]
    exact ⟨hlt, e0, rfl, rfl⟩
  · have k1 : ¬ (i : Int) < N := by omega
    have hi2 : i = N := by omega
    subst hi2
    simp only [go_sem, e0, e1, e5, en_len, hpl, k1]
end Go.V
set_option linter.unusedSimpArgs false
set_option maxRecDepth 20000
namespace Go.V
open Go.Proofs
/-! the reference's disk, as functions -/
/-- The place of a file, -1 if there is none. -/
def fnd (fs : List DF) (nm : ByteArray) : Int := match fs.findIdx? fun f => decide (f.name = nm) with
  | some i => i
  | none => -1
theorem fnd_at {fs : List DF} {nm : ByteArray} {i : Nat} {f : DF} (hi : fs[i]? = some f) (hf : f.name = nm) (hb : ∀ (j : Nat), j < i → ∀ (g : DF), fs[j]? = some g → g.name ≠ nm) : fnd fs nm = i := by
  have : (fs.findIdx? fun f => decide (f.name = nm)) = some i := by
    rw [List.findIdx?_eq_some_iff_getElem]
    have hlt := (List.getElem?_eq_some_iff.1 hi).1
    have he := (List.getElem?_eq_some_iff.1 hi).2
    refine ⟨hlt, by rw [he]; simpa using hf, fun j hj => ?_⟩
    have := hb j hj _ (List.getElem?_eq_getElem (by omega))
    simpa using this
  simp only [fnd, this]
theorem fnd_no {fs : List DF} {nm : ByteArray} (hb : ∀ (j : Nat) (g : DF), fs[j]? = some g → g.name ≠ nm) : fnd fs nm = -1 := by
  have : (fs.findIdx? fun f => decide (f.name = nm)) = none := by
    rw [List.findIdx?_eq_none_iff]
    intro x hx
    obtain ⟨j, hj⟩ := List.mem_iff_getElem?.1 hx
    simpa using hb j x hj
  simp only [fnd, this]
def ok62 := okF.gu (P := Tryz.prog) tab Tryz.func62 Tryz.ntmps62 (by conv => lhs; cbv) (by kernel_rfl)
def inv62 (fs : List DF) (nm : ByteArray) (i : Nat) (σ : St) : Prop := (∀ (j : Nat), j < i → ∀ (g : DF), fs[j]? = some g → g.name ≠ nm) ∧ σ.t 0 = tL (en eF fs) ∧ σ.t 1 = tS nm ∧ σ.t 5 = .i i
theorem find_ok (fs : List DF) (nm : ByteArray) (hl : fs.length ≤ 9000000000000000000) : ACallsF Tryz.prog 62 [tL (en eF fs), tS nm] [] (.i (fnd fs nm)) := by
  refine ACallsF.intro ok62 follows fun X c0 => ?_
  simp only [go_sem]
  refine AW.upto fs.length (inv62 fs nm) ⟨fun j hj => absurd hj (Nat.not_lt_zero j), rfl, rfl, rfl⟩ fun i t H c hi h => ?_
  obtain ⟨g, e0, e1, e5⟩ := h
  simp only [T.c, T.i, T.s, tL] at e0 e1 e5
  by_cases hlt : i < fs.length
  · obtain ⟨x, hx⟩ : ∃ x, fs[i]? = some x := ⟨_, List.getElem?_eq_getElem hlt⟩
    have ex := en_at eF hx
    have k1 : (i : Int) < fs.length := by omega
    have gz : (0 : Int) ≤ i := by omega
    have gw : IntKind.i64.wrap ((i : Int) + 1) = ((i + 1 : Nat) : Int) := wrap64 (x := (i : Int) + 1) ⟨by omega, by omega⟩
    by_cases hn : x.name = nm
    · have hr : fnd fs nm = i := fnd_at hx hn g
      simp only [go_sem, e0, e1, e5, en_len, k1, gz, ex, eF, sStr, str_beq, hn, hr, decide_true]
    · simp only [go_sem, e0, e1, e5, en_len, k1, gz, ex, eF, sStr, str_beq, hn, gw]
      exact ⟨hlt, fun j hj g' hg => (by rcases Nat.lt_succ_iff_lt_or_eq.1 hj with hj | rfl; exact g j hj g' hg; rw [hx] at hg; cases hg; exact hn), e0, e1, rfl⟩
  · have k1 : ¬ (i : Int) < fs.length := by omega
    have hr : fnd fs nm = -1 := fnd_no fun j g' hg => g j (by have := (List.getElem?_eq_some_iff.1 hg).1; omega) g' hg
    simp only [go_sem, e0, e1, e5, en_len, k1, hr]
def has (ns : List ByteArray) (nm : ByteArray) : Bool := ns.any fun x => decide (x = nm)
theorem has_true {ns : List ByteArray} {nm : ByteArray} : has ns nm = true ↔ nm ∈ ns := by
  rw [has, List.any_eq_true]
  exact ⟨fun ⟨x, h1, h2⟩ => of_decide_eq_true h2 ▸ h1, fun h => ⟨nm, h, decide_eq_true rfl⟩⟩
theorem has_false {ns : List ByteArray} {nm : ByteArray} : has ns nm = false ↔ nm ∉ ns := by
  rw [← has_true]; cases has ns nm <;> simp
def ok63 := okF.gu (P := Tryz.prog) tab Tryz.func63 Tryz.ntmps63 (by conv => lhs; cbv) (by kernel_rfl)
def inv63 (ns : List ByteArray) (nm : ByteArray) (i : Nat) (σ : St) : Prop := (∀ (j : Nat), j < i → ns[j]? ≠ some nm) ∧ σ.t 0 = tL (en eS ns) ∧ σ.t 1 = tS nm ∧ σ.t 5 = .i i
theorem has_ok (ns : List ByteArray) (nm : ByteArray) (hl : ns.length ≤ 9000000000000000000) : ACallsF Tryz.prog 63 [tL (en eS ns), tS nm] [] (.b (has ns nm)) := by
  refine ACallsF.intro ok63 follows fun X c0 => ?_
  simp only [go_sem]
  refine AW.upto ns.length (inv63 ns nm) ⟨fun j hj => absurd hj (Nat.not_lt_zero j), rfl, rfl, rfl⟩ fun i t H c hi h => ?_
  obtain ⟨g, e0, e1, e5⟩ := h
  simp only [T.c, T.i, T.s, tL] at e0 e1 e5
  by_cases hlt : i < ns.length
  · obtain ⟨x, hx⟩ : ∃ x, ns[i]? = some x := ⟨_, List.getElem?_eq_getElem hlt⟩
    have ex := en_at eS hx
    have k1 : (i : Int) < ns.length := by omega
    have gz : (0 : Int) ≤ i := by omega
    have gw : IntKind.i64.wrap ((i : Int) + 1) = ((i + 1 : Nat) : Int) := wrap64 (x := (i : Int) + 1) ⟨by omega, by omega⟩
    by_cases hn : x = nm
    · have hr : has ns nm = true := has_true.2 (hn ▸ List.mem_of_getElem? hx)
      simp only [go_sem, e0, e1, e5, en_len, k1, gz, ex, eS, sStr, str_beq, hn, hr, decide_true]
    · simp only [go_sem, e0, e1, e5, en_len, k1, gz, ex, eS, sStr, str_beq, hn, gw]
      exact ⟨hlt, fun j hj => (by rcases Nat.lt_succ_iff_lt_or_eq.1 hj with hj | rfl; exact g j hj; rw [hx]; exact fun e => hn (Option.some.inj e)), e0, e1, rfl⟩
  · have k1 : ¬ (i : Int) < ns.length := by omega
    have hr : has ns nm = false := has_false.2 fun hm => by
      obtain ⟨j, hj⟩ := List.mem_iff_getElem?.1 hm
      exact g j (by have := (List.getElem?_eq_some_iff.1 hj).1; omega) hj
    simp only [go_sem, e0, e1, e5, en_len, k1, hr]
/-- Names without one. -/
def wo (nm : ByteArray) (ns : List ByteArray) : List ByteArray := ns.filter fun x => !decide (x = nm)
theorem wo_len (nm : ByteArray) (ns : List ByteArray) : (wo nm ns).length ≤ ns.length := List.length_filter_le _ _
theorem wo_take (nm : ByteArray) {ns : List ByteArray} {i : Nat} {x : ByteArray} (h : ns[i]? = some x) : wo nm (ns.take (i + 1)) = if x = nm then wo nm (ns.take i) else wo nm (ns.take i) ++ [x] := by
  rw [List.take_add_one, h, wo, List.filter_append, wo]
  by_cases hx : x = nm <;> simp [hx]
def ok86 := okF.gu (P := Tryz.prog) tab Tryz.func86 Tryz.ntmps86 (by conv => lhs; cbv) (by kernel_rfl)
def inv86 (ns : List ByteArray) (nm : ByteArray) (i : Nat) (σ : St) : Prop := σ.t 0 = tL (en eS ns) ∧ σ.t 1 = tS nm ∧ (∃ v, σ.t 5 = .c (.own 7 v (wo nm (ns.take i)).length) ∧ σ.H 7 = some (.arr v true 1 9 (en eS (wo nm (ns.take i))))) ∧ σ.t 6 = .i i
theorem without_ok (ns : List ByteArray) (nm : ByteArray) (hl : ns.length ≤ 3000000) (m : Nat) : ACallsF Tryz.prog 86 [tL (en eS ns), tS nm] [newH 7 m 1 9 (en eS (wo nm ns))] (.c (.own 7 0 (wo nm ns).length)) := by
  refine ACallsF.intro ok86 follows fun X c0 => ?_
  simp only [go_sem]
  refine AW.upto ns.length (inv86 ns nm) ⟨rfl, rfl, ⟨_, rfl, rfl⟩, rfl⟩ fun i t H c hi h => ?_
  obtain ⟨e0, e1, ⟨v, e5, eH⟩, e6⟩ := h
  simp only [T.c, T.i, T.s, tL] at e0 e1 e5 eH e6
  by_cases hlt : i < ns.length
  · obtain ⟨x, hx⟩ : ∃ x, ns[i]? = some x := ⟨_, List.getElem?_eq_getElem hlt⟩
    have ex := en_at eS hx
    have k1 : (i : Int) < ns.length := by omega
    have gz : (0 : Int) ≤ i := by omega
    have gw : IntKind.i64.wrap ((i : Int) + 1) = ((i + 1 : Nat) : Int) := wrap64 (x := (i : Int) + 1) ⟨by omega, by omega⟩
    have ht := wo_take nm hx
    have hwl := wo_len nm (ns.take i)
    rw [List.length_take] at hwl
    have q1 : ((wo nm (ns.take i)).length + 1) * 16 ≤ 140737488355328 := by omega
    have q2 : (wo nm (ns.take i)).length + 1 ≤ 9223372036854775807 := by omega
    by_cases hn : x = nm
    · rw [if_pos hn] at ht
      simp only [go_sem, e0, e1, e6, en_len, k1, gz, ex, eS, sStr, str_beq, hn, gw, decide_true]
      unfold inv86
      rw [ht]
      exact ⟨hlt, e0, e1, ⟨v, e5, eH⟩, rfl⟩
    · rw [if_neg hn] at ht
      simp only [go_sem, e0, e1, e5, eH, e6, en_len, k1, gz, ex, eS, sStr, str_beq, hn, gw, q1, q2]
      unfold inv86
      rw [ht, en_snoc, List.length_append]
      exact ⟨hlt, e0, e1, ⟨_, rfl, rfl⟩, rfl⟩
  · have k1 : ¬ (i : Int) < ns.length := by omega
    have hi2 : i = ns.length := by omega
    subst hi2
    rw [List.take_length] at e5 eH
    simp only [go_sem, e0, e1, e5, eH, e6, en_len, k1, imp_self]
/-- The names behind so many moves. -/
def aft (ns : List ByteArray) : List DM → List ByteArray
  | [] => ns
  | m :: ms => aft (if m.gone then wo m.name ns else ns ++ [m.name]) ms
theorem aft_snoc (m : DM) : ∀ (ms : List DM) (ns : List ByteArray), aft ns (ms ++ [m]) = if m.gone then wo m.name (aft ns ms) else aft ns ms ++ [m.name]
  | [], ns => rfl
  | x :: ms, ns => by simp only [List.cons_append, aft]; exact aft_snoc m ms _
theorem aft_len : ∀ (ms : List DM) (ns : List ByteArray), (aft ns ms).length ≤ ns.length + ms.length
  | [], ns => Nat.le_refl _
  | x :: ms, ns => by
    have := aft_len ms (if x.gone then wo x.name ns else ns ++ [x.name])
    simp only [aft, List.length_cons]
    cases hx : x.gone with
    | true => rw [hx] at this; have h2 := wo_len x.name ns; simp only [if_true] at this ⊢; omega
    | false => rw [hx] at this; simp only [Bool.false_eq_true, if_false, List.length_append, List.length_singleton] at this ⊢; omega
theorem aft_take (ns : List ByteArray) {ms : List DM} {i : Nat} {m : DM} (h : ms[i]? = some m) : aft ns (ms.take (i + 1)) = if m.gone then wo m.name (aft ns (ms.take i)) else aft ns (ms.take i) ++ [m.name] := by
  rw [List.take_add_one, h]; exact aft_snoc m _ ns
def ok64 := okF.gu (P := Tryz.prog) tab Tryz.func64 Tryz.ntmps64 (by conv => lhs; cbv) (by kernel_rfl)
def inv64 (d : Dk) (n : Nat) (i : Nat) (σ : St) : Prop := (∃ u, σ.t 2 = .c (.ptr 2 u 0) ∧ σ.H 2 = some (.var u 35 [.v (.sl (en eF d.files)), .v (.sl (en eS d.names)), .v (.sl (en eM d.moves))])) ∧ σ.t 1 = .i n ∧ (∃ v, σ.t 5 = .c (.own 7 v (aft d.names (d.moves.take i)).length) ∧ σ.H 7 = some (.arr v true 1 9 (en eS (aft d.names (d.moves.take i))))) ∧ σ.t 6 = .i i
theorem after_ok (d : Dk) (hd : smallDk d) (n : Nat) (hn : n ≤ d.moves.length) (m : Nat) : ACallsF Tryz.prog 64 [tDk d, .i n] [newH 7 m 1 9 (en eS (aft d.names (d.moves.take n)))] (.c (.own 7 0 (aft d.names (d.moves.take n)).length)) := by
  have h1 := hd.n
  have h2 := hd.m
  have q1 : d.names.length * 16 ≤ 140737488355328 := by omega
  have q2 : d.names.length ≤ 9223372036854775807 := by omega
  refine ACallsF.intro ok64 follows fun X c0 => ?_
  simp only [go_sem, q1, q2, Nat.zero_add]
  refine AW.upto n (inv64 d n) ⟨⟨_, rfl, rfl⟩, rfl, ⟨_, rfl, rfl⟩, rfl⟩ fun i t H c hi h => ?_
  obtain ⟨⟨u, e2, eH2⟩, e1, ⟨v, e5, eH⟩, e6⟩ := h
  simp only [T.c, T.i, T.s] at e2 eH2 e1 e5 eH e6
  by_cases hlt : i < n
  · obtain ⟨x, hx⟩ : ∃ x, d.moves[i]? = some x := ⟨_, List.getElem?_eq_getElem (by omega)⟩
    have ex := en_at eM hx
    have k1 : (i : Int) < n := by omega
    have gz : (0 : Int) ≤ i := by omega
    have gw : IntKind.i64.wrap ((i : Int) + 1) = ((i + 1 : Nat) : Int) := wrap64 (x := (i : Int) + 1) ⟨by omega, by omega⟩
    have ht := aft_take d.names hx
    have hwl := aft_len (d.moves.take i) d.names
    rw [List.length_take] at hwl
    have q3 : ((aft d.names (d.moves.take i)).length + 1) * 16 ≤ 140737488355328 := by omega
    have q4 : (aft d.names (d.moves.take i)).length + 1 ≤ 9223372036854775807 := by omega
    cases hg : x.gone with
    | true =>
      rw [hg, if_pos rfl] at ht
      simp only [go_sem, e2, eH2, e1, e5, eH, e6, en_len, k1, gz, ex, eM, hg]
      refine callA1 (m := 7) (ws := [(7, .arr v false 1 9 (en eS (aft d.names (d.moves.take i))))]) (ns := [7]) (without_ok (aft d.names (d.moves.take i)) x.name (by omega) 7) rfl ?_ rfl (en_flat eS eS_flat _) ⟨?_, ?_⟩
      · simp only [go_sem, lendTs, lendT, e5, eH]
      · simp only [go_sem]
      simp only [go_sem, e6, gw]
      unfold inv64
      rw [ht]
      exact ⟨hlt, ⟨u, e2, eH2⟩, e1, ⟨_, rfl, rfl⟩, rfl⟩
    | false =>
      rw [hg, if_neg (by simp)] at ht
      simp only [go_sem, e2, eH2, e1, e5, eH, e6, en_len, k1, gz, ex, eM, hg, gw, q3, q4]
      unfold inv64
      rw [ht, en_snoc, List.length_append]
      exact ⟨hlt, ⟨u, e2, eH2⟩, e1, ⟨_, rfl, rfl⟩, rfl⟩
  · have k1 : ¬ (i : Int) < n := by omega
    have hi2 : i = n := by omega
    subst hi2
    simp only [go_sem, e2, eH2, e1, e5, eH, e6, en_len, k1, imp_self]
end Go.V
set_option linter.unusedSimpArgs false
set_option maxRecDepth 20000
namespace Go.V
open Go.Proofs
/-- The names, and those of moves that make files. -/
def mades (ms : List DM) : List ByteArray := (ms.filter fun m => !m.gone).map DM.name
def made (d : Dk) : List ByteArray := d.names ++ mades d.moves
theorem mades_len (ms : List DM) : (mades ms).length ≤ ms.length := by rw [mades, List.length_map]; exact List.length_filter_le _ _
theorem mades_take {ms : List DM} {i : Nat} {m : DM} (h : ms[i]? = some m) : mades (ms.take (i + 1)) = if m.gone then mades (ms.take i) else mades (ms.take i) ++ [m.name] := by
  rw [List.take_add_one, h, mades, List.filter_append, List.map_append, mades]
  cases hg : m.gone <;> simp [hg]
def ok59 := okF.gu (P := Tryz.prog) tab Tryz.func59 Tryz.ntmps59 (by conv => lhs; cbv) (by kernel_rfl)
def inv59 (d : Dk) (i : Nat) (σ : St) : Prop := (∃ u, σ.t 1 = .c (.ptr 1 u 0) ∧ σ.H 1 = some (.var u 35 [.v (.sl (en eF d.files)), .v (.sl (en eS d.names)), .v (.sl (en eM d.moves))])) ∧ (∃ v, σ.t 3 = .c (.own 5 v (d.names ++ mades (d.moves.take i)).length) ∧ σ.H 5 = some (.arr v true 1 9 (en eS (d.names ++ mades (d.moves.take i))))) ∧ σ.t 4 = .i i
theorem made_ok (d : Dk) (hd : smallDk d) (m : Nat) : ACallsF Tryz.prog 59 [tDk d] [newH 5 m 1 9 (en eS (made d))] (.c (.own 5 0 (made d).length)) := by
  have h1 := hd.n
  have h2 := hd.m
  have q1 : d.names.length * 16 ≤ 140737488355328 := by omega
  have q2 : d.names.length ≤ 9223372036854775807 := by omega
  refine ACallsF.intro ok59 follows fun X c0 => ?_
  simp only [go_sem, q1, q2, Nat.zero_add]
  refine AW.upto d.moves.length (inv59 d) ?_ fun i t H c hi h => ?_
  · unfold inv59
    have e0 : d.names ++ mades (d.moves.take 0) = d.names := by simp [mades]
    rw [e0]
    exact ⟨⟨_, rfl, rfl⟩, ⟨_, rfl, rfl⟩, rfl⟩
  obtain ⟨⟨u, e1, eH1⟩, ⟨v, e3, eH⟩, e4⟩ := h
  simp only [T.c, T.i, T.s] at e1 eH1 e3 eH e4
  by_cases hlt : i < d.moves.length
  · obtain ⟨x, hx⟩ : ∃ x, d.moves[i]? = some x := ⟨_, List.getElem?_eq_getElem hlt⟩
    have ex := en_at eM hx
    have k1 : (i : Int) < d.moves.length := by omega
    have gz : (0 : Int) ≤ i := by omega
    have gw : IntKind.i64.wrap ((i : Int) + 1) = ((i + 1 : Nat) : Int) := wrap64 (x := (i : Int) + 1) ⟨by omega, by omega⟩
    have ht := mades_take hx
    have hwl := mades_len (d.moves.take i)
    rw [List.length_take] at hwl
    have hl : (d.names ++ mades (d.moves.take i)).length ≤ 3000000 := by rw [List.length_append]; omega
    cases hg : x.gone with
    | true =>
      rw [hg, if_pos rfl] at ht
      simp only [go_sem, e1, eH1, e4, en_len, k1, gz, ex, eM, hg, gw]
      unfold inv59
      rw [ht]
      exact ⟨hlt, ⟨u, e1, eH1⟩, ⟨v, e3, eH⟩, rfl⟩
    | false =>
      rw [hg, if_neg (by simp)] at ht
      generalize hq : d.names ++ mades (d.moves.take i) = q at *
      have q3 : (q.length + 1) * 16 ≤ 140737488355328 := by omega
      have q4 : q.length + 1 ≤ 9223372036854775807 := by omega
      simp only [go_sem, e1, eH1, e3, eH, e4, en_len, k1, gz, ex, eM, hg, gw, q3, q4]
      unfold inv59
      have ht2 : d.names ++ mades (d.moves.take (i + 1)) = q ++ [x.name] := by rw [← hq, mades_take hx, hg, if_neg (by simp), List.append_assoc]
      rw [ht2, en_snoc, List.length_append]
      exact ⟨hlt, ⟨u, e1, eH1⟩, ⟨_, rfl, rfl⟩, rfl⟩
  · have k1 : ¬ (i : Int) < d.moves.length := by omega
    have hi2 : i = d.moves.length := by omega
    subst hi2
    rw [List.take_length] at e3 eH
    simp only [go_sem, e1, eH1, e3, eH, e4, en_len, k1, made, imp_self]
/-- What a disk's file must be. -/
structure FOk (d : Dk) (i : Nat) (f : DF) : Prop where
  name : nameOk f.name = true
  made : (made d)[i]? = some f.name
  data : f.data.size ≤ 20000
  lo : 0 ≤ f.kept
  hi : f.kept ≤ f.data.size
  one : fnd d.files f.name = i
structure DOk (d : Dk) : Prop where
  f : d.files.length ≤ 64
  n : d.names.length ≤ 64
  m : d.moves.length ≤ 128
  l : (made d).length = d.files.length
  files : ∀ (i : Nat) (f : DF), d.files[i]? = some f → FOk d i f
  moves : ∀ (i : Nat) (m : DM), d.moves[i]? = some m → m.gone = true → m.name ∈ aft d.names (d.moves.take i)
/-- All texts are of bounded length. -/
structure fineDk (d : Dk) : Prop where
  s : smallDk d
  f : ∀ f ∈ d.files, f.name.size ≤ 1048576 ∧ f.data.size ≤ 1048576
  n : ∀ x ∈ d.names, x.size ≤ 1048576
  m : ∀ m ∈ d.moves, m.name.size ≤ 1048576
def ok34 := okF.gu (P := Tryz.prog) tab Tryz.func34 Tryz.ntmps34 (by conv => lhs; cbv) (by kernel_rfl)
def Hd34 (d : Dk) (u : Nat) (σ : St) : Prop := σ.t 1 = .c (.ptr 1 u 0) ∧ σ.H 1 = some (.var u 35 [.v (.sl (en eF d.files)), .v (.sl (en eS d.names)), .v (.sl (en eM d.moves))])
def inv34 (d : Dk) (u v : Nat) (i : Nat) (σ : St) : Prop := (∀ (j : Nat) (f : DF), j < i → d.files[j]? = some f → FOk d j f) ∧ Hd34 d u σ ∧ (σ.t 3 = .c (.own 1005 v (made d).length) ∧ σ.H 1005 = some (.arr v true 1 9 (en eS (made d)))) ∧ σ.t 4 = .i i
def inv34b (d : Dk) (u : Nat) (i : Nat) (σ : St) : Prop := (∀ (j : Nat) (m : DM), j < i → d.moves[j]? = some m → m.gone = true → m.name ∈ aft d.names (d.moves.take j)) ∧ Hd34 d u σ ∧ σ.t 6 = .i i
theorem okS_ok (d : Dk) (hd : fineDk d) : ∃ b : Bool, (b = true ↔ DOk d) ∧ ACallsF Tryz.prog 34 [tDk d] [] (.b b) := by
  obtain ⟨b, hb⟩ : ∃ b : Bool, b = true ↔ DOk d := by
    by_cases h : DOk d
    · exact ⟨true, by simp [h]⟩
    · exact ⟨false, by simp [h]⟩
  refine ⟨b, hb, ?_⟩
  have no : ¬ DOk d → b = false := fun h => by cases hq : b with | false => rfl | true => exact absurd (hb.1 hq) h
  have s1 := hd.s.f
  have s2 := hd.s.n
  have s3 := hd.s.m
  refine ACallsF.intro ok34 follows fun X c0 => ?_
  by_cases hf : (d.files.length : Int) > 64
  · have hbf := no fun h => by have := h.f; omega
    simp only [go_sem, hf, hbf]
  by_cases hn : (d.names.length : Int) > 64
  · have hbf := no fun h => by have := h.n; omega
    simp only [go_sem, hf, hn, hbf]
  by_cases hm : (d.moves.length : Int) > 128
  · have hbf := no fun h => by have := h.m; omega
    simp only [go_sem, hf, hn, hm, hbf]
  simp only [go_sem, hf, hn, hm]
  refine callA1 (m := 1005) (ws := []) (ns := []) (made_ok d hd.s 1005) rfl rfl rfl (en_flat eS eS_flat _) ⟨rfl, ?_⟩
  by_cases hl : (made d).length = d.files.length
  rotate_left
  · have hbf := no fun h => hl h.l
    have hl' : (((made d).length : Int) != (d.files.length : Int)) = true := by simp; omega
    simp only [go_sem, hl', hbf]
  have hl' : (((made d).length : Int) != (d.files.length : Int)) = false := by simp; omega
  simp only [go_sem, hl']
  refine AW.upto d.files.length (inv34 d (c0 + 0) (c0 + 2 + 16 + 1)) ⟨fun j f hj => absurd hj (Nat.not_lt_zero j), ⟨rfl, rfl⟩, ⟨rfl, rfl⟩, rfl⟩ fun i t H c hi h => ?_
  obtain ⟨g, ⟨e1, eH1⟩, ⟨e3, eH⟩, e4⟩ := h
  simp only [T.c, T.i, T.s] at e1 eH1 e3 eH e4
  by_cases hlt : i < d.files.length
  · obtain ⟨f, hx⟩ : ∃ f, d.files[i]? = some f := ⟨_, List.getElem?_eq_getElem hlt⟩
    obtain ⟨y, hy⟩ : ∃ y, (made d)[i]? = some y := ⟨_, List.getElem?_eq_getElem (by omega)⟩
    have ex := en_at eF hx
    have ey := en_at eS hy
    have hfm := hd.f f (List.mem_of_getElem? hx)
    have k1 : (i : Int) < d.files.length := by omega
    have k2 : (i : Int) < (made d).length := by omega
    have gz : (0 : Int) ≤ i := by omega
    have gw : IntKind.i64.wrap ((i : Int) + 1) = ((i + 1 : Nat) : Int) := wrap64 (x := (i : Int) + 1) ⟨by omega, by omega⟩
    have bad : ¬ FOk d i f → b = false := fun h => no fun hD => h (hD.files i f hx)
    simp only [go_sem, e1, eH1, e3, eH, e4, en_len, k1, gz, ex, eF]
    refine callC (nameOk_ok f.name (by omega)) rfl rfl rfl rfl ?_
    cases p1 : nameOk f.name with
    | false =>
      have hbf := bad fun h => by have := h.name; rw [p1] at this; cases this
      simp only [go_sem, hbf]
    | true =>
      by_cases p2 : f.name = y
      rotate_left
      · have hbf := bad fun h => by have := h.made; rw [hy] at this; exact p2 (Option.some.inj this).symm
        simp only [go_sem, e3, eH, e4, en_len, k2, gz, ey, eS, sStr, str_beq, p2, hbf]
      subst p2
      by_cases p3 : (f.data.size : Int) > 20000
      · have hbf := bad fun h => by have := h.data; omega
        simp only [go_sem, e3, eH, e4, en_len, k2, gz, ey, eS, sStr, str_beq, p3, hbf, decide_true]
      simp only [go_sem, e3, eH, e4, en_len, k2, gz, ey, eS, sStr, str_beq, p3, decide_true]
      refine callC (l6In_ok _ _ _) rfl rfl rfl rfl ?_
      by_cases p4 : (0 : Int) ≤ f.kept
      rotate_left
      · have hbf := bad fun h => p4 h.lo
        simp only [go_sem, p4, hbf]
      by_cases p5 : f.kept ≤ (f.data.size : Int)
      rotate_left
      · have hbf := bad fun h => p5 h.hi
        simp only [go_sem, p4, p5, hbf]
      simp only [go_sem, e1, eH1, e3, eH, e4, p4, p5]
      refine callC (find_ok d.files f.name (by omega)) rfl rfl rfl rfl ?_
      by_cases p6 : fnd d.files f.name = i
      · have p6' : (fnd d.files f.name != (i : Int)) = false := by simp [p6]
        simp only [go_sem, e4, p6', gw]
        exact ⟨hlt, fun j f' hj hf' => (by rcases Nat.lt_succ_iff_lt_or_eq.1 hj with hj | rfl; exact g j f' hj hf'; rw [hx] at hf'; cases hf'; exact ⟨p1, hy, by omega, p4, p5, p6⟩), ⟨e1, eH1⟩, ⟨e3, eH⟩, rfl⟩
      · have p6' : (fnd d.files f.name != (i : Int)) = true := by simp [p6]
        have hbf := bad fun h => p6 h.one
        simp only [go_sem, e4, p6', hbf]
  · have k1 : ¬ (i : Int) < d.files.length := by omega
    simp only [go_sem, e1, eH1, e4, en_len, k1]
    refine AW.upto d.moves.length (inv34b d (c0 + 0)) ⟨fun j f hj => absurd hj (Nat.not_lt_zero j), ⟨e1, eH1⟩, rfl⟩ fun i2 t H c hi2 h => ?_
    clear e1 eH1 e3 eH e4
    obtain ⟨g2, ⟨e1, eH1⟩, e6⟩ := h
    simp only [T.c, T.i, T.s] at e1 eH1 e6
    by_cases hlt2 : i2 < d.moves.length
    · obtain ⟨x, hx⟩ : ∃ x, d.moves[i2]? = some x := ⟨_, List.getElem?_eq_getElem hlt2⟩
      have ex := en_at eM hx
      have k1 : (i2 : Int) < d.moves.length := by omega
      have gz : (0 : Int) ≤ i2 := by omega
      have gw : IntKind.i64.wrap ((i2 : Int) + 1) = ((i2 + 1 : Nat) : Int) := wrap64 (x := (i2 : Int) + 1) ⟨by omega, by omega⟩
      have hnext : (x.gone = true → x.name ∈ aft d.names (d.moves.take i2)) → ∀ (j : Nat) (m : DM), j < i2 + 1 → d.moves[j]? = some m → m.gone = true → m.name ∈ aft d.names (d.moves.take j) := fun hh j m hj hm hgm => by
        rcases Nat.lt_succ_iff_lt_or_eq.1 hj with hj | rfl
        · exact g2 j m hj hm hgm
        · rw [hx] at hm; cases hm; exact hh hgm
      cases hg : x.gone with
      | false =>
        simp only [go_sem, e1, eH1, e6, en_len, k1, gz, ex, eM, hg, gw]
        exact ⟨hlt2, hnext fun h => (by rw [hg] at h; cases h), ⟨e1, eH1⟩, rfl⟩
      | true =>
        have hwl := aft_len (d.moves.take i2) d.names
        rw [List.length_take] at hwl
        simp only [go_sem, e1, eH1, e6, en_len, k1, gz, ex, eM, hg]
        refine callA1 (m := 1007) (ws := []) (ns := []) (after_ok d hd.s i2 hi2 1007) rfl rfl rfl (en_flat eS eS_flat _) ⟨?_, ?_⟩
        · simp only [go_sem]
        simp only [go_sem, e1, eH1, e6, en_len, k1, gz, ex, eM, hg]
        refine callL (ws := [(1007, .arr (c + 5 + 9) false 1 9 (en eS (aft d.names (d.moves.take i2))))]) (ns := [1007]) (has_ok (aft d.names (d.moves.take i2)) x.name (by omega)) rfl ?_ rfl rfl ⟨?_, ?_⟩
        · simp only [go_sem, lendTs, lendT]
        · simp only [go_sem, scalarT, scalarP, scalarC]
        cases hh : has (aft d.names (d.moves.take i2)) x.name with
        | true =>
          simp only [go_sem, scalarT, scalarP, scalarC, e6, gw]
          exact ⟨hlt2, hnext fun _ => has_true.1 hh, ⟨e1, eH1⟩, rfl⟩
        | false =>
          have hbf := no fun hD => has_false.1 hh (hD.moves i2 x hx hg)
          simp only [go_sem, scalarT, scalarP, scalarC, hbf]
    · have k2 : ¬ (i2 : Int) < d.moves.length := by omega
      have hbt : b = true := hb.2 ⟨by omega, by omega, by omega, hl, fun j f hf => g j f (by have := (List.getElem?_eq_some_iff.1 hf).1; omega) hf, fun j m hm => g2 j m (by have := (List.getElem?_eq_some_iff.1 hm).1; omega) hm⟩
      simp only [go_sem, e1, eH1, e6, en_len, k2, hbt]
end Go.V
set_option linter.unusedSimpArgs false
set_option maxRecDepth 20000
namespace Go.V
open Go.Proofs
/-- A call that makes a disk's three arrays. -/
theorem callDk {P : Program} {t : Nat → T} {H : HMap} {c : Nat} {f : Opd} {args : List Opd} {fid : FuncId} {argsC : List T} {ws : List (Nat × Blk)} {ns : List Nat} {c1 c2 c3 m1 m2 m3 : Nat} {dk : Dk} {k : Nat} {d : Option Nat} {un : List Nat} {l : List AOper} {prev : List (Nat × List Nat × List Nat)} {K : St → Prop}
    (hC : ACallsF P fid argsC (dkH c1 c2 c3 m1 m2 m3 dk) (.pt (oDk c1 0 c2 0 c3 0 dk))) (hf : ev t f = .pt (.one (.fn fid []))) (hl : lendTs H argsC (args.map (ev t)) = some (argsC, ws, ns)) (ha : argsC.all closedA = true)
    (hcs : (c1 ≠ c2 ∧ c1 ≠ c3 ∧ c2 ≠ c3) ∧ m1 ≠ m2 ∧ m1 ≠ m3 ∧ m2 ≠ m3)
    (hk : chk prev un ⟨.pt (oDk m1 (c + k) m2 (c + k) m3 (c + k) dk), [(m1, .arr (c + k) true 3 89 (en eF dk.files)), (m2, .arr (c + k) true 1 9 (en eS dk.names)), (m3, .arr (c + k) true 2 91 (en eM dk.moves))], ns ++ [m1, m2, m3], [m1, m2, m3]⟩ = true ∧
      DRun P l ((k, ns ++ [m1, m2, m3], [m1, m2, m3]) :: prev) K ⟨updD t d (.pt (oDk m1 (c + k) m2 (c + k) m3 (c + k) dk)), upd (upd (upd H m1 (some (.arr (c + k) true 3 89 (en eF dk.files)))) m2 (some (.arr (c + k) true 1 9 (en eS dk.names)))) m3 (some (.arr (c + k) true 2 91 (en eM dk.moves))), c⟩) :
    step P k d un (.call f args) l prev K t H c := by
  obtain ⟨⟨h1, h2, h3⟩, g1, g2, g3⟩ := hcs
  have N1 : renN (dkH c1 c2 c3 m1 m2 m3 dk) c1 = some (newH c1 m1 3 89 (en eF dk.files)) := by simp [renN]
  have N2 : renN (dkH c1 c2 c3 m1 m2 m3 dk) c2 = some (newH c2 m2 1 9 (en eS dk.names)) := by simp [renN, h1]
  have N3 : renN (dkH c1 c2 c3 m1 m2 m3 dk) c3 = some (newH c3 m3 2 91 (en eM dk.moves)) := by simp [renN, h2, h3]
  refine callF (r' := .pt (oDk m1 (c + k) m2 (c + k) m3 (c + k) dk)) (ob := [(m1, .arr (c + k) true 3 89 (en eF dk.files)), (m2, .arr (c + k) true 1 9 (en eS dk.names)), (m3, .arr (c + k) true 2 91 (en eM dk.moves))]) _ hC hf hl ha (by simp) (by simp [g1, g2, g3]) (by simp [h1, h2, h3]) ?_ ?_ ?_ ?_
  · simp only [quiet, List.all_cons, List.all_nil, flatB, en_flat eF eF_flat, en_flat eS eS_flat, en_flat eM eM_flat]; rfl
  · simp only [renOT, renOP, renOs, renO, N1, N2, N3, Option.map_some, verOf]; rfl
  · simp only [renOBs, renOB, verOf]; rfl
  · simpa [updH] using hk
theorem aft_sub : ∀ (ms : List DM) (ns : List ByteArray) (x : ByteArray), x ∈ aft ns ms → x ∈ ns ∨ x ∈ mades ms
  | [], ns, x, h => .inl h
  | m :: ms, ns, x, h => by
    have := aft_sub ms _ x h
    cases hg : m.gone with
    | true =>
      rw [hg, if_pos rfl] at this
      rcases this with h | h
      · exact .inl (List.mem_filter.1 h).1
      · exact .inr (by rw [mades, List.filter_cons]; simpa [hg, mades] using h)
    | false =>
      rw [hg, if_neg (by simp)] at this
      rcases this with h | h
      · rcases List.mem_append.1 h with h | h
        · exact .inl h
        · exact .inr (by rw [List.mem_singleton.1 h, mades, List.filter_cons]; simp [hg])
      · exact .inr (by
          have h' : x ∈ (ms.filter fun m => !m.gone).map DM.name := h
          rw [mades, List.filter_cons]; simp only [hg, Bool.not_false, if_true, List.map_cons, List.mem_cons]; exact .inr h')
/-- The file of a name. -/
def fileOf (fs : List DF) (nm : ByteArray) : DF := (fs.find? fun f => decide (f.name = nm)).getD zF
theorem DOk.find {d : Dk} (h : DOk d) {x : ByteArray} (hx : x ∈ made d) : ∃ i : Nat, fnd d.files x = i ∧ d.files[i]? = some (fileOf d.files x) ∧ (fileOf d.files x).name = x := by
  obtain ⟨i, hi⟩ := List.mem_iff_getElem?.1 hx
  have hil := (List.getElem?_eq_some_iff.1 hi).1
  obtain ⟨f, hf⟩ : ∃ f, d.files[i]? = some f := ⟨_, List.getElem?_eq_getElem (by rw [← h.l]; exact hil)⟩
  have hF := h.files i f hf
  have hn : f.name = x := by have := hF.made; rw [hi] at this; exact (Option.some.inj this).symm
  have h1 := hF.one
  rw [hn] at h1
  have hfd : d.files.find? (fun f => decide (f.name = x)) = some f := by
    have h2 : (d.files.findIdx? fun f => decide (f.name = x)) = some i := by
      unfold fnd at h1
      split at h1
      · rename_i j hj; rw [hj]; congr 1; omega
      · omega
    rw [List.findIdx?_eq_some_iff_getElem] at h2
    obtain ⟨a1, a2, a3⟩ := h2
    rw [List.find?_eq_some_iff_getElem]
    exact ⟨by simpa using hn, i, a1, (List.getElem?_eq_some_iff.1 hf).2, fun j hj => by simpa using a3 j hj⟩
  have he : fileOf d.files x = f := by rw [fileOf, hfd]; rfl
  exact ⟨i, h1, by rw [he]; exact hf, by rw [he]; exact hn⟩
theorem DOk.aft_made {d : Dk} {x : ByteArray} {n : Nat} (hx : x ∈ aft d.names (d.moves.take n)) : x ∈ made d := by
  rcases aft_sub _ _ _ hx with h | h
  · exact List.mem_append.2 (.inl h)
  · refine List.mem_append.2 (.inr ?_)
    rw [mades, List.mem_map] at h ⊢
    obtain ⟨m, h1, h2⟩ := h
    rw [List.mem_filter] at h1
    exact ⟨m, List.mem_filter.2 ⟨List.mem_of_mem_take h1.1, h1.2⟩, h2⟩
def keepD (d : Dk) (ns : List ByteArray) : Dk := ⟨ns.map (fileOf d.files), ns, []⟩
def ok65 := okF.gu (P := Tryz.prog) tab Tryz.func65 Tryz.ntmps65 (by conv => lhs; cbv) (by kernel_rfl)
end Go.V
set_option linter.unusedSimpArgs false
namespace Go.V
open Go.Proofs
/-- What a write does to a disk that is ok. -/
def doS (d : Dk) (w : DW) : Dk × Int :=
  if w.kind = 1 then
    if nameOk w.name = false ∨ 0 ≤ fnd d.files w.name then (d, 3)
    else if 64 ≤ d.files.length ∨ 128 ≤ d.moves.length then (d, 4)
    else (⟨d.files ++ [⟨w.name, ⟨#[]⟩, 0⟩], d.names, d.moves ++ [⟨false, w.name⟩]⟩, 0)
  else if w.kind = 5 then (keepD d (aft d.names d.moves), 0)
  else if ¬ (1 ≤ w.kind ∧ w.kind ≤ 5) then (d, 5)
  else if has (aft d.names d.moves) w.name = false then (d, 2)
  else if w.kind = 2 then
    if 20000 < (fileOf d.files w.name).data.size + w.data.size then (d, 4)
    else (⟨d.files.set (fnd d.files w.name).toNat ⟨(fileOf d.files w.name).name, (fileOf d.files w.name).data ++ w.data, (fileOf d.files w.name).kept⟩, d.names, d.moves⟩, 0)
  else if w.kind = 3 then (⟨d.files.set (fnd d.files w.name).toNat ⟨(fileOf d.files w.name).name, (fileOf d.files w.name).data, (fileOf d.files w.name).data.size⟩, d.names, d.moves⟩, 0)
  else if 128 ≤ d.moves.length then (d, 4)
  else (⟨d.files, d.names, d.moves ++ [⟨true, w.name⟩]⟩, 0)
end Go.V
set_option linter.unusedSimpArgs false
set_option maxRecDepth 20000
namespace Go.V
open Go.Proofs
/-- The place of a name, -1 if it is not there. -/
def ix (ns : List ByteArray) (nm : ByteArray) : Int := match ns.findIdx? fun x => decide (x = nm) with
  | some i => i
  | none => -1
theorem ix_at {ns : List ByteArray} {nm : ByteArray} {i : Nat} (hi : ns[i]? = some nm) (hb : ∀ (j : Nat), j < i → ns[j]? ≠ some nm) : ix ns nm = i := by
  have : (ns.findIdx? fun x => decide (x = nm)) = some i := by
    rw [List.findIdx?_eq_some_iff_getElem]
    have hlt := (List.getElem?_eq_some_iff.1 hi).1
    have he := (List.getElem?_eq_some_iff.1 hi).2
    refine ⟨hlt, by rw [he]; simp, fun j hj => ?_⟩
    have := hb j hj
    rw [List.getElem?_eq_getElem (by omega)] at this
    simpa using this
  simp only [ix, this]
theorem ix_no {ns : List ByteArray} {nm : ByteArray} (hb : ∀ (j : Nat), ns[j]? ≠ some nm) : ix ns nm = -1 := by
  have : (ns.findIdx? fun x => decide (x = nm)) = none := by
    rw [List.findIdx?_eq_none_iff]
    intro x hx
    obtain ⟨j, hj⟩ := List.mem_iff_getElem?.1 hx
    have := hb j
    rw [hj] at this
    simpa using this
  simp only [ix, this]
theorem ix_case (ns : List ByteArray) (nm : ByteArray) : (∃ i : Nat, ix ns nm = i ∧ ns[i]? = some nm ∧ ∀ (j : Nat), j < i → ns[j]? ≠ some nm) ∨ (ix ns nm = -1 ∧ nm ∉ ns) := by
  by_cases h : nm ∈ ns
  · obtain ⟨i, hi, hmin⟩ : ∃ i : Nat, ns[i]? = some nm ∧ ∀ (j : Nat), j < i → ns[j]? ≠ some nm := by
      obtain ⟨k, hk⟩ := List.mem_iff_getElem?.1 h
      induction k using Nat.strongRecOn with
      | _ k ih =>
        by_cases hm : ∃ j, j < k ∧ ns[j]? = some nm
        · obtain ⟨j, h1, h2⟩ := hm; exact ih j h1 h2
        · exact ⟨k, hk, fun j hj e => hm ⟨j, hj, e⟩⟩
    exact .inl ⟨i, ix_at hi hmin, hi, hmin⟩
  · exact .inr ⟨ix_no fun j hj => h (List.mem_of_getElem? hj), h⟩
def ok72 := okF.gu (P := Tryz.prog) tab Tryz.func72 Tryz.ntmps72 (by conv => lhs; cbv) (by kernel_rfl)
def inv72 (ns : List ByteArray) (nm : ByteArray) (i : Nat) (σ : St) : Prop := (∀ (j : Nat), j < i → ns[j]? ≠ some nm) ∧ σ.t 0 = tL (en eS ns) ∧ σ.t 1 = tS nm ∧ σ.t 7 = .i ns.length ∧ σ.t 8 = .i i
theorem index_ok (ns : List ByteArray) (nm : ByteArray) (hl : ns.length ≤ 9000000000000000000) : ACallsF Tryz.prog 72 [tL (en eS ns), tS nm] [] (.i (ix ns nm)) := by
  refine ACallsF.intro ok72 follows fun X c0 => ?_
  simp only [go_sem]
  refine AW.upto ns.length (inv72 ns nm) ⟨fun j hj => absurd hj (Nat.not_lt_zero j), rfl, rfl, rfl, rfl⟩ fun i t H c hi h => ?_
  obtain ⟨g, e0, e1, e7, e8⟩ := h
  simp only [T.c, T.i, T.s, tL] at e0 e1 e7 e8
  by_cases hlt : i < ns.length
  · obtain ⟨x, hx⟩ : ∃ x, ns[i]? = some x := ⟨_, List.getElem?_eq_getElem hlt⟩
    have ex := en_at eS hx
    have k1 : (i : Int) < ns.length := by omega
    have gz : (0 : Int) ≤ i := by omega
    have gw : IntKind.i64.wrap ((i : Int) + 1) = ((i + 1 : Nat) : Int) := wrap64 (x := (i : Int) + 1) ⟨by omega, by omega⟩
    by_cases hn : nm = x
    · have hr : ix ns nm = i := ix_at (by rw [hx, hn]) g
      simp only [go_sem, e0, e1, e7, e8, en_len, k1, gz, ex, eS, sStr, str_beq, hn, decide_true]
      rw [← hn, hr]
    · simp only [go_sem, e0, e1, e7, e8, en_len, k1, gz, ex, eS, sStr, str_beq, hn, gw]
      exact ⟨hlt, fun j hj => (by rcases Nat.lt_succ_iff_lt_or_eq.1 hj with hj | rfl; exact g j hj; rw [hx]; exact fun e => hn (Option.some.inj e).symm), e0, e1, e7, rfl⟩
  · have k1 : ¬ (i : Int) < ns.length := by omega
    have hr : ix ns nm = -1 := ix_no fun j hj => g j (by have := (List.getElem?_eq_some_iff.1 hj).1; omega) hj
    simp only [go_sem, e0, e1, e7, e8, en_len, k1, hr]
def ok44 := okF.gu (P := Tryz.prog) tab Tryz.func44 Tryz.ntmps44 (by conv => lhs; cbv) (by kernel_rfl)
theorem contains_ok (ns : List ByteArray) (nm : ByteArray) (hl : ns.length ≤ 9000000000000000000) : ACallsF Tryz.prog 44 [tL (en eS ns), tS nm] [] (.b (has ns nm)) := by
  refine ACallsF.intro ok44 follows fun X c0 => ?_
  simp only [go_sem]
  refine callC (index_ok ns nm hl) rfl rfl rfl rfl ?_
  rcases ix_case ns nm with ⟨i, h1, h2, _⟩ | ⟨h1, h2⟩
  · have h3 : has ns nm = true := has_true.2 (List.mem_of_getElem? h2)
    have h4 : (0 : Int) ≤ i := by omega
    simp only [go_sem, h1, h3, ge_iff_le, h4]
  · have h3 : has ns nm = false := has_false.2 h2
    have h4 : ¬ (0 : Int) ≤ -1 := by omega
    simp only [go_sem, h1, h3, ge_iff_le, h4]
/-- A variable that a function looks at. -/
abbrev capH (n m u : Nat) (ty : TypeId) (xs : List V) : Hand := ⟨n, m, some (.var u ty (xs.map .v)), .var u ty (xs.map .v), true⟩
section
variable {P : Program} {t : Nat → T} {H : HMap} {c : Nat} {f : Opd} {args : List Opd} {fid : FuncId} {n m u : Nat} {ty : TypeId} {xs : List V} {r : T} {k : Nat} {d : Option Nat} {un : List Nat} {l : List AOper} {prev : List (Nat × List Nat × List Nat)} {K : St → Prop}
theorem cap_parts (n m u : Nat) (ty : TypeId) (xs : List V) (H : HMap) : renN [capH n m u ty xs] n = some (capH n m u ty xs) ∧ inN [capH n m u ty xs] n = some m ∧ renIB [capH n m u ty xs] (.var u ty (xs.map .v)) = some (.var u ty (xs.map .v)) ∧ ∀ nv, renOBs [capH n m u ty xs] nv [capH n m u ty xs] = some [(m, .var u ty (xs.map .v))] := by
  have hcl : (xs.map C.v).all closedC = true := by simp [closedC]
  have hN : renN [capH n m u ty xs] n = some (capH n m u ty xs) := by simp [renN]
  refine ⟨hN, by simp [inN, hN], by simp only [renIB, (closed_Cs _ H (xs.map .v) hcl).2.1, Option.map_some], fun nv => ?_⟩
  simp only [renOBs, renOB, verOf, Blk.ver, if_true]
  rw [(closed_Cs _ H (xs.map .v) hcl).2.2]
  rfl
/-- A call of a function that has a variable with it. -/
theorem callCap {a : T} (hC : ACallsF P fid [a, .c (.ptr n u 0)] [capH n m u ty xs] r) (hf : ev t f = .pt (.one (.fn fid [(m, u)]))) (hl : args.map (ev t) = [a]) (ha : closedA a = true) (hr : closedT r = true) (hH : H m = some (.var u ty (xs.map .v)))
    (hk : chk prev un ⟨r, [(m, .var u ty (xs.map .v))], [m], [m]⟩ = true ∧ DRun P l ((k, [m], [m]) :: prev) K ⟨updD t d r, upd H m (some (.var u ty (xs.map .v))), c⟩) :
    step P k d un (.call f args) l prev K t H c := by
  obtain ⟨p1, p2, p3, p4⟩ := cap_parts n m u ty xs H
  obtain ⟨x1, x2⟩ := closed_A [capH n m u ty xs] H a ha
  refine callW (caps := [(m, u)]) («as» := [a, .c (.ptr m u 0)]) (ws := []) (ns := []) (r' := r) (ob := [(m, .var u ty (xs.map .v))]) [capH n m u ty xs] hC hf ?_ ?_ ⟨?_, trivial⟩ (by simp) (by simp) (closed_T _ r hr _) (p4 _) ?_
  · have a1 : lendT H (T.c (.ptr n u 0)) (capT (m, u)) = some (T.c (.ptr m u 0), [], []) := rfl
    rw [hl]
    simp only [List.map_cons, List.map_nil, List.cons_append, List.nil_append, lendTs, x1, a1]
  · have a1 : renIT [capH n m u ty xs] (T.c (.ptr n u 0)) = some (T.c (.ptr m u 0)) := by simp only [T.c, renIT, renI, p2, Option.map_some]
    simp only [renITs, x2, a1]
  · show (match renIB [capH n m u ty xs] (.var u ty (xs.map .v)) with | some B => (updH H []) m = some B | none => False)
    rw [p3]; exact hH
  · have hq : quiet r [capH n m u ty xs] = false := by simp [quiet]
    simpa [hq, updH] using hk
/-- A call that is handed a function with a variable. -/
theorem callFn {a : T} {g : FuncId} (hC : ACallsF P fid [a, .c (.fn g [(n, u)])] [capH n m u ty xs] r) (hf : ev t f = .pt (.one (.fn fid []))) (hl : args.map (ev t) = [a, .c (.fn g [(m, u)])]) (ha : closedA a = true) (hr : closedT r = true) (hH : H m = some (.var u ty (xs.map .v)))
    (hk : chk prev un ⟨r, [(m, .var u ty (xs.map .v))], [m], [m]⟩ = true ∧ DRun P l ((k, [m], [m]) :: prev) K ⟨updD t d r, upd H m (some (.var u ty (xs.map .v))), c⟩) :
    step P k d un (.call f args) l prev K t H c := by
  obtain ⟨p1, p2, p3, p4⟩ := cap_parts n m u ty xs H
  obtain ⟨x1, x2⟩ := closed_A [capH n m u ty xs] H a ha
  refine callW (caps := []) («as» := [a, .c (.fn g [(m, u)])]) (ws := []) (ns := []) (r' := r) (ob := [(m, .var u ty (xs.map .v))]) [capH n m u ty xs] hC hf ?_ ?_ ⟨?_, trivial⟩ (by simp) (by simp) (closed_T _ r hr _) (p4 _) ?_
  · have a1 : lendT H (T.c (.fn g [(n, u)])) (T.c (.fn g [(m, u)])) = some (T.c (.fn g [(m, u)]), [], []) := rfl
    rw [hl]
    simp only [List.map_nil, List.append_nil, lendTs, x1, a1]
  · have a1 : renIT [capH n m u ty xs] (T.c (.fn g [(n, u)])) = some (T.c (.fn g [(m, u)])) := by simp only [T.c, renIT, renI, capsI, p2, Option.map_some]
    simp only [renITs, x2, a1]
  · show (match renIB [capH n m u ty xs] (.var u ty (xs.map .v)) with | some B => (updH H []) m = some B | none => False)
    rw [p3]; exact hH
  · have hq : quiet r [capH n m u ty xs] = false := by simp [quiet]
    simpa [hq, updH] using hk
end
def ok75 := okF.gu (P := Tryz.prog) tab Tryz.func75 Tryz.ntmps75 (by conv => lhs; cbv) (by kernel_rfl)
theorem nameIs_ok (f : DF) (nm : ByteArray) (n m u : Nat) (hn : n ≠ 2) : ACallsF Tryz.prog 75 [tDF f, .c (.ptr n u 0)] [capH n m u 9 [.s (.string nm)]] (.b (decide (f.name = nm))) := by
  refine ACallsF.intro ok75 follows fun X c0 => ?_
  simp only [go_sem, hn, hn.symm, ne_eq, sStr, str_beq]
def ok74 := okF.gu (P := Tryz.prog) tab Tryz.func74 Tryz.ntmps74 (by conv => lhs; cbv) (by kernel_rfl)
def inv74 (fs : List DF) (nm : ByteArray) (u : Nat) (i : Nat) (σ : St) : Prop := (∀ (j : Nat), j < i → ∀ (g : DF), fs[j]? = some g → g.name ≠ nm) ∧ σ.t 0 = tL (en eF fs) ∧ σ.t 1 = .c (.fn 75 [(3, u)]) ∧ σ.t 7 = .i fs.length ∧ σ.t 8 = .i i ∧ σ.H 3 = some (.var u 9 [.v (.s (.string nm))])
theorem indexF_ok (fs : List DF) (nm : ByteArray) (hl : fs.length ≤ 9000000000000000000) (m u : Nat) : ACallsF Tryz.prog 74 [tL (en eF fs), .c (.fn 75 [(3, u)])] [capH 3 m u 9 [.s (.string nm)]] (.i (fnd fs nm)) := by
  refine ACallsF.intro ok74 follows fun X c0 => ?_
  simp only [go_sem]
  refine AW.upto fs.length (inv74 fs nm u) ⟨fun j hj => absurd hj (Nat.not_lt_zero j), rfl, rfl, rfl, rfl, rfl⟩ fun i t H c hi h => ?_
  obtain ⟨g, e0, e1, e7, e8, eH⟩ := h
  simp only [T.c, T.i, T.s, tL] at e0 e1 e7 e8 eH
  by_cases hlt : i < fs.length
  · obtain ⟨x, hx⟩ : ∃ x, fs[i]? = some x := ⟨_, List.getElem?_eq_getElem hlt⟩
    have ex := en_at eF hx
    have k1 : (i : Int) < fs.length := by omega
    have gz : (0 : Int) ≤ i := by omega
    have gw : IntKind.i64.wrap ((i : Int) + 1) = ((i + 1 : Nat) : Int) := wrap64 (x := (i : Int) + 1) ⟨by omega, by omega⟩
    simp only [go_sem, e0, e1, e7, e8, en_len, k1, gz, ex, eF]
    refine callCap (nameIs_ok x nm 3 3 u (by decide)) rfl rfl (by simp [closedA, closedP, closedC]) rfl eH ⟨?_, ?_⟩
    · simp only [go_sem]
    by_cases hn : x.name = nm
    · have hr : fnd fs nm = i := fnd_at hx hn g
      simp only [go_sem, hn, hr, decide_true, verC_map]
    · simp only [go_sem, e8, hn, gw]
      exact ⟨hlt, fun j hj g' hg => (by rcases Nat.lt_succ_iff_lt_or_eq.1 hj with hj | rfl; exact g j hj g' hg; rw [hx] at hg; cases hg; exact hn), e0, e1, e7, rfl, rfl⟩
  · have k1 : ¬ (i : Int) < fs.length := by omega
    have hr : fnd fs nm = -1 := fnd_no fun j g' hg => g j (by have := (List.getElem?_eq_some_iff.1 hg).1; omega) g' hg
    simp only [go_sem, e0, e1, e7, e8, eH, en_len, k1, hr]
def ok47 := okF.gu (P := Tryz.prog) tab Tryz.func47 Tryz.ntmps47 (by conv => lhs; cbv) (by kernel_rfl)
theorem fileAt_ok (d : Dk) (nm : ByteArray) (hl : d.files.length ≤ 9000000000000000000) : ACallsF Tryz.prog 47 [tDk d, tS nm] [] (.i (fnd d.files nm)) := by
  refine ACallsF.intro ok47 follows fun X c0 => ?_
  simp only [go_sem, capsOf]
  refine callFn (m := 3) (xs := [.s (.string nm)]) (indexF_ok d.files nm hl 3 (c0 + 1)) rfl rfl rfl rfl rfl ⟨?_, ?_⟩
  · simp only [go_sem]
  simp only [go_sem]
def ok50 := okF.gu (P := Tryz.prog) tab Tryz.func50 Tryz.ntmps50 (by conv => lhs; cbv) (by kernel_rfl)
theorem sameName_ok (f : DF) (nm : ByteArray) : ACallsF Tryz.prog 50 [tDF f, tS nm] [] (.b (decide (f.name = nm))) := by
  refine ACallsF.intro ok50 follows fun X c0 => ?_
  simp only [go_sem, sStr, str_beq]
def ok49 := okF.gu (P := Tryz.prog) tab Tryz.func49 Tryz.ntmps49 (by conv => lhs; cbv) (by kernel_rfl)
def inv49 (fs : List DF) (ns : List ByteArray) (i : Nat) (σ : St) : Prop := (∀ (j : Nat) (g : DF), j < i → fs[j]? = some g → ns[j]? = some g.name) ∧ σ.t 1 = tL (en eS ns) ∧ σ.t 2 = .c (.fn 50 []) ∧ σ.t 15 = tL (en eF fs) ∧ σ.t 16 = .i fs.length ∧ σ.t 17 = .i i
theorem equalF_ok (fs : List DF) (ns : List ByteArray) (hl : fs.length ≤ 9000000000000000000) : ∃ b : Bool, (b = true ↔ (ns.length = fs.length ∧ ∀ (i : Nat) (f : DF), fs[i]? = some f → ns[i]? = some f.name)) ∧ ACallsF Tryz.prog 49 [tL (en eF fs), tL (en eS ns), .c (.fn 50 [])] [] (.b b) := by
  obtain ⟨b, hb⟩ : ∃ b : Bool, b = true ↔ (ns.length = fs.length ∧ ∀ (i : Nat) (f : DF), fs[i]? = some f → ns[i]? = some f.name) := by
    by_cases h : ns.length = fs.length ∧ ∀ (i : Nat) (f : DF), fs[i]? = some f → ns[i]? = some f.name
    · exact ⟨true, fun _ => h, fun _ => rfl⟩
    · exact ⟨false, fun e => (by cases e), fun e => absurd e h⟩
  refine ⟨b, hb, ACallsF.intro ok49 follows fun X c0 => ?_⟩
  have no : ¬ (ns.length = fs.length ∧ ∀ (i : Nat) (f : DF), fs[i]? = some f → ns[i]? = some f.name) → b = false := fun h => by cases hq : b with | false => rfl | true => exact absurd (hb.1 hq) h
  by_cases hl2 : ns.length = fs.length
  rotate_left
  · have hl' : ((fs.length : Int) != (ns.length : Int)) = true := by simp; omega
    have hbf := no fun h => hl2 h.1
    simp only [go_sem, hl', hbf]
  have hl' : ((fs.length : Int) != (ns.length : Int)) = false := by simp; omega
  simp only [go_sem, hl']
  refine AW.upto fs.length (inv49 fs ns) ⟨fun j f hj => absurd hj (Nat.not_lt_zero j), rfl, rfl, rfl, rfl, rfl⟩ fun i t H c hi h => ?_
  obtain ⟨g, e1, e2, e15, e16, e17⟩ := h
  simp only [T.c, T.i, T.s, tL] at e1 e2 e15 e16 e17
  by_cases hlt : i < fs.length
  · obtain ⟨x, hx⟩ : ∃ x, fs[i]? = some x := ⟨_, List.getElem?_eq_getElem hlt⟩
    obtain ⟨y, hy⟩ : ∃ y, ns[i]? = some y := ⟨_, List.getElem?_eq_getElem (by omega)⟩
    have ex := en_at eF hx
    have ey := en_at eS hy
    have k1 : (i : Int) < fs.length := by omega
    have gz : (0 : Int) ≤ i := by omega
    have gw : IntKind.i64.wrap ((i : Int) + 1) = ((i + 1 : Nat) : Int) := wrap64 (x := (i : Int) + 1) ⟨by omega, by omega⟩
    simp only [go_sem, e1, e2, e15, e16, e17, en_len, k1, gz, ex, eF, ey, eS]
    refine callC (sameName_ok x y) rfl rfl (by simp [closedA, closedP, closedC]) rfl ?_
    by_cases hn : x.name = y
    · simp only [go_sem, e17, hn, gw, decide_true]
      exact ⟨hlt, fun j g' hj hg => (by rcases Nat.lt_succ_iff_lt_or_eq.1 hj with hj | rfl; exact g j g' hj hg; rw [hx] at hg; cases hg; rw [hy, hn]), e1, e2, e15, e16, rfl⟩
    · have hbf := no fun h => hn (by have := h.2 i x hx; rw [hy] at this; exact (Option.some.inj this).symm)
      simp only [go_sem, hn, hbf]
  · have k1 : ¬ (i : Int) < fs.length := by omega
    have hbt : b = true := hb.2 ⟨hl2, fun j f hf => g j f (by have := (List.getElem?_eq_some_iff.1 hf).1; omega) hf⟩
    simp only [go_sem, e16, e17, k1, hbt]
end Go.V

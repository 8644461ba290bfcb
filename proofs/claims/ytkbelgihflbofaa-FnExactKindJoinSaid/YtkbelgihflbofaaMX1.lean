/- For all schemas the program's KindJoin gives what the reference's gives, leaves its arguments as they were and shares no memory: the law returns true for every input, and its arguments read as before. Conditions: none. -/
import Derived.Test.YtkbelgihflbofaaMV2
import Derived.Test.YtkbelgihflbofaaProg
set_option linter.unusedVariables false
set_option maxRecDepth 20000
namespace Go.V
open Go.Proofs
theorem follows : Try.prog.follows .mixedOrders = true := by kernel_rfl
def tabS : {T : Tab // mkTab Try.prog 20 0 123 = T} := by
  apply Subtype.mk
  conv => lhs; cbv
def tab : Tab := tabS.1
def ACode.sub : ACode → List Nat → ACode
  | a, [] => a
  | .seq a b, k :: p => match k with
    | 0 => a.sub p
    | _ => b.sub p
  | .cond _ a b, k :: p => match k with
    | 0 => a.sub p
    | _ => b.sub p
  | .block _ a, _ :: p => a.sub p
  | .loop a, _ :: p => a.sub p
  | _, _ => .skip
/-- A part of a function's code. -/
def okF.sub {P : Program} {f n : Nat} {ac : ACode} {rs : List ARes} (_ : okF P f n ac rs) (p : List Nat) : ACode := ac.sub p
def okF.res {P : Program} {f n : Nat} {ac : ACode} {rs : List ARes} (_ : okF P f n ac rs) : List ARes := rs
section
variable {w w' : World} {imm imm' : Imm} {H H' : HMap} {L L' : Locs} {U U' : Nat → Prop}
theorem PRep.scalar {x : Value} {p : P1} (h : PRep w imm H L U x p) (hc : scalarP p = true) : PRep w' imm' H' L' U' x p := by
  cases p with
  | one c => exact CRep.scalar (show CRep w imm H L U x c from h) hc
  | agg cs =>
    obtain ⟨xs, hx, h⟩ := h
    exact ⟨xs, hx, h.1, fun k x y hx hy => (h.2 k x y hx hy).scalar (List.all_eq_true.1 hc y (List.mem_of_getElem? hy))⟩
end
/-- A loop with a measure that goes down. -/
theorem AW.loopM {P : Program} {X : Ctx} {Q : Exit → St → Prop} {σ0 : St} {x : ACode} {ι : Type} (I : ι → St → Prop) (μ : ι → Nat) (i0 : ι) (h0 : I i0 σ0)
    (round : ∀ i σ, I i σ → oneW P X x (thenA (fun σ' => ∃ i', μ i' < μ i ∧ I i' σ') Q) σ) : oneW P X (.loop x) Q σ0 := by
  have key : ∀ k i σ, μ i ≤ k → I i σ → ∃ m e s, Q e s ∧ LTr P x e s m σ := by
    intro k
    induction k with
    | zero =>
      intro i σ hk hI
      obtain ⟨e, s, h1, h2⟩ := round i σ hI
      cases e with
      | normal => obtain ⟨i', h3, _⟩ := (show ∃ i', μ i' < μ i ∧ I i' s from h1); omega
      | _ => exact ⟨0, _, s, h1, .stop σ (by simp) h2⟩
    | succ k ih =>
      intro i σ hk hI
      obtain ⟨e, s, h1, h2⟩ := round i σ hI
      cases e with
      | normal =>
        obtain ⟨i', h3, h4⟩ := (show ∃ i', μ i' < μ i ∧ I i' s from h1)
        obtain ⟨m, e2, s2, h5, h6⟩ := ih i' s (by omega) h4
        exact ⟨m + 1, e2, s2, h5, .go m σ s h2 h6⟩
      | _ => exact ⟨0, _, s, h1, .stop σ (by simp) h2⟩
  obtain ⟨m, e, s, h1, h2⟩ := key _ i0 _ (Nat.le_refl _) h0
  exact ⟨e, s, h1, fun X => h2.aw X⟩
theorem mkArr (l : List UInt8) : Array.mk l = l.toArray := rfl
attribute [go_sem] mkArr
end Go.V
set_option linter.unusedSimpArgs false
set_option maxRecDepth 20000
namespace Go.V
open Go.Proofs
def encS (ss : List ByteArray) : List (List V) := ss.map fun s => [.s (.string s)]
theorem encS_at {ss : List ByteArray} {i : Nat} {s : ByteArray} (h : ss[i]? = some s) : (encS ss)[i]? = some [.s (.string s)] := by simp [encS, h]
theorem encS_len (ss : List ByteArray) : (encS ss).length = ss.length := by simp [encS]
theorem str_beq (a b : ByteArray) : (a.toList == b.toList) = decide (a = b) := by
  rw [ByteArray.toList_eq, ByteArray.toList_eq]
  by_cases h : a = b
  · subst h; simp
  · have : a.data.toList ≠ b.data.toList := fun e => h (by
      cases a; cases b; simp only [ByteArray.mk.injEq]; exact Array.ext' e)
    rw [decide_eq_false h]; exact beq_eq_false_iff_ne.2 this
def ok74 := okF.gu (P := Try.prog) tab Try.func74 Try.ntmps74 (by conv => lhs; cbv) (by kernel_rfl)
theorem l6In_ok (n lo hi : Int) : ACallsF Try.prog 74 [.i n, .i lo, .i hi] [] (.b (decide (lo ≤ n) && decide (n ≤ hi))) := by
  refine ACallsF.intro ok74 follows fun X c0 => ?_
  by_cases h1 : lo ≤ n <;> by_cases h2 : n ≤ hi <;> simp only [go_sem, h1, h2, ge_iff_le]
def ok70 := okF.gu (P := Try.prog) tab Try.func70 Try.ntmps70 (by conv => lhs; cbv) (by kernel_rfl)
def inv70 (xs ys : List ByteArray) (i : Nat) (σ : St) : Prop := (∀ j, j < i → xs[j]? = ys[j]?) ∧ σ.t 0 = .c (.v (.sl (encS xs))) ∧ σ.t 1 = .c (.v (.sl (encS ys))) ∧ σ.t 12 = .i xs.length ∧ σ.t 13 = .i i
theorem equal_ok (xs ys : List ByteArray) (hx : xs.length ≤ 4611686018427387904) : ACallsF Try.prog 70 [.c (.v (.sl (encS xs))), .c (.v (.sl (encS ys)))] [] (.b (decide (xs = ys))) := by
  refine ACallsF.intro ok70 follows fun X c0 => ?_
  by_cases hl : xs.length = ys.length
  · have hl' : ((xs.length : Int) != (ys.length : Int)) = false := by simp [hl]
    simp only [go_sem, encS_len, hl']
    refine AW.upto xs.length (inv70 xs ys) ⟨fun j hj => absurd hj (Nat.not_lt_zero j), rfl, rfl, rfl, rfl⟩ fun i t H c h0 h => ?_
    obtain ⟨h2, h3, h4, h5, h6⟩ := h
    simp only [T.c, T.i] at h3 h4 h5 h6
    by_cases hi : i < xs.length
    · have hi' : (i : Int) < xs.length := by omega
      have e1 := encS_at (List.getElem?_eq_getElem hi)
      have e2 := encS_at (List.getElem?_eq_getElem (hl ▸ hi))
      have ew : IntKind.i64.wrap ((i : Int) + 1) = ((i + 1 : Nat) : Int) := wrap64 (by omega)
      have hn : (0 : Int) ≤ i := by omega
      by_cases he : xs[i] = ys[i]
      · simp only [go_sem, hi', h3, h4, h5, h6, e1, e2, hn, Int.toNat_natCast, str_beq, he, ew, sStr]
        exact ⟨hi, fun j hj => by
          rcases Nat.lt_succ_iff_lt_or_eq.1 hj with hj | rfl
          · exact h2 j hj
          · rw [List.getElem?_eq_getElem hi, List.getElem?_eq_getElem (hl ▸ hi), he], h3, h4, h5, rfl⟩
      · have hne : xs ≠ ys := fun e => he (by subst e; rfl)
        simp only [go_sem, hi', h3, h4, h5, h6, e1, e2, hn, Int.toNat_natCast, str_beq, he, ew, sStr, hne]
    · have hi' : ¬ (i : Int) < xs.length := by omega
      have hne : xs = ys := List.ext_getElem? fun j => by
        by_cases hj : j < xs.length
        · exact h2 j (by omega)
        · rw [List.getElem?_eq_none (by omega), List.getElem?_eq_none (by omega)]
      simp only [go_sem, hi', h3, h4, h5, h6]
      simp only [hne, decide_true]
  · have hl' : ((xs.length : Int) != (ys.length : Int)) = true := by simp; omega
    have hne : xs ≠ ys := fun e => hl (by rw [e])
    simp only [go_sem, encS_len, hl', hne]
end Go.V
set_option linter.unusedSimpArgs false
namespace Go.V
open Go.Proofs
inductive Kd where
  | mk (sort : Int) (names : List ByteArray) (kids : List Kd)
mutual
def encK : Kd → List V
  | .mk s ns ks => [.s (.int .i64 s), .sl (encS ns), .sl (encKs ks)]
def encKs : List Kd → List (List V)
  | [] => []
  | k :: ks => encK k :: encKs ks
end
theorem encKs_eq : ∀ ks, encKs ks = ks.map encK
  | [] => by simp [encKs]
  | k :: ks => by simp [encKs, encKs_eq ks]
theorem encK_mk (s : Int) (ns : List ByteArray) (ks : List Kd) : encK (.mk s ns ks) = [.s (.int .i64 s), .sl (encS ns), .sl (encKs ks)] := by simp [encK]
theorem encK_len (k : Kd) : (encK k).length = 3 := by cases k; simp [encK]
theorem encKs_len (ks : List Kd) : (encKs ks).length = ks.length := by simp [encKs_eq]
theorem encKs_at {ks : List Kd} {i : Nat} {k : Kd} (h : ks[i]? = some k) : (encKs ks)[i]? = some (encK k) := by simp [encKs_eq, h]
theorem encKs_all (ks : List Kd) : ∀ e ∈ encKs ks, e.length = 3 := by
  intro e he
  rw [encKs_eq, List.mem_map] at he
  obtain ⟨k, _, rfl⟩ := he
  exact encK_len k
theorem encKs_snoc (ks : List Kd) (k : Kd) : encKs (ks ++ [k]) = encKs ks ++ [encK k] := by simp [encKs_eq]
theorem encS_snoc (ss : List ByteArray) (s : ByteArray) : encS (ss ++ [s]) = encS ss ++ [[.s (.string s)]] := by simp [encS]
theorem take_encS (ss : List ByteArray) : (encS ss).take ss.length = encS ss := by rw [← encS_len ss, List.take_length]
theorem take_encKs (ks : List Kd) : (encKs ks).take ks.length = encKs ks := by rw [← encKs_len ks, List.take_length]
attribute [go_sem] sealCs_map Nat.le_refl take_encS take_encKs encK_len List.take_length List.length_append List.length_singleton List.cons_append List.nil_append
abbrev tK (k : Kd) : T := .pt (.agg ((encK k).map .v))

/-- No list and no text is longer than n. -/
inductive KB (n : Nat) : Kd → Prop
  | mk (s : Int) (ns : List ByteArray) (ks : List Kd) (h1 : ns.length ≤ n) (h2 : ks.length ≤ n) (h3 : ∀ x ∈ ns, x.size ≤ n) (h4 : ∀ k ∈ ks, KB n k) : KB n (.mk s ns ks)

/-- How deep it is, at most. -/
inductive Dp : Nat → Kd → Prop
  | mk (d : Nat) (s : Int) (ns : List ByteArray) (ks : List Kd) (h : ∀ k ∈ ks, Dp d k) : Dp (d + 1) (.mk s ns ks)
theorem Dp.le {d e : Nat} {k : Kd} (h : Dp d k) : d ≤ e → Dp e k := by
  induction h generalizing e with
  | mk d s ns ks _ ih =>
    intro hd
    obtain ⟨e, rfl⟩ : ∃ e', e = e' + 1 := ⟨e - 1, by omega⟩
    exact .mk _ _ _ _ fun k hk => ih k hk (by omega)
theorem Dp.inv {d : Nat} {s : Int} {ns : List ByteArray} {ks : List Kd} (h : Dp d (.mk s ns ks)) : 1 ≤ d ∧ ∀ k ∈ ks, Dp (d - 1) k := by
  cases h with
  | mk d _ _ _ h => exact ⟨by omega, h⟩
theorem Dp.one {d : Nat} {k : Kd} (h : Dp d k) (s : Int) : Dp (d + 1) (.mk s [] [k]) := .mk _ _ _ _ fun x hx => by rw [List.mem_singleton.1 hx]; exact h
def kcost : Nat → Int
  | 0 => 100
  | d + 1 => 10 * kcost d
theorem kcost_pos : ∀ d, 100 ≤ kcost d
  | 0 => by simp [kcost]
  | d + 1 => by have := kcost_pos d; simp only [kcost]; omega

structure KS where
  p : Int
  ns : List ByteArray
  ks : List Kd
end Go.V
set_option linter.unusedSimpArgs false
set_option maxRecDepth 20000
namespace Go.V
open Go.Proofs
def lower (b : UInt8) : Bool := decide (97 ≤ b.toNat) && decide (b.toNat ≤ 122)
def digit (b : UInt8) : Bool := decide (48 ≤ b.toNat) && decide (b.toNat ≤ 57)
def nameOk (s : ByteArray) : Bool := decide (1 ≤ s.size) && decide (s.size ≤ 8) && (s.data.toList.head?.any lower) && s.data.toList.all fun b => lower b || digit b
def ok84 := okF.gu (P := Try.prog) tab Try.func84 Try.ntmps84 (by conv => lhs; cbv) (by kernel_rfl)
def inv84 (s : ByteArray) (i : Nat) (σ : St) : Prop := (∀ j b, j < i → s.data[j]? = some b → (lower b || digit b) = true) ∧ σ.t 0 = .s (.string s) ∧ σ.t 3 = .i i
theorem size_data (s : ByteArray) : s.size = s.data.size := rfl
theorem nameOk_ok (s : ByteArray) (hs : s.size ≤ 4611686018427387904) : ACallsF Try.prog 84 [.s (.string s)] [] (.b (nameOk s)) := by
  refine ACallsF.intro ok84 follows fun X c0 => ?_
  simp only [go_sem]
  refine callC (l6In_ok _ _ _) rfl rfl rfl rfl ?_
  by_cases h1 : (1 : Int) ≤ s.size
  · by_cases h2 : (s.size : Int) ≤ 8
    · obtain ⟨b0, hb0⟩ : ∃ b, s.data[0]? = some b := ⟨_, Array.getElem?_eq_getElem (by rw [← size_data]; omega)⟩
      have hhead : s.data.toList.head? = some b0 := by rw [List.head?_eq_getElem?, Array.getElem?_toList]; exact hb0
      by_cases h3 : (b0.toNat : Int) < 97
      · have hm : nameOk s = false := by
          have : lower b0 = false := by simp only [lower, Bool.and_eq_false_imp, decide_eq_true_eq, decide_eq_false_iff_not]; omega
          simp [nameOk, hhead, this]
        simp only [go_sem, h1, h2, hb0, h3, hm, Int.toNat_zero, Int.le_refl]
      · by_cases h4 : (b0.toNat : Int) > 122
        · have hm : nameOk s = false := by
            have : lower b0 = false := by simp only [lower, Bool.and_eq_false_imp, decide_eq_true_eq, decide_eq_false_iff_not]; omega
            simp [nameOk, hhead, this]
          simp only [go_sem, h1, h2, hb0, h3, h4, hm, Int.toNat_zero, Int.le_refl]
        · simp only [go_sem, h1, h2, hb0, h3, h4, Int.toNat_zero, Int.le_refl]
          have hlow : lower b0 = true := by simp only [lower, Bool.and_eq_true, decide_eq_true_eq]; omega
          refine AW.upto s.size (inv84 s) ⟨fun j _ hj => absurd hj (Nat.not_lt_zero j), rfl, rfl⟩ fun i t H c hi h => ?_
          obtain ⟨g0, e0, e3⟩ := h
          simp only [T.c, T.i, T.s] at e0 e3
          by_cases hlt : i < s.size
          · have g1 : (i : Int) < s.size := by omega
            have gz : (0 : Int) ≤ i := by omega
            have gw : IntKind.i64.wrap ((i : Int) + 1) = ((i + 1 : Nat) : Int) := wrap64 (x := (i : Int) + 1) ⟨by omega, by omega⟩
            obtain ⟨b, hb⟩ : ∃ b, s.data[i]? = some b := ⟨_, Array.getElem?_eq_getElem (by rw [← size_data]; omega)⟩
            have key : ∀ j b', j < i + 1 → (lower b || digit b) = true → s.data[j]? = some b' → (lower b' || digit b') = true := by
              intro j b' hj hl hj2
              rcases Nat.lt_succ_iff_lt_or_eq.1 hj with hj | rfl
              · exact g0 j b' hj hj2
              · rw [hb] at hj2; cases hj2; exact hl
            by_cases hl : (lower b || digit b) = true
            · have hl2 : (97 ≤ (b.toNat : Int) ∧ (b.toNat : Int) ≤ 122) ∨ (48 ≤ (b.toNat : Int) ∧ (b.toNat : Int) ≤ 57) := by
                simp only [lower, digit, Bool.or_eq_true, Bool.and_eq_true, decide_eq_true_eq] at hl; omega
              rcases hl2 with ⟨q1, q2⟩ | ⟨q3, q4⟩
              · simp only [go_sem, e0, e3, g1, gz, hb, Int.toNat_natCast, q1, q2, gw, ge_iff_le]
                exact ⟨hlt, fun j b' hj hj2 => key j b' hj hl hj2, e0, rfl⟩
              · have q1 : ¬ 97 ≤ (b.toNat : Int) := by omega
                simp only [go_sem, e0, e3, g1, gz, hb, Int.toNat_natCast, q1, q3, q4, gw, ge_iff_le]
                exact ⟨hlt, fun j b' hj hj2 => key j b' hj hl hj2, e0, rfl⟩
            · have hm : nameOk s = false := by
                have : (s.data.toList.all fun b => lower b || digit b) = false := by
                  rw [List.all_eq_false]
                  exact ⟨b, by rw [Array.mem_toList_iff]; exact Array.mem_of_getElem? hb, hl⟩
                simp [nameOk, this]
              have hl2 : (¬ 97 ≤ (b.toNat : Int) ∧ ¬ 48 ≤ (b.toNat : Int)) ∨ (¬ 97 ≤ (b.toNat : Int) ∧ 48 ≤ (b.toNat : Int) ∧ ¬ (b.toNat : Int) ≤ 57) ∨ (97 ≤ (b.toNat : Int) ∧ ¬ (b.toNat : Int) ≤ 122 ∧ 48 ≤ (b.toNat : Int) ∧ ¬ (b.toNat : Int) ≤ 57) := by
                simp only [lower, digit, Bool.or_eq_true, Bool.and_eq_true, decide_eq_true_eq] at hl; omega
              rcases hl2 with ⟨q1, q3⟩ | ⟨q1, q3, q4⟩ | ⟨q1, q2, q3, q4⟩
              · simp only [go_sem, e0, e3, g1, gz, hb, Int.toNat_natCast, q1, q3, hm, ge_iff_le]
              · simp only [go_sem, e0, e3, g1, gz, hb, Int.toNat_natCast, q1, q3, q4, hm, ge_iff_le]
              · simp only [go_sem, e0, e3, g1, gz, hb, Int.toNat_natCast, q1, q2, q3, q4, hm, ge_iff_le]
          · have g1 : ¬ (i : Int) < s.size := by omega
            have hm : nameOk s = true := by
              have : (s.data.toList.all fun b => lower b || digit b) = true := by
                rw [List.all_eq_true]
                intro b hb
                rw [Array.mem_toList_iff, Array.mem_iff_getElem?] at hb
                obtain ⟨j, hj⟩ := hb
                exact g0 j b (by have := (Array.getElem?_eq_some_iff.1 hj).1; rw [size_data] at hlt; omega) hj
              simp [nameOk, this, hhead, hlow]; omega
            simp only [go_sem, e0, e3, g1, hm]
    · have hm : nameOk s = false := by simp [nameOk]; omega
      simp only [go_sem, h1, h2, hm]
  · have hm : nameOk s = false := by simp [nameOk]; omega
    simp only [go_sem, h1, hm]
end Go.V
set_option linter.unusedSimpArgs false
set_option maxRecDepth 20000
namespace Go.V
open Go.Proofs
/-- Ascending names. -/
def RiseP (ss : List ByteArray) : Prop := ∀ i s, ss[i]? = some s → nameOk s = true ∧ ∀ s', 0 < i → ss[i - 1]? = some s' → Op.bytesLess s'.toList s.toList = true
noncomputable def rise (ss : List ByteArray) : Bool := @decide (RiseP ss) (Classical.propDecidable _)
theorem rise_true {ss : List ByteArray} : rise ss = true ↔ RiseP ss := by simp [rise]
theorem rise_false {ss : List ByteArray} : rise ss = false ↔ ¬ RiseP ss := by simp [rise]
def ok75 := okF.gu (P := Try.prog) tab Try.func75 Try.ntmps75 (by conv => lhs; cbv) (by kernel_rfl)
def inv75 (ss : List ByteArray) (i : Nat) (σ : St) : Prop := (∀ j s, j < i → ss[j]? = some s → nameOk s = true ∧ ∀ s', 0 < j → ss[j - 1]? = some s' → Op.bytesLess s'.toList s.toList = true) ∧ σ.t 0 = .c (.v (.sl (encS ss))) ∧ σ.t 3 = .i i
theorem rise_ok (ss : List ByteArray) (hl : ss.length ≤ 4611686018427387904) (hs : ∀ s ∈ ss, s.size ≤ 4611686018427387904) : ACallsF Try.prog 75 [.c (.v (.sl (encS ss)))] [] (.b (rise ss)) := by
  refine ACallsF.intro ok75 follows fun X c0 => ?_
  simp only [go_sem]
  refine AW.upto ss.length (inv75 ss) ⟨fun j _ hj => absurd hj (Nat.not_lt_zero j), rfl, rfl⟩ fun i t H c hi h => ?_
  obtain ⟨g0, e0, e3⟩ := h
  simp only [T.c, T.i, T.s] at e0 e3
  by_cases hlt : i < ss.length
  · have g1 : (i : Int) < ss.length := by omega
    have gz : (0 : Int) ≤ i := by omega
    have gw : IntKind.i64.wrap ((i : Int) + 1) = ((i + 1 : Nat) : Int) := wrap64 (x := (i : Int) + 1) ⟨by omega, by omega⟩
    obtain ⟨s, hs1⟩ : ∃ s, ss[i]? = some s := ⟨_, List.getElem?_eq_getElem hlt⟩
    have es := encS_at hs1
    have hC := nameOk_ok s (hs s (List.mem_of_getElem? hs1))
    have key : nameOk s = true → (∀ s', 0 < i → ss[i - 1]? = some s' → Op.bytesLess s'.toList s.toList = true) → ∀ j s, j < i + 1 → ss[j]? = some s → nameOk s = true ∧ ∀ s', 0 < j → ss[j - 1]? = some s' → Op.bytesLess s'.toList s.toList = true := by
      intro k1 k2 j s2 hj hj2
      rcases Nat.lt_succ_iff_lt_or_eq.1 hj with hj | rfl
      · exact g0 j s2 hj hj2
      · rw [hs1] at hj2; cases hj2; exact ⟨k1, k2⟩
    simp only [go_sem, e0, e3, g1, gz, encS_len, es, Int.toNat_natCast]
    refine callC hC rfl rfl rfl rfl ?_
    cases hn : nameOk s with
    | false =>
      have hm : rise ss = false := rise_false.2 fun h => by rw [(h i s hs1).1] at hn; cases hn
      simp only [go_sem, hm]
    | true =>
      by_cases hi0 : i = 0
      · have k1 : ¬ (i : Int) > 0 := by omega
        simp only [go_sem, e0, e3, k1, gw]
        exact ⟨hlt, key hn (fun s' h => by omega), e0, rfl⟩
      · have k1 : (i : Int) > 0 := by omega
        have k2 : IntKind.i64.wrap ((i : Int) - 1) = ((i - 1 : Nat) : Int) := (wrap64 (x := (i : Int) - 1) ⟨by omega, by omega⟩).trans (by omega)
        have k3 : (0 : Int) ≤ ((i - 1 : Nat) : Int) := by omega
        obtain ⟨s', hs2⟩ : ∃ s, ss[i - 1]? = some s := ⟨_, List.getElem?_eq_getElem (by omega)⟩
        have es2 := encS_at hs2
        cases hb : Op.bytesLess s'.toList s.toList with
        | false =>
          have hm : rise ss = false := rise_false.2 fun h => by rw [(h i s hs1).2 s' (by omega) hs2] at hb; cases hb
          simp only [go_sem, e0, e3, k1, k2, k3, es, es2, gz, Int.toNat_natCast, sStr, hb, hm]
        | true =>
          simp only [go_sem, e0, e3, k1, k2, k3, es, es2, gz, Int.toNat_natCast, sStr, hb, gw]
          exact ⟨hlt, key hn (fun s2 _ h2 => by rw [hs2] at h2; cases h2; exact hb), e0, rfl⟩
  · have g1 : ¬ (i : Int) < ss.length := by omega
    have hm : rise ss = true := rise_true.2 fun j s hj => g0 j s (by have := (List.getElem?_eq_some_iff.1 hj).1; omega) hj
    simp only [go_sem, e0, e3, g1, encS_len, hm]
end Go.V
set_option linter.unusedSimpArgs false
set_option maxRecDepth 20000
namespace Go.V
open Go.Proofs
theorem takeK (k : Kd) : List.take 3 (List.map C.v (encK k)) = List.map C.v (encK k) := by
  have h : (List.map C.v (encK k)).length = 3 := by rw [List.length_map, encK_len]
  rw [← h, List.take_length]
theorem Kd.ind {P : Kd → Prop} (h : ∀ s ns ks, (∀ k ∈ ks, P k) → P (.mk s ns ks)) : ∀ k, P k
  | .mk s ns ks => h s ns ks fun k _hk => Kd.ind h k
termination_by k => SizeOf.sizeOf k
decreasing_by
  have := List.sizeOf_lt_of_mem _hk
  simp
  omega
mutual
def parts : Kd → Nat
  | .mk _ _ ks => 1 + partsL ks
def partsL : List Kd → Nat
  | [] => 0
  | k :: ks => parts k + partsL ks
end
theorem partsL_snoc (ks : List Kd) (k : Kd) : partsL (ks ++ [k]) = partsL ks + parts k := by
  induction ks with
  | nil => simp [partsL]
  | cons x xs ih => simp [partsL, ih]; omega
theorem parts_pos (k : Kd) : 1 ≤ parts k := by cases k; simp [parts]
theorem partsL_take_le (ks : List Kd) (i : Nat) : partsL (ks.take i) ≤ partsL ks := by
  induction ks generalizing i with
  | nil => simp
  | cons k ks ih => cases i with
    | zero => simp [partsL]
    | succ i => simp only [List.take_succ_cons, partsL]; have := ih i; omega
theorem partsL_mem {ks : List Kd} {k : Kd} (h : k ∈ ks) : parts k ≤ partsL ks := by
  induction ks with
  | nil => cases h
  | cons x xs ih =>
    rcases List.mem_cons.1 h with rfl | h
    · simp [partsL]
    · have := ih h; simp only [partsL]; omega
structure Shape (s : Int) (ns : List ByteArray) (ks : List Kd) : Prop where
  lo : 1 ≤ s
  hi : s ≤ 6
  form : s = 5 → ns.length = ks.length ∧ rise ns = true
  other : s ≠ 5 → ns.length = 0
  leaf : s < 4 → ks.length = 0
  one : s = 4 ∨ s = 6 → ks.length = 1
inductive KOk : Nat → Kd → Prop
  | mk (d : Nat) (s : Int) (ns : List ByteArray) (ks : List Kd) (h1 : d ≤ 6) (h2 : Shape s ns ks) (h3 : ∀ k ∈ ks, KOk (d + 1) k) : KOk d (.mk s ns ks)
theorem KOk.inv {d : Nat} {s : Int} {ns : List ByteArray} {ks : List Kd} (h : KOk d (.mk s ns ks)) : d ≤ 6 ∧ Shape s ns ks ∧ ∀ k ∈ ks, KOk (d + 1) k := by
  cases h with
  | mk _ _ _ _ h1 h2 h3 => exact ⟨h1, h2, h3⟩
theorem KB.inv {n : Nat} {s : Int} {ns : List ByteArray} {ks : List Kd} (h : KB n (.mk s ns ks)) : ns.length ≤ n ∧ ks.length ≤ n ∧ (∀ x ∈ ns, x.size ≤ n) ∧ ∀ k ∈ ks, KB n k := by
  cases h with
  | mk _ _ _ h1 h2 h3 h4 => exact ⟨h1, h2, h3, h4⟩
/-- What l2Parts tells. -/
def PartsR (d : Nat) (k : Kd) (q : Int) : Prop := (KOk d k ∧ parts k ≤ 40 ∧ q = parts k) ∨ (¬ (KOk d k ∧ parts k ≤ 40) ∧ q = -1)
def ok56 := okF.gu (P := Try.prog) tab Try.func56 Try.ntmps56 (by conv => lhs; cbv) (by kernel_rfl)
def inv56 (v2 : Nat) (d : Nat) (s : Int) (ns : List ByteArray) (ks : List Kd) (i : Nat) (σ : St) : Prop :=
  (∀ j k, j < i → ks[j]? = some k → KOk (d + 1) k) ∧ partsL (ks.take i) ≤ 39 ∧ σ.t 1 = .i d ∧ σ.t 2 = .c (.ptr 2 v2 0) ∧ σ.t 5 = .i ks.length ∧ σ.t 6 = .i ((1 + partsL (ks.take i) : Nat) : Int) ∧ σ.t 7 = .i i ∧ σ.H 2 = some (.var v2 38 [.v (.s (.int .i64 s)), .v (.sl (encS ns)), .v (.sl (encKs ks))])
set_option maxHeartbeats 4000000 in
theorem parts_ok : ∀ (k : Kd), KB 2000000 k → ∀ d : Nat, d ≤ 100 → ∃ q, PartsR d k q ∧ ACallsF Try.prog 56 [tK k, .i d] [] (.i q) := by
  intro k
  induction k using Kd.ind with
  | _ s ns ks ih =>
    intro hB d hd
    obtain ⟨hB1, hB2, hB3, hB4⟩ := hB.inv
    have hq : ∃ q, PartsR d (.mk s ns ks) q := by
      by_cases h : KOk d (.mk s ns ks) ∧ parts (.mk s ns ks) ≤ 40
      · exact ⟨_, .inl ⟨h.1, h.2, rfl⟩⟩
      · exact ⟨_, .inr ⟨h, rfl⟩⟩
    obtain ⟨q, hq⟩ := hq
    refine ⟨q, hq, ACallsF.intro ok56 follows fun X c0 => ?_⟩
    have hno : ¬ (KOk d (.mk s ns ks) ∧ parts (.mk s ns ks) ≤ 40) → q = -1 := fun h => by
      rcases hq with ⟨h1, h2, _⟩ | ⟨_, h⟩
      · exact absurd ⟨h1, h2⟩ h
      · exact h
    have tail : d ≤ 6 → Shape s ns ks → ∀ (X : Ctx) (t : Nat → T) (H : HMap) (c v2 : Nat), t 1 = .i d → t 2 = .c (.ptr 2 v2 0) → t 5 = .i ks.length → t 6 = .i 1 → t 7 = .i 0 → H 2 = some (.var v2 38 [.v (.s (.int .i64 s)), .v (.sl (encS ns)), .v (.sl (encKs ks))]) →
        oneW Try.prog X (ok56.sub [1, 1, 1, 1, 1, 1, 0, 1, 0]) (inW 0 (thenW Try.prog X (ok56.sub [1, 1, 1, 1, 1, 1, 1]) (endA (FinC ok56.res (.i q) [])))) ⟨t, H, c⟩ := by
      dsimp only [okF.sub, ACode.sub, okF.res]
      intro hd6 hsh X t H c v2 e1 e2 e5 e6 e7 eH
      refine AW.upto ks.length (inv56 v2 d s ns ks) ⟨fun j _ hj => absurd hj (Nat.not_lt_zero j), by simp [partsL], e1, e2, e5, by show t 6 = _; rw [e6]; simp [partsL], e7, eH⟩ fun i t H c hi h => ?_
      obtain ⟨g0, g1, e1, e2, e5, e6, e7, eH⟩ := h
      simp only [T.c, T.i] at e1 e2 e5 e6 e7 eH
      by_cases hlt : i < ks.length
      · have k1 : (i : Int) < ks.length := by omega
        have gz : (0 : Int) ≤ i := by omega
        have gw : IntKind.i64.wrap ((i : Int) + 1) = ((i + 1 : Nat) : Int) := wrap64 (x := (i : Int) + 1) ⟨by omega, by omega⟩
        have gd : IntKind.i64.wrap ((d : Int) + 1) = ((d + 1 : Nat) : Int) := wrap64 (x := (d : Int) + 1) ⟨by omega, by omega⟩
        obtain ⟨kd, hk⟩ : ∃ kd, ks[i]? = some kd := ⟨_, List.getElem?_eq_getElem hlt⟩
        have hmem := List.mem_of_getElem? hk
        have ek := encKs_at hk
        have e3 := encK_len kd
        obtain ⟨x, hx, hC⟩ := ih kd hmem (hB4 kd hmem) (d + 1) (by omega)
        have htake : partsL (ks.take (i + 1)) = partsL (ks.take i) + parts kd := by
          rw [List.take_add_one, hk]; exact partsL_snoc _ _
        have hle := partsL_take_le ks (i + 1)
        have hpos := parts_pos kd
        simp only [go_sem, e1, e2, e5, e7, eH, k1, gz, ek, e3, Int.toNat_natCast, List.length_map, takeK, Nat.le_refl, gd]
        refine callC hC rfl rfl (by simp [closedA, closedP, closedC]) rfl ?_
        rcases hx with ⟨x1, x2, rfl⟩ | ⟨x1, rfl⟩
        · have k2 : ¬ (parts kd : Int) < 0 := by omega
          by_cases k3 : ((1 + partsL (ks.take i) : Nat) : Int) + (parts kd : Int) > 40
          · have hm := hno fun h => by have := h.2; simp only [parts] at this; have := partsL_take_le ks (i + 1); omega
            have kw : IntKind.i64.wrap (((1 + partsL (ks.take i) : Nat) : Int) + (parts kd : Int)) = ((1 + partsL (ks.take i) : Nat) : Int) + (parts kd : Int) := wrap64 ⟨by omega, by omega⟩
            simp only [go_sem, e6, k2, kw, k3, hm]
          · have kw : IntKind.i64.wrap (((1 + partsL (ks.take i) : Nat) : Int) + (parts kd : Int)) = ((1 + partsL (ks.take (i + 1)) : Nat) : Int) := (wrap64 (x := ((1 + partsL (ks.take i) : Nat) : Int) + (parts kd : Int)) ⟨by omega, by omega⟩).trans (by rw [htake]; omega)
            have k4 : ¬ ((1 + partsL (ks.take (i + 1)) : Nat) : Int) > 40 := by rw [htake]; omega
            simp only [go_sem, e6, e7, k2, kw, k4, gw]
            exact ⟨hlt, fun j k hj hj2 => by
              rcases Nat.lt_succ_iff_lt_or_eq.1 hj with hj | rfl
              · exact g0 j k hj hj2
              · rw [hk] at hj2; cases hj2; exact x1, by rw [htake]; omega, e1, e2, e5, rfl, rfl, eH⟩
        · have hm := hno fun h => x1 ⟨h.1.inv.2.2 kd hmem, by have := h.2; simp only [parts] at this; have := partsL_mem hmem; omega⟩
          have k2 : (-1 : Int) < 0 := by omega
          simp only [go_sem, k2, hm]
      · have k1 : ¬ (i : Int) < ks.length := by omega
        have hi2 : i = ks.length := by omega
        subst hi2
        rw [List.take_length] at g1 e6
        have hm : q = ((1 + partsL ks : Nat) : Int) := by
          rcases hq with ⟨_, _, h⟩ | ⟨h, _⟩
          · rw [h]; simp [parts]
          · refine absurd ⟨.mk _ _ _ _ hd6 hsh fun k hk => ?_, by simp only [parts]; omega⟩ h
            obtain ⟨j, hj⟩ := List.getElem?_of_mem hk
            exact g0 j k (List.getElem?_eq_some_iff.1 hj).1 hj
        simp only [go_sem, e1, e2, e5, e6, e7, k1, hm]
    by_cases hd6 : (d : Int) > 6
    · have hm := hno fun h => by have := h.1.inv.1; omega
      simp only [go_sem, encK_mk, encKs_len, hd6, hm]
    simp only [go_sem, encK_mk, encKs_len, hd6]
    refine callC (l6In_ok _ _ _) rfl rfl rfl rfl ?_
    by_cases hs1 : 1 ≤ s
    · by_cases hs2 : s ≤ 6
      · by_cases h5 : s = 5
        · subst h5
          have b5 : ((5 : Int) == 5) = true := rfl
          by_cases hn : ns.length = ks.length
          · have bn : ((ns.length : Int) != (ks.length : Int)) = false := by simp [hn]
            simp only [go_sem, encK_mk, encKs_len, encS_len, hs1, hs2, b5, bn]
            refine callC (rise_ok ns (by omega) fun x hx => by have := hB3 x hx; omega) rfl rfl rfl rfl ?_
            cases hr : rise ns with
            | true =>
              have k1 : ¬ (5 : Int) < 4 := by omega
              have b4 : ((5 : Int) == 4) = false := rfl
              have b6 : ((5 : Int) == 6) = false := rfl
              have c5 : ((5 : Int) != 5) = false := rfl
              simp only [go_sem, encK_mk, encKs_len, encS_len, b5, bn, k1, b4, b6, c5]
              exact tail (by omega) ⟨by omega, by omega, fun _ => ⟨hn, hr⟩, fun h => absurd rfl h, fun h => by omega, fun h => by omega⟩ X _ _ _ _ rfl rfl rfl rfl rfl rfl
            | false =>
              have hm := hno fun h => by have := (h.1.inv.2.1.form rfl).2; rw [hr] at this; cases this
              simp only [go_sem, hm]
          · have bn : ((ns.length : Int) != (ks.length : Int)) = true := by simp; omega
            have hm := hno fun h => hn (h.1.inv.2.1.form rfl).1
            simp only [go_sem, encK_mk, encKs_len, encS_len, hs1, hs2, b5, bn, hm]
        · have b5 : (s == 5) = false := beq_eq_false_iff_ne.2 h5
          have c5 : (s != 5) = true := by simp [h5]
          by_cases hn : ns.length = 0
          · have k0 : ¬ (ns.length : Int) > 0 := by omega
            by_cases hs4 : s < 4
            · have b4 : (s == 4) = false := beq_eq_false_iff_ne.2 (by omega)
              have b6 : (s == 6) = false := beq_eq_false_iff_ne.2 (by omega)
              by_cases hk0 : ks.length = 0
              · have k1 : ¬ (ks.length : Int) > 0 := by omega
                simp only [go_sem, encK_mk, encKs_len, encS_len, hs1, hs2, b5, c5, k0, hs4, k1, b4, b6]
                exact tail (by omega) ⟨hs1, hs2, fun h => absurd h h5, fun _ => hn, fun _ => hk0, fun h => by omega⟩ X _ _ _ _ rfl rfl rfl rfl rfl rfl
              · have k1 : (ks.length : Int) > 0 := by omega
                have hm := hno fun h => hk0 (h.1.inv.2.1.leaf hs4)
                simp only [go_sem, encK_mk, encKs_len, encS_len, hs1, hs2, b5, c5, k0, hs4, k1, hm]
            · have h46 : s = 4 ∨ s = 6 := by omega
              by_cases hk1 : ks.length = 1
              · have bn : ((ks.length : Int) != 1) = false := by simp [hk1]
                rcases h46 with rfl | rfl
                · simp only [go_sem, encK_mk, encKs_len, encS_len, hs1, hs2, b5, c5, k0, hs4, bn, Int.reduceBEq]
                  exact tail (by omega) ⟨hs1, hs2, fun h => absurd h h5, fun _ => hn, fun h => by omega, fun _ => hk1⟩ X _ _ _ _ rfl rfl rfl rfl rfl rfl
                · simp only [go_sem, encK_mk, encKs_len, encS_len, hs1, hs2, b5, c5, k0, hs4, bn, Int.reduceBEq]
                  exact tail (by omega) ⟨hs1, hs2, fun h => absurd h h5, fun _ => hn, fun h => by omega, fun _ => hk1⟩ X _ _ _ _ rfl rfl rfl rfl rfl rfl
              · have bn : ((ks.length : Int) != 1) = true := by simp; omega
                have hm := hno fun h => hk1 (h.1.inv.2.1.one h46)
                rcases h46 with rfl | rfl <;> simp only [go_sem, encK_mk, encKs_len, encS_len, hs1, hs2, b5, c5, k0, hs4, bn, Int.reduceBEq, hm]
          · have k0 : (ns.length : Int) > 0 := by omega
            have hm := hno fun h => hn (h.1.inv.2.1.other h5)
            simp only [go_sem, encK_mk, encKs_len, encS_len, hs1, hs2, b5, c5, k0, hm]
      · have hm := hno fun h => hs2 h.1.inv.2.1.hi
        simp only [go_sem, hs1, hs2, hm]
    · have hm := hno fun h => hs1 h.1.inv.2.1.lo
      simp only [go_sem, hs1, hm]
end Go.V
set_option linter.unusedSimpArgs false
set_option maxRecDepth 20000
namespace Go.V
open Go.Proofs
noncomputable def okK (k : Kd) : Bool := @decide (KOk 1 k ∧ parts k ≤ 40) (Classical.propDecidable _)
theorem okK_true {k : Kd} : okK k = true ↔ KOk 1 k ∧ parts k ≤ 40 := by simp [okK]
theorem okK_false {k : Kd} : okK k = false ↔ ¬ (KOk 1 k ∧ parts k ≤ 40) := by simp [okK]
def ok41 := okF.gu (P := Try.prog) tab Try.func41 Try.ntmps41 (by conv => lhs; cbv) (by kernel_rfl)
theorem kindOkS_ok (k : Kd) (hB : KB 2000000 k) : ACallsF Try.prog 41 [tK k] [] (.b (okK k)) := by
  obtain ⟨q, hq, hC⟩ := parts_ok k hB 1 (by omega)
  refine ACallsF.intro ok41 follows fun X c0 => ?_
  have e1 : ((1 : Nat) : Int) = 1 := rfl
  rw [e1] at hC
  simp only [go_sem, encK_len, List.length_map, takeK, Nat.le_refl]
  refine callC hC rfl rfl (by simp [closedA, closedP, closedC]) rfl ?_
  rcases hq with ⟨h1, h2, rfl⟩ | ⟨h1, rfl⟩
  · have hm : okK k = true := okK_true.2 ⟨h1, h2⟩
    have k1 : (parts k : Int) > 0 := by have := parts_pos k; omega
    simp only [go_sem, hm, k1]
  · have hm : okK k = false := okK_false.2 h1
    have k1 : ¬ (-1 : Int) > 0 := by omega
    simp only [go_sem, hm, k1]
theorem KB.le {n m : Nat} (h : n ≤ m) {k : Kd} (hk : KB n k) : KB m k := by
  induction k using Kd.ind with
  | _ s ns ks ih =>
    obtain ⟨h1, h2, h3, h4⟩ := hk.inv
    exact .mk _ _ _ (by omega) (by omega) (fun x hx => by have := h3 x hx; omega) fun k hk => ih k hk (h4 k hk)
theorem partsL_len (ks : List Kd) : ks.length ≤ partsL ks := by
  induction ks with
  | nil => simp
  | cons x xs ih => have := parts_pos x; simp only [partsL, List.length_cons]; omega
theorem nameOk_size {s : ByteArray} (h : nameOk s = true) : s.size ≤ 8 := by
  simp only [nameOk, Bool.and_eq_true, decide_eq_true_eq] at h
  exact h.1.1.2
theorem KOk_KB : ∀ (k : Kd) (d : Nat), KOk d k → parts k ≤ 1000 → KB 1000 k := by
  intro k
  induction k using Kd.ind with
  | _ s ns ks ih =>
    intro d h hp
    obtain ⟨h1, h2, h3⟩ := h.inv
    simp only [parts] at hp
    have hl := partsL_len ks
    refine .mk _ _ _ ?_ (by omega) ?_ fun k hk => ih k hk (d + 1) (h3 k hk) (by have := partsL_mem hk; omega)
    · by_cases h5 : s = 5
      · have := (h2.form h5).1; omega
      · have := h2.other h5; omega
    · intro x hx
      by_cases h5 : s = 5
      · obtain ⟨i, hi⟩ := List.mem_iff_getElem?.1 hx
        have := nameOk_size ((rise_true.1 (h2.form h5).2) i x hi).1
        omega
      · have := h2.other h5
        rw [List.length_eq_zero_iff.1 this] at hx; cases hx
theorem okK_KB {k : Kd} (h : okK k = true) : KB 1000 k := KOk_KB k 1 (okK_true.1 h).1 (by have := (okK_true.1 h).2; omega)
end Go.V
set_option linter.unusedSimpArgs false
namespace Go.V
open Go.Proofs
inductive Tr where
  | mk (sort num : Int) (text : ByteArray) (names : List ByteArray) (kids : List Tr)
mutual
def encT : Tr → List V
  | .mk s n x ns ks => [.s (.int .i64 s), .s (.int .i64 n), .s (.string x), .sl (encS ns), .sl (encTs ks)]
def encTs : List Tr → List (List V)
  | [] => []
  | k :: ks => encT k :: encTs ks
end
theorem encTs_eq : ∀ ks, encTs ks = ks.map encT
  | [] => by simp [encTs]
  | k :: ks => by simp [encTs, encTs_eq ks]
theorem encT_mk (s n : Int) (x : ByteArray) (ns : List ByteArray) (ks : List Tr) : encT (.mk s n x ns ks) = [.s (.int .i64 s), .s (.int .i64 n), .s (.string x), .sl (encS ns), .sl (encTs ks)] := by simp [encT]
theorem encT_len (k : Tr) : (encT k).length = 5 := by cases k; simp [encT]
theorem encTs_len (ks : List Tr) : (encTs ks).length = ks.length := by simp [encTs_eq]
theorem encTs_at {ks : List Tr} {i : Nat} {k : Tr} (h : ks[i]? = some k) : (encTs ks)[i]? = some (encT k) := by simp [encTs_eq, h]
theorem encTs_all (ks : List Tr) : ∀ e ∈ encTs ks, e.length = 5 := by
  intro e he
  rw [encTs_eq, List.mem_map] at he
  obtain ⟨k, _, rfl⟩ := he
  exact encT_len k
theorem encTs_snoc (ks : List Tr) (k : Tr) : encTs (ks ++ [k]) = encTs ks ++ [encT k] := by simp [encTs_eq]
theorem take_encTs (ks : List Tr) : (encTs ks).take ks.length = encTs ks := by rw [← encTs_len ks, List.take_length]
theorem takeT (k : Tr) : List.take 5 (List.map C.v (encT k)) = List.map C.v (encT k) := by
  have h : (List.map C.v (encT k)).length = 5 := by rw [List.length_map, encT_len]
  rw [← h, List.take_length]
abbrev tT (k : Tr) : T := .pt (.agg ((encT k).map .v))
/-- No list and no text is longer than n. -/
inductive TB (n : Nat) : Tr → Prop
  | mk (s m : Int) (x : ByteArray) (ns : List ByteArray) (ks : List Tr) (h0 : x.size ≤ n) (h1 : ns.length ≤ n) (h2 : ks.length ≤ n) (h3 : ∀ x ∈ ns, x.size ≤ n) (h4 : ∀ k ∈ ks, TB n k) : TB n (.mk s m x ns ks)
theorem TB.inv {n : Nat} {s m : Int} {x : ByteArray} {ns : List ByteArray} {ks : List Tr} (h : TB n (.mk s m x ns ks)) : x.size ≤ n ∧ ns.length ≤ n ∧ ks.length ≤ n ∧ (∀ x ∈ ns, x.size ≤ n) ∧ ∀ k ∈ ks, TB n k := by
  cases h with
  | mk _ _ _ _ _ h0 h1 h2 h3 h4 => exact ⟨h0, h1, h2, h3, h4⟩
theorem Tr.ind {P : Tr → Prop} (h : ∀ s n x ns ks, (∀ k ∈ ks, P k) → P (.mk s n x ns ks)) : ∀ k, P k
  | .mk s n x ns ks => h s n x ns ks fun k _hk => Tr.ind h k
termination_by k => SizeOf.sizeOf k
decreasing_by
  have := List.sizeOf_lt_of_mem _hk
  simp
  omega
mutual
def tcost : Kd → Nat
  | .mk _ _ ks => 4 + 3 * tcostL ks
def tcostL : List Kd → Nat
  | [] => 0
  | k :: ks => tcost k + tcostL ks
end
theorem tcostL_snoc (ks : List Kd) (k : Kd) : tcostL (ks ++ [k]) = tcostL ks + tcost k := by
  induction ks with
  | nil => simp [tcostL]
  | cons x xs ih => simp [tcostL, ih]; omega
theorem tcostL_take_le (ks : List Kd) (i : Nat) : tcostL (ks.take i) ≤ tcostL ks := by
  induction ks generalizing i with
  | nil => simp
  | cons k ks ih => cases i with
    | zero => simp [tcostL]
    | succ i => simp only [List.take_succ_cons, tcostL]; have := ih i; omega
theorem tcost_le : ∀ (k : Kd) (d : Nat), KOk d k → tcost k ≤ 4 * 3 ^ (6 - d) * parts k := by
  intro k
  induction k using Kd.ind with
  | _ s ns ks ih =>
    intro d h
    obtain ⟨h1, h2, h3⟩ := h.inv
    have hL : ∀ l : List Kd, (∀ k ∈ l, k ∈ ks) → 3 * tcostL l ≤ 4 * 3 ^ (6 - d) * partsL l := by
      intro l
      induction l with
      | nil => intro _; simp [tcostL]
      | cons x xs ihl =>
        intro hm
        have e1 := ihl fun k hk => hm k (by simp [hk])
        have hx := hm x (by simp)
        have e2 := ih x hx (d + 1) (h3 x hx)
        have hd := (h3 x hx)
        have hd6 : d + 1 ≤ 6 := by
          cases x with
          | mk a b c => exact hd.inv.1
        have e3 : 3 ^ (6 - d) = 3 * 3 ^ (6 - (d + 1)) := by
          rw [show 6 - d = (6 - (d + 1)) + 1 from by omega, Nat.pow_succ, Nat.mul_comm]
        simp only [tcostL, partsL, Nat.mul_add]
        have e4 : 3 * tcost x ≤ 4 * 3 ^ (6 - d) * parts x := by
          rw [e3]
          calc 3 * tcost x ≤ 3 * (4 * 3 ^ (6 - (d + 1)) * parts x) := Nat.mul_le_mul_left _ e2
            _ = 4 * (3 * 3 ^ (6 - (d + 1))) * parts x := by
              rw [← Nat.mul_assoc, ← Nat.mul_assoc, ← Nat.mul_assoc]
        omega
    have e5 := hL ks fun k hk => hk
    have e6 : 1 ≤ 3 ^ (6 - d) := Nat.one_le_pow _ _ (by omega)
    simp only [tcost, parts, Nat.mul_add]
    omega
theorem encTs_nil : encTs [] = [] := by simp [encTs]
end Go.V
set_option linter.unusedSimpArgs false
namespace Go.V
open Go.Proofs
theorem encS_all1 (ns : List ByteArray) : (∀ e ∈ encS ns, e.length = 1) = True := eq_true fun e he => by simp only [encS, List.mem_map] at he; obtain ⟨_, _, rfl⟩ := he; rfl
theorem encKs_all3 (ks : List Kd) : (∀ e ∈ encKs ks, e.length = 3) = True := eq_true (encKs_all ks)
theorem encTs_all5 (ks : List Tr) : (∀ e ∈ encTs ks, e.length = 5) = True := eq_true (encTs_all ks)
theorem take_encS1 (ns : List ByteArray) (e : List V) : List.take (ns.length + 1) (encS ns ++ [e]) = encS ns ++ [e] := List.take_of_length_le (by simp [encS_len])
theorem take_encKs1 (ks : List Kd) (e : List V) : List.take (ks.length + 1) (encKs ks ++ [e]) = encKs ks ++ [e] := List.take_of_length_le (by simp [encKs_len])
theorem take_encTs1 (ks : List Tr) (e : List V) : List.take (ks.length + 1) (encTs ks ++ [e]) = encTs ks ++ [e] := List.take_of_length_le (by simp [encTs_len])
theorem encKs_nil : encKs [] = [] := by simp [encKs]
theorem drop3K (k : Kd) : List.drop 3 (encK k) = [] := List.drop_of_length_le (by rw [encK_len]; exact Nat.le_refl _)
theorem drop5T (k : Tr) : List.drop 5 (encT k) = [] := List.drop_of_length_le (by rw [encT_len]; exact Nat.le_refl _)
theorem set_encKs (ks : List Kd) (i : Nat) (k : Kd) : (encKs ks).set i (encK k) = encKs (ks.set i k) := by rw [encKs_eq, encKs_eq, List.map_set]
theorem set_encTs (ks : List Tr) (i : Nat) (k : Tr) : (encTs ks).set i (encT k) = encTs (ks.set i k) := by rw [encTs_eq, encTs_eq, List.map_set]
theorem toVs_map : ∀ xs : List V, toVs (xs.map C.v) = some xs
  | [] => rfl
  | x :: xs => by simp only [List.map_cons, toVs, toVs_map xs, Option.map_some]
theorem encS_nil' : encS [] = [] := rfl
attribute [go_sem] take_encTs toVs_map drop3K drop5T set_encKs set_encTs List.length_set take_encS1 take_encKs1 take_encTs1 encS_snoc encKs_snoc encTs_snoc encKs_nil encTs_nil encS_all1 encKs_all3 encTs_all5 Nat.zero_add encS_nil'
end Go.V
set_option linter.unusedSimpArgs false
set_option maxRecDepth 20000
namespace Go.V
open Go.Proofs
/-- The schema of a name. -/
def kid : List ByteArray → List Kd → ByteArray → Option Kd
  | n :: ns, k :: ks, x => if n = x then some k else kid ns ks x
  | _, _, _ => none
theorem kid_at : ∀ {ns : List ByteArray} {ks : List Kd} {x : ByteArray} {i : Nat} {k : Kd}, (∀ j, j < i → ns[j]? ≠ some x) → ns[i]? = some x → ks[i]? = some k → kid ns ks x = some k
  | [], _, _, _, _, _, h, _ => by simp at h
  | _ :: _, [], _, _, _, _, _, h => by simp at h
  | n :: ns, k0 :: ks, x, 0, k, _, h1, h2 => by simp at h1 h2; subst h1 h2; simp [kid]
  | n :: ns, k0 :: ks, x, i + 1, k, h0, h1, h2 => by
    have hn : n ≠ x := fun e => h0 0 (by omega) (by simp [e])
    simp only [kid, if_neg hn]
    exact kid_at (i := i) (fun j hj => by have := h0 (j + 1) (by omega); simpa using this) (by simpa using h1) (by simpa using h2)
theorem kid_none : ∀ {ns : List ByteArray} {ks : List Kd} {x : ByteArray}, (∀ j : Nat, ns[j]? ≠ some x) → kid ns ks x = none
  | [], _, _, _ => by simp [kid]
  | _ :: _, [], _, _ => by simp [kid]
  | n :: ns, k0 :: ks, x, h => by
    have hn : n ≠ x := fun e => h 0 (by simp [e])
    simp only [kid, if_neg hn]
    exact kid_none fun j => by have := h (j + 1); simpa using this
theorem kid_mem : ∀ {ns : List ByteArray} {ks : List Kd} {x : ByteArray} {k : Kd}, kid ns ks x = some k → ∃ i : Nat, ns[i]? = some x ∧ ks[i]? = some k
  | [], _, _, _, h => by simp [kid] at h
  | _ :: _, [], _, _, h => by simp [kid] at h
  | n :: ns, k0 :: ks, x, k, h => by
    simp only [kid] at h
    split at h
    · rename_i e; subst e; cases h; exact ⟨0, rfl, rfl⟩
    · obtain ⟨i, h1, h2⟩ := kid_mem h; exact ⟨i + 1, by simpa using h1, by simpa using h2⟩
def kidR (ns : List ByteArray) (ks : List Kd) (x : ByteArray) : Kd × Bool := match kid ns ks x with
  | some k => (k, true)
  | none => (.mk 0 [] [], false)
abbrev tKB (q : Kd × Bool) : T := .tup [.agg ((encK q.1).map .v), .one (.v (.s (.bool q.2)))]
def ok68 := okF.gu (P := Try.prog) tab Try.func68 Try.ntmps68 (by conv => lhs; cbv) (by kernel_rfl)
def inv68 (s : Int) (ns : List ByteArray) (ks : List Kd) (x : ByteArray) (i : Nat) (σ : St) : Prop :=
  (∀ j, j < i → ns[j]? ≠ some x) ∧ σ.t 1 = .s (.string x) ∧ σ.t 6 = .i i ∧ (∃ u, σ.t 2 = .c (.ptr 2 u 0) ∧ σ.H 2 = some (.var u 38 [.v (.s (.int .i64 s)), .v (.sl (encS ns)), .v (.sl (encKs ks))])) ∧ (∃ u, σ.t 4 = .c (.ptr 4 u 0) ∧ σ.H 4 = some (.var u 38 [.v (.s (.int .i64 0)), .nil0, .nil0]))
theorem kid_ok (s : Int) (ns : List ByteArray) (ks : List Kd) (x : ByteArray) (hl : ns.length ≤ ks.length) (hn : ns.length ≤ 2000000) : ACallsF Try.prog 68 [tK (.mk s ns ks), .s (.string x)] [] (tKB (kidR ns ks x)) := by
  refine ACallsF.intro ok68 follows fun X c0 => ?_
  simp only [go_sem, encK_mk]
  refine AW.upto ns.length (inv68 s ns ks x) ⟨fun j hj => absurd hj (Nat.not_lt_zero j), rfl, rfl, ⟨_, rfl, rfl⟩, ⟨_, rfl, rfl⟩⟩ fun i t H c hi h => ?_
  obtain ⟨g0, e1, e6, ⟨u2, e2, eH2⟩, ⟨u4, e4, eH4⟩⟩ := h
  simp only [T.c, T.i, T.s] at e1 e6 e2 eH2 e4 eH4
  by_cases hlt : i < ns.length
  · have k1 : (i : Int) < ns.length := by omega
    have gz : (0 : Int) ≤ i := by omega
    have gw : IntKind.i64.wrap ((i : Int) + 1) = ((i + 1 : Nat) : Int) := wrap64 (x := (i : Int) + 1) ⟨by omega, by omega⟩
    obtain ⟨y, hy⟩ : ∃ y, ns[i]? = some y := ⟨_, List.getElem?_eq_getElem hlt⟩
    obtain ⟨k, hk⟩ : ∃ k, ks[i]? = some k := ⟨_, List.getElem?_eq_getElem (by omega)⟩
    have es := encS_at hy
    have ek := encKs_at hk
    by_cases hyx : y = x
    · subst hyx
      have hq : kidR ns ks y = (k, true) := by rw [kidR, kid_at g0 hy hk]
      simp only [go_sem, e1, e6, e2, eH2, e4, eH4, k1, gz, encS_len, es, ek, Int.toNat_natCast, sStr, str_beq, hq, List.length_map, encK_len, takeK, Nat.le_refl]
    · simp only [go_sem, e1, e6, e2, eH2, e4, eH4, k1, gz, encS_len, es, ek, Int.toNat_natCast, sStr, str_beq, hyx, gw]
      exact ⟨hlt, fun j hj => by
        rcases Nat.lt_succ_iff_lt_or_eq.1 hj with hj | rfl
        · exact g0 j hj
        · rw [hy]; intro e; cases e; exact hyx rfl, e1, rfl, ⟨u2, e2, eH2⟩, ⟨u4, e4, eH4⟩⟩
  · have k1 : ¬ (i : Int) < ns.length := by omega
    have hq : kidR ns ks x = (.mk 0 [] [], false) := by
      rw [kidR, kid_none fun j => ?_]
      by_cases hj : j < ns.length
      · exact g0 j (by omega)
      · rw [List.getElem?_eq_none (by omega)]; simp
    simp only [go_sem, e1, e6, e2, eH2, e4, eH4, k1, encS_len, hq, encK_mk]
def Kd.sort : Kd → Int
  | .mk s _ _ => s
inductive Fits : Kd → Kd → Prop
  | mm (ns : List ByteArray) (ks : List Kd) (ns' : List ByteArray) (ks' : List Kd) (a b : Kd) (ha : ks[0]? = some a) (hb : ks'[0]? = some b) (h : Fits a b) : Fits (.mk 6 ns ks) (.mk 6 ns' ks')
  | m (s : Int) (ns : List ByteArray) (ks : List Kd) (ns' : List ByteArray) (ks' : List Kd) (b : Kd) (hs : s ≠ 6) (hb : ks'[0]? = some b) (h : Fits (.mk s ns ks) b) : Fits (.mk s ns ks) (.mk 6 ns' ks')
  | l (ns : List ByteArray) (ks : List Kd) (ns' : List ByteArray) (ks' : List Kd) (a b : Kd) (ha : ks[0]? = some a) (hb : ks'[0]? = some b) (h : Fits a b) : Fits (.mk 4 ns ks) (.mk 4 ns' ks')
  | leaf (s : Int) (ns : List ByteArray) (ks : List Kd) (ns' : List ByteArray) (ks' : List Kd) (hs : s < 4) : Fits (.mk s ns ks) (.mk s ns' ks')
  | f (ns : List ByteArray) (ks : List Kd) (ns' : List ByteArray) (ks' : List Kd) (h1 : ∀ (i : Nat) x, ns[i]? = some x → ∃ k', kid ns' ks' x = some k')
      (h2 : ∀ (i : Nat) x k k', ns[i]? = some x → ks[i]? = some k → kid ns' ks' x = some k' → Fits k k') (h3 : ∀ (i : Nat) x (k' : Kd), ns'[i]? = some x → ks'[i]? = some k' → kid ns ks x = none → k'.sort = 6) : Fits (.mk 5 ns ks) (.mk 5 ns' ks')
noncomputable def kfits (a b : Kd) : Bool := @decide (Fits a b) (Classical.propDecidable _)
theorem fits_true {a b : Kd} : kfits a b = true ↔ Fits a b := by simp [kfits]
theorem fits_false {a b : Kd} : kfits a b = false ↔ ¬ Fits a b := by simp [kfits]
theorem Fits.mm_iff {ns : List ByteArray} {ks : List Kd} {ns' : List ByteArray} {ks' : List Kd} {a b : Kd} (ha : ks[0]? = some a) (hb : ks'[0]? = some b) : Fits (.mk 6 ns ks) (.mk 6 ns' ks') ↔ Fits a b := by
  constructor
  · intro h
    cases h with
    | mm _ _ _ _ a' b' ha' hb' h => rw [ha] at ha'; rw [hb] at hb'; cases ha'; cases hb'; exact h
    | m _ _ _ _ _ _ hs => exact absurd rfl hs
    | leaf _ _ _ _ _ hs => omega
  · exact .mm _ _ _ _ _ _ ha hb
theorem Fits.m_iff {s : Int} {ns : List ByteArray} {ks : List Kd} {ns' : List ByteArray} {ks' : List Kd} {b : Kd} (hs : s ≠ 6) (hb : ks'[0]? = some b) : Fits (.mk s ns ks) (.mk 6 ns' ks') ↔ Fits (.mk s ns ks) b := by
  constructor
  · intro h
    cases h with
    | mm => exact absurd rfl hs
    | m _ _ _ _ _ b' _ hb' h => rw [hb] at hb'; cases hb'; exact h
    | leaf _ _ _ _ _ hs => omega
  · exact .m _ _ _ _ _ _ hs hb
theorem Fits.l_iff {ns : List ByteArray} {ks : List Kd} {ns' : List ByteArray} {ks' : List Kd} {a b : Kd} (ha : ks[0]? = some a) (hb : ks'[0]? = some b) : Fits (.mk 4 ns ks) (.mk 4 ns' ks') ↔ Fits a b := by
  constructor
  · intro h
    cases h with
    | l _ _ _ _ a' b' ha' hb' h => rw [ha] at ha'; rw [hb] at hb'; cases ha'; cases hb'; exact h
    | leaf _ _ _ _ _ hs => omega
  · exact .l _ _ _ _ _ _ ha hb
theorem Fits.sort_eq {s s' : Int} {ns : List ByteArray} {ks : List Kd} {ns' : List ByteArray} {ks' : List Kd} (hs : s' ≠ 6) (h : Fits (.mk s ns ks) (.mk s' ns' ks')) : s = s' := by
  cases h with
  | mm => exact absurd rfl hs
  | m => exact absurd rfl hs
  | l => rfl
  | leaf => rfl
  | f => rfl
end Go.V
set_option linter.unusedSimpArgs false
set_option maxRecDepth 20000
namespace Go.V
open Go.Proofs
def ok46 := okF.gu (P := Try.prog) tab Try.func46 Try.ntmps46 (by conv => lhs; cbv) (by kernel_rfl)
theorem encK_sort (k : Kd) : ∃ rest, encK k = .s (.int .i64 k.sort) :: rest ∧ rest.length = 2 := by cases k; exact ⟨_, encK_mk _ _ _, rfl⟩
theorem fits_congr {a b c d : Kd} (h : Fits a b ↔ Fits c d) : kfits a b = kfits c d := by
  cases h1 : kfits c d with
  | true => exact fits_true.2 (h.2 (fits_true.1 h1))
  | false => exact fits_false.2 fun h2 => fits_false.1 h1 (h.1 h2)
def FitI1 (ns : List ByteArray) (ks : List Kd) (ns' : List ByteArray) (ks' : List Kd) (i : Nat) : Prop := ∀ j, j < i → ∀ x k, ns[j]? = some x → ks[j]? = some k → ∃ k', kid ns' ks' x = some k' ∧ Fits k k'
def FitI2 (ns : List ByteArray) (ks : List Kd) (ns' : List ByteArray) (ks' : List Kd) (i : Nat) : Prop := ∀ j, j < i → ∀ x (k' : Kd), ns'[j]? = some x → ks'[j]? = some k' → kid ns ks x = none → k'.sort = 6
def inv46a (s : Int) (ns : List ByteArray) (ks : List Kd) (ns' : List ByteArray) (ks' : List Kd) (i : Nat) (σ : St) : Prop :=
  FitI1 ns ks ns' ks' i ∧ (∃ u, σ.t 2 = .c (.ptr 2 u 0) ∧ σ.H 2 = some (.var u 38 [.v (.s (.int .i64 s)), .v (.sl (encS ns)), .v (.sl (encKs ks))])) ∧ (∃ u, σ.t 3 = .c (.ptr 3 u 0) ∧ σ.H 3 = some (.var u 38 [.v (.s (.int .i64 s)), .v (.sl (encS ns')), .v (.sl (encKs ks'))])) ∧ σ.t 5 = .i i
def inv46b (s : Int) (ns : List ByteArray) (ks : List Kd) (ns' : List ByteArray) (ks' : List Kd) (i : Nat) (σ : St) : Prop :=
  FitI2 ns ks ns' ks' i ∧ (∃ u, σ.t 2 = .c (.ptr 2 u 0) ∧ σ.H 2 = some (.var u 38 [.v (.s (.int .i64 s)), .v (.sl (encS ns)), .v (.sl (encKs ks))])) ∧ (∃ u, σ.t 3 = .c (.ptr 3 u 0) ∧ σ.H 3 = some (.var u 38 [.v (.s (.int .i64 s)), .v (.sl (encS ns')), .v (.sl (encKs ks'))])) ∧ σ.t 8 = .i i
theorem kid_len {ns : List ByteArray} {ks : List Kd} (hl : ns.length ≤ ks.length) {x : ByteArray} {i : Nat} (hi : ns[i]? = some x) : ∃ k, kid ns ks x = some k := by
  induction ns generalizing ks i with
  | nil => simp at hi
  | cons n ns ih =>
    cases ks with
    | nil => simp at hl
    | cons k ks =>
      by_cases hn : n = x
      · exact ⟨k, by simp [kid, hn]⟩
      · cases i with
        | zero => simp at hi; exact absurd hi hn
        | succ i => simp only [kid, if_neg hn]; exact ih (by simpa using hl) (by simpa using hi)
set_option maxHeartbeats 2000000 in
theorem fitsS_ok : ∀ (b a : Kd) (d d' : Nat), KOk d a → KOk d' b → KB 2000 a → KB 2000 b → ACallsF Try.prog 46 [tK a, tK b] [] (.b (kfits a b)) := by
  intro b
  induction b using Kd.ind with
  | _ s' ns' ks' ih =>
    intro a d d' hOa hOb hBa hBb
    obtain ⟨s, ns, ks⟩ := a
    obtain ⟨_, hSa, hKa⟩ := hOa.inv
    obtain ⟨_, hSb, hKb⟩ := hOb.inv
    obtain ⟨a1, a2, a3, a4⟩ := hBa.inv
    obtain ⟨b1, b2, b3, b4⟩ := hBb.inv
    refine ACallsF.intro ok46 follows fun X c0 => ?_
    by_cases h6' : s' = 6
    · subst h6'
      have hl' := hSb.one (.inr rfl)
      obtain ⟨kb, hkb⟩ : ∃ k, ks'[0]? = some k := ⟨_, List.getElem?_eq_getElem (by omega)⟩
      have hmb := List.mem_of_getElem? hkb
      have ekb := encKs_at hkb
      by_cases h6 : s = 6
      · subst h6
        have hl := hSa.one (.inr rfl)
        obtain ⟨ka, hka⟩ : ∃ k, ks[0]? = some k := ⟨_, List.getElem?_eq_getElem (by omega)⟩
        have hma := List.mem_of_getElem? hka
        have eka := encKs_at hka
        have hC := ih kb hmb ka _ _ (hKa ka hma) (hKb kb hmb) (a4 ka hma) (b4 kb hmb)
        have hF : kfits (.mk 6 ns ks) (.mk 6 ns' ks') = kfits ka kb := fits_congr (Fits.mm_iff hka hkb)
        simp only [go_sem, encK_mk, Int.reduceBEq, eka, ekb, Int.le_refl, Int.toNat_zero, List.length_map, encK_len, takeK]
        refine callC hC rfl rfl (by simp [closedA, closedP, closedC]) rfl ?_
        simp only [go_sem, hF]
      · have h6b : (s == 6) = false := beq_eq_false_iff_ne.2 h6
        have hC := ih kb hmb (.mk s ns ks) _ _ hOa (hKb kb hmb) hBa (b4 kb hmb)
        have hF : kfits (.mk s ns ks) (.mk 6 ns' ks') = kfits (.mk s ns ks) kb := fits_congr (Fits.m_iff h6 hkb)
        simp only [tK, encK_mk, List.map_cons, List.map_nil] at hC
        simp only [go_sem, encK_mk, Int.reduceBEq, h6b, ekb, Int.le_refl, Int.toNat_zero, List.length_map, encK_len, takeK]
        refine callC hC rfl rfl (by simp [closedA, closedP, closedC]) rfl ?_
        simp only [go_sem, hF]
    · have h6b' : (s' == 6) = false := beq_eq_false_iff_ne.2 h6'
      by_cases hss : s = s'
      · subst hss
        have hse : (!(s == s)) = false := by simp
        by_cases h4 : s = 4
        · subst h4
          have hl := hSa.one (.inl rfl)
          have hl' := hSb.one (.inl rfl)
          obtain ⟨kb, hkb⟩ : ∃ k, ks'[0]? = some k := ⟨_, List.getElem?_eq_getElem (by omega)⟩
          have hmb := List.mem_of_getElem? hkb
          have ekb := encKs_at hkb
          obtain ⟨ka, hka⟩ : ∃ k, ks[0]? = some k := ⟨_, List.getElem?_eq_getElem (by omega)⟩
          have hma := List.mem_of_getElem? hka
          have eka := encKs_at hka
          have hC := ih kb hmb ka _ _ (hKa ka hma) (hKb kb hmb) (a4 ka hma) (b4 kb hmb)
          have hF : kfits (.mk 4 ns ks) (.mk 4 ns' ks') = kfits ka kb := fits_congr (Fits.l_iff hka hkb)
          simp only [go_sem, encK_mk, Int.reduceBEq, Int.reduceBNe, eka, ekb, Int.le_refl, Int.toNat_zero, List.length_map, encK_len, takeK]
          refine callC hC rfl rfl (by simp [closedA, closedP, closedC]) rfl ?_
          simp only [go_sem, hF]
        · have h4b : (s == 4) = false := beq_eq_false_iff_ne.2 h4
          have hne : (s != s) = false := by simp
          have hlen : ns.length ≤ ks.length := by
            by_cases h5 : s = 5
            · have := (hSa.form h5).1; omega
            · have := hSa.other h5; omega
          have hlen' : ns'.length ≤ ks'.length := by
            by_cases h5 : s = 5
            · have := (hSb.form h5).1; omega
            · have := hSb.other h5; omega
          have hfin : FitI1 ns ks ns' ks' ns.length → FitI2 ns ks ns' ks' ns'.length → Fits (.mk s ns ks) (.mk s ns' ks') := by
            intro g1 g2
            by_cases h5 : s = 5
            · subst h5
              refine .f _ _ _ _ (fun i x hi => ?_) (fun i x k k' hi hk hk' => ?_) fun i x k' hi hk => ?_
              · have hlt := (List.getElem?_eq_some_iff.1 hi).1
                obtain ⟨k', h1, _⟩ := g1 i hlt x _ hi (List.getElem?_eq_getElem (by omega))
                exact ⟨k', h1⟩
              · have hlt := (List.getElem?_eq_some_iff.1 hi).1
                obtain ⟨k2, h1, h2⟩ := g1 i hlt x k hi hk
                rw [hk'] at h1; cases h1; exact h2
              · exact g2 i (List.getElem?_eq_some_iff.1 hi).1 x k' hi hk
            · have := hSa.lo
              have := hSa.hi
              exact .leaf _ _ _ _ _ (by omega)
          have hbad : Fits (.mk s ns ks) (.mk s ns' ks') → (∀ (i : Nat) x k, ns[i]? = some x → ks[i]? = some k → ∃ k', kid ns' ks' x = some k' ∧ Fits k k') ∧ ∀ (i : Nat) x (k' : Kd), ns'[i]? = some x → ks'[i]? = some k' → kid ns ks x = none → k'.sort = 6 := by
            intro h
            cases h with
            | mm => exact absurd rfl h6'
            | m => exact absurd rfl h6'
            | l => exact absurd rfl h4
            | leaf _ _ _ _ _ hs =>
              have e1 := hSa.other (by omega)
              have e2 := hSb.other (by omega)
              rw [List.length_eq_zero_iff] at e1 e2
              subst e1 e2
              exact ⟨fun i x k h => by simp at h, fun i x k h => by simp at h⟩
            | f _ _ _ _ h1 h2 h3 => exact ⟨fun i x k hi hk => by obtain ⟨k', hk'⟩ := h1 i x hi; exact ⟨k', hk', h2 i x k k' hi hk hk'⟩, h3⟩
          simp only [go_sem, encK_mk, h6b', h4b, hne]
          refine AW.upto ns.length (inv46a s ns ks ns' ks') ⟨fun j hj => absurd hj (Nat.not_lt_zero j), ⟨_, rfl, rfl⟩, ⟨_, rfl, rfl⟩, rfl⟩ fun i t H c hi h => ?_
          obtain ⟨g0, ⟨u2, e2, eH2⟩, ⟨u3, e3, eH3⟩, e5⟩ := h
          simp only [T.c, T.i] at e2 eH2 e3 eH3 e5
          by_cases hlt : i < ns.length
          · have k1 : (i : Int) < ns.length := by omega
            have gz : (0 : Int) ≤ i := by omega
            have gw : IntKind.i64.wrap ((i : Int) + 1) = ((i + 1 : Nat) : Int) := wrap64 (x := (i : Int) + 1) ⟨by omega, by omega⟩
            obtain ⟨x, hx⟩ : ∃ y, ns[i]? = some y := ⟨_, List.getElem?_eq_getElem hlt⟩
            obtain ⟨k, hk⟩ : ∃ k, ks[i]? = some k := ⟨_, List.getElem?_eq_getElem (by omega)⟩
            have hmk := List.mem_of_getElem? hk
            have es := encS_at hx
            have ek := encKs_at hk
            have hCk := kid_ok s ns' ks' x hlen' (by omega)
            simp only [tK, encK_mk] at hCk
            simp only [List.map_cons, List.map_nil] at hCk
            simp only [go_sem, e2, eH2, e3, eH3, e5, k1, gz, encS_len, es, ek, Int.toNat_natCast]
            refine callC hCk rfl rfl (by simp [closedA, closedP, closedC]) (by simp [closedT, closedP, closedC]) ?_
            cases hq : kid ns' ks' x with
            | none =>
              have hkr : kidR ns' ks' x = (.mk 0 [] [], false) := by rw [kidR, hq]
              have hF : kfits (.mk s ns ks) (.mk s ns' ks') = false := fits_false.2 fun h => by
                obtain ⟨k', h1, _⟩ := (hbad h).1 i x k hx hk
                rw [hq] at h1; cases h1
              simp only [go_sem, e2, eH2, e3, eH3, e5, hkr, hF, List.length_map, encK_len, takeK, Nat.le_refl]
            | some k' =>
              have hkr : kidR ns' ks' x = (k', true) := by rw [kidR, hq]
              obtain ⟨j', hj1, hj2⟩ := kid_mem hq
              have hmk' := List.mem_of_getElem? hj2
              have hC := ih k' hmk' k _ _ (hKa k hmk) (hKb k' hmk') (a4 k hmk) (b4 k' hmk')
              simp only [go_sem, e2, eH2, e3, eH3, e5, hkr, k1, gz, encS_len, es, ek, Int.toNat_natCast, List.length_map, encK_len, takeK, Nat.le_refl]
              refine callC hC rfl rfl (by simp [closedA, closedP, closedC]) rfl ?_
              cases hfk : kfits k k' with
              | false =>
                have hF : kfits (.mk s ns ks) (.mk s ns' ks') = false := fits_false.2 fun h => by
                  obtain ⟨k2, h1, h2⟩ := (hbad h).1 i x k hx hk
                  rw [hq] at h1; cases h1
                  rw [fits_false] at hfk; exact hfk h2
                simp only [go_sem, hF]
              | true =>
                simp only [go_sem, e5, gw]
                refine ⟨hlt, fun j hj x2 k2 h1 h2 => ?_, ⟨u2, e2, eH2⟩, ⟨u3, e3, eH3⟩, rfl⟩
                rcases Nat.lt_succ_iff_lt_or_eq.1 hj with hj | rfl
                · exact g0 j hj x2 k2 h1 h2
                · rw [hx] at h1; rw [hk] at h2; cases h1; cases h2
                  exact ⟨k', hq, fits_true.1 hfk⟩
          · have hin : i = ns.length := by omega
            subst hin
            have k1 : ¬ ((ns.length : Nat) : Int) < ns.length := by omega
            simp only [go_sem, e2, eH2, e3, eH3, e5, k1, encS_len]
            refine AW.upto ns'.length (inv46b s ns ks ns' ks') ⟨fun j hj => absurd hj (Nat.not_lt_zero j), ⟨u2, e2, eH2⟩, ⟨u3, e3, eH3⟩, rfl⟩ fun i t H c hi h => ?_
            clear e2 eH2 e3 eH3 e5
            obtain ⟨g2, ⟨u2, e2, eH2⟩, ⟨u3, e3, eH3⟩, e8⟩ := h
            simp only [T.c, T.i] at e2 eH2 e3 eH3 e8
            by_cases hlt : i < ns'.length
            · have k1 : (i : Int) < ns'.length := by omega
              have gz : (0 : Int) ≤ i := by omega
              have gw : IntKind.i64.wrap ((i : Int) + 1) = ((i + 1 : Nat) : Int) := wrap64 (x := (i : Int) + 1) ⟨by omega, by omega⟩
              obtain ⟨x, hx⟩ : ∃ y, ns'[i]? = some y := ⟨_, List.getElem?_eq_getElem hlt⟩
              obtain ⟨k, hk⟩ : ∃ k, ks'[i]? = some k := ⟨_, List.getElem?_eq_getElem (by omega)⟩
              have es := encS_at hx
              have ek := encKs_at hk
              obtain ⟨rest, erest, hrest⟩ := encK_sort k
              have hCk := kid_ok s ns ks x hlen (by omega)
              simp only [tK, encK_mk] at hCk
              simp only [List.map_cons, List.map_nil] at hCk
              simp only [go_sem, e2, eH2, e3, eH3, e8, k1, gz, encS_len, es, ek, Int.toNat_natCast]
              refine callC hCk rfl rfl (by simp [closedA, closedP, closedC]) (by simp [closedT, closedP, closedC]) ?_
              have key : (kid ns ks x = none → k.sort = 6) → FitI2 ns ks ns' ks' (i + 1) := by
                intro h j hj x2 k2 h1 h2 h3
                rcases Nat.lt_succ_iff_lt_or_eq.1 hj with hj | rfl
                · exact g2 j hj x2 k2 h1 h2 h3
                · rw [hx] at h1; rw [hk] at h2; cases h1; cases h2; exact h h3
              cases hq : kid ns ks x with
              | some k' =>
                have hkr : kidR ns ks x = (k', true) := by rw [kidR, hq]
                simp only [go_sem, e8, hkr, gw, List.length_map, encK_len, takeK, Nat.le_refl]
                exact ⟨hlt, key (fun h => by rw [hq] at h; cases h), ⟨u2, e2, eH2⟩, ⟨u3, e3, eH3⟩, rfl⟩
              | none =>
                have hkr : kidR ns ks x = (.mk 0 [] [], false) := by rw [kidR, hq]
                have hr3 : rest.length + 1 = 3 := by omega
                by_cases hs6 : k.sort = 6
                · have hsb : (k.sort != 6) = false := by rw [hs6]; rfl
                  simp only [go_sem, e3, eH3, e8, hkr, gz, ek, erest, hr3, hsb, gw, Int.toNat_natCast, List.length_map, encK_len, takeK, Nat.le_refl]
                  exact ⟨hlt, key fun _ => hs6, ⟨u2, e2, eH2⟩, ⟨u3, e3, eH3⟩, rfl⟩
                · have hsb : (k.sort != 6) = true := by simp [hs6]
                  have hF : kfits (.mk s ns ks) (.mk s ns' ks') = false := fits_false.2 fun h => hs6 ((hbad h).2 i x k hx hk hq)
                  simp only [go_sem, e3, eH3, e8, hkr, gz, ek, erest, hr3, hsb, hF, Int.toNat_natCast, List.length_map, encK_len, takeK, Nat.le_refl]
            · have hin : i = ns'.length := by omega
              subst hin
              have k1 : ¬ ((ns'.length : Nat) : Int) < ns'.length := by omega
              have hF : kfits (.mk s ns ks) (.mk s ns' ks') = true := fits_true.2 (hfin g0 g2)
              simp only [go_sem, e3, eH3, e8, k1, encS_len, hF]
      · have hne : (s != s') = true := by simp [hss]
        have hF : kfits (.mk s ns ks) (.mk s' ns' ks') = false := fits_false.2 fun h => hss (h.sort_eq h6')
        simp only [go_sem, encK_mk, h6b', hne, hF]
end Go.V
set_option linter.unusedSimpArgs false
set_option maxRecDepth 20000
namespace Go.V
open Go.Proofs
def ok22 := okF.gu (P := Try.prog) tab Try.func22 Try.ntmps22 (by conv => lhs; cbv) (by kernel_rfl)
theorem kindFitsS_ok (a b : Kd) (ha : KB 2000000 a) (hb : KB 2000000 b) : ACallsF Try.prog 22 [tK a, tK b] [] (.b (okK a && (okK b && kfits a b))) := by
  refine ACallsF.intro ok22 follows fun X c0 => ?_
  simp only [go_sem, List.length_map, encK_len, takeK, Nat.le_refl]
  refine callC (kindOkS_ok a (ha.le (by omega))) rfl rfl (by simp [closedA, closedP, closedC]) rfl ?_
  cases h1 : okK a with
  | false => simp only [go_sem]
  | true =>
    simp only [go_sem, List.length_map, encK_len, takeK, Nat.le_refl]
    refine callC (kindOkS_ok b (hb.le (by omega))) rfl rfl (by simp [closedA, closedP, closedC]) rfl ?_
    cases h2 : okK b with
    | false => simp only [go_sem]
    | true =>
      simp only [go_sem, List.length_map, encK_len, takeK, Nat.le_refl]
      refine callC (fitsS_ok b a 1 1 (okK_true.1 h1).1 (okK_true.1 h2).1 ((okK_KB h1).le (by omega)) ((okK_KB h2).le (by omega))) rfl rfl (by simp [closedA, closedP, closedC]) rfl ?_
      simp only [go_sem]
def ok98 := okF.gu (P := Try.prog) tab Try.func98 Try.ntmps98 (by conv => lhs; cbv) (by kernel_rfl)
theorem inRange_ok (n lo hi : Int) : ACallsF Try.prog 98 [.i n, .i lo, .i hi] [] (.b (decide (lo ≤ n) && decide (n ≤ hi))) := by
  refine ACallsF.intro ok98 follows fun X c0 => ?_
  by_cases h1 : lo ≤ n <;> by_cases h2 : n ≤ hi <;> simp only [go_sem, h1, h2]
def ok99 := okF.gu (P := Try.prog) tab Try.func99 Try.ntmps99 (by conv => lhs; cbv) (by kernel_rfl)
def inv99 (s : ByteArray) (i : Nat) (σ : St) : Prop := (∀ j b, j < i → s.data[j]? = some b → (lower b || digit b) = true ∧ (j = 0 → lower b = true)) ∧ σ.t 0 = .s (.string s) ∧ σ.t 6 = .i s.size ∧ σ.t 7 = .i i
theorem isName_ok (s : ByteArray) (hs : s.size ≤ 4611686018427387904) : ACallsF Try.prog 99 [.s (.string s)] [] (.b (nameOk s)) := by
  refine ACallsF.intro ok99 follows fun X c0 => ?_
  simp only [go_sem]
  refine AW.upto s.size (inv99 s) ⟨fun j _ hj => absurd hj (Nat.not_lt_zero j), rfl, rfl, rfl⟩ fun i t H c hi h => ?_
  obtain ⟨g0, e0, e6, e7⟩ := h
  simp only [T.c, T.i, T.s] at e0 e6 e7
  by_cases hlt : i < s.size
  · have g1 : (i : Int) < s.size := by omega
    have gz : (0 : Int) ≤ i := by omega
    have gw : IntKind.i64.wrap ((i : Int) + 1) = ((i + 1 : Nat) : Int) := wrap64 (x := (i : Int) + 1) ⟨by omega, by omega⟩
    obtain ⟨b, hb⟩ : ∃ b, s.data[i]? = some b := ⟨_, Array.getElem?_eq_getElem (by rw [← size_data]; omega)⟩
    have hbad : ¬ ((lower b || digit b) = true ∧ (i = 0 → lower b = true)) → nameOk s = false := by
      intro h
      by_cases hl : (lower b || digit b) = true
      · have hi0 : i = 0 := by
          by_cases h0 : i = 0
          · exact h0
          · exact absurd ⟨hl, fun e => absurd e h0⟩ h
        have hlow : lower b = false := by
          cases hlb : lower b with
          | false => rfl
          | true => exact absurd ⟨hl, fun _ => hlb⟩ h
        subst hi0
        have hhead : s.data.toList.head? = some b := by rw [List.head?_eq_getElem?, Array.getElem?_toList]; exact hb
        simp [nameOk, hhead, hlow]
      · have : (s.data.toList.all fun b => lower b || digit b) = false := by
          rw [List.all_eq_false]
          exact ⟨b, by rw [Array.mem_toList_iff]; exact Array.mem_of_getElem? hb, hl⟩
        simp [nameOk, this]
    have hgood : ((lower b || digit b) = true ∧ (i = 0 → lower b = true)) → ∀ j b', j < i + 1 → s.data[j]? = some b' → (lower b' || digit b') = true ∧ (j = 0 → lower b' = true) := by
      intro hl j b' hj hj2
      rcases Nat.lt_succ_iff_lt_or_eq.1 hj with hj | rfl
      · exact g0 j b' hj hj2
      · rw [hb] at hj2; cases hj2; exact hl
    have hlo : lower b = true ↔ (97 ≤ (b.toNat : Int) ∧ (b.toNat : Int) ≤ 122) := by simp only [lower, Bool.and_eq_true, decide_eq_true_eq]; omega
    have hdi : digit b = true ↔ (48 ≤ (b.toNat : Int) ∧ (b.toNat : Int) ≤ 57) := by simp only [digit, Bool.and_eq_true, decide_eq_true_eq]; omega
    rw [Bool.or_eq_true, hlo, hdi] at hgood hbad
    have hfin : (97 ≤ (b.toNat : Int) ∧ (b.toNat : Int) ≤ 122 ∨ 48 ≤ (b.toNat : Int) ∧ (b.toNat : Int) ≤ 57) ∧ (i = 0 → 97 ≤ (b.toNat : Int) ∧ (b.toNat : Int) ≤ 122) → ∀ t' H' c', t' 0 = t 0 → t' 6 = t 6 → t' 7 = .i (i + 1 : Nat) → i < s.size ∧ inv99 s (i + 1) ⟨t', H', c'⟩ := by
      intro hl t' H' c' r1 r2 r3
      exact ⟨hlt, hgood hl, r1.trans e0, r2.trans e6, r3⟩
    have hbad' : ¬ ((97 ≤ (b.toNat : Int) ∧ (b.toNat : Int) ≤ 122 ∨ 48 ≤ (b.toNat : Int) ∧ (b.toNat : Int) ≤ 57) ∧ (i = 0 → 97 ≤ (b.toNat : Int) ∧ (b.toNat : Int) ≤ 122)) → nameOk s = false := hbad
    clear hbad hgood hlo hdi
    rcases (by omega : (97 ≤ (b.toNat : Int) ∧ (b.toNat : Int) ≤ 122) ∨ (48 ≤ (b.toNat : Int) ∧ (b.toNat : Int) ≤ 57) ∨ (b.toNat : Int) < 48 ∨ (57 < (b.toNat : Int) ∧ (b.toNat : Int) < 97) ∨ 122 < (b.toNat : Int)) with ⟨c1, c2⟩ | ⟨c1, c2⟩ | c1 | ⟨c1, c2⟩ | c1
    · have k1 : (b.toNat : Int) ≥ 48 := by omega
      have k2 : ¬ (b.toNat : Int) ≤ 57 := by omega
      have k3 : ¬ (b.toNat : Int) < 97 := by omega
      have k4 : ¬ (b.toNat : Int) > 122 := by omega
      have hf := hfin ⟨.inl ⟨c1, c2⟩, fun _ => ⟨c1, c2⟩⟩
      clear hfin hbad'
      simp only [go_sem, e0, e6, e7, g1, gz, hb, Int.toNat_natCast, k1, k2, k3, k4, gw]
      exact hf _ _ _ rfl rfl rfl
    · have k1 : (b.toNat : Int) ≥ 48 := by omega
      have k3 : (b.toNat : Int) < 97 := by omega
      by_cases hi0 : i = 0
      · have k5 : ((i : Int) == 0) = true := beq_iff_eq.2 (by omega)
        have hm := hbad' fun h => by have := h.2 hi0; omega
        clear hfin hbad'
        simp only [go_sem, e0, e6, e7, g1, gz, hb, Int.toNat_natCast, k1, c2, k3, k5, hm]
      · have k5 : ((i : Int) == 0) = false := beq_eq_false_iff_ne.2 (by omega)
        have hf := hfin ⟨.inr ⟨c1, c2⟩, fun h => absurd h hi0⟩
        clear hfin hbad'
        simp only [go_sem, e0, e6, e7, g1, gz, hb, Int.toNat_natCast, k1, c2, k3, k5, gw]
        exact hf _ _ _ rfl rfl rfl
    · have k1 : ¬ (b.toNat : Int) ≥ 48 := by omega
      have k3 : (b.toNat : Int) < 97 := by omega
      have hm := hbad' fun h => by have := h.1; omega
      clear hfin hbad'
      simp only [go_sem, e0, e6, e7, g1, gz, hb, Int.toNat_natCast, k1, k3, hm]
    · have k1 : (b.toNat : Int) ≥ 48 := by omega
      have k2 : ¬ (b.toNat : Int) ≤ 57 := by omega
      have hm := hbad' fun h => by have := h.1; omega
      clear hfin hbad'
      simp only [go_sem, e0, e6, e7, g1, gz, hb, Int.toNat_natCast, k1, k2, c2, hm]
    · have k1 : (b.toNat : Int) ≥ 48 := by omega
      have k2 : ¬ (b.toNat : Int) ≤ 57 := by omega
      have k3 : ¬ (b.toNat : Int) < 97 := by omega
      have k4 : (b.toNat : Int) > 122 := by omega
      have hm := hbad' fun h => by have := h.1; omega
      clear hfin hbad'
      simp only [go_sem, e0, e6, e7, g1, gz, hb, Int.toNat_natCast, k1, k2, k3, k4, hm]
  · have g1 : ¬ (i : Int) < s.size := by omega
    have hall : (s.data.toList.all fun b => lower b || digit b) = true := by
      rw [List.all_eq_true]
      intro b hb
      rw [Array.mem_toList_iff, Array.mem_iff_getElem?] at hb
      obtain ⟨j, hj⟩ := hb
      exact (g0 j b (by have := (Array.getElem?_eq_some_iff.1 hj).1; rw [size_data] at hlt; omega) hj).1
    have hm : (decide ((1 : Int) ≤ s.size) && decide ((s.size : Int) ≤ 8)) = nameOk s := by
      by_cases h0 : s.size = 0
      · have h1 : ¬ (1 : Int) ≤ s.size := by omega
        have h2 : ¬ 1 ≤ s.size := by omega
        simp [nameOk, h0]
      · obtain ⟨b0, hb0⟩ : ∃ b, s.data[0]? = some b := ⟨_, Array.getElem?_eq_getElem (by rw [← size_data]; omega)⟩
        have hhead : s.data.toList.head? = some b0 := by rw [List.head?_eq_getElem?, Array.getElem?_toList]; exact hb0
        have hlow := (g0 0 b0 (by omega) hb0).2 rfl
        have e1 : decide ((1 : Int) ≤ s.size) = decide (1 ≤ s.size) := decide_eq_decide.2 (by omega)
        have e2 : decide ((s.size : Int) ≤ 8) = decide (s.size ≤ 8) := decide_eq_decide.2 (by omega)
        simp only [nameOk, hall, hhead, Option.any_some, hlow, e1, e2, Bool.and_true]
    simp only [go_sem, e0, e6, e7, g1]
    refine callC (inRange_ok _ _ _) rfl rfl rfl rfl ?_
    simp only [go_sem, hm]
def ok85 := okF.gu (P := Try.prog) tab Try.func85 Try.ntmps85 (by conv => lhs; cbv) (by kernel_rfl)
def inv85 (ss : List ByteArray) (i : Nat) (σ : St) : Prop := (∀ j s, j < i → ss[j]? = some s → nameOk s = true ∧ ∀ s', 0 < j → ss[j - 1]? = some s' → Op.bytesLess s'.toList s.toList = true) ∧ σ.t 0 = .c (.v (.sl (encS ss))) ∧ σ.t 5 = .c (.v (.sl (encS ss))) ∧ σ.t 6 = .i ss.length ∧ σ.t 7 = .i i
theorem areNames_ok (ss : List ByteArray) (hl : ss.length ≤ 4611686018427387904) (hs : ∀ s ∈ ss, s.size ≤ 4611686018427387904) : ACallsF Try.prog 85 [.c (.v (.sl (encS ss)))] [] (.b (rise ss)) := by
  refine ACallsF.intro ok85 follows fun X c0 => ?_
  simp only [go_sem, encS_len]
  refine AW.upto ss.length (inv85 ss) ⟨fun j _ hj => absurd hj (Nat.not_lt_zero j), rfl, rfl, rfl, rfl⟩ fun i t H c hi h => ?_
  obtain ⟨g0, e0, e5, e6, e7⟩ := h
  simp only [T.c, T.i, T.s] at e0 e5 e6 e7
  by_cases hlt : i < ss.length
  · have g1 : (i : Int) < ss.length := by omega
    have gz : (0 : Int) ≤ i := by omega
    have gw : IntKind.i64.wrap ((i : Int) + 1) = ((i + 1 : Nat) : Int) := wrap64 (x := (i : Int) + 1) ⟨by omega, by omega⟩
    obtain ⟨s, hs1⟩ : ∃ s, ss[i]? = some s := ⟨_, List.getElem?_eq_getElem hlt⟩
    have es := encS_at hs1
    have hC := isName_ok s (hs s (List.mem_of_getElem? hs1))
    have key : nameOk s = true → (∀ s', 0 < i → ss[i - 1]? = some s' → Op.bytesLess s'.toList s.toList = true) → ∀ j s, j < i + 1 → ss[j]? = some s → nameOk s = true ∧ ∀ s', 0 < j → ss[j - 1]? = some s' → Op.bytesLess s'.toList s.toList = true := by
      intro k1 k2 j s2 hj hj2
      rcases Nat.lt_succ_iff_lt_or_eq.1 hj with hj | rfl
      · exact g0 j s2 hj hj2
      · rw [hs1] at hj2; cases hj2; exact ⟨k1, k2⟩
    simp only [go_sem, e0, e5, e6, e7, g1, gz, encS_len, es, Int.toNat_natCast]
    refine callC hC rfl rfl rfl rfl ?_
    cases hn : nameOk s with
    | false =>
      have hm : rise ss = false := rise_false.2 fun h => by rw [(h i s hs1).1] at hn; cases hn
      simp only [go_sem, hm]
    | true =>
      by_cases hi0 : i = 0
      · have k1 : ¬ (i : Int) > 0 := by omega
        simp only [go_sem, e0, e5, e6, e7, k1, gw]
        exact ⟨hlt, key hn (fun s' h => by omega), e0, e5, e6, rfl⟩
      · have k1 : (i : Int) > 0 := by omega
        have k2 : IntKind.i64.wrap ((i : Int) - 1) = ((i - 1 : Nat) : Int) := (wrap64 (x := (i : Int) - 1) ⟨by omega, by omega⟩).trans (by omega)
        have k3 : (0 : Int) ≤ ((i - 1 : Nat) : Int) := by omega
        obtain ⟨s', hs2⟩ : ∃ s, ss[i - 1]? = some s := ⟨_, List.getElem?_eq_getElem (by omega)⟩
        have es2 := encS_at hs2
        cases hb : Op.bytesLess s'.toList s.toList with
        | false =>
          have hm : rise ss = false := rise_false.2 fun h => by rw [(h i s hs1).2 s' (by omega) hs2] at hb; cases hb
          simp only [go_sem, e0, e5, e6, e7, k1, k2, k3, es, es2, gz, Int.toNat_natCast, sStr, hb, hm]
        | true =>
          simp only [go_sem, e0, e5, e6, e7, k1, k2, k3, es, es2, gz, Int.toNat_natCast, sStr, hb, gw]
          exact ⟨hlt, key hn (fun s2 _ h2 => by rw [hs2] at h2; cases h2; exact hb), e0, e5, e6, rfl⟩
  · have g1 : ¬ (i : Int) < ss.length := by omega
    have hm : rise ss = true := rise_true.2 fun j s hj => g0 j s (by have := (List.getElem?_eq_some_iff.1 hj).1; omega) hj
    simp only [go_sem, e0, e6, e7, g1, encS_len, hm]
end Go.V
set_option linter.unusedSimpArgs false
set_option maxRecDepth 20000
namespace Go.V
open Go.Proofs
theorem lendT_closed (hs : List Hand) (H : HMap) {x : T} (h : closedA x = true) : lendT H x x = some (x, [], []) ∧ renIT hs x = some x := by
  cases x with
  | pt p =>
    cases p with
    | one c => obtain ⟨h1, h2, _⟩ := closed_C hs H c h; exact ⟨by simp [lendT, h1], by simp [renIT, h2]⟩
    | agg cs => obtain ⟨h1, h2, _⟩ := closed_Cs hs H cs h; exact ⟨by simp [lendT, h1], by simp [renIT, h2]⟩
  | junk => simp [closedA] at h
  | undef => simp [closedA] at h
  | tup ps => simp [closedA] at h
theorem lendTs_snoc (hs : List Hand) (H : HMap) (n m v j : Nat) (hI : inN hs n = some m) : ∀ (ac : List T), ac.all closedA = true → lendTs H (ac ++ [.c (.ptr n v j)]) (ac ++ [.c (.ptr m v j)]) = some (ac ++ [.c (.ptr m v j)], [], []) ∧ renITs hs (ac ++ [.c (.ptr n v j)]) = some (ac ++ [.c (.ptr m v j)])
  | [], _ => ⟨by simp [lendTs, lendT, lendC, T.c], by simp [renITs, renIT, renI, hI, T.c]⟩
  | x :: ac, h => by
    simp only [List.all_cons, Bool.and_eq_true] at h
    obtain ⟨h1, h2⟩ := lendT_closed hs H h.1
    obtain ⟨h3, h4⟩ := lendTs_snoc hs H n m v j hI ac h.2
    exact ⟨by simp only [List.cons_append, lendTs, h1, h3, List.nil_append], by simp only [List.cons_append, renITs, h2, h4]⟩
/-- A call that hands on a variable by a pointer to it, the last argument, beside closed values. -/
theorem callP {P : Program} {t : Nat → T} {H : HMap} {c : Nat} {f : Opd} {args : List Opd} {fid : FuncId} {n m v : Nat} {ty : TypeId} {xs ys : List V} {argsC : List T} {r : T} {k : Nat} {d : Option Nat} {un : List Nat} {l : List AOper} {prev : List (Nat × List Nat × List Nat)} {K : St → Prop}
    (hC : ACallsF P fid (argsC ++ [.c (.ptr n v 0)]) [⟨n, m, some (.var v ty (xs.map .v)), .var v ty (ys.map .v), true⟩] r) (hf : ev t f = .pt (.one (.fn fid []))) (hl : args.map (ev t) = argsC ++ [.c (.ptr m v 0)])
    (ha : argsC.all closedA = true) (hr : closedT r = true) (hH : H m = some (.var v ty (xs.map .v)))
    (hk : chk prev un ⟨r, [(m, .var v ty (ys.map .v))], [m], [m]⟩ = true ∧ DRun P l ((k, [m], [m]) :: prev) K ⟨updD t d r, upd H m (some (.var v ty (ys.map .v))), c⟩) :
    step P k d un (.call f args) l prev K t H c := by
  let hs : List Hand := [⟨n, m, some (.var v ty (xs.map .v)), .var v ty (ys.map .v), true⟩]
  have hcl : ∀ xs : List V, (xs.map C.v).all closedC = true := by intro xs; simp [closedC]
  have hN : renN hs n = some ⟨n, m, some (.var v ty (xs.map .v)), .var v ty (ys.map .v), true⟩ := by simp [hs, renN]
  have hI : inN hs n = some m := by simp [inN, hN]
  obtain ⟨h1, h2⟩ := lendTs_snoc hs H n m v 0 hI argsC ha
  refine callW (caps := []) (ws := []) (ns := []) hs hC hf (by rw [hl]; simpa using h1) h2 ⟨?_, trivial⟩ (by simp [hs]) (by simp [hs]) (closed_T hs r hr _) (ob := [(m, .var v ty (ys.map .v))]) ?_ ?_
  · simp only [renIB, (closed_Cs hs H (xs.map .v) (hcl _)).2.1, Option.map_some]
    exact hH
  · simp only [hs, renOBs, renOB, verOf, Blk.ver]
    rw [(closed_Cs _ H (ys.map .v) (hcl _)).2.2]
    rfl
  · have hq : quiet r hs = false := by simp [quiet, hs]
    simpa [hq, hs, updH] using hk
def ok77 := okF.gu (P := Try.prog) tab Try.func77 Try.ntmps77 (by conv => lhs; cbv) (by kernel_rfl)
noncomputable def shapeB (s : Int) (ns : List ByteArray) (ks : List Kd) : Bool := @decide (Shape s ns ks) (Classical.propDecidable _)
theorem shapeB_true {s : Int} {ns : List ByteArray} {ks : List Kd} : shapeB s ns ks = true ↔ Shape s ns ks := by simp [shapeB]
theorem shapeB_eq {s : Int} {ns : List ByteArray} {ks : List Kd} {b : Bool} (h : Shape s ns ks ↔ b = true) : shapeB s ns ks = b := by
  cases h1 : shapeB s ns ks with
  | true => exact (h.1 (shapeB_true.1 h1)).symm
  | false =>
    cases b with
    | false => rfl
    | true => rw [shapeB_true.2 (h.2 rfl)] at h1; cases h1
theorem shapeOk_ok (s : Int) (ns : List ByteArray) (ks : List Kd) (hl : ns.length ≤ 2000000 ∧ ks.length ≤ 2000000) (hs : ∀ s ∈ ns, s.size ≤ 2000000) : ACallsF Try.prog 77 [tK (.mk s ns ks)] [] (.b (shapeB s ns ks)) := by
  have w1 : IntKind.i64.wrap ((ns.length : Int) + (ks.length : Int)) = (ns.length : Int) + (ks.length : Int) := wrap64 ⟨by omega, by omega⟩
  have leaf : 1 ≤ s ∧ s ≤ 3 → shapeB s ns ks = ((ns.length : Int) + (ks.length : Int) == 0) := by
    rintro ⟨h1, h2⟩
    refine shapeB_eq ⟨fun h => ?_, fun h => ?_⟩
    · have e1 := h.other (by omega)
      have e2 := h.leaf (by omega)
      exact beq_iff_eq.2 (by omega)
    · have h := beq_iff_eq.1 h
      exact ⟨by omega, by omega, fun h => by omega, fun _ => by omega, fun _ => by omega, fun h => by omega⟩
  have one : s = 4 ∨ s = 6 → ∀ b1 b2, ((ns.length : Int) == 0) = b1 → ((ks.length : Int) == 1) = b2 → shapeB s ns ks = (b1 && b2) := by
    rintro h b1 b2 rfl rfl
    refine shapeB_eq ⟨fun h2 => ?_, fun h2 => ?_⟩
    · have e1 := h2.other (by omega)
      have e2 := h2.one h
      simp only [Bool.and_eq_true, beq_iff_eq]; omega
    · simp only [Bool.and_eq_true, beq_iff_eq] at h2
      exact ⟨by omega, by omega, fun h => by omega, fun _ => by omega, fun _ => by omega, fun _ => by omega⟩
  refine ACallsF.intro ok77 follows fun X c0 => ?_
  by_cases hlf : 1 ≤ s ∧ s ≤ 3
  · have hm := leaf hlf
    rcases (by omega : s = 1 ∨ s = 2 ∨ s = 3) with rfl | rfl | rfl
    all_goals simp only [go_sem, encK_mk, encKs_len, encS_len, Int.reduceBEq, w1, hm]
  by_cases hon : s = 4 ∨ s = 6
  · have hm := one hon
    have hb : ∃ b1 b2, ((ns.length : Int) == 0) = b1 ∧ ((ks.length : Int) == 1) = b2 := ⟨_, _, rfl, rfl⟩
    obtain ⟨b1, b2, hb1, hb2⟩ := hb
    have hm := hm b1 b2 hb1 hb2
    rcases hon with rfl | rfl
    all_goals
      cases b1
      · simp only [go_sem, encK_mk, encKs_len, encS_len, Int.reduceBEq, hb1, hb2, hm]
      · simp only [go_sem, encK_mk, encKs_len, encS_len, Int.reduceBEq, hb1, hb2, hm]
  have b1 : (s == 1) = false := beq_eq_false_iff_ne.2 (by omega)
  have b2 : (s == 2) = false := beq_eq_false_iff_ne.2 (by omega)
  have b3 : (s == 3) = false := beq_eq_false_iff_ne.2 (by omega)
  have b4 : (s == 4) = false := beq_eq_false_iff_ne.2 (by omega)
  have b6 : (s == 6) = false := beq_eq_false_iff_ne.2 (by omega)
  by_cases h5 : s = 5
  · subst h5
    simp only [go_sem, encK_mk, encKs_len, encS_len, Int.reduceBEq]
    refine callC (areNames_ok ns (by omega) (fun s h => by have := hs s h; omega)) rfl rfl rfl rfl ?_
    cases hr : rise ns with
    | false =>
      have hm : shapeB 5 ns ks = false := shapeB_eq ⟨fun h => absurd hr (by rw [(h.form rfl).2]; simp), fun h => by cases h⟩
      simp only [go_sem, encKs_len, encS_len, hm]
    | true =>
      have hm : shapeB 5 ns ks = ((ns.length : Int) == (ks.length : Int)) := shapeB_eq ⟨fun h => beq_iff_eq.2 (by have := (h.form rfl).1; omega), fun h => by
        have h := beq_iff_eq.1 h
        exact ⟨by omega, by omega, fun _ => ⟨by omega, hr⟩, fun h => absurd rfl h, fun h => by omega, fun h => by omega⟩⟩
      simp only [go_sem, encKs_len, encS_len, hm]
  · have b5 : (s == 5) = false := beq_eq_false_iff_ne.2 h5
    have hm : shapeB s ns ks = false := shapeB_eq ⟨fun h => by have := h.lo; have := h.hi; omega, fun h => by cases h⟩
    simp only [go_sem, encK_mk, encKs_len, encS_len, b1, b2, b3, b4, b5, b6, hm]
end Go.V
set_option linter.unusedSimpArgs false
set_option maxRecDepth 20000
namespace Go.V
open Go.Proofs
def ok59 := okF.gu (P := Try.prog) tab Try.func59 Try.ntmps59 (by conv => lhs; cbv) (by kernel_rfl)
abbrev lH (m v : Nat) (p p' : Int) : Hand := ⟨1001, m, some (.var v 3 ([.s (.int .i64 p)].map .v)), .var v 3 ([.s (.int .i64 p')].map .v), true⟩
def LookR (d : Nat) (k : Kd) (p : Nat) (p' : Int) (b : Bool) : Prop := (KOk d k ∧ p + parts k ≤ 40 ∧ b = true ∧ p' = (p + parts k : Nat)) ∨ (¬ (KOk d k ∧ p + parts k ≤ 40) ∧ b = false)
def inv59 (v d : Nat) (p : Nat) (ks : List Kd) (i : Nat) (σ : St) : Prop :=
  σ.t 1 = .i d ∧ σ.t 2 = .c (.ptr 1001 v 0) ∧ σ.t 28 = .c (.v (.sl (encKs ks))) ∧ σ.t 29 = .i ks.length ∧ σ.t 30 = .i i ∧ σ.H 1001 = some (.var v 3 [.v (.s (.int .i64 ((p + 1 + partsL (ks.take i) : Nat) : Int)))])
theorem look_ok : ∀ k : Kd, KB 2000000 k → ∀ d p : Nat, d ≤ 100 → p ≤ 2000000 → ∃ (p' : Int) (b : Bool), LookR d k p p' b ∧ ∀ m v, ACallsF Try.prog 59 [tK k, .i d, .c (.ptr 1001 v 0)] [lH m v p p'] (.b b) := by
  intro k
  induction k using Kd.ind with
  | _ s ns ks ih =>
    intro hB d p hd hp
    obtain ⟨hB1, hB2, hB3, hB4⟩ := hB.inv
    have gw : IntKind.i64.wrap ((p : Int) + 1) = ((p + 1 : Nat) : Int) := (wrap64 ⟨by omega, by omega⟩).trans (by omega)
    have hCs := shapeOk_ok s ns ks ⟨hB1, hB2⟩ hB3
    simp only [tK, encK_mk, List.map_cons, List.map_nil] at hCs
    have htake : ∀ i k, ks[i]? = some k → partsL (ks.take (i + 1)) = partsL (ks.take i) + parts k := fun i k hk => by
      rw [List.take_add_one, hk]; exact partsL_snoc _ _
    by_cases hgood : d ≤ 6 ∧ p + 1 ≤ 40 ∧ Shape s ns ks
    · obtain ⟨hd6, hp40, hS⟩ := hgood
      have k1 : ¬ (d : Int) > 6 := by omega
      have k2 : ¬ ((p + 1 : Nat) : Int) > 40 := by omega
      have hsb := shapeB_true.2 hS
      obtain ⟨N, p', b, hN, hok, hR, hend⟩ : ∃ (N : Nat) (p' : Int) (b : Bool), N ≤ ks.length ∧ (∀ i k, i < N → ks[i]? = some k → KOk (d + 1) k ∧ p + 1 + partsL (ks.take (i + 1)) ≤ 40) ∧ LookR d (.mk s ns ks) p p' b ∧
          ((N = ks.length ∧ b = true ∧ p' = ((p + 1 + partsL (ks.take N) : Nat) : Int)) ∨ ∃ k, ks[N]? = some k ∧ b = false ∧ ∀ m v, ACallsF Try.prog 59 [tK k, .i (d + 1 : Nat), .c (.ptr 1001 v 0)] [lH m v ((p + 1 + partsL (ks.take N) : Nat) : Int) p'] (.b false)) := by
        by_cases hbad : ∃ i, ∃ k, ks[i]? = some k ∧ ¬ (KOk (d + 1) k ∧ p + 1 + partsL (ks.take (i + 1)) ≤ 40)
        · obtain ⟨N, ⟨k, hk, hno⟩, hmin⟩ := least hbad
          have hlt := (List.getElem?_eq_some_iff.1 hk).1
          have hmem := List.mem_of_getElem? hk
          have hpre : ∀ i k, i < N → ks[i]? = some k → KOk (d + 1) k ∧ p + 1 + partsL (ks.take (i + 1)) ≤ 40 := fun i k2 hi hk2 => by
            by_cases h : KOk (d + 1) k2 ∧ p + 1 + partsL (ks.take (i + 1)) ≤ 40
            · exact h
            · have := hmin i ⟨k2, hk2, h⟩; omega
          have hq : p + 1 + partsL (ks.take N) ≤ 40 := by
            cases N with
            | zero => simp [partsL]; omega
            | succ n => exact (hpre n _ (by omega) (List.getElem?_eq_getElem (by omega))).2
          obtain ⟨p2, b2, hR2, hC2⟩ := ih k hmem (hB4 k hmem) (d + 1) (p + 1 + partsL (ks.take N)) (by omega) (by omega)
          rcases hR2 with ⟨r1, r2, _⟩ | ⟨_, rfl⟩
          · exact absurd ⟨r1, by rw [htake N k hk]; omega⟩ hno
          · refine ⟨N, p2, false, by omega, hpre, .inr ⟨fun h => hno ?_, rfl⟩, .inr ⟨k, hk, rfl, hC2⟩⟩
            obtain ⟨h1, h2⟩ := h
            refine ⟨h1.inv.2.2 k hmem, ?_⟩
            have := partsL_take_le ks (N + 1)
            simp only [parts] at h2
            omega
        · have hall : ∀ i k, ks[i]? = some k → KOk (d + 1) k ∧ p + 1 + partsL (ks.take (i + 1)) ≤ 40 := fun i k hk => by
            by_cases h : KOk (d + 1) k ∧ p + 1 + partsL (ks.take (i + 1)) ≤ 40
            · exact h
            · exact absurd ⟨i, k, hk, h⟩ hbad
          refine ⟨ks.length, ((p + 1 + partsL (ks.take ks.length) : Nat) : Int), true, Nat.le_refl _, fun i k _ hk => hall i k hk, .inl ⟨.mk _ _ _ _ hd6 hS fun k hk => ?_, ?_, rfl, ?_⟩, .inl ⟨rfl, rfl, rfl⟩⟩
          · obtain ⟨i, hi⟩ := List.mem_iff_getElem?.1 hk
            exact (hall i k hi).1
          · simp only [parts]
            cases hk0 : ks.length with
            | zero => rw [List.length_eq_zero_iff] at hk0; subst hk0; simp [partsL]; omega
            | succ n =>
              have := (hall n _ (List.getElem?_eq_getElem (by omega))).2
              rw [← hk0, List.take_length] at this
              omega
          · rw [List.take_length]; simp only [parts]; omega
      refine ⟨p', b, hR, fun m v => ACallsF.intro ok59 follows fun X c0 => ?_⟩
      simp only [go_sem, encK_mk, encKs_len, gw, k1, k2]
      refine callC hCs rfl rfl (by simp [closedA, closedP, closedC]) rfl ?_
      simp only [go_sem, encK_mk, encKs_len, hsb]
      refine AW.upto N (inv59 v d p ks) ⟨rfl, rfl, rfl, rfl, rfl, by simp [partsL]⟩ fun i t H c hi h => ?_
      obtain ⟨e1, e2, e28, e29, e30, eH⟩ := h
      simp only [T.c, T.i] at e1 e2 e28 e29 e30 eH
      have gz : (0 : Int) ≤ i := by omega
      have gw2 : IntKind.i64.wrap ((i : Int) + 1) = ((i + 1 : Nat) : Int) := wrap64 (x := (i : Int) + 1) ⟨by omega, by omega⟩
      have gd : IntKind.i64.wrap ((d : Int) + 1) = ((d + 1 : Nat) : Int) := wrap64 (x := (d : Int) + 1) ⟨by omega, by omega⟩
      by_cases hlt : i < N
      · have k3 : (i : Int) < ks.length := by omega
        obtain ⟨k, hk⟩ : ∃ k, ks[i]? = some k := ⟨_, List.getElem?_eq_getElem (by omega)⟩
        have hmem := List.mem_of_getElem? hk
        have ek := encKs_at hk
        obtain ⟨o1, o2⟩ := hok i k hlt hk
        have ht := htake i k hk
        obtain ⟨p2, b2, hR2, hC2⟩ := ih k hmem (hB4 k hmem) (d + 1) (p + 1 + partsL (ks.take i)) (by omega) (by omega)
        rcases hR2 with ⟨_, _, rfl, rfl⟩ | ⟨r1, _⟩
        · simp only [go_sem, e1, e2, e28, e29, e30, k3, gz, ek, Int.toNat_natCast, gd, List.length_map, encK_len, takeK, Nat.le_refl]
          refine callP (argsC := [tK k, .i (d + 1 : Nat)]) (hC2 1001 v) rfl rfl (by simp [closedA, closedP, closedC]) rfl eH ⟨rfl, ?_⟩
          simp only [go_sem, e30, gw2]
          exact ⟨hlt, e1, e2, e28, e29, rfl, by rw [ht, ← Nat.add_assoc]; rfl⟩
        · exact absurd ⟨o1, by rw [ht] at o2; omega⟩ r1
      · have hiN : i = N := by omega
        subst hiN
        rcases hend with ⟨rfl, rfl, rfl⟩ | ⟨k, hk, rfl, hC2⟩
        · have k3 : ¬ ((ks.length : Nat) : Int) < ks.length := by omega
          simp only [go_sem, e29, e30, k3, eH]
        · have hlt2 := (List.getElem?_eq_some_iff.1 hk).1
          have k3 : (i : Int) < ks.length := by omega
          have ek := encKs_at hk
          simp only [go_sem, e1, e2, e28, e29, e30, k3, gz, ek, Int.toNat_natCast, gd, List.length_map, encK_len, takeK, Nat.le_refl]
          refine callP (argsC := [tK k, .i (d + 1 : Nat)]) (hC2 1001 v) rfl rfl (by simp [closedA, closedP, closedC]) rfl eH ⟨rfl, ?_⟩
          simp only [go_sem]
    · refine ⟨((p + 1 : Nat) : Int), false, .inr ⟨fun h => hgood ⟨h.1.inv.1, by have := parts_pos (.mk s ns ks); omega, h.1.inv.2.1⟩, rfl⟩, fun m v => ACallsF.intro ok59 follows fun X c0 => ?_⟩
      by_cases h1 : (d : Int) > 6
      · simp only [go_sem, encK_mk, encKs_len, gw, h1]
      · by_cases h2 : ((p + 1 : Nat) : Int) > 40
        · simp only [go_sem, encK_mk, encKs_len, gw, h1, h2]
        · have hsb : shapeB s ns ks = false := by
            cases h : shapeB s ns ks with
            | false => rfl
            | true => exact absurd ⟨by omega, by omega, shapeB_true.1 h⟩ hgood
          simp only [go_sem, encK_mk, encKs_len, gw, h1, h2]
          refine callC hCs rfl rfl (by simp [closedA, closedP, closedC]) rfl ?_
          simp only [go_sem, encK_mk, encKs_len, hsb]
def ok43 := okF.gu (P := Try.prog) tab Try.func43 Try.ntmps43 (by conv => lhs; cbv) (by kernel_rfl)
theorem kindOkI_ok (k : Kd) (hB : KB 2000000 k) : ACallsF Try.prog 43 [tK k] [] (.b (okK k)) := by
  obtain ⟨p', b, hR, hC⟩ := look_ok k hB 1 0 (by omega) (by omega)
  have hb : okK k = b := by
    rcases hR with ⟨h1, h2, rfl, _⟩ | ⟨h1, rfl⟩
    · exact okK_true.2 ⟨h1, by omega⟩
    · exact okK_false.2 fun h => h1 ⟨h.1, by omega⟩
  refine ACallsF.intro ok43 follows fun X c0 => ?_
  simp only [go_sem, List.length_map, encK_len, takeK, Nat.le_refl]
  refine callP (argsC := [tK k, .i (1 : Nat)]) (hC 3 _) rfl rfl (by simp [closedA, closedP, closedC]) rfl rfl ⟨rfl, ?_⟩
  simp only [go_sem, hb]
end Go.V
set_option linter.unusedSimpArgs false
set_option maxRecDepth 20000
namespace Go.V
open Go.Proofs
theorem bl_irrefl : ∀ x : List UInt8, Op.bytesLess x x = false
  | [] => rfl
  | a :: x => by simp [Op.bytesLess, bl_irrefl x]
theorem bl_trans : ∀ {x y z : List UInt8}, Op.bytesLess x y = true → Op.bytesLess y z = true → Op.bytesLess x z = true
  | _, [], _, h, _ => by simp [Op.bytesLess] at h
  | _, _ :: _, [], _, h => by simp [Op.bytesLess] at h
  | [], _ :: _, _ :: _, _, _ => by simp [Op.bytesLess]
  | a :: x, b :: y, c :: z, h1, h2 => by
    simp only [Op.bytesLess, Bool.or_eq_true, decide_eq_true_eq, Bool.and_eq_true, beq_iff_eq] at h1 h2 ⊢
    rcases h1 with h1 | ⟨rfl, h1⟩
    · rcases h2 with h2 | ⟨rfl, h2⟩
      · exact .inl (UInt8.lt_trans h1 h2)
      · exact .inl h1
    · rcases h2 with h2 | ⟨rfl, h2⟩
      · exact .inl h2
      · exact .inr ⟨rfl, bl_trans h1 h2⟩
def less (a b : ByteArray) : Bool := Op.bytesLess a.toList b.toList
theorem less_irrefl (a : ByteArray) : less a a = false := bl_irrefl _
theorem less_trans {a b c : ByteArray} (h1 : less a b = true) (h2 : less b c = true) : less a c = true := bl_trans h1 h2
theorem rise_lt {ns : List ByteArray} (h : RiseP ns) : ∀ (d i : Nat) (x y : ByteArray), ns[i]? = some x → ns[i + d + 1]? = some y → less x y = true
  | 0, i, x, y, hx, hy => (h (i + 1) y hy).2 x (by omega) (by simpa using hx)
  | d + 1, i, x, y, hx, hy => by
    obtain ⟨z, hz⟩ : ∃ z, ns[i + d + 1]? = some z := ⟨_, List.getElem?_eq_getElem (by have := (List.getElem?_eq_some_iff.1 hy).1; omega)⟩
    exact less_trans (rise_lt h d i x z hx hz) ((h (i + d + 1 + 1) y hy).2 z (by omega) (by simpa using hz))
theorem rise_at {ns : List ByteArray} (h : RiseP ns) {i j : Nat} {x y : ByteArray} (hij : i < j) (hx : ns[i]? = some x) (hy : ns[j]? = some y) : less x y = true := by
  obtain ⟨d, rfl⟩ : ∃ d, j = i + d + 1 := ⟨j - i - 1, by omega⟩
  exact rise_lt h d i x y hx hy
theorem rise_inj {ns : List ByteArray} (h : RiseP ns) {i j : Nat} {x : ByteArray} (hx : ns[i]? = some x) (hy : ns[j]? = some x) : i = j := by
  rcases Nat.lt_trichotomy i j with h1 | h1 | h1
  · have := rise_at h h1 hx hy; rw [less_irrefl] at this; cases this
  · exact h1
  · have := rise_at h h1 hy hx; rw [less_irrefl] at this; cases this
def ok82 := okF.gu (P := Try.prog) tab Try.func82 Try.ntmps82 (by conv => lhs; cbv) (by kernel_rfl)
theorem isNaN2_ok (s : ByteArray) : ACallsF Try.prog 82 [.s (.string s)] [] (.b false) := by
  refine ACallsF.intro ok82 follows fun X c0 => ?_
  simp only [go_sem, sStr, str_beq]
def ok72 := okF.gu (P := Try.prog) tab Try.func72 Try.ntmps72 (by conv => lhs; cbv) (by kernel_rfl)
theorem isNaN_ok (s : ByteArray) : ACallsF Try.prog 72 [.s (.string s)] [] (.b false) := by
  refine ACallsF.intro ok72 follows fun X c0 => ?_
  simp only [go_sem, sStr, str_beq]
def ok71 := okF.gu (P := Try.prog) tab Try.func71 Try.ntmps71 (by conv => lhs; cbv) (by kernel_rfl)
theorem less_ok (a b : ByteArray) : ACallsF Try.prog 71 [.s (.string a), .s (.string b)] [] (.b (less a b)) := by
  refine ACallsF.intro ok71 follows fun X c0 => ?_
  simp only [go_sem]
  refine callC (isNaN2_ok a) rfl rfl rfl rfl ?_
  simp only [go_sem, sStr, less]
def ok52 := okF.gu (P := Try.prog) tab Try.func52 Try.ntmps52 (by conv => lhs; cbv) (by kernel_rfl)
theorem wrapU {x : Int} (h : 0 ≤ x ∧ x ≤ 9223372036854775807) : IntKind.u64.wrap x = x := by
  have : IntKind.u64.wrap x = x % 18446744073709551616 := by simp [IntKind.wrap, IntKind.bits, IntKind.signed]
  rw [this]; omega
abbrev tIB (j : Nat) (b : Bool) : T := .tup [.one (.v (.s (.int .i64 j))), .one (.v (.s (.bool b)))]
theorem search_ok (ns : List ByteArray) (x : ByteArray) (hr : rise ns = true) (hl : ns.length ≤ 2000000) :
    ∃ (J : Nat) (b : Bool), (b = true → ns[J]? = some x) ∧ (b = false → ∀ i : Nat, ns[i]? ≠ some x) ∧ ACallsF Try.prog 52 [.c (.v (.sl (encS ns))), .s (.string x)] [] (tIB J b) := by
  have hR := rise_true.1 hr
  have hex : ∃ J, J = ns.length ∨ ∃ s, ns[J]? = some s ∧ less s x = false := ⟨ns.length, .inl rfl⟩
  obtain ⟨J, hJ, hmin⟩ := least hex
  have hJle : J ≤ ns.length := by
    rcases hJ with h | ⟨s, h, _⟩
    · omega
    · have := (List.getElem?_eq_some_iff.1 h).1; omega
  have hA : ∀ i s, i < J → ns[i]? = some s → less s x = true := fun i s hi hs => by
    cases h : less s x with
    | true => rfl
    | false => have := hmin i (.inr ⟨s, hs, h⟩); omega
  have hB : ∀ i s, J ≤ i → ns[i]? = some s → less s x = false := fun i s hi hs => by
    have hlt := (List.getElem?_eq_some_iff.1 hs).1
    rcases hJ with h | ⟨s0, h0, h1⟩
    · omega
    · rcases Nat.lt_or_ge J i with h | h
      · cases h2 : less s x with
        | false => rfl
        | true => rw [less_trans (rise_at hR h h0 hs) h2] at h1; cases h1
      · have : i = J := by omega
        subst this; rw [h0] at hs; cases hs; exact h1
  obtain ⟨b, hb⟩ : ∃ b, (b = true → ns[J]? = some x) ∧ (b = false → ns[J]? ≠ some x) := by
    by_cases h : ns[J]? = some x
    · exact ⟨true, fun _ => h, fun e => absurd e (by simp)⟩
    · exact ⟨false, fun e => absurd e (by simp), fun _ => h⟩
  refine ⟨J, b, hb.1, fun hbf i hi => ?_, ACallsF.intro ok52 follows fun X c0 => ?_⟩
  · rcases Nat.lt_trichotomy i J with h | h | h
    · have := hA i x h hi; rw [less_irrefl] at this; cases this
    · subst h; exact hb.2 hbf hi
    · obtain ⟨s0, h0⟩ : ∃ s, ns[J]? = some s := ⟨_, List.getElem?_eq_getElem (by have := (List.getElem?_eq_some_iff.1 hi).1; omega)⟩
      have := rise_at hR h h0 hi
      rw [hB J s0 (Nat.le_refl _) h0] at this; cases this
  simp only [go_sem, encS_len]
  refine AW.loopM (ι := Nat × Nat) (fun q σ => q.1 ≤ J ∧ J ≤ q.2 ∧ q.2 ≤ ns.length ∧ σ.t 0 = .c (.v (.sl (encS ns))) ∧ σ.t 1 = .s (.string x) ∧ σ.t 6 = .i ns.length ∧ σ.t 7 = .i q.1 ∧ σ.t 8 = .i q.2) (fun q => q.2 - q.1) (0, ns.length) ⟨Nat.zero_le _, hJle, Nat.le_refl _, rfl, rfl, rfl, rfl, rfl⟩ ?_
  rintro ⟨i, j⟩ ⟨t, H, c⟩ ⟨h1, h2, h3, e0, e1, e6, e7, e8⟩
  simp only [T.s, T.i, T.c] at h1 h2 h3 e0 e1 e6 e7 e8
  refine oneW.of ?_
  by_cases hij : i < j
  · have k1 : (i : Int) < j := by omega
    have w1 : IntKind.i64.wrap ((i : Int) + j) = ((i + j : Nat) : Int) := (wrap64 (x := (i : Int) + j) ⟨by omega, by omega⟩).trans (by omega)
    have w2 : IntKind.u64.wrap ((i + j : Nat) : Int) = ((i + j : Nat) : Int) := wrapU ⟨by omega, by omega⟩
    have w3 : ((i + j : Nat) : Int).fdiv (2 ^ min (Int.toNat 1) 64) = (((i + j) / 2 : Nat) : Int) := by
      have e : (2 : Int) ^ min (Int.toNat 1) 64 = 2 := rfl
      rw [e, Int.fdiv_eq_ediv_of_nonneg _ (by omega)]
      omega
    have w4 : IntKind.i64.wrap (((i + j) / 2 : Nat) : Int) = (((i + j) / 2 : Nat) : Int) := wrap64 ⟨by omega, by omega⟩
    have w5 : IntKind.i64.wrap ((((i + j) / 2 : Nat) : Int) + 1) = (((i + j) / 2 + 1 : Nat) : Int) := (wrap64 ⟨by omega, by omega⟩).trans (by omega)
    have hh1 : i ≤ (i + j) / 2 := by omega
    have hh2 : (i + j) / 2 < j := by omega
    generalize (i + j) / 2 = h at w3 w4 w5 hh1 hh2
    obtain ⟨s, hs⟩ : ∃ s, ns[h]? = some s := ⟨_, List.getElem?_eq_getElem (by omega)⟩
    have es := encS_at hs
    have gz : (0 : Int) ≤ h := by omega
    have n0 : ¬ (1 : Int) < 0 := by omega
    simp only [go_sem, e0, e1, e7, e8, k1, w1, w2, n0, w3, w4, gz, es, Int.toNat_natCast]
    refine callC (less_ok s x) rfl rfl rfl rfl ?_
    cases hls : less s x with
    | true =>
      simp only [go_sem, w5]
      have : h < J := by
        rcases Nat.lt_or_ge h J with h' | h'
        · exact h'
        · rw [hB h s h' hs] at hls; cases hls
      exact ⟨(h + 1, j), by show j - (h + 1) < j - i; omega, by show h + 1 ≤ J; omega, h2, h3, e0, e1, e6, rfl, e8⟩
    | false =>
      simp only [go_sem]
      have : J ≤ h := by
        rcases Nat.lt_or_ge h J with h' | h'
        · rw [hA h s h' hs] at hls; cases hls
        · exact h'
      exact ⟨(i, h), by show h - i < j - i; omega, h1, by show J ≤ h; omega, by show h ≤ ns.length; omega, e0, e1, e6, e7, rfl⟩
  · have k1 : ¬ (i : Int) < j := by omega
    have hiJ : i = J := by omega
    subst hiJ
    by_cases hn : i < ns.length
    · have k2 : (i : Int) < ns.length := by omega
      obtain ⟨s, hs⟩ : ∃ s, ns[i]? = some s := ⟨_, List.getElem?_eq_getElem hn⟩
      have es := encS_at hs
      have gz : (0 : Int) ≤ i := by omega
      by_cases hsx : s = x
      · subst hsx
        have hbt : b = true := by
          cases b with
          | true => rfl
          | false => exact absurd hs (hb.2 rfl)
        simp only [go_sem, e0, e1, e6, e7, e8, k1, k2, gz, es, Int.toNat_natCast, sStr, str_beq, hbt]
      · have hbf : b = false := by
          cases b with
          | false => rfl
          | true => have := hb.1 rfl; rw [hs] at this; cases this; exact absurd rfl hsx
        simp only [go_sem, e0, e1, e6, e7, e8, k1, k2, gz, es, Int.toNat_natCast, sStr, str_beq, hsx]
        refine callC (isNaN_ok s) rfl rfl rfl rfl ?_
        simp only [go_sem, hbf]
    · have k2 : ¬ (i : Int) < ns.length := by omega
      have hbf : b = false := by
        cases b with
        | false => rfl
        | true => have := (List.getElem?_eq_some_iff.1 (hb.1 rfl)).1; omega
      simp only [go_sem, e0, e1, e6, e7, e8, k1, k2, hbf]
end Go.V
set_option linter.unusedSimpArgs false
set_option maxRecDepth 20000
namespace Go.V
open Go.Proofs
theorem nodup_le {α : Type} [DecidableEq α] : ∀ (l m : List α), l.Nodup → (∀ x ∈ l, x ∈ m) → l.length ≤ m.length
  | [], _, _, _ => Nat.zero_le _
  | a :: l, m, hn, hs => by
    have h1 := List.nodup_cons.1 hn
    have hm := hs a (by simp)
    have h2 := nodup_le l (m.erase a) h1.2 fun x hx => by
      have hxa : x ≠ a := fun e => h1.1 (e ▸ hx)
      exact (List.mem_erase_of_ne hxa).2 (hs x (by simp [hx]))
    have h3 := List.length_erase_of_mem hm
    have h4 := List.length_pos_of_mem hm
    simp only [List.length_cons]
    omega
noncomputable def both (ns ms : List ByteArray) : List ByteArray := ms.filter fun x => @decide (x ∈ ns) (Classical.propDecidable _)
theorem both_len {ns ms : List ByteArray} (hn : ns.Nodup) (hm : ms.Nodup) : (both ns ms).length = ns.length ↔ ∀ x ∈ ns, x ∈ ms := by
  have hF : (both ns ms).Nodup := hm.filter _
  have hsub : ∀ x ∈ both ns ms, x ∈ ns := fun x hx => by simp only [both, List.mem_filter, decide_eq_true_eq] at hx; exact hx.2
  constructor
  · intro h x hx
    by_cases hxF : x ∈ both ns ms
    · simp only [both, List.mem_filter] at hxF; exact hxF.1
    · have := nodup_le (x :: both ns ms) ns (List.nodup_cons.2 ⟨hxF, hF⟩) fun y hy => by
        rcases List.mem_cons.1 hy with rfl | h
        · exact hx
        · exact hsub y h
      simp only [List.length_cons] at this
      omega
  · intro h
    have h1 := nodup_le _ _ hF hsub
    have h2 := nodup_le ns (both ns ms) hn fun x hx => by simp only [both, List.mem_filter, decide_eq_true_eq]; exact ⟨h x hx, hx⟩
    omega
theorem rise_nodup {ns : List ByteArray} (h : RiseP ns) : ns.Nodup := by
  rw [List.Nodup, List.pairwise_iff_getElem]
  intro i j hi hj hij e
  have := rise_inj h (List.getElem?_eq_getElem hi) (by rw [List.getElem?_eq_getElem hj, e])
  omega
theorem both_in {ns ms : List ByteArray} {x : ByteArray} (h : x ∈ ns) : both ns (ms ++ [x]) = both ns ms ++ [x] := by
  simp [both, List.filter_append, h]
theorem both_out {ns ms : List ByteArray} {x : ByteArray} (h : ¬ x ∈ ns) : both ns (ms ++ [x]) = both ns ms := by
  simp [both, List.filter_append, h]
def ok49 := okF.gu (P := Try.prog) tab Try.func49 Try.ntmps49 (by conv => lhs; cbv) (by kernel_rfl)
def FitJ (ns : List ByteArray) (ks : List Kd) (ns' : List ByteArray) (ks' : List Kd) (i : Nat) : Prop := ∀ j, j < i → ∀ x (k' : Kd), ns'[j]? = some x → ks'[j]? = some k' →
  (∀ (l : Nat) k, ns[l]? = some x → ks[l]? = some k → Fits k k') ∧ ((∀ l : Nat, ns[l]? ≠ some x) → k'.sort = 6)
def inv49 (s : Int) (ns : List ByteArray) (ks : List Kd) (ns' : List ByteArray) (ks' : List Kd) (i : Nat) (σ : St) : Prop :=
  FitJ ns ks ns' ks' i ∧ (∃ u, σ.t 2 = .c (.ptr 2 u 0) ∧ σ.H 2 = some (.var u 38 [.v (.s (.int .i64 s)), .v (.sl (encS ns)), .v (.sl (encKs ks))])) ∧ (∃ u, σ.t 3 = .c (.ptr 3 u 0) ∧ σ.H 3 = some (.var u 38 [.v (.s (.int .i64 s)), .v (.sl (encS ns')), .v (.sl (encKs ks'))])) ∧
  σ.t 5 = .i (both ns (ns'.take i)).length ∧ σ.t 58 = .c (.v (.sl (encS ns'))) ∧ σ.t 59 = .i ns'.length ∧ σ.t 60 = .i i
set_option maxHeartbeats 2000000 in
theorem fitsI_ok : ∀ (b a : Kd) (d d' : Nat), KOk d a → KOk d' b → KB 2000 a → KB 2000 b → ACallsF Try.prog 49 [tK a, tK b] [] (.b (kfits a b)) := by
  intro b
  induction b using Kd.ind with
  | _ s' ns' ks' ih =>
    intro a d d' hOa hOb hBa hBb
    obtain ⟨s, ns, ks⟩ := a
    obtain ⟨_, hSa, hKa⟩ := hOa.inv
    obtain ⟨_, hSb, hKb⟩ := hOb.inv
    obtain ⟨a1, a2, a3, a4⟩ := hBa.inv
    obtain ⟨b1, b2, b3, b4⟩ := hBb.inv
    refine ACallsF.intro ok49 follows fun X c0 => ?_
    by_cases h6' : s' = 6
    · subst h6'
      have hl' := hSb.one (.inr rfl)
      obtain ⟨kb, hkb⟩ : ∃ k, ks'[0]? = some k := ⟨_, List.getElem?_eq_getElem (by omega)⟩
      have hmb := List.mem_of_getElem? hkb
      have ekb := encKs_at hkb
      by_cases h6 : s = 6
      · subst h6
        have hl := hSa.one (.inr rfl)
        obtain ⟨ka, hka⟩ : ∃ k, ks[0]? = some k := ⟨_, List.getElem?_eq_getElem (by omega)⟩
        have hma := List.mem_of_getElem? hka
        have eka := encKs_at hka
        have hC := ih kb hmb ka _ _ (hKa ka hma) (hKb kb hmb) (a4 ka hma) (b4 kb hmb)
        have hF : kfits (.mk 6 ns ks) (.mk 6 ns' ks') = kfits ka kb := fits_congr (Fits.mm_iff hka hkb)
        simp only [go_sem, encK_mk, Int.reduceBEq, eka, ekb, Int.le_refl, Int.toNat_zero, List.length_map, encK_len, takeK]
        refine callC hC rfl rfl (by simp [closedA, closedP, closedC]) rfl ?_
        simp only [go_sem, hF]
      · have h6b : (s == 6) = false := beq_eq_false_iff_ne.2 h6
        have hC := ih kb hmb (.mk s ns ks) _ _ hOa (hKb kb hmb) hBa (b4 kb hmb)
        have hF : kfits (.mk s ns ks) (.mk 6 ns' ks') = kfits (.mk s ns ks) kb := fits_congr (Fits.m_iff h6 hkb)
        simp only [tK, encK_mk, List.map_cons, List.map_nil] at hC
        simp only [go_sem, encK_mk, Int.reduceBEq, h6b, ekb, Int.le_refl, Int.toNat_zero, List.length_map, encK_len, takeK]
        refine callC hC rfl rfl (by simp [closedA, closedP, closedC]) rfl ?_
        simp only [go_sem, hF]
    · have h6b' : (s' == 6) = false := beq_eq_false_iff_ne.2 h6'
      by_cases hss : s = s'
      · subst hss
        by_cases h4 : s = 4
        · subst h4
          have hl := hSa.one (.inl rfl)
          have hl' := hSb.one (.inl rfl)
          obtain ⟨kb, hkb⟩ : ∃ k, ks'[0]? = some k := ⟨_, List.getElem?_eq_getElem (by omega)⟩
          have hmb := List.mem_of_getElem? hkb
          have ekb := encKs_at hkb
          obtain ⟨ka, hka⟩ : ∃ k, ks[0]? = some k := ⟨_, List.getElem?_eq_getElem (by omega)⟩
          have hma := List.mem_of_getElem? hka
          have eka := encKs_at hka
          have hC := ih kb hmb ka _ _ (hKa ka hma) (hKb kb hmb) (a4 ka hma) (b4 kb hmb)
          have hF : kfits (.mk 4 ns ks) (.mk 4 ns' ks') = kfits ka kb := fits_congr (Fits.l_iff hka hkb)
          simp only [go_sem, encK_mk, Int.reduceBEq, Int.reduceBNe, eka, ekb, Int.le_refl, Int.toNat_zero, List.length_map, encK_len, takeK]
          refine callC hC rfl rfl (by simp [closedA, closedP, closedC]) rfl ?_
          simp only [go_sem, hF]
        · have h4b : (s == 4) = false := beq_eq_false_iff_ne.2 h4
          have hne : (s != s) = false := by simp
          have hlen : ns.length ≤ ks.length := by
            by_cases h5 : s = 5
            · have := (hSa.form h5).1; omega
            · have := hSa.other h5; omega
          have hlen' : ns'.length ≤ ks'.length := by
            by_cases h5 : s = 5
            · have := (hSb.form h5).1; omega
            · have := hSb.other h5; omega
          have hra : rise ns = true := by
            by_cases h5 : s = 5
            · exact (hSa.form h5).2
            · rw [List.length_eq_zero_iff.1 (hSa.other h5)]; exact rise_true.2 fun i s hs => by simp at hs
          have hrb : rise ns' = true := by
            by_cases h5 : s = 5
            · exact (hSb.form h5).2
            · rw [List.length_eq_zero_iff.1 (hSb.other h5)]; exact rise_true.2 fun i s hs => by simp at hs
          have hboth := both_len (rise_nodup (rise_true.1 hra)) (rise_nodup (rise_true.1 hrb))
          have hfin : FitJ ns ks ns' ks' ns'.length → (both ns ns').length = ns.length → Fits (.mk s ns ks) (.mk s ns' ks') := by
            intro g1 g2
            have g2 := hboth.1 g2
            by_cases h5 : s = 5
            · subst h5
              refine .f _ _ _ _ (fun i x hi => ?_) (fun i x k k' hi hk hk' => ?_) fun i x k' hi hk hq => ?_
              · obtain ⟨j, hj⟩ := List.mem_iff_getElem?.1 (g2 x (List.mem_of_getElem? hi))
                exact kid_len hlen' hj
              · obtain ⟨j, hj1, hj2⟩ := kid_mem hk'
                exact (g1 j (List.getElem?_eq_some_iff.1 hj1).1 x k' hj1 hj2).1 i k hi hk
              · refine (g1 i (List.getElem?_eq_some_iff.1 hi).1 x k' hi hk).2 fun l hl => ?_
                obtain ⟨k, hk⟩ := kid_len hlen hl
                rw [hq] at hk; cases hk
            · have := hSa.lo
              have := hSa.hi
              exact .leaf _ _ _ _ _ (by omega)
          have hbad : Fits (.mk s ns ks) (.mk s ns' ks') → FitJ ns ks ns' ks' ns'.length ∧ (both ns ns').length = ns.length := by
            intro h
            cases h with
            | mm => exact absurd rfl h6'
            | m => exact absurd rfl h6'
            | l => exact absurd rfl h4
            | leaf _ _ _ _ _ hs =>
              have e1 := hSa.other (by omega)
              have e2 := hSb.other (by omega)
              rw [List.length_eq_zero_iff] at e1 e2
              subst e1 e2
              exact ⟨fun j hj => absurd hj (Nat.not_lt_zero j), rfl⟩
            | f _ _ _ _ h1 h2 h3 =>
              refine ⟨fun j hj x k' hx hk' => ⟨fun l k hl hk => ?_, fun hno => h3 j x k' hx hk' (kid_none hno)⟩, hboth.2 fun x hx => ?_⟩
              · refine h2 l x k k' hl hk (kid_at (fun i hi e => ?_) hx hk')
                have := rise_inj (rise_true.1 hrb) e hx
                omega
              · obtain ⟨i, hi⟩ := List.mem_iff_getElem?.1 hx
                obtain ⟨k', hk'⟩ := h1 i x hi
                obtain ⟨j, hj, _⟩ := kid_mem hk'
                exact List.mem_of_getElem? hj
          simp only [go_sem, encK_mk, h6b', h4b, hne, encS_len]
          refine AW.upto ns'.length (inv49 s ns ks ns' ks') ⟨fun j hj => absurd hj (Nat.not_lt_zero j), ⟨_, rfl, rfl⟩, ⟨_, rfl, rfl⟩, rfl, rfl, rfl, rfl⟩ fun i t H c hi h => ?_
          obtain ⟨g0, ⟨u2, e2, eH2⟩, ⟨u3, e3, eH3⟩, e5, e58, e59, e60⟩ := h
          simp only [T.c, T.i] at e2 eH2 e3 eH3 e5 e58 e59 e60
          by_cases hlt : i < ns'.length
          · have k1 : (i : Int) < ns'.length := by omega
            have gz : (0 : Int) ≤ i := by omega
            have gw : IntKind.i64.wrap ((i : Int) + 1) = ((i + 1 : Nat) : Int) := wrap64 (x := (i : Int) + 1) ⟨by omega, by omega⟩
            obtain ⟨x, hx⟩ : ∃ y, ns'[i]? = some y := ⟨_, List.getElem?_eq_getElem hlt⟩
            obtain ⟨k', hk'⟩ : ∃ k, ks'[i]? = some k := ⟨_, List.getElem?_eq_getElem (by omega)⟩
            have hmk' := List.mem_of_getElem? hk'
            have es := encS_at hx
            have ek' := encKs_at hk'
            obtain ⟨J, b, hb1, hb2, hCs⟩ := search_ok ns x hra (by omega)
            have htk : ns'.take (i + 1) = ns'.take i ++ [x] := by rw [List.take_add_one, hx]; rfl
            have hbl : (both ns (ns'.take i)).length ≤ i := by
              have h1 : (both ns (ns'.take i)).length ≤ (ns'.take i).length := List.length_filter_le _ _
              have h2 : (ns'.take i).length ≤ i := by rw [List.length_take]; omega
              omega
            have key : ((∀ (l : Nat) k, ns[l]? = some x → ks[l]? = some k → Fits k k') ∧ ((∀ l : Nat, ns[l]? ≠ some x) → k'.sort = 6)) → FitJ ns ks ns' ks' (i + 1) := by
              intro h j hj x2 k2 h1 h2
              rcases Nat.lt_succ_iff_lt_or_eq.1 hj with hj | rfl
              · exact g0 j hj x2 k2 h1 h2
              · rw [hx] at h1; rw [hk'] at h2; cases h1; cases h2; exact h
            simp only [go_sem, e2, eH2, e3, eH3, e58, e59, e60, k1, gz, encS_len, es, Int.toNat_natCast]
            refine callC hCs rfl rfl (by simp [closedA, closedP, closedC]) (by simp [closedT, closedP, closedC]) ?_
            cases b with
            | true =>
              have hJ := hb1 rfl
              obtain ⟨k, hk⟩ : ∃ k, ks[J]? = some k := ⟨_, List.getElem?_eq_getElem (by have := (List.getElem?_eq_some_iff.1 hJ).1; omega)⟩
              have hmk := List.mem_of_getElem? hk
              have ek := encKs_at hk
              have gzJ : (0 : Int) ≤ J := by omega
              have hC := ih k' hmk' k _ _ (hKa k hmk) (hKb k' hmk') (a4 k hmk) (b4 k' hmk')
              simp only [go_sem, e2, eH2, e3, eH3, gz, gzJ, ek, ek', Int.toNat_natCast, List.length_map, encK_len, takeK, Nat.le_refl]
              refine callC hC rfl rfl (by simp [closedA, closedP, closedC]) rfl ?_
              cases hfk : kfits k k' with
              | false =>
                have hF : kfits (.mk s ns ks) (.mk s ns' ks') = false := fits_false.2 fun h => by
                  rw [fits_false] at hfk
                  exact hfk (((hbad h).1 i hlt x k' hx hk').1 J k hJ hk)
                simp only [go_sem, hF]
              | true =>
                have gw2 : IntKind.i64.wrap (((both ns (ns'.take i)).length : Int) + 1) = ((both ns (ns'.take (i + 1))).length : Int) := by
                  rw [htk, both_in (List.mem_of_getElem? hJ), wrap64 ⟨by omega, by omega⟩]; simp
                simp only [go_sem, e5, e60, gw, gw2]
                refine ⟨hlt, key ⟨fun l k2 hl hk2 => ?_, fun h => absurd hJ (h J)⟩, ⟨u2, e2, eH2⟩, ⟨u3, e3, eH3⟩, rfl, e58, e59, rfl⟩
                have := rise_inj (rise_true.1 hra) hl hJ
                subst this
                rw [hk] at hk2; cases hk2; exact fits_true.1 hfk
            | false =>
              have hno := hb2 rfl
              obtain ⟨rest, erest, hrest⟩ := encK_sort k'
              have hr3 : rest.length + 1 = 3 := by omega
              by_cases hs6 : k'.sort = 6
              · have hsb : (k'.sort != 6) = false := by rw [hs6]; rfl
                have gw2 : ((both ns (ns'.take i)).length : Int) = ((both ns (ns'.take (i + 1))).length : Int) := by
                  rw [htk, both_out (fun h => by obtain ⟨l, hl⟩ := List.mem_iff_getElem?.1 h; exact hno l hl)]
                simp only [go_sem, e2, eH2, e3, eH3, e60, gz, ek', erest, hr3, hsb, gw, Int.toNat_natCast, Nat.le_refl]
                refine ⟨hlt, key ⟨fun l k2 hl _ => absurd hl (hno l), fun _ => hs6⟩, ⟨u2, e2, eH2⟩, ⟨u3, e3, eH3⟩, ?_, e58, e59, rfl⟩
                rw [← gw2]; exact e5
              · have hsb : (k'.sort != 6) = true := by simp [hs6]
                have hF : kfits (.mk s ns ks) (.mk s ns' ks') = false := fits_false.2 fun h => hs6 (((hbad h).1 i hlt x k' hx hk').2 hno)
                simp only [go_sem, e2, eH2, e3, eH3, e60, gz, ek', erest, hr3, hsb, hF, Int.toNat_natCast, Nat.le_refl]
          · have hin : i = ns'.length := by omega
            subst hin
            have k1 : ¬ ((ns'.length : Nat) : Int) < ns'.length := by omega
            rw [List.take_length] at e5
            have hF : kfits (.mk s ns ks) (.mk s ns' ks') = (((both ns ns').length : Int) == (ns.length : Int)) := by
              by_cases h : (both ns ns').length = ns.length
              · rw [fits_true.2 (hfin g0 h)]; exact (beq_iff_eq.2 (by omega)).symm
              · rw [fits_false.2 fun h2 => h (hbad h2).2]; exact (beq_eq_false_iff_ne.2 (by omega)).symm
            simp only [go_sem, e2, eH2, e5, e59, e60, k1, encS_len, hF]
      · have hne : (s != s') = true := by simp [hss]
        have hF : kfits (.mk s ns ks) (.mk s' ns' ks') = false := fits_false.2 fun h => hss (h.sort_eq h6')
        simp only [go_sem, encK_mk, h6b', hne, hF]
def ok29 := okF.gu (P := Try.prog) tab Try.func29 Try.ntmps29 (by conv => lhs; cbv) (by kernel_rfl)
theorem kindFitsI_ok (a b : Kd) (ha : KB 2000000 a) (hb : KB 2000000 b) : ACallsF Try.prog 29 [tK a, tK b] [] (.b (okK a && (okK b && kfits a b))) := by
  refine ACallsF.intro ok29 follows fun X c0 => ?_
  simp only [go_sem, List.length_map, encK_len, takeK, Nat.le_refl]
  refine callC (kindOkI_ok a (ha.le (by omega))) rfl rfl (by simp [closedA, closedP, closedC]) rfl ?_
  cases h1 : okK a with
  | false => simp only [go_sem]
  | true =>
    simp only [go_sem, List.length_map, encK_len, takeK, Nat.le_refl]
    refine callC (kindOkI_ok b (hb.le (by omega))) rfl rfl (by simp [closedA, closedP, closedC]) rfl ?_
    cases h2 : okK b with
    | false => simp only [go_sem]
    | true =>
      simp only [go_sem, List.length_map, encK_len, takeK, Nat.le_refl]
      refine callC (fitsI_ok b a 1 1 (okK_true.1 h1).1 (okK_true.1 h2).1 ((okK_KB h1).le (by omega)) ((okK_KB h2).le (by omega))) rfl rfl (by simp [closedA, closedP, closedC]) rfl ?_
      simp only [go_sem]
end Go.V
set_option linter.unusedSimpArgs false
set_option maxRecDepth 20000
namespace Go.V
open Go.Proofs
def ok96 := okF.gu (P := Try.prog) tab Try.func96 Try.ntmps96 (by conv => lhs; cbv) (by kernel_rfl)
theorem isNum_ok (n : Int) : ACallsF Try.prog 96 [.i n] [] (.b (decide (-999999999 ≤ n) && decide (n ≤ 999999999))) := by
  refine ACallsF.intro ok96 follows fun X c0 => ?_
  simp only [go_sem]
  refine callC (inRange_ok n (-999999999) 999999999) rfl rfl rfl rfl ?_
  simp only [go_sem]
def printB (b : UInt8) : Prop := ¬ (b.toNat : Int) < 32 ∧ ¬ (b.toNat : Int) > 126 ∧ (b.toNat : Int) ≠ 34
def printP (s : ByteArray) : Prop := ∀ (j : Nat) b, s.data[j]? = some b → printB b
noncomputable def textOk (s : ByteArray) : Bool := @decide (printP s ∧ s.size ≤ 60) (Classical.propDecidable _)
theorem textOk_true {s : ByteArray} : textOk s = true ↔ printP s ∧ s.size ≤ 60 := by simp [textOk]
theorem textOk_false {s : ByteArray} : textOk s = false ↔ ¬ (printP s ∧ s.size ≤ 60) := by simp [textOk]
def ok97 := okF.gu (P := Try.prog) tab Try.func97 Try.ntmps97 (by conv => lhs; cbv) (by kernel_rfl)
def inv97 (s : ByteArray) (i : Nat) (σ : St) : Prop := (∀ (j : Nat) b, j < i → s.data[j]? = some b → printB b) ∧ σ.t 0 = .s (.string s) ∧ σ.t 5 = .i s.size ∧ σ.t 6 = .i i
theorem isText_ok (s : ByteArray) (hs : s.size ≤ 4611686018427387904) : ACallsF Try.prog 97 [.s (.string s)] [] (.b (textOk s)) := by
  refine ACallsF.intro ok97 follows fun X c0 => ?_
  simp only [go_sem]
  refine AW.upto s.size (inv97 s) ⟨fun j _ hj => absurd hj (Nat.not_lt_zero j), rfl, rfl, rfl⟩ fun i t H c hi h => ?_
  obtain ⟨g0, e0, e5, e6⟩ := h
  simp only [T.c, T.i, T.s] at e0 e5 e6
  by_cases hlt : i < s.size
  · have g1 : (i : Int) < s.size := by omega
    have gz : (0 : Int) ≤ i := by omega
    have gw : IntKind.i64.wrap ((i : Int) + 1) = ((i + 1 : Nat) : Int) := wrap64 (x := (i : Int) + 1) ⟨by omega, by omega⟩
    obtain ⟨b, hb⟩ : ∃ b, s.data[i]? = some b := ⟨_, Array.getElem?_eq_getElem (by rw [← size_data]; omega)⟩
    have hbad : ¬ printB b → textOk s = false := fun h => textOk_false.2 fun h2 => h (h2.1 i b hb)
    by_cases k1 : (b.toNat : Int) < 32
    · have hm := hbad fun h => h.1 k1
      simp only [go_sem, e0, e5, e6, g1, gz, hb, Int.toNat_natCast, k1, hm]
    by_cases k2 : (b.toNat : Int) > 126
    · have hm := hbad fun h => h.2.1 k2
      simp only [go_sem, e0, e5, e6, g1, gz, hb, Int.toNat_natCast, k1, k2, hm]
    by_cases k3 : (b.toNat : Int) = 34
    · have hm := hbad fun h => h.2.2 k3
      have k3b : ((b.toNat : Int) == 34) = true := beq_iff_eq.2 k3
      simp only [go_sem, e0, e5, e6, g1, gz, hb, Int.toNat_natCast, k1, k2, k3b, hm]
    · have k3b : ((b.toNat : Int) == 34) = false := beq_eq_false_iff_ne.2 k3
      simp only [go_sem, e0, e5, e6, g1, gz, hb, Int.toNat_natCast, k1, k2, k3b, gw]
      refine ⟨hlt, fun j b' hj hj2 => ?_, e0, e5, rfl⟩
      rcases Nat.lt_succ_iff_lt_or_eq.1 hj with hj | rfl
      · exact g0 j b' hj hj2
      · rw [hb] at hj2; cases hj2; exact ⟨k1, k2, k3⟩
  · have g1 : ¬ (i : Int) < s.size := by omega
    have hp : printP s := fun j b hj => g0 j b (by have := (Array.getElem?_eq_some_iff.1 hj).1; rw [size_data] at hlt; omega) hj
    have hm : textOk s = decide ((s.size : Int) ≤ 60) := by
      by_cases h : s.size ≤ 60
      · rw [textOk_true.2 ⟨hp, h⟩]; exact (decide_eq_true (by omega)).symm
      · rw [textOk_false.2 fun h2 => h h2.2]; exact (decide_eq_false (by omega)).symm
    simp only [go_sem, e0, e5, e6, g1, hm]
def ok83 := okF.gu (P := Try.prog) tab Try.func83 Try.ntmps83 (by conv => lhs; cbv) (by kernel_rfl)
abbrev emptyB : ByteArray := ⟨#[]⟩
noncomputable def tshape (s n : Int) (x : ByteArray) (ns : List ByteArray) (m : Nat) : Bool :=
  if s = 1 then (decide (-999999999 ≤ n) && decide (n ≤ 999999999)) && (decide (x = ⟨#[]⟩) && ((ns.length : Int) + (m : Int) == 0))
  else if s = 2 then (n == 0) && (textOk x && ((ns.length : Int) + (m : Int) == 0))
  else if s = 3 then (decide (0 ≤ n) && decide (n ≤ 1)) && (decide (x = ⟨#[]⟩) && ((ns.length : Int) + (m : Int) == 0))
  else if s = 4 then (n == 0) && (decide (x = ⟨#[]⟩) && (((ns.length : Int) == 0) && decide ((m : Int) ≤ 20)))
  else if s = 5 then (n == 0) && (decide (x = ⟨#[]⟩) && (rise ns && ((ns.length : Int) == (m : Int))))
  else if s = 6 then (n == 0) && (decide (x = ⟨#[]⟩) && (((ns.length : Int) == 0) && decide ((m : Int) ≤ 1)))
  else false
theorem tshape_ok (s n : Int) (x : ByteArray) (ns : List ByteArray) (ks : List Tr) (hx : x.size ≤ 2000000) (hl : ns.length ≤ 2000000 ∧ ks.length ≤ 2000000) (hs : ∀ s ∈ ns, s.size ≤ 2000000) : ACallsF Try.prog 83 [tT (.mk s n x ns ks)] [] (.b (tshape s n x ns ks.length)) := by
  have w1 : IntKind.i64.wrap ((ns.length : Int) + (ks.length : Int)) = (ns.length : Int) + (ks.length : Int) := wrap64 ⟨by omega, by omega⟩
  refine ACallsF.intro ok83 follows fun X c0 => ?_
  by_cases h1 : s = 1
  · subst h1
    have hm : tshape 1 n x ns ks.length = ((decide (-999999999 ≤ n) && decide (n ≤ 999999999)) && (decide (x = ⟨#[]⟩) && ((ns.length : Int) + (ks.length : Int) == 0))) := if_pos rfl
    simp only [go_sem, encT_mk, encTs_len, encS_len, Int.reduceBEq]
    refine callC (isNum_ok n) rfl rfl rfl rfl ?_
    rw [hm]
    generalize (decide (-999999999 ≤ n) && decide (n ≤ 999999999)) = A
    cases A
    · simp only [go_sem, encT_mk, encTs_len, encS_len]
    by_cases hx0 : x = ⟨#[]⟩
    · simp only [go_sem, encT_mk, encTs_len, encS_len, sStr, str_beq, hx0, w1]
    · simp only [go_sem, encT_mk, encTs_len, encS_len, sStr, str_beq, hx0, w1]
  have b1 : (s == 1) = false := beq_eq_false_iff_ne.2 h1
  by_cases h2 : s = 2
  · subst h2
    have hm : tshape 2 n x ns ks.length = ((n == 0) && (textOk x && ((ns.length : Int) + (ks.length : Int) == 0))) := rfl
    rw [hm]
    cases hn : (n == 0) with
    | false => simp only [go_sem, encT_mk, encTs_len, encS_len, Int.reduceBEq, hn]
    | true =>
      simp only [go_sem, encT_mk, encTs_len, encS_len, Int.reduceBEq, hn]
      refine callC (isText_ok x (by omega)) rfl rfl rfl rfl ?_
      cases ht : textOk x with
      | false => simp only [go_sem, encT_mk, encTs_len, encS_len]
      | true => simp only [go_sem, encT_mk, encTs_len, encS_len, w1]
  have b2 : (s == 2) = false := beq_eq_false_iff_ne.2 h2
  by_cases h3 : s = 3
  · subst h3
    have hm : tshape 3 n x ns ks.length = ((decide (0 ≤ n) && decide (n ≤ 1)) && (decide (x = ⟨#[]⟩) && ((ns.length : Int) + (ks.length : Int) == 0))) := rfl
    simp only [go_sem, encT_mk, encTs_len, encS_len, Int.reduceBEq]
    refine callC (inRange_ok n 0 1) rfl rfl rfl rfl ?_
    rw [hm]
    generalize (decide (0 ≤ n) && decide (n ≤ 1)) = A
    cases A
    · simp only [go_sem, encT_mk, encTs_len, encS_len]
    by_cases hx0 : x = ⟨#[]⟩
    · simp only [go_sem, encT_mk, encTs_len, encS_len, sStr, str_beq, hx0, w1]
    · simp only [go_sem, encT_mk, encTs_len, encS_len, sStr, str_beq, hx0, w1]
  have b3 : (s == 3) = false := beq_eq_false_iff_ne.2 h3
  by_cases h4 : s = 4
  · subst h4
    have hm : tshape 4 n x ns ks.length = ((n == 0) && (decide (x = ⟨#[]⟩) && (((ns.length : Int) == 0) && decide ((ks.length : Int) ≤ 20)))) := rfl
    rw [hm]
    cases hn : (n == 0) with
    | false => simp only [go_sem, encT_mk, encTs_len, encS_len, Int.reduceBEq, hn]
    | true =>
      by_cases hx0 : x = ⟨#[]⟩
      · cases hl0 : ((ns.length : Int) == 0) with
        | false => simp only [go_sem, encT_mk, encTs_len, encS_len, Int.reduceBEq, hn, sStr, str_beq, hx0, hl0]
        | true => simp only [go_sem, encT_mk, encTs_len, encS_len, Int.reduceBEq, hn, sStr, str_beq, hx0, hl0]
      · simp only [go_sem, encT_mk, encTs_len, encS_len, Int.reduceBEq, hn, sStr, str_beq, hx0]
  have b4 : (s == 4) = false := beq_eq_false_iff_ne.2 h4
  by_cases h5 : s = 5
  · subst h5
    have hm : tshape 5 n x ns ks.length = ((n == 0) && (decide (x = ⟨#[]⟩) && (rise ns && ((ns.length : Int) == (ks.length : Int))))) := rfl
    rw [hm]
    cases hn : (n == 0) with
    | false => simp only [go_sem, encT_mk, encTs_len, encS_len, Int.reduceBEq, hn]
    | true =>
      by_cases hx0 : x = ⟨#[]⟩
      · simp only [go_sem, encT_mk, encTs_len, encS_len, Int.reduceBEq, hn, sStr, str_beq, hx0]
        refine callC (areNames_ok ns (by omega) (fun s h => by have := hs s h; omega)) rfl rfl rfl rfl ?_
        cases hr : rise ns with
        | false => simp only [go_sem, encT_mk, encTs_len, encS_len]
        | true => simp only [go_sem, encT_mk, encTs_len, encS_len]
      · simp only [go_sem, encT_mk, encTs_len, encS_len, Int.reduceBEq, hn, sStr, str_beq, hx0]
  have b5 : (s == 5) = false := beq_eq_false_iff_ne.2 h5
  by_cases h6 : s = 6
  · subst h6
    have hm : tshape 6 n x ns ks.length = ((n == 0) && (decide (x = ⟨#[]⟩) && (((ns.length : Int) == 0) && decide ((ks.length : Int) ≤ 1)))) := rfl
    rw [hm]
    cases hn : (n == 0) with
    | false => simp only [go_sem, encT_mk, encTs_len, encS_len, Int.reduceBEq, hn]
    | true =>
      by_cases hx0 : x = ⟨#[]⟩
      · cases hl0 : ((ns.length : Int) == 0) with
        | false => simp only [go_sem, encT_mk, encTs_len, encS_len, Int.reduceBEq, hn, sStr, str_beq, hx0, hl0]
        | true => simp only [go_sem, encT_mk, encTs_len, encS_len, Int.reduceBEq, hn, sStr, str_beq, hx0, hl0]
      · simp only [go_sem, encT_mk, encTs_len, encS_len, Int.reduceBEq, hn, sStr, str_beq, hx0]
  have b6 : (s == 6) = false := beq_eq_false_iff_ne.2 h6
  have hm : tshape s n x ns ks.length = false := by simp [tshape, h1, h2, h3, h4, h5, h6]
  simp only [go_sem, encT_mk, encTs_len, encS_len, b1, b2, b3, b4, b5, b6, hm]
end Go.V
set_option linter.unusedSimpArgs false
set_option maxRecDepth 20000
namespace Go.V
open Go.Proofs
mutual
def tparts : Tr → Nat
  | .mk _ _ _ _ ks => 1 + tpartsL ks
def tpartsL : List Tr → Nat
  | [] => 0
  | k :: ks => tparts k + tpartsL ks
end
theorem tpartsL_snoc (ks : List Tr) (k : Tr) : tpartsL (ks ++ [k]) = tpartsL ks + tparts k := by
  induction ks with
  | nil => simp [tpartsL]
  | cons x xs ih => simp [tpartsL, ih]; omega
theorem tparts_pos (k : Tr) : 1 ≤ tparts k := by cases k; simp [tparts]
theorem tpartsL_take_le (ks : List Tr) (i : Nat) : tpartsL (ks.take i) ≤ tpartsL ks := by
  induction ks generalizing i with
  | nil => simp
  | cons k ks ih => cases i with
    | zero => simp [tpartsL]
    | succ i => simp only [List.take_succ_cons, tpartsL]; have := ih i; omega
/-- A tree's shapes and depth. -/
inductive TOk : Nat → Tr → Prop
  | mk (d : Nat) (s n : Int) (x : ByteArray) (ns : List ByteArray) (ks : List Tr) (h1 : d ≤ 6) (h2 : tshape s n x ns ks.length = true) (h3 : ∀ k ∈ ks, TOk (d + 1) k) : TOk d (.mk s n x ns ks)
theorem TOk.inv {d : Nat} {s n : Int} {x : ByteArray} {ns : List ByteArray} {ks : List Tr} (h : TOk d (.mk s n x ns ks)) : d ≤ 6 ∧ tshape s n x ns ks.length = true ∧ ∀ k ∈ ks, TOk (d + 1) k := by
  cases h with
  | mk _ _ _ _ _ _ h1 h2 h3 => exact ⟨h1, h2, h3⟩
theorem encTs_at' {ks : List Tr} {i : Nat} {k : Tr} (h : ks[i]? = some k) : (encTs ks)[i]? = some (encT k) := encTs_at h
def ok73 := okF.gu (P := Try.prog) tab Try.func73 Try.ntmps73 (by conv => lhs; cbv) (by kernel_rfl)
def LookT (d : Nat) (k : Tr) (p : Nat) (p' : Int) (b : Bool) : Prop := (TOk d k ∧ p + tparts k ≤ 120 ∧ b = true ∧ p' = (p + tparts k : Nat)) ∨ (¬ (TOk d k ∧ p + tparts k ≤ 120) ∧ b = false)
def inv73 (v d : Nat) (p : Nat) (ks : List Tr) (i : Nat) (σ : St) : Prop :=
  σ.t 1 = .i d ∧ σ.t 2 = .c (.ptr 1001 v 0) ∧ σ.t 28 = .c (.v (.sl (encTs ks))) ∧ σ.t 29 = .i ks.length ∧ σ.t 30 = .i i ∧ σ.H 1001 = some (.var v 3 [.v (.s (.int .i64 ((p + 1 + tpartsL (ks.take i) : Nat) : Int)))])
theorem lookT_ok : ∀ k : Tr, TB 2000000 k → ∀ d p : Nat, d ≤ 100 → p ≤ 2000000 → ∃ (p' : Int) (b : Bool), LookT d k p p' b ∧ ∀ m v, ACallsF Try.prog 73 [tT k, .i d, .c (.ptr 1001 v 0)] [lH m v p p'] (.b b) := by
  intro k
  induction k using Tr.ind with
  | _ s nn x ns ks ih =>
    intro hB d p hd hp
    obtain ⟨hB0, hB1, hB2, hB3, hB4⟩ := hB.inv
    have gw : IntKind.i64.wrap ((p : Int) + 1) = ((p + 1 : Nat) : Int) := (wrap64 ⟨by omega, by omega⟩).trans (by omega)
    have hCs := tshape_ok s nn x ns ks hB0 ⟨hB1, hB2⟩ hB3
    simp only [tT, encT_mk, List.map_cons, List.map_nil] at hCs
    have htake : ∀ i k, ks[i]? = some k → tpartsL (ks.take (i + 1)) = tpartsL (ks.take i) + tparts k := fun i k hk => by
      rw [List.take_add_one, hk]; exact tpartsL_snoc _ _
    by_cases hgood : d ≤ 6 ∧ p + 1 ≤ 120 ∧ tshape s nn x ns ks.length = true
    · obtain ⟨hd6, hp120, hS⟩ := hgood
      have k1 : ¬ (d : Int) > 6 := by omega
      have k2 : ¬ ((p + 1 : Nat) : Int) > 120 := by omega
      have hsb := hS
      obtain ⟨N, p', b, hN, hok, hR, hend⟩ : ∃ (N : Nat) (p' : Int) (b : Bool), N ≤ ks.length ∧ (∀ i k, i < N → ks[i]? = some k → TOk (d + 1) k ∧ p + 1 + tpartsL (ks.take (i + 1)) ≤ 120) ∧ LookT d (.mk s nn x ns ks) p p' b ∧
          ((N = ks.length ∧ b = true ∧ p' = ((p + 1 + tpartsL (ks.take N) : Nat) : Int)) ∨ ∃ k, ks[N]? = some k ∧ b = false ∧ ∀ m v, ACallsF Try.prog 73 [tT k, .i (d + 1 : Nat), .c (.ptr 1001 v 0)] [lH m v ((p + 1 + tpartsL (ks.take N) : Nat) : Int) p'] (.b false)) := by
        by_cases hbad : ∃ i, ∃ k, ks[i]? = some k ∧ ¬ (TOk (d + 1) k ∧ p + 1 + tpartsL (ks.take (i + 1)) ≤ 120)
        · obtain ⟨N, ⟨k, hk, hno⟩, hmin⟩ := least hbad
          have hlt := (List.getElem?_eq_some_iff.1 hk).1
          have hmem := List.mem_of_getElem? hk
          have hpre : ∀ i k, i < N → ks[i]? = some k → TOk (d + 1) k ∧ p + 1 + tpartsL (ks.take (i + 1)) ≤ 120 := fun i k2 hi hk2 => by
            by_cases h : TOk (d + 1) k2 ∧ p + 1 + tpartsL (ks.take (i + 1)) ≤ 120
            · exact h
            · have := hmin i ⟨k2, hk2, h⟩; omega
          have hq : p + 1 + tpartsL (ks.take N) ≤ 120 := by
            cases N with
            | zero => simp [tpartsL]; omega
            | succ n => exact (hpre n _ (by omega) (List.getElem?_eq_getElem (by omega))).2
          obtain ⟨p2, b2, hR2, hC2⟩ := ih k hmem (hB4 k hmem) (d + 1) (p + 1 + tpartsL (ks.take N)) (by omega) (by omega)
          rcases hR2 with ⟨r1, r2, _⟩ | ⟨_, rfl⟩
          · exact absurd ⟨r1, by rw [htake N k hk]; omega⟩ hno
          · refine ⟨N, p2, false, by omega, hpre, .inr ⟨fun h => hno ?_, rfl⟩, .inr ⟨k, hk, rfl, hC2⟩⟩
            obtain ⟨h1, h2⟩ := h
            refine ⟨h1.inv.2.2 k hmem, ?_⟩
            have := tpartsL_take_le ks (N + 1)
            simp only [tparts] at h2
            omega
        · have hall : ∀ i k, ks[i]? = some k → TOk (d + 1) k ∧ p + 1 + tpartsL (ks.take (i + 1)) ≤ 120 := fun i k hk => by
            by_cases h : TOk (d + 1) k ∧ p + 1 + tpartsL (ks.take (i + 1)) ≤ 120
            · exact h
            · exact absurd ⟨i, k, hk, h⟩ hbad
          refine ⟨ks.length, ((p + 1 + tpartsL (ks.take ks.length) : Nat) : Int), true, Nat.le_refl _, fun i k _ hk => hall i k hk, .inl ⟨.mk _ _ _ _ _ _ hd6 hS fun k hk => ?_, ?_, rfl, ?_⟩, .inl ⟨rfl, rfl, rfl⟩⟩
          · obtain ⟨i, hi⟩ := List.mem_iff_getElem?.1 hk
            exact (hall i k hi).1
          · simp only [tparts]
            cases hk0 : ks.length with
            | zero => rw [List.length_eq_zero_iff] at hk0; subst hk0; simp [tpartsL]; omega
            | succ n =>
              have := (hall n _ (List.getElem?_eq_getElem (by omega))).2
              rw [← hk0, List.take_length] at this
              omega
          · rw [List.take_length]; simp only [tparts]; omega
      refine ⟨p', b, hR, fun m v => ACallsF.intro ok73 follows fun X c0 => ?_⟩
      simp only [go_sem, encT_mk, encTs_len, gw, k1, k2]
      refine callC hCs rfl rfl (by simp [closedA, closedP, closedC]) rfl ?_
      simp only [go_sem, encT_mk, encTs_len, hsb]
      refine AW.upto N (inv73 v d p ks) ⟨rfl, rfl, rfl, rfl, rfl, by simp [tpartsL]⟩ fun i t H c hi h => ?_
      obtain ⟨e1, e2, e28, e29, e30, eH⟩ := h
      simp only [T.c, T.i] at e1 e2 e28 e29 e30 eH
      have gz : (0 : Int) ≤ i := by omega
      have gw2 : IntKind.i64.wrap ((i : Int) + 1) = ((i + 1 : Nat) : Int) := wrap64 (x := (i : Int) + 1) ⟨by omega, by omega⟩
      have gd : IntKind.i64.wrap ((d : Int) + 1) = ((d + 1 : Nat) : Int) := wrap64 (x := (d : Int) + 1) ⟨by omega, by omega⟩
      by_cases hlt : i < N
      · have k3 : (i : Int) < ks.length := by omega
        obtain ⟨k, hk⟩ : ∃ k, ks[i]? = some k := ⟨_, List.getElem?_eq_getElem (by omega)⟩
        have hmem := List.mem_of_getElem? hk
        have ek := encTs_at hk
        obtain ⟨o1, o2⟩ := hok i k hlt hk
        have ht := htake i k hk
        obtain ⟨p2, b2, hR2, hC2⟩ := ih k hmem (hB4 k hmem) (d + 1) (p + 1 + tpartsL (ks.take i)) (by omega) (by omega)
        rcases hR2 with ⟨_, _, rfl, rfl⟩ | ⟨r1, _⟩
        · simp only [go_sem, e1, e2, e28, e29, e30, k3, gz, ek, Int.toNat_natCast, gd, List.length_map, encT_len, takeT, Nat.le_refl]
          refine callP (argsC := [tT k, .i (d + 1 : Nat)]) (hC2 1001 v) rfl rfl (by simp [closedA, closedP, closedC]) rfl eH ⟨rfl, ?_⟩
          simp only [go_sem, e30, gw2]
          exact ⟨hlt, e1, e2, e28, e29, rfl, by rw [ht, ← Nat.add_assoc]; rfl⟩
        · exact absurd ⟨o1, by rw [ht] at o2; omega⟩ r1
      · have hiN : i = N := by omega
        subst hiN
        rcases hend with ⟨rfl, rfl, rfl⟩ | ⟨k, hk, rfl, hC2⟩
        · have k3 : ¬ ((ks.length : Nat) : Int) < ks.length := by omega
          simp only [go_sem, e29, e30, k3, eH]
        · have hlt2 := (List.getElem?_eq_some_iff.1 hk).1
          have k3 : (i : Int) < ks.length := by omega
          have ek := encTs_at hk
          simp only [go_sem, e1, e2, e28, e29, e30, k3, gz, ek, Int.toNat_natCast, gd, List.length_map, encT_len, takeT, Nat.le_refl]
          refine callP (argsC := [tT k, .i (d + 1 : Nat)]) (hC2 1001 v) rfl rfl (by simp [closedA, closedP, closedC]) rfl eH ⟨rfl, ?_⟩
          simp only [go_sem]
    · refine ⟨((p + 1 : Nat) : Int), false, .inr ⟨fun h => hgood ⟨h.1.inv.1, by have := tparts_pos (.mk s nn x ns ks); omega, h.1.inv.2.1⟩, rfl⟩, fun m v => ACallsF.intro ok73 follows fun X c0 => ?_⟩
      by_cases h1 : (d : Int) > 6
      · simp only [go_sem, encT_mk, encTs_len, gw, h1]
      · by_cases h2 : ((p + 1 : Nat) : Int) > 120
        · simp only [go_sem, encT_mk, encTs_len, gw, h1, h2]
        · have hsb : tshape s nn x ns ks.length = false := by
            cases h : tshape s nn x ns ks.length with
            | false => rfl
            | true => exact absurd ⟨by omega, by omega, h⟩ hgood
          simp only [go_sem, encT_mk, encTs_len, gw, h1, h2]
          refine callC hCs rfl rfl (by simp [closedA, closedP, closedC]) rfl ?_
          simp only [go_sem, encT_mk, encTs_len, hsb]
def ok54 := okF.gu (P := Try.prog) tab Try.func54 Try.ntmps54 (by conv => lhs; cbv) (by kernel_rfl)
/-- What TreeParts tells. -/
def PartsT (t : Tr) (q : Int) : Prop := (TOk 1 t ∧ tparts t ≤ 120 ∧ q = tparts t) ∨ (¬ (TOk 1 t ∧ tparts t ≤ 120) ∧ q = 0)
theorem treeParts_ok (t : Tr) (hB : TB 2000000 t) : ∃ q, PartsT t q ∧ ACallsF Try.prog 54 [tT t] [] (.i q) := by
  obtain ⟨p', b, hR, hC⟩ := lookT_ok t hB 1 0 (by omega) (by omega)
  rcases hR with ⟨h1, h2, rfl, rfl⟩ | ⟨h1, rfl⟩
  · refine ⟨_, .inl ⟨h1, by omega, rfl⟩, ACallsF.intro ok54 follows fun X c0 => ?_⟩
    simp only [go_sem, List.length_map, encT_len, takeT, Nat.le_refl]
    refine callP (argsC := [tT t, .i (1 : Nat)]) (hC 3 _) rfl rfl (by simp [closedA, closedP, closedC]) rfl rfl ⟨rfl, ?_⟩
    simp only [go_sem]
  · refine ⟨_, .inr ⟨fun h => h1 ⟨h.1, by omega⟩, rfl⟩, ACallsF.intro ok54 follows fun X c0 => ?_⟩
    simp only [go_sem, List.length_map, encT_len, takeT, Nat.le_refl]
    refine callP (argsC := [tT t, .i (1 : Nat)]) (hC 3 _) rfl rfl (by simp [closedA, closedP, closedC]) rfl rfl ⟨rfl, ?_⟩
    simp only [go_sem]
noncomputable def okT (t : Tr) : Bool := @decide (TOk 1 t ∧ tparts t ≤ 120) (Classical.propDecidable _)
theorem okT_true {t : Tr} : okT t = true ↔ TOk 1 t ∧ tparts t ≤ 120 := by simp [okT]
theorem okT_false {t : Tr} : okT t = false ↔ ¬ (TOk 1 t ∧ tparts t ≤ 120) := by simp [okT]
def ok32 := okF.gu (P := Try.prog) tab Try.func32 Try.ntmps32 (by conv => lhs; cbv) (by kernel_rfl)
theorem treeOk_ok (t : Tr) (hB : TB 2000000 t) : ACallsF Try.prog 32 [tT t] [] (.b (okT t)) := by
  obtain ⟨q, hq, hC⟩ := treeParts_ok t hB
  refine ACallsF.intro ok32 follows fun X c0 => ?_
  simp only [go_sem, List.length_map, encT_len, takeT, Nat.le_refl]
  refine callC hC rfl rfl (by simp [closedA, closedP, closedC]) rfl ?_
  rcases hq with ⟨h1, h2, rfl⟩ | ⟨h1, rfl⟩
  · have hm : okT t = true := okT_true.2 ⟨h1, h2⟩
    have k1 : (tparts t : Int) > 0 := by have := tparts_pos t; omega
    simp only [go_sem, hm, k1]
  · have hm : okT t = false := okT_false.2 h1
    have k1 : ¬ (0 : Int) > 0 := by omega
    simp only [go_sem, hm, k1]
end Go.V
set_option linter.unusedSimpArgs false
set_option maxRecDepth 20000
namespace Go.V
open Go.Proofs
def sel (s : Int) (ks : List Kd) (i : Nat) : Option Kd := if s = 5 then ks[i]? else ks[0]?
/-- A tree is of a schema. -/
inductive Has : Kd → Tr → Prop
  | mk (s n : Int) (x : ByteArray) (ns : List ByteArray) (ks : List Kd) (ns' : List ByteArray) (ts : List Tr) (h1 : s = 5 → ns = ns') (h2 : ∀ (i : Nat) t k, ts[i]? = some t → sel s ks i = some k → Has k t) : Has (.mk s ns ks) (.mk s n x ns' ts)
theorem Has.inv {s s' n : Int} {x : ByteArray} {ns : List ByteArray} {ks : List Kd} {ns' : List ByteArray} {ts : List Tr} (h : Has (.mk s ns ks) (.mk s' n x ns' ts)) : s = s' ∧ (s = 5 → ns = ns') ∧ ∀ (i : Nat) t k, ts[i]? = some t → sel s ks i = some k → Has k t := by
  cases h with
  | mk _ _ _ _ _ _ _ h1 h2 => exact ⟨rfl, h1, h2⟩
noncomputable def has (k : Kd) (t : Tr) : Bool := @decide (Has k t) (Classical.propDecidable _)
theorem has_true {k : Kd} {t : Tr} : has k t = true ↔ Has k t := by simp [has]
theorem has_false {k : Kd} {t : Tr} : has k t = false ↔ ¬ Has k t := by simp [has]
structure TSh (s n : Int) (x : ByteArray) (ns : List ByteArray) (m : Nat) : Prop where
  lo : 1 ≤ s
  hi : s ≤ 6
  form : s = 5 → ns.length = m ∧ rise ns = true
  other : s ≠ 5 → ns.length = 0
  leaf : s < 4 → m = 0
  list : s = 4 → m ≤ 20
  opt : s = 6 → m ≤ 1
  inner : 4 ≤ s → n = 0 ∧ x = ⟨#[]⟩
theorem tshape_sh {s n : Int} {x : ByteArray} {ns : List ByteArray} {m : Nat} (h : tshape s n x ns m = true) : TSh s n x ns m := by
  unfold tshape at h
  split at h
  · rename_i e; subst e
    simp only [Bool.and_eq_true, beq_iff_eq] at h
    exact ⟨by omega, by omega, fun h => by omega, fun _ => by omega, fun _ => by omega, fun h => by omega, fun h => by omega, fun h => by omega⟩
  split at h
  · rename_i e; subst e
    simp only [Bool.and_eq_true, beq_iff_eq] at h
    exact ⟨by omega, by omega, fun h => by omega, fun _ => by omega, fun _ => by omega, fun h => by omega, fun h => by omega, fun h => by omega⟩
  split at h
  · rename_i e; subst e
    simp only [Bool.and_eq_true, beq_iff_eq] at h
    exact ⟨by omega, by omega, fun h => by omega, fun _ => by omega, fun _ => by omega, fun h => by omega, fun h => by omega, fun h => by omega⟩
  split at h
  · rename_i e; subst e
    simp only [Bool.and_eq_true, beq_iff_eq, decide_eq_true_eq] at h
    exact ⟨by omega, by omega, fun h => by omega, fun _ => by omega, fun h => by omega, fun _ => by omega, fun h => by omega, fun _ => ⟨h.1, h.2.1⟩⟩
  split at h
  · rename_i e; subst e
    simp only [Bool.and_eq_true, beq_iff_eq, decide_eq_true_eq] at h
    exact ⟨by omega, by omega, fun _ => ⟨by omega, h.2.2.1⟩, fun h => absurd rfl h, fun h => by omega, fun h => by omega, fun h => by omega, fun _ => ⟨h.1, h.2.1⟩⟩
  split at h
  · rename_i e; subst e
    simp only [Bool.and_eq_true, beq_iff_eq, decide_eq_true_eq] at h
    exact ⟨by omega, by omega, fun h => by omega, fun _ => by omega, fun h => by omega, fun h => by omega, fun _ => by omega, fun _ => ⟨h.1, h.2.1⟩⟩
  · cases h
/-- Where a kid is, a schema for it is. -/
theorem sel_some {s n : Int} {x : ByteArray} {ns : List ByteArray} {ks : List Kd} {ns' : List ByteArray} {ts : List Tr} (hS : Shape s ns ks) (hT : TSh s n x ns' ts.length) (h1 : s = 5 → ns = ns') {i : Nat} (hi : i < ts.length) : ∃ k k0, sel s ks i = some k ∧ ks[0]? = some k0 ∧ k ∈ ks := by
  by_cases h5 : s = 5
  · have e1 := (hS.form h5).1
    have e2 := (hT.form h5).1
    rw [h1 h5] at e1
    have hk : ks[i]? = some (ks[i]'(by omega)) := List.getElem?_eq_getElem _
    exact ⟨_, _, by rw [sel, if_pos h5]; exact hk, List.getElem?_eq_getElem (by omega), List.mem_of_getElem? hk⟩
  · by_cases h4 : s < 4
    · have := hT.leaf h4; omega
    · have := hS.one (by have := hS.hi; omega)
      have hk : ks[0]? = some (ks[0]'(by omega)) := List.getElem?_eq_getElem _
      exact ⟨_, _, by rw [sel, if_neg h5]; exact hk, hk, List.mem_of_getElem? hk⟩
theorem dropK (k : Kd) : List.drop 3 (List.map C.v (encK k)) = [] := List.drop_of_length_le (by rw [List.length_map, encK_len]; exact Nat.le_refl _)
theorem dropT (k : Tr) : List.drop 5 (List.map C.v (encT k)) = [] := List.drop_of_length_le (by rw [List.length_map, encT_len]; exact Nat.le_refl _)
def ok50 := okF.gu (P := Try.prog) tab Try.func50 Try.ntmps50 (by conv => lhs; cbv) (by kernel_rfl)
def inv50 (s n : Int) (x : ByteArray) (ns : List ByteArray) (ks : List Kd) (ns' : List ByteArray) (ts : List Tr) (i : Nat) (σ : St) : Prop :=
  (∀ j, j < i → ∀ t k, ts[j]? = some t → sel s ks j = some k → Has k t) ∧ (∃ u, σ.t 2 = .c (.ptr 2 u 0) ∧ σ.H 2 = some (.var u 38 [.v (.s (.int .i64 s)), .v (.sl (encS ns)), .v (.sl (encKs ks))])) ∧
  (∃ u, σ.t 3 = .c (.ptr 3 u 0) ∧ σ.H 3 = some (.var u 33 [.v (.s (.int .i64 s)), .v (.s (.int .i64 n)), .v (.s (.string x)), .v (.sl (encS ns')), .v (.sl (encTs ts))])) ∧ σ.t 27 = .c (.v (.sl (encTs ts))) ∧ σ.t 28 = .i ts.length ∧ σ.t 29 = .i i
theorem has_ok : ∀ (k : Kd) (t : Tr) (d d' : Nat), KOk d k → TOk d' t → KB 2000 k → TB 2000000 t → ACallsF Try.prog 50 [tK k, tT t] [] (.b (has k t)) := by
  intro k
  induction k using Kd.ind with
  | _ s ns ks ih =>
    intro t d d' hOk hOt hBk hBt
    obtain ⟨s', n, x, ns', ts⟩ := t
    obtain ⟨_, hS, hK⟩ := hOk.inv
    obtain ⟨_, hT, hTk⟩ := hOt.inv
    have hT := tshape_sh hT
    obtain ⟨k1, k2, k3, k4⟩ := hBk.inv
    obtain ⟨t0, t1, t2, t3, t4⟩ := hBt.inv
    refine ACallsF.intro ok50 follows fun X c0 => ?_
    by_cases hss : s = s'
    · subst hss
      have hne : (s != s) = false := by simp
      have main : (s = 5 → ns = ns') → ∀ (X : Ctx) (t : Nat → T) (H : HMap) (c : Nat), (∃ u, t 2 = .c (.ptr 2 u 0) ∧ H 2 = some (.var u 38 [.v (.s (.int .i64 s)), .v (.sl (encS ns)), .v (.sl (encKs ks))])) →
          (∃ u, t 3 = .c (.ptr 3 u 0) ∧ H 3 = some (.var u 33 [.v (.s (.int .i64 s)), .v (.s (.int .i64 n)), .v (.s (.string x)), .v (.sl (encS ns')), .v (.sl (encTs ts))])) →
          t 27 = .c (.v (.sl (encTs ts))) → t 28 = .i ts.length → t 29 = .i 0 →
          oneW Try.prog X (ok50.sub [1, 1, 0, 1, 0]) (inW 0 (thenW Try.prog X (ok50.sub [1, 1, 1]) (endA (FinC ok50.res (.b (has (.mk s ns ks) (.mk s n x ns' ts))) [])))) ⟨t, H, c⟩ := by
        dsimp only [okF.sub, ACode.sub, okF.res]
        rintro hnames X t H c ⟨u2, e2, eH2⟩ ⟨u3, e3, eH3⟩ e27 e28 e29
        simp only [T.c, T.i] at e2 eH2 e3 eH3
        refine AW.upto ts.length (inv50 s n x ns ks ns' ts) ⟨fun j hj => absurd hj (Nat.not_lt_zero j), ⟨u2, e2, eH2⟩, ⟨u3, e3, eH3⟩, e27, e28, e29⟩ fun i t H c hi h => ?_
        clear e2 eH2 e3 eH3 e27 e28 e29
        obtain ⟨g0, ⟨u2, e2, eH2⟩, ⟨u3, e3, eH3⟩, e27, e28, e29⟩ := h
        simp only [T.c, T.i] at e2 eH2 e3 eH3 e27 e28 e29
        by_cases hlt : i < ts.length
        · have g1 : (i : Int) < ts.length := by omega
          have gz : (0 : Int) ≤ i := by omega
          have gw : IntKind.i64.wrap ((i : Int) + 1) = ((i + 1 : Nat) : Int) := wrap64 (x := (i : Int) + 1) ⟨by omega, by omega⟩
          obtain ⟨u, hu⟩ : ∃ u, ts[i]? = some u := ⟨_, List.getElem?_eq_getElem hlt⟩
          have hmu := List.mem_of_getElem? hu
          have eu := encTs_at hu
          obtain ⟨k, k0, hsel, hk0, hmk⟩ := sel_some hS hT hnames hlt
          have ek0 := encKs_at hk0
          have hC := ih k hmk u _ _ (hK k hmk) (hTk u hmu) (k4 k hmk) (t4 u hmu)
          have hno : ¬ Has k u → has (.mk s ns ks) (.mk s n x ns' ts) = false := fun h => has_false.2 fun h2 => h (h2.inv.2.2 i u k hu hsel)
          have hgo : Has k u → ∀ j, j < i + 1 → ∀ t k, ts[j]? = some t → sel s ks j = some k → Has k t := by
            intro h j hj t2 k2 h1 h2
            rcases Nat.lt_succ_iff_lt_or_eq.1 hj with hj | rfl
            · exact g0 j hj t2 k2 h1 h2
            · rw [hu] at h1; rw [hsel] at h2; cases h1; cases h2; exact h
          by_cases h5 : s = 5
          · have h5b : (s == 5) = true := beq_iff_eq.2 h5
            rw [sel, if_pos h5] at hsel
            have ek := encKs_at hsel
            simp only [go_sem, e2, eH2, e3, eH3, e27, e28, e29, g1, gz, eu, ek0, ek, h5b, dropK, List.append_nil, Int.toNat_natCast, Int.toNat_zero, Int.le_refl, List.length_map, encK_len, takeK, encT_len, takeT, Nat.le_refl]
            refine callC hC rfl rfl (by simp [closedA, closedP, closedC]) rfl ?_
            cases hh : has k u with
            | false =>
              have hm := hno (has_false.1 hh)
              simp only [go_sem, hm]
            | true =>
              simp only [go_sem, e29, gw]
              exact ⟨hlt, hgo (has_true.1 hh), ⟨u2, e2, eH2⟩, ⟨u3, e3, eH3⟩, e27, e28, rfl⟩
          · have h5b : (s == 5) = false := beq_eq_false_iff_ne.2 h5
            rw [sel, if_neg h5, hk0] at hsel
            cases hsel
            simp only [go_sem, e2, eH2, e3, eH3, e27, e28, e29, g1, gz, eu, ek0, h5b, Int.toNat_natCast, Int.toNat_zero, Int.le_refl, List.length_map, encK_len, takeK, encT_len, takeT, Nat.le_refl]
            refine callC hC rfl rfl (by simp [closedA, closedP, closedC]) rfl ?_
            cases hh : has k u with
            | false =>
              have hm := hno (has_false.1 hh)
              simp only [go_sem, hm]
            | true =>
              simp only [go_sem, e29, gw]
              exact ⟨hlt, hgo (has_true.1 hh), ⟨u2, e2, eH2⟩, ⟨u3, e3, eH3⟩, e27, e28, rfl⟩
        · have hin : i = ts.length := by omega
          subst hin
          have g1 : ¬ ((ts.length : Nat) : Int) < ts.length := by omega
          have hm : has (.mk s ns ks) (.mk s n x ns' ts) = true := has_true.2 (.mk _ _ _ _ _ _ _ hnames fun j t k h1 h2 => g0 j (List.getElem?_eq_some_iff.1 h1).1 t k h1 h2)
          simp only [go_sem, e28, e29, g1, hm]
      by_cases h5 : s = 5
      · have h5b : (s == 5) = true := beq_iff_eq.2 h5
        simp only [go_sem, encK_mk, encT_mk, hne, h5b, encTs_len]
        refine callC (equal_ok ns ns' (by omega)) rfl rfl rfl rfl ?_
        by_cases hn : ns = ns'
        · simp only [go_sem, hn, encTs_len]
          subst hn
          exact main (fun _ => rfl) X _ _ _ ⟨_, rfl, rfl⟩ ⟨_, rfl, rfl⟩ rfl rfl rfl
        · have hm : has (.mk s ns ks) (.mk s n x ns' ts) = false := has_false.2 fun h => hn (h.inv.2.1 h5)
          simp only [go_sem, hn, hm]
      · have h5b : (s == 5) = false := beq_eq_false_iff_ne.2 h5
        simp only [go_sem, encK_mk, encT_mk, hne, h5b, encTs_len]
        exact main (fun h => absurd h h5) X _ _ _ ⟨_, rfl, rfl⟩ ⟨_, rfl, rfl⟩ rfl rfl rfl
    · have hne : (s != s') = true := by simp [hss]
      have hm : has (.mk s ns ks) (.mk s' n x ns' ts) = false := has_false.2 fun h => hss h.inv.1
      simp only [go_sem, encK_mk, encT_mk, hne, hm]
theorem tpartsL_mem {ks : List Tr} {k : Tr} (h : k ∈ ks) : tparts k ≤ tpartsL ks := by
  induction ks with
  | nil => cases h
  | cons x xs ih =>
    rcases List.mem_cons.1 h with rfl | h
    · simp [tpartsL]
    · have := ih h; simp only [tpartsL]; omega
theorem tpartsL_len (ks : List Tr) : ks.length ≤ tpartsL ks := by
  induction ks with
  | nil => simp
  | cons x xs ih => have := tparts_pos x; simp only [tpartsL, List.length_cons]; omega
theorem tshape_x {s n : Int} {x : ByteArray} {ns : List ByteArray} {m : Nat} (h : tshape s n x ns m = true) : x.size ≤ 60 := by
  have hz : (⟨#[]⟩ : ByteArray).size ≤ 60 := by decide
  unfold tshape at h
  split at h
  · simp only [Bool.and_eq_true, decide_eq_true_eq] at h; rw [h.2.1]; exact hz
  split at h
  · simp only [Bool.and_eq_true] at h; exact (textOk_true.1 h.2.1).2
  split at h
  · simp only [Bool.and_eq_true, decide_eq_true_eq] at h; rw [h.2.1]; exact hz
  split at h
  · simp only [Bool.and_eq_true, decide_eq_true_eq] at h; rw [h.2.1]; exact hz
  split at h
  · simp only [Bool.and_eq_true, decide_eq_true_eq] at h; rw [h.2.1]; exact hz
  split at h
  · simp only [Bool.and_eq_true, decide_eq_true_eq] at h; rw [h.2.1]; exact hz
  · cases h
theorem TOk_TB : ∀ (t : Tr) (d : Nat), TOk d t → tparts t ≤ 1000 → TB 1000 t := by
  intro t
  induction t using Tr.ind with
  | _ s n x ns ks ih =>
    intro d h hp
    obtain ⟨h1, h2, h3⟩ := h.inv
    have hx := tshape_x h2
    have h2 := tshape_sh h2
    simp only [tparts] at hp
    have hl := tpartsL_len ks
    refine .mk _ _ _ _ _ (by omega) ?_ (by omega) ?_ fun k hk => ih k hk (d + 1) (h3 k hk) (by have := tpartsL_mem hk; omega)
    · by_cases h5 : s = 5
      · have := (h2.form h5).1; omega
      · have := h2.other h5; omega
    · intro y hy
      by_cases h5 : s = 5
      · obtain ⟨i, hi⟩ := List.mem_iff_getElem?.1 hy
        have := nameOk_size ((rise_true.1 (h2.form h5).2) i y hi).1
        omega
      · have := h2.other h5
        rw [List.length_eq_zero_iff.1 this] at hy; cases hy
theorem okT_TB {t : Tr} (h : okT t = true) : TB 1000 t := TOk_TB t 1 (okT_true.1 h).1 (by have := (okT_true.1 h).2; omega)
theorem TB.le {n m : Nat} (h : n ≤ m) {k : Tr} (hk : TB n k) : TB m k := by
  induction k using Tr.ind with
  | _ s a x ns ks ih =>
    obtain ⟨h0, h1, h2, h3, h4⟩ := hk.inv
    exact .mk _ _ _ _ _ (by omega) (by omega) (by omega) (fun x hx => by have := h3 x hx; omega) fun k hk => ih k hk (h4 k hk)
def ok30 := okF.gu (P := Try.prog) tab Try.func30 Try.ntmps30 (by conv => lhs; cbv) (by kernel_rfl)
theorem kindHas_ok (k : Kd) (t : Tr) (hk : KB 2000000 k) (ht : TB 2000000 t) : ACallsF Try.prog 30 [tK k, tT t] [] (.b (okK k && (okT t && has k t))) := by
  refine ACallsF.intro ok30 follows fun X c0 => ?_
  simp only [go_sem, List.length_map, encK_len, takeK, encT_len, takeT, Nat.le_refl]
  refine callC (kindOkI_ok k (hk.le (by omega))) rfl rfl (by simp [closedA, closedP, closedC]) rfl ?_
  cases h1 : okK k with
  | false => simp only [go_sem]
  | true =>
    simp only [go_sem, List.length_map, encK_len, takeK, encT_len, takeT, Nat.le_refl]
    refine callC (treeOk_ok t ht) rfl rfl (by simp [closedA, closedP, closedC]) rfl ?_
    cases h2 : okT t with
    | false => simp only [go_sem]
    | true =>
      simp only [go_sem, List.length_map, encK_len, takeK, encT_len, takeT, Nat.le_refl]
      refine callC (has_ok k t 1 1 (okK_true.1 h1).1 (okT_true.1 h2).1 ((okK_KB h1).le (by omega)) ht) rfl rfl (by simp [closedA, closedP, closedC]) rfl ?_
      simp only [go_sem]
end Go.V
set_option linter.unusedSimpArgs false
namespace Go.V
open Go.Proofs
/-! A nil slice that is returned is an array, or a tree, of the call's own, too. -/
def P1.put (j : Nat) (c : C) : P1 → P1
  | .one _ => .one c
  | .agg cs => .agg (cs.set j c)
def P1.at (j : Nat) : P1 → Option C
  | .one c => some c
  | .agg cs => cs[j]?
def T.put (i j : Nat) (c : C) : T → T
  | .pt p => .pt (p.put j c)
  | .tup ps => .tup (ps.modify i (P1.put j c))
  | x => x
def T.at (i j : Nat) : T → Option C
  | .pt p => p.at j
  | .tup ps => (ps[i]?).bind (P1.at j)
  | _ => none
section
variable {w : World} {imm : Imm} {H : HMap} {L : Locs} {U : Nat → Prop}
theorem CsRep.put {c : C} (hc : ∀ a, CRep w imm H L U (.slice a 0 0) c) {xs : List Value} {cs : List C} {j : Nat} (h : CsRep w imm H L U xs cs) (hn : cs[j]? = some .nil0) : CsRep w imm H L U xs (cs.set j c) := by
  refine ⟨by rw [List.length_set]; exact h.1, fun k u y hu hy => ?_⟩
  by_cases hk : k = j
  · subst hk
    have hl := (List.getElem?_eq_some_iff.1 hn).1
    rw [List.getElem?_set_self hl] at hy
    cases hy
    obtain ⟨a, rfl⟩ : ∃ a, u = .slice a 0 0 := h.2 k u .nil0 hu hn
    exact hc a
  · rw [List.getElem?_set_ne (Ne.symm hk)] at hy
    exact h.2 k u y hu hy
theorem PRep.put {c : C} (hc : ∀ a, CRep w imm H L U (.slice a 0 0) c) {x : Value} {p : P1} {j : Nat} (h : PRep w imm H L U x p) (hn : p.at j = some .nil0) : PRep w imm H L U x (p.put j c) := by
  cases p with
  | one y =>
    simp only [P1.at, Option.some.injEq] at hn
    subst hn
    obtain ⟨a, rfl⟩ : ∃ a, x = .slice a 0 0 := h
    exact hc a
  | agg cs =>
    obtain ⟨xs, hx, h⟩ := h
    exact ⟨xs, hx, h.put hc hn⟩
theorem TRep.put {c : C} (hc : ∀ a, CRep w imm H L U (.slice a 0 0) c) {x : Value} {r : T} {i j : Nat} (h : TRep w imm H L U x r) (hn : r.at i j = some .nil0) : TRep w imm H L U x (r.put i j c) := by
  cases r with
  | junk => simp [T.at] at hn
  | undef => simp [T.at] at hn
  | pt p => exact PRep.put hc (show PRep w imm H L U x p from h) hn
  | tup ps =>
    obtain ⟨xs, hx, hl, h⟩ := h
    refine ⟨xs, hx, by rw [List.length_modify]; exact hl, fun k u y hu hy => ?_⟩
    rw [List.getElem?_modify] at hy
    by_cases hk : i = k
    · subst hk
      cases hp : ps[i]? with
      | none => rw [hp] at hy; simp at hy
      | some p =>
      rw [hp] at hy
      have hy' : P1.put j c p = y := by simpa using hy
      subst hy'
      have hn' : p.at j = some .nil0 := by simpa [T.at, hp] using hn
      exact (h i u p hu hp).put hc hn'
    · cases hp : ps[k]? with
      | none => rw [hp] at hy; simp at hy
      | some p =>
      rw [hp] at hy
      have hy' : p = y := by simpa [hk] using hy
      subst hy'
      exact h k u p hu hp
end
theorem P1.ver_put (ν : Nat → Nat) (p : P1) (j : Nat) (c : C) : verP ν (p.put j c) = (verP ν p).put j (verC ν c) := by
  cases p <;> simp [P1.put, verP, List.map_set]
theorem P1.ver_at {ν : Nat → Nat} {p : P1} {j : Nat} (h : p.at j = some .nil0) : (verP ν p).at j = some .nil0 := by
  cases p with
  | one c => simp only [P1.at, Option.some.injEq] at h; subst h; rfl
  | agg cs =>
    have h' : cs[j]? = some .nil0 := h
    show (cs.map (verC ν))[j]? = _
    rw [List.getElem?_map, h']; rfl
theorem T.ver_put (ν : Nat → Nat) (r : T) (i j : Nat) (c : C) : verT ν (r.put i j c) = (verT ν r).put i j (verC ν c) := by
  cases r with
  | junk => rfl
  | undef => rfl
  | pt p => simp only [T.put, verT, P1.ver_put]
  | tup ps =>
    simp only [T.put, verT]
    congr 1
    apply List.ext_getElem?
    intro k
    simp only [List.getElem?_map, List.getElem?_modify]
    by_cases hk : i = k
    · simp only [if_pos hk]
      cases ps[k]? with
      | none => rfl
      | some p => simp [P1.ver_put]
    · simp only [if_neg hk]
      cases ps[k]? <;> simp
theorem T.ver_at {ν : Nat → Nat} {r : T} {i j : Nat} (h : r.at i j = some .nil0) : (verT ν r).at i j = some .nil0 := by
  cases r with
  | junk => simp [T.at] at h
  | undef => simp [T.at] at h
  | pt p => exact P1.ver_at h
  | tup ps =>
    simp only [T.at, Option.bind_eq_some_iff] at h
    obtain ⟨p, hp, h⟩ := h
    simp only [verT, T.at, List.getElem?_map, hp, Option.map_some, Option.bind_some]
    exact P1.ver_at h
/-- What stands is told anew: an empty array, or tree, of one more name. -/
theorem gh_zero (H : HMap) (c n st : Nat) (ty : TypeId) (hst : 0 < st) (tr : Bool) : ∀ (w : World) (imm : Imm) (L : Locs), HOk w imm H L (· < c) → ∃ L', HOk w imm (upd H n (some (if tr then .tree (c + 1) true st ty [] none else .arr (c + 1) true st ty []))) L' (· < c + 2) ∧
    Ext w H L (· < c) w (upd H n (some (if tr then .tree (c + 1) true st ty [] none else .arr (c + 1) true st ty []))) L' (· < c + 2) ∧ Step w imm (foot H L) w imm ∧ Near w (foot H L) (upd H n (some (if tr then .tree (c + 1) true st ty [] none else .arr (c + 1) true st ty []))) L' ∧ L' n = none := by
  intro w imm L hH
  have hH1 : HOk w imm H L (· < c + 1) := hH.use fun v h => Nat.lt_succ_of_lt h
  have hu : ∀ v, with_ (· < c + 1) (c + 1) v → v < c + 2 := fun v hv => by rcases hv with hv | hv <;> omega
  have hu0 : ∀ v, v < c → v < c + 1 := fun v h => by omega
  cases tr with
  | false =>
    have hg := goes_arr_nil (w := w) (imm := imm) (L := L) hH1 n (c + 1) (by simp) true st ty hst none
    exact ⟨L.up n none noB, hg.hok.use hu, ((CRep.use (w := w) hu0).trans hg.ext).trans (CRep.use (w := w) hu), hg.step, hg.near, Locs.up_at _ _ _ _⟩
  | true =>
    have hg := goes_arr_nil (w := w) (imm := imm) (L := L) hH n c (by simp) true st ty hst none
    have hk1 : HOk w imm (upd H n (some (.arr c true st ty []))) (L.up n none noB) (· < c + 1) := hg.hok.use fun v hv => by rcases hv with hv | hv <;> omega
    obtain ⟨a1, a2, a3, a4, _⟩ := plant_ok hk1 (upd_same _ _ _) (fun e he => by cases he)
    have e1 : upd (upd H n (some (.arr c true st ty []))) n (some (.tree (c + 1) true st ty [] none)) = upd H n (some (.tree (c + 1) true st ty [] none)) := by
      funext k; unfold upd; split <;> rfl
    rw [e1] at a1 a2 a4
    obtain ⟨s1, s2⟩ := Step.trans hg.step hg.near a3 a4
    exact ⟨_, a1, (hg.ext.trans (CRep.use (w := w) fun v hv => by rcases hv with hv | hv <;> omega)).trans a2, s1, s2, by rw [Locs.up_at, Locs.up_at]⟩
/-- A nil slice in a result as an own array (a tree). -/
theorem own0 {P : Program} {f : FuncId} {args : List T} {hs : List Hand} {r : T} (tr : Bool) (i j n m st : Nat) (ty : TypeId) (hst : 0 < st) (hn : r.at i j = some .nil0) (hc : renN hs n = none) (hv : ∀ ν ν' : Nat → Nat, (∀ k, k ≠ n → ν k = ν' k) → verT ν r = verT ν' r)
    (hb : ∀ ν ν' : Nat → Nat, (∀ k, k ≠ n → ν k = ν' k) → ∀ h ∈ hs, ∀ v, verB ν v h.b' = verB ν' v h.b') (h : ACallsF P f args hs r) :
    ACallsF P f args (⟨n, m, none, if tr then .tree 0 true st ty [] none else .arr 0 true st ty [], false⟩ :: hs) (r.put i j (if tr then .tr n 0 0 else .own n 0 0)) := by
  refine ⟨h.1, fun w imm L c vs hH hT => ?_⟩
  have e0 : hinOf (⟨n, m, none, if tr then .tree 0 true st ty [] none else .arr 0 true st ty [], false⟩ :: hs) = hinOf hs := by
    funext k; rw [hinOf_cons]
    split
    · rename_i e; subst e; simp [hinOf, hc]
    · rfl
  rw [e0] at hH hT ⊢
  refine (h.2 w imm L c vs hH hT).mono ?_
  rintro e w' ⟨x, r0, h', imm', L', c', he, ⟨ν, hr, hB⟩, hx, hHo, hS, hN, hE⟩
  subst hr
  obtain ⟨L2, k1, k2, k3, k4, k5⟩ := gh_zero h' c' n st ty hst tr w' imm' L' hHo
  obtain ⟨s1, s2⟩ := Step.trans hS hN k3 k4
  let ν' : Nat → Nat := fun k => if k = n then c' + 1 else ν k
  have hνn : ν' n = c' + 1 := if_pos rfl
  have hν : ∀ k, k ≠ n → ν k = ν' k := fun k hk => (if_neg hk).symm
  refine ⟨x, verT ν' (r.put i j (if tr then .tr n 0 0 else .own n 0 0)), _, imm', L2, c' + 2, he, ⟨ν', rfl, fun k hd hh => ?_⟩, ?_, k1, s1, s2, hE.trans k2⟩
  · by_cases hk : k = n
    · subst hk
      have : hd = ⟨k, m, none, if tr then .tree 0 true st ty [] none else .arr 0 true st ty [], false⟩ := by
        simp [renN] at hh; exact hh.symm
      subst this
      refine ⟨?_, fun h => by cases h⟩
      rw [upd_same, hνn]
      cases tr <;> rfl
    · have hh' : renN hs k = some hd := by
        rw [← hh]; simp [renN, List.find?_cons, Ne.symm hk]
      obtain ⟨b1, b2⟩ := hB k hd hh'
      rw [upd_ne _ _ hk, b1, ← hν k hk, hb ν ν' hν hd (renN_mem hh').1]
      exact ⟨rfl, b2⟩
  · rw [T.ver_put, ← hv ν ν' hν]
    refine TRep.put (fun a => ?_) (hx.mono (fun _ _ h => ⟨h, rfl⟩) k2) (T.ver_at hn)
    cases tr with
    | false =>
      show CRep w' imm' _ L2 _ (.slice a 0 0) (.own n (ν' n) 0)
      rw [hνn]
      exact ⟨by omega, ⟨a, 0, rfl, Nat.le_refl _⟩, fun wr st' ty' es hes => ⟨Nat.zero_le _, .inl ⟨a, rfl, rfl⟩⟩⟩
    | true =>
      show CRep w' imm' _ L2 _ (.slice a 0 0) (.tr n (ν' n) 0)
      rw [hνn]
      exact ⟨by omega, ⟨a, 0, rfl, Nat.le_refl _⟩, fun wr st' ty' es op hes => ⟨Nat.zero_le _, .inl ⟨a, rfl, rfl⟩⟩⟩
end Go.V
set_option linter.unusedSimpArgs false
set_option maxRecDepth 20000
namespace Go.V
open Go.Proofs
abbrev tL (es : List (List V)) : T := .c (.v (.sl es))
abbrev tS (s : ByteArray) : T := .s (.string s)
/-- An array that a call makes. -/
abbrev newH (c m st : Nat) (ty : TypeId) (es : List (List V)) : Hand := ⟨c, m, none, .arr 0 true st ty es, false⟩
/-- What a call does for every empty slice it does for the empty list. -/
theorem nilArgH {P : Program} {f : FuncId} {hs : List Hand} {r : T} (h : ∀ ad c, ACallsF P f [.s (.slice ad 0 c)] hs r) : ACallsF P f [.c (.v (.sl []))] hs r := by
  refine ⟨(h none 0).1, fun w imm L c vs hH hT => ?_⟩
  obtain ⟨x, rfl⟩ : ∃ x, vs = [x] := by
    have := hT.1
    cases vs with
    | nil => simp at this
    | cons x l => cases l with
      | nil => exact ⟨x, rfl⟩
      | cons _ _ => simp at this
  have hx : VRep w imm x (.sl []) := hT.2 0 x _ rfl rfl
  cases hx with
  | nil a cap => exact (h a cap).2 w imm L c _ hH ⟨rfl, fun k x y hx hy => by
      cases k with
      | zero => simp at hx hy; subst hx hy; exact .s _ rfl
      | succ k => simp at hx⟩
  | sl _ _ _ _ _ _ _ hne => exact absurd rfl hne
/-- A nil slice that is returned is an array of the call's own, too. -/
theorem ownNil {P : Program} {f : FuncId} {args : List T} {n m st : Nat} {ty : TypeId} (hst : 0 < st) (h : ACallsF P f args [] (.c .nil0)) : ACallsF P f args [newH n m st ty []] (.c (.own n 0 0)) := by
  refine ⟨h.1, fun w imm L c vs hH hT => ?_⟩
  have e0 : hinOf [newH n m st ty []] = hinOf [] := by
    funext k; rw [hinOf_cons]; split <;> rfl
  rw [e0] at hH hT ⊢
  refine (h.2 w imm L c vs hH hT).mono ?_
  rintro e w' ⟨x, r, h', imm', L', c', he, ⟨ν, hr, _⟩, hx, hHo, hS, hN, hE⟩
  subst hr
  obtain ⟨a, hxa⟩ : ∃ a, x = .slice a 0 0 := hx
  subst hxa
  have hcc : c ≤ c' := by
    rcases Nat.eq_zero_or_pos c with h0 | h0
    · omega
    · have := hE.use (c - 1) (by omega); omega
  refine ⟨.slice a 0 0, .c (.own n c' 0), fun k => if k = n then some (.arr c' true st ty []) else none, imm', ⟨fun _ => none, fun _ _ => False⟩, c' + 1, he, ⟨fun _ => c', rfl, fun k hd hh => ?_⟩, ?_, ⟨fun k B hB => ?_, fun _ _ g _ _ hg => (by rcases hg with hg | hg <;> cases hg), fun _ _ _ hg => hg.elim, hHo.glob, hHo.imm⟩, hS, fun _ g _ hg => (by rcases hg with hg | hg <;> cases hg), ⟨fun v hv => ?_, fun k ver ty' cs hu hk => ?_, fun k ver wr st' ty' es hu hk => ?_, fun k ver wr st' ty' es g cur hu hk hg => (by cases hg), fun k ver wr st' ty' es op hu hk => ?_, fun k ver wr st' ty' es op g cur hu hk hg => (by cases hg)⟩⟩
  · obtain ⟨h1, h2⟩ := renN_mem hh
    rw [List.mem_singleton] at h1
    subst h1
    have h2' : n = k := h2
    subst h2'
    simp [newH, verB]
  · refine ⟨Nat.lt_succ_self _, ⟨a, 0, rfl, Nat.le_refl _⟩, fun wr st' ty' es hes => ⟨Nat.zero_le _, .inl ⟨a, rfl, rfl⟩⟩⟩
  · have hB' : (if k = n then some (Blk.arr c' true st ty []) else none) = some B := hB
    split at hB'
    · cases hB'
      exact ⟨Nat.lt_succ_self _, hst, fun e he => (by cases he), .inl ⟨rfl, rfl⟩⟩
    · cases hB'
  · have := hE.use v hv; omega
  · have hk' : (if k = n then some (Blk.arr c' true st ty []) else none) = some (Blk.var ver ty' cs) := hk
    split at hk' <;> cases hk'
  · have hk' : (if k = n then some (Blk.arr c' true st ty []) else none) = some (Blk.arr ver wr st' ty' es) := hk
    split at hk'
    · cases hk'; omega
    · cases hk'
  · have hk' : (if k = n then some (Blk.arr c' true st ty []) else none) = some (Blk.tree ver wr st' ty' es op) := hk
    split at hk' <;> cases hk'
section
variable {P : Program} {t : Nat → T} {H : HMap} {c : Nat} {f : Opd} {args : List Opd} {fid : FuncId} {argsC : List T} {ws : List (Nat × Blk)} {ns : List Nat} {k : Nat} {d : Option Nat} {un : List Nat} {l : List AOper} {prev : List (Nat × List Nat × List Nat)} {K : St → Prop}
/-- A call that makes arrays, and is lent slices. -/
theorem callF (hs : List Hand) {r r' : T} {ob : List (Nat × Blk)} (hC : ACallsF P fid argsC hs r) (hf : ev t f = .pt (.one (.fn fid []))) (hl : lendTs H argsC (args.map (ev t)) = some (argsC, ws, ns)) (ha : argsC.all closedA = true) (hb : ∀ h ∈ hs, h.b = none) (hm : (hs.map (·.m)).Nodup) (hc : (hs.map (·.c)).Nodup)
    (hq : quiet r hs = true) (hr : renOT hs (c + k) r = some r') (ho : renOBs hs (c + k) hs = some ob)
    (hk : chk prev un ⟨r', ob, ns ++ hs.map (·.m), hs.map (·.m)⟩ = true ∧ DRun P l ((k, ns ++ hs.map (·.m), hs.map (·.m)) :: prev) K ⟨updD t d r', updH H ob, c⟩) :
    step P k d un (.call f args) l prev K t H c := by
  refine callW (caps := []) («as» := argsC) (ws := ws) (ns := ns) (r' := r') (ob := ob) hs hC hf (by simpa using hl) (closed_As hs H argsC ha).2 ?_ hm hc hr ho (by simpa [hq] using hk)
  have : ∀ l : List Hand, (∀ h ∈ l, h.b = none) → handsIn (updH H ws) hs l := by
    intro l
    induction l with
    | nil => intro _; trivial
    | cons h l ih => intro hl; exact ⟨by rw [hl h (by simp)]; trivial, ih fun x hx => hl x (by simp [hx])⟩
  exact this hs hb
/-- A call that makes one array. -/
theorem callA1 {n m N st : Nat} {ty : TypeId} {es : List (List V)} (hC : ACallsF P fid argsC [newH n m st ty es] (.c (.own n 0 N))) (hf : ev t f = .pt (.one (.fn fid []))) (hl : lendTs H argsC (args.map (ev t)) = some (argsC, ws, ns)) (ha : argsC.all closedA = true) (he : (es.all fun e => e.all flatV) = true)
    (hk : chk prev un ⟨.c (.own m (c + k) N), [(m, .arr (c + k) true st ty es)], ns ++ [m], [m]⟩ = true ∧ DRun P l ((k, ns ++ [m], [m]) :: prev) K ⟨updD t d (.c (.own m (c + k) N)), upd H m (some (.arr (c + k) true st ty es)), c⟩) :
    step P k d un (.call f args) l prev K t H c := by
  have hN : renN [newH n m st ty es] n = some (newH n m st ty es) := by simp [renN]
  refine callF (r' := .c (.own m (c + k) N)) (ob := [(m, .arr (c + k) true st ty es)]) [newH n m st ty es] hC hf hl ha (by simp) (by simp) (by simp) ?_ ?_ ?_ ?_
  · simp only [quiet, List.all_cons, List.all_nil, flatB, he]; rfl
  · simp only [T.c, renOT, renOP, renO, hN, Option.map_some, verOf]; rfl
  · simp only [renOBs, renOB, verOf]; rfl
  · simpa [updH] using hk
end
def part {α : Type} (xs : List α) (z : α) (i : Nat) : List α := xs.take i ++ List.replicate (xs.length - i) z
theorem part_len {α : Type} (xs : List α) (z : α) {i : Nat} (h : i ≤ xs.length) : (part xs z i).length = xs.length := by simp [part]; omega
theorem part_zero {α : Type} (xs : List α) (z : α) : part xs z 0 = List.replicate xs.length z := by simp [part]
theorem part_end {α : Type} (xs : List α) (z : α) : part xs z xs.length = xs := by simp [part]
theorem part_set {α : Type} (xs : List α) (z : α) {i : Nat} {x : α} (h : xs[i]? = some x) : (part xs z i).set i x = part xs z (i + 1) := by
  have hi := (List.getElem?_eq_some_iff.1 h).1
  have e : xs.length - i = (xs.length - (i + 1)) + 1 := by omega
  have hl : (xs.take i).length = i := by simp; omega
  rw [part, e, List.replicate_succ, List.set_append, if_neg (by omega), hl, Nat.sub_self, List.set_cons_zero, part, List.take_add_one, h]
  simp
theorem part_at {α : Type} (xs : List α) (z : α) {i : Nat} (h : i < xs.length) : (part xs z i)[i]? = some z := by
  have hl : (xs.take i).length = i := by simp; omega
  rw [part, List.getElem?_append_right (by omega), hl, Nat.sub_self, List.getElem?_replicate, if_pos (by omega)]

/-! Schemas and trees, given with all that they hold. -/
def Kd.s : Kd → Int | .mk s _ _ => s
def Kd.n : Kd → List ByteArray | .mk _ n _ => n
def Kd.k : Kd → List Kd | .mk _ _ k => k
def Tr.s : Tr → Int | .mk s _ _ _ _ => s
def Tr.m : Tr → Int | .mk _ m _ _ _ => m
def Tr.x : Tr → ByteArray | .mk _ _ x _ _ => x
def Tr.n : Tr → List ByteArray | .mk _ _ _ n _ => n
def Tr.k : Tr → List Tr | .mk _ _ _ _ k => k
theorem encK_eta (k : Kd) : encK k = [.s (.int .i64 k.s), .sl (encS k.n), .sl (encKs k.k)] := by cases k; exact encK_mk _ _ _
theorem encT_eta (t : Tr) : encT t = [.s (.int .i64 t.s), .s (.int .i64 t.m), .s (.string t.x), .sl (encS t.n), .sl (encTs t.k)] := by cases t; exact encT_mk _ _ _ _ _
theorem flatS (ss : List ByteArray) : (∀ e ∈ encS ss, flatFrom 9 0 e = true) = True := eq_true fun e he => by
  simp only [encS, List.mem_map] at he
  obtain ⟨x, _, rfl⟩ := he
  rfl
theorem encS_flat (ss : List ByteArray) : ((encS ss).all fun e => e.all flatV) = true := by
  rw [List.all_eq_true]
  intro e he
  simp only [encS, List.mem_map] at he
  obtain ⟨x, _, rfl⟩ := he
  rfl
abbrev kdH (c1 c2 m1 m2 : Nat) (k : Kd) : List Hand := [newH c1 m1 1 9 (encS k.n), newT c2 m2 3 38 (encKs k.k)]
abbrev oKd (c1 v1 c2 v2 : Nat) (k : Kd) : P1 := .agg [.v (.s (.int .i64 k.s)), .own c1 v1 k.n.length, .tr c2 v2 k.k.length]
abbrev trH2 (c1 c2 m1 m2 : Nat) (t : Tr) : List Hand := [newH c1 m1 1 9 (encS t.n), newT c2 m2 5 33 (encTs t.k)]
abbrev oTr (c1 v1 c2 v2 : Nat) (t : Tr) : P1 := .agg [.v (.s (.int .i64 t.s)), .v (.s (.int .i64 t.m)), .v (.s (.string t.x)), .own c1 v1 t.n.length, .tr c2 v2 t.k.length]
theorem Kd.mk_s (s : Int) (n : List ByteArray) (k : List Kd) : (Kd.mk s n k).s = s := rfl
theorem Kd.mk_n (s : Int) (n : List ByteArray) (k : List Kd) : (Kd.mk s n k).n = n := rfl
theorem Kd.mk_k (s : Int) (n : List ByteArray) (k : List Kd) : (Kd.mk s n k).k = k := rfl
theorem Tr.mk_s (s m : Int) (x : ByteArray) (n : List ByteArray) (k : List Tr) : (Tr.mk s m x n k).s = s := rfl
theorem Tr.mk_m (s m : Int) (x : ByteArray) (n : List ByteArray) (k : List Tr) : (Tr.mk s m x n k).m = m := rfl
theorem Tr.mk_x (s m : Int) (x : ByteArray) (n : List ByteArray) (k : List Tr) : (Tr.mk s m x n k).x = x := rfl
theorem Tr.mk_n (s m : Int) (x : ByteArray) (n : List ByteArray) (k : List Tr) : (Tr.mk s m x n k).n = n := rfl
theorem Tr.mk_k (s m : Int) (x : ByteArray) (n : List ByteArray) (k : List Tr) : (Tr.mk s m x n k).k = k := rfl
attribute [go_sem] false_and and_false and_self not_false_eq_true ne_eq
attribute [go_sem] Kd.mk_s Kd.mk_n Kd.mk_k Tr.mk_s Tr.mk_m Tr.mk_x Tr.mk_n Tr.mk_k flatS encS_len encKs_len encTs_len
theorem Kd.eta (k : Kd) : Kd.mk k.s k.n k.k = k := by cases k; rfl
theorem Tr.eta (t : Tr) : Tr.mk t.s t.m t.x t.n t.k = t := by cases t; rfl
section
variable {P : Program} {t : Nat → T} {H : HMap} {c : Nat} {f : Opd} {args : List Opd} {fid : FuncId} {argsC : List T} {ws : List (Nat × Blk)} {ns : List Nat} {k : Nat} {d : Option Nat} {un : List Nat} {l : List AOper} {prev : List (Nat × List Nat × List Nat)} {K : St → Prop}
/-- A call that gives a schema. -/
theorem callKd {c1 c2 m1 m2 : Nat} {y : Kd} (hC : ACallsF P fid argsC (kdH c1 c2 m1 m2 y) (.pt (oKd c1 0 c2 0 y))) (hcc : c1 ≠ c2) (hm : m1 ≠ m2) (hf : ev t f = .pt (.one (.fn fid []))) (hl : lendTs H argsC (args.map (ev t)) = some (argsC, ws, ns)) (ha : argsC.all closedA = true)
    (hk : chk prev un ⟨.pt (oKd m1 (c + k) m2 (c + k) y), [(m1, .arr (c + k) true 1 9 (encS y.n)), (m2, .tree (c + k) true 3 38 (encKs y.k) none)], ns ++ [m1, m2], [m1, m2]⟩ = true ∧
      DRun P l ((k, ns ++ [m1, m2], [m1, m2]) :: prev) K ⟨updD t d (.pt (oKd m1 (c + k) m2 (c + k) y)), upd (upd H m1 (some (.arr (c + k) true 1 9 (encS y.n)))) m2 (some (.tree (c + k) true 3 38 (encKs y.k) none)), c⟩) :
    step P k d un (.call f args) l prev K t H c := by
  have N1 : renN (kdH c1 c2 m1 m2 y) c1 = some (newH c1 m1 1 9 (encS y.n)) := by simp [renN]
  have N2 : renN (kdH c1 c2 m1 m2 y) c2 = some (newT c2 m2 3 38 (encKs y.k)) := by simp [renN, hcc]
  refine callF (r' := .pt (oKd m1 (c + k) m2 (c + k) y)) (ob := [(m1, .arr (c + k) true 1 9 (encS y.n)), (m2, .tree (c + k) true 3 38 (encKs y.k) none)]) (kdH c1 c2 m1 m2 y) hC hf hl ha (by simp) (by simpa using hm) (by simpa using hcc) ?_ ?_ ?_ ?_
  · simp only [quiet, List.all_cons, List.all_nil, flatB, encS_flat]; rfl
  · simp only [renOT, renOP, renOs, renO, N1, N2, Option.map_some, verOf]; rfl
  · simp only [renOBs, renOB, verOf]; rfl
  · simpa [updH] using hk
/-- A call that gives a schema and a truth value. -/
theorem callKdb {c1 c2 m1 m2 : Nat} {y : Kd} {b : Bool} (hC : ACallsF P fid argsC (kdH c1 c2 m1 m2 y) (.tup [oKd c1 0 c2 0 y, .one (.v (.s (.bool b)))])) (hcc : c1 ≠ c2) (hm : m1 ≠ m2) (hf : ev t f = .pt (.one (.fn fid []))) (hl : lendTs H argsC (args.map (ev t)) = some (argsC, ws, ns)) (ha : argsC.all closedA = true)
    (hk : chk prev un ⟨.tup [oKd m1 (c + k) m2 (c + k) y, .one (.v (.s (.bool b)))], [(m1, .arr (c + k) true 1 9 (encS y.n)), (m2, .tree (c + k) true 3 38 (encKs y.k) none)], ns ++ [m1, m2], [m1, m2]⟩ = true ∧
      DRun P l ((k, ns ++ [m1, m2], [m1, m2]) :: prev) K ⟨updD t d (.tup [oKd m1 (c + k) m2 (c + k) y, .one (.v (.s (.bool b)))]), upd (upd H m1 (some (.arr (c + k) true 1 9 (encS y.n)))) m2 (some (.tree (c + k) true 3 38 (encKs y.k) none)), c⟩) :
    step P k d un (.call f args) l prev K t H c := by
  have N1 : renN (kdH c1 c2 m1 m2 y) c1 = some (newH c1 m1 1 9 (encS y.n)) := by simp [renN]
  have N2 : renN (kdH c1 c2 m1 m2 y) c2 = some (newT c2 m2 3 38 (encKs y.k)) := by simp [renN, hcc]
  refine callF (r' := .tup [oKd m1 (c + k) m2 (c + k) y, .one (.v (.s (.bool b)))]) (ob := [(m1, .arr (c + k) true 1 9 (encS y.n)), (m2, .tree (c + k) true 3 38 (encKs y.k) none)]) (kdH c1 c2 m1 m2 y) hC hf hl ha (by simp) (by simpa using hm) (by simpa using hcc) ?_ ?_ ?_ ?_
  · simp only [quiet, List.all_cons, List.all_nil, flatB, encS_flat]; rfl
  · simp only [renOT, renOPs, renOP, renOs, renO, N1, N2, Option.map_some, verOf]; rfl
  · simp only [renOBs, renOB, verOf]; rfl
  · simpa [updH] using hk
/-- A call that gives a tree. -/
theorem callTr {c1 c2 m1 m2 : Nat} {y : Tr} (hC : ACallsF P fid argsC (trH2 c1 c2 m1 m2 y) (.pt (oTr c1 0 c2 0 y))) (hcc : c1 ≠ c2) (hm : m1 ≠ m2) (hf : ev t f = .pt (.one (.fn fid []))) (hl : lendTs H argsC (args.map (ev t)) = some (argsC, ws, ns)) (ha : argsC.all closedA = true)
    (hk : chk prev un ⟨.pt (oTr m1 (c + k) m2 (c + k) y), [(m1, .arr (c + k) true 1 9 (encS y.n)), (m2, .tree (c + k) true 5 33 (encTs y.k) none)], ns ++ [m1, m2], [m1, m2]⟩ = true ∧
      DRun P l ((k, ns ++ [m1, m2], [m1, m2]) :: prev) K ⟨updD t d (.pt (oTr m1 (c + k) m2 (c + k) y)), upd (upd H m1 (some (.arr (c + k) true 1 9 (encS y.n)))) m2 (some (.tree (c + k) true 5 33 (encTs y.k) none)), c⟩) :
    step P k d un (.call f args) l prev K t H c := by
  have N1 : renN (trH2 c1 c2 m1 m2 y) c1 = some (newH c1 m1 1 9 (encS y.n)) := by simp [renN]
  have N2 : renN (trH2 c1 c2 m1 m2 y) c2 = some (newT c2 m2 5 33 (encTs y.k)) := by simp [renN, hcc]
  refine callF (r' := .pt (oTr m1 (c + k) m2 (c + k) y)) (ob := [(m1, .arr (c + k) true 1 9 (encS y.n)), (m2, .tree (c + k) true 5 33 (encTs y.k) none)]) (trH2 c1 c2 m1 m2 y) hC hf hl ha (by simp) (by simpa using hm) (by simpa using hcc) ?_ ?_ ?_ ?_
  · simp only [quiet, List.all_cons, List.all_nil, flatB, encS_flat]; rfl
  · simp only [renOT, renOP, renOs, renO, N1, N2, Option.map_some, verOf]; rfl
  · simp only [renOBs, renOB, verOf]; rfl
  · simpa [updH] using hk
/-- A call that gives a tree and a truth value. -/
theorem callTrb {c1 c2 m1 m2 : Nat} {y : Tr} {b : Bool} (hC : ACallsF P fid argsC (trH2 c1 c2 m1 m2 y) (.tup [oTr c1 0 c2 0 y, .one (.v (.s (.bool b)))])) (hcc : c1 ≠ c2) (hm : m1 ≠ m2) (hf : ev t f = .pt (.one (.fn fid []))) (hl : lendTs H argsC (args.map (ev t)) = some (argsC, ws, ns)) (ha : argsC.all closedA = true)
    (hk : chk prev un ⟨.tup [oTr m1 (c + k) m2 (c + k) y, .one (.v (.s (.bool b)))], [(m1, .arr (c + k) true 1 9 (encS y.n)), (m2, .tree (c + k) true 5 33 (encTs y.k) none)], ns ++ [m1, m2], [m1, m2]⟩ = true ∧
      DRun P l ((k, ns ++ [m1, m2], [m1, m2]) :: prev) K ⟨updD t d (.tup [oTr m1 (c + k) m2 (c + k) y, .one (.v (.s (.bool b)))]), upd (upd H m1 (some (.arr (c + k) true 1 9 (encS y.n)))) m2 (some (.tree (c + k) true 5 33 (encTs y.k) none)), c⟩) :
    step P k d un (.call f args) l prev K t H c := by
  have N1 : renN (trH2 c1 c2 m1 m2 y) c1 = some (newH c1 m1 1 9 (encS y.n)) := by simp [renN]
  have N2 : renN (trH2 c1 c2 m1 m2 y) c2 = some (newT c2 m2 5 33 (encTs y.k)) := by simp [renN, hcc]
  refine callF (r' := .tup [oTr m1 (c + k) m2 (c + k) y, .one (.v (.s (.bool b)))]) (ob := [(m1, .arr (c + k) true 1 9 (encS y.n)), (m2, .tree (c + k) true 5 33 (encTs y.k) none)]) (trH2 c1 c2 m1 m2 y) hC hf hl ha (by simp) (by simpa using hm) (by simpa using hcc) ?_ ?_ ?_ ?_
  · simp only [quiet, List.all_cons, List.all_nil, flatB, encS_flat]; rfl
  · simp only [renOT, renOPs, renOP, renOs, renO, N1, N2, Option.map_some, verOf]; rfl
  · simp only [renOBs, renOB, verOf]; rfl
  · simpa [updH] using hk
end
def ok51 := okF.gu (P := Try.prog) tab Try.func51 Try.ntmps51 (by conv => lhs; cbv) (by kernel_rfl)
theorem cloneS_ok (xs : List ByteArray) (hl : xs.length ≤ 2000000) (m : Nat) : ACallsF Try.prog 51 [tL (encS xs)] [newH 5 m 1 9 (encS xs)] (.c (.own 5 0 xs.length)) := by
  have q1 : xs.length * 16 ≤ 140737488355328 := by omega
  have q2 : xs.length ≤ 9223372036854775807 := by omega
  have hb1 : (true != false) = true := rfl
  have hb2 : (false != false) = false := rfl
  cases xs with
  | nil =>
    refine nilArgH fun ad c => ?_
    cases ad with
    | none =>
      refine ownNil (by decide) (ACallsF.intro ok51 follows fun X c0 => ?_)
      simp only [go_sem, Option.isNone_none, hb1]
    | some a =>
      refine ACallsF.intro ok51 follows fun X c0 => ?_
      simp only [go_sem, Option.isNone_some, hb2, Nat.zero_mul, Nat.zero_le, List.not_mem_nil, false_implies, implies_true, imp_self]
  | cons y ys =>
    refine ACallsF.intro ok51 follows fun X c0 => ?_
    obtain ⟨x, es, he⟩ : ∃ x es, encS (y :: ys) = x :: es := ⟨_, _, rfl⟩
    have hall := encS_all1 (y :: ys)
    have hlen := encS_len (y :: ys)
    rw [he] at hall hlen ⊢
    simp only [List.length_cons] at hlen q1 q2
    have hlen' : es.length = ys.length := by omega
    simp only [go_sem, hall, hlen', q1, q2, Nat.zero_add, imp_self]
end Go.V
set_option linter.unusedSimpArgs false
set_option maxRecDepth 20000
namespace Go.V
open Go.Proofs
theorem clKd (k : Kd) : closedA (tK k) = true := by simp [closedA, closedP, closedC]
theorem clTr (t : Tr) : closedA (tT t) = true := by simp [closedA, closedP, closedC]
theorem lendC1 {H : HMap} {x : T} (h : closedA x = true) : lendTs H [x] [x] = some ([x], [], []) := (closed_As [] H [x] (by simp [h])).1
theorem lendC2 {H : HMap} {x y : T} (h : closedA x = true) (h' : closedA y = true) : lendTs H [x, y] [x, y] = some ([x, y], [], []) := (closed_As [] H [x, y] (by simp [h, h'])).1
theorem lendC3 {H : HMap} {x y z : T} (h : closedA x = true) (h' : closedA y = true) (h'' : closedA z = true) : lendTs H [x, y, z] [x, y, z] = some ([x, y, z], [], []) := (closed_As [] H [x, y, z] (by simp [h, h', h''])).1
def ok63 := okF.gu (P := Try.prog) tab Try.func63 Try.ntmps63 (by conv => lhs; cbv) (by kernel_rfl)
def inv63 (s : Int) (ns : List ByteArray) (ks : List Kd) (i : Nat) (σ : St) : Prop :=
  σ.t 13 = tL (encKs ks) ∧ σ.t 14 = .i ks.length ∧ σ.t 15 = .i i ∧ (∃ u, σ.t 2 = .c (.ptr 2 u 0) ∧ σ.H 2 = some (.var u 38 [.v (.s (.int .i64 0)), .nil0, .nil0])) ∧
  ∃ u a b, σ.t 3 = .c (.ptr 3 u 0) ∧ σ.H 3 = some (.var u 38 [.v (.s (.int .i64 s)), .own 2003 a ns.length, .tr 2004 b i]) ∧ σ.H 2003 = some (.arr a true 1 9 (encS ns)) ∧ σ.H 2004 = some (.tree b true 3 38 (encKs (ks.take i)) none)
theorem cloneKd_ok : ∀ (y : Kd), KB 2000000 y → ∀ m1 m2, ACallsF Try.prog 63 [tK y] (kdH 2003 2004 m1 m2 y) (.pt (oKd 2003 0 2004 0 y)) := by
  intro y
  induction y using Kd.ind with
  | _ s ns ks ih =>
    intro hB m1 m2
    obtain ⟨b1, b2, b3, b4⟩ := hB.inv
    refine ACallsF.intro ok63 follows fun X c0 => ?_
    simp only [go_sem, encK_mk]
    refine callA1 (m := 2003) (ws := []) (ns := []) (cloneS_ok ns (by omega) 2003) rfl rfl rfl (encS_flat _) ⟨rfl, ?_⟩
    simp only [go_sem]
    refine Gh.one (gh_reify (n := 3) (j := 2) (id := 2004) (st := 3) (aty := 38) rfl rfl rfl (by decide)) ?_
    refine Gh.one (gh_plant (n := 3) (j := 2) (id := 2004) rfl rfl rfl (by simp)) ?_
    refine AW.upto ks.length (inv63 s ns ks) ⟨rfl, rfl, rfl, ⟨_, rfl, rfl⟩, _, _, _, rfl, rfl, rfl, rfl⟩ fun i t H c hi h => ?_
    obtain ⟨e13, e14, e15, ⟨u2, e2, eH2⟩, u3, a, b, e3, eH3, eHa, eHb⟩ := h
    simp only [T.c, T.i, tL] at e13 e14 e15 e2 eH2 e3 eH3 eHa eHb
    have hlr : (encKs (ks.take i)).length = i := by rw [encKs_len, List.length_take]; omega
    have htk : List.take i (encKs (ks.take i)) = encKs (ks.take i) := List.take_of_length_le (by omega)
    have hall := encKs_all3 (ks.take i)
    by_cases hlt : i < ks.length
    · have g1 : (i : Int) < ks.length := by omega
      have gz : (0 : Int) ≤ i := by omega
      have gw : IntKind.i64.wrap ((i : Int) + 1) = ((i + 1 : Nat) : Int) := wrap64 (x := (i : Int) + 1) ⟨by omega, by omega⟩
      have q3 : (i + 1) * 56 ≤ 140737488355328 := by omega
      have q4 : i + 1 ≤ 9223372036854775807 := by omega
      obtain ⟨y, hy⟩ : ∃ y, ks[i]? = some y := ⟨_, List.getElem?_eq_getElem hlt⟩
      have hmy := List.mem_of_getElem? hy
      have ey := encKs_at hy
      have hnew : encKs (ks.take (i + 1)) = encKs (ks.take i) ++ [[.s (.int .i64 y.s), .sl (encS y.n), .sl (encKs y.k)]] := by rw [List.take_add_one, hy, ← encK_eta]; exact encKs_snoc _ _
      have nd : (([3003, 3004] : List Nat).Nodup ∧ ¬ 23 ∈ ([3003, 3004] : List Nat)) = True := eq_true (by decide)
      simp only [go_sem, e13, e14, e15, e2, eH2, e3, eH3, g1, gz, ey, Int.toNat_natCast, List.length_map, encK_len, takeK, Nat.le_refl]
      refine callKd (m1 := 3003) (m2 := 3004) (ws := []) (ns := []) (ih _ hmy (b4 _ hmy) 3003 3004) (by decide) (by decide) rfl (lendC1 (clKd y)) (by simp [clKd]) ⟨?_, ?_⟩
      · simp only [go_sem]
      simp only [go_sem, e13, e14, e15, e2, eH2, e3, eH3, eHa, eHb, hlr, htk, gw, q3, q4, nd]
      exact ⟨hlt, e13, e14, rfl, ⟨u2, e2, eH2⟩, u3, a, _, e3, rfl, eHa, by rw [hnew]; rfl⟩
    · have g1 : ¬ (i : Int) < ks.length := by omega
      have hi2 : i = ks.length := by omega
      subst hi2
      rw [List.take_length] at eHb
      simp only [go_sem, e13, e14, e15, e2, eH2, e3, eH3, eHa, eHb, g1, imp_self]
def ok53 := okF.gu (P := Try.prog) tab Try.func53 Try.ntmps53 (by conv => lhs; cbv) (by kernel_rfl)
def inv53 (s n : Int) (x : ByteArray) (ns : List ByteArray) (ks : List Tr) (i : Nat) (σ : St) : Prop :=
  σ.t 17 = tL (encTs ks) ∧ σ.t 18 = .i ks.length ∧ σ.t 19 = .i i ∧ (∃ u, σ.t 2 = .c (.ptr 2 u 0) ∧ σ.H 2 = some (.var u 33 [.v (.s (.int .i64 0)), .v (.s (.int .i64 0)), .v (.s (.string ⟨#[]⟩)), .nil0, .nil0])) ∧
  ∃ u a b, σ.t 3 = .c (.ptr 3 u 0) ∧ σ.H 3 = some (.var u 33 [.v (.s (.int .i64 s)), .v (.s (.int .i64 n)), .v (.s (.string x)), .own 2003 a ns.length, .tr 2004 b i]) ∧ σ.H 2003 = some (.arr a true 1 9 (encS ns)) ∧ σ.H 2004 = some (.tree b true 5 33 (encTs (ks.take i)) none)
theorem cloneTr_ok : ∀ (y : Tr), TB 2000000 y → ∀ m1 m2, ACallsF Try.prog 53 [tT y] (trH2 2003 2004 m1 m2 y) (.pt (oTr 2003 0 2004 0 y)) := by
  intro y
  induction y using Tr.ind with
  | _ s n x ns ks ih =>
    intro hB m1 m2
    obtain ⟨b0, b1, b2, b3, b4⟩ := hB.inv
    refine ACallsF.intro ok53 follows fun X c0 => ?_
    simp only [go_sem, encT_mk]
    refine callA1 (m := 2003) (ws := []) (ns := []) (cloneS_ok ns (by omega) 2003) rfl rfl rfl (encS_flat _) ⟨rfl, ?_⟩
    simp only [go_sem]
    refine Gh.one (gh_reify (n := 3) (j := 4) (id := 2004) (st := 5) (aty := 33) rfl rfl rfl (by decide)) ?_
    refine Gh.one (gh_plant (n := 3) (j := 4) (id := 2004) rfl rfl rfl (by simp)) ?_
    refine AW.upto ks.length (inv53 s n x ns ks) ⟨rfl, rfl, rfl, ⟨_, rfl, rfl⟩, _, _, _, rfl, rfl, rfl, rfl⟩ fun i t H c hi h => ?_
    obtain ⟨e13, e14, e15, ⟨u2, e2, eH2⟩, u3, a, b, e3, eH3, eHa, eHb⟩ := h
    simp only [T.c, T.i, tL] at e13 e14 e15 e2 eH2 e3 eH3 eHa eHb
    have hlr : (encTs (ks.take i)).length = i := by rw [encTs_len, List.length_take]; omega
    have htk : List.take i (encTs (ks.take i)) = encTs (ks.take i) := List.take_of_length_le (by omega)
    have hall := encTs_all5 (ks.take i)
    by_cases hlt : i < ks.length
    · have g1 : (i : Int) < ks.length := by omega
      have gz : (0 : Int) ≤ i := by omega
      have gw : IntKind.i64.wrap ((i : Int) + 1) = ((i + 1 : Nat) : Int) := wrap64 (x := (i : Int) + 1) ⟨by omega, by omega⟩
      have q3 : (i + 1) * 80 ≤ 140737488355328 := by omega
      have q4 : i + 1 ≤ 9223372036854775807 := by omega
      obtain ⟨y, hy⟩ : ∃ y, ks[i]? = some y := ⟨_, List.getElem?_eq_getElem hlt⟩
      have hmy := List.mem_of_getElem? hy
      have ey := encTs_at hy
      have hnew : encTs (ks.take (i + 1)) = encTs (ks.take i) ++ [[.s (.int .i64 y.s), .s (.int .i64 y.m), .s (.string y.x), .sl (encS y.n), .sl (encTs y.k)]] := by rw [List.take_add_one, hy, ← encT_eta]; exact encTs_snoc _ _
      have nd : (([3003, 3004] : List Nat).Nodup ∧ ¬ 27 ∈ ([3003, 3004] : List Nat)) = True := eq_true (by decide)
      simp only [go_sem, e13, e14, e15, e2, eH2, e3, eH3, g1, gz, ey, Int.toNat_natCast, List.length_map, encT_len, takeT, Nat.le_refl]
      refine callTr (m1 := 3003) (m2 := 3004) (ws := []) (ns := []) (ih _ hmy (b4 _ hmy) 3003 3004) (by decide) (by decide) rfl (lendC1 (clTr y)) (by simp [clTr]) ⟨?_, ?_⟩
      · simp only [go_sem]
      simp only [go_sem, e13, e14, e15, e2, eH2, e3, eH3, eHa, eHb, hlr, htk, gw, q3, q4, nd]
      exact ⟨hlt, e13, e14, rfl, ⟨u2, e2, eH2⟩, u3, a, _, e3, rfl, eHa, by rw [hnew]; rfl⟩
    · have g1 : ¬ (i : Int) < ks.length := by omega
      have hi2 : i = ks.length := by omega
      subst hi2
      rw [List.take_length] at eHb
      simp only [go_sem, e13, e14, e15, e2, eH2, e3, eH3, eHa, eHb, g1, imp_self]
end Go.V
set_option linter.unusedSimpArgs false
namespace Go.V
open Go.Proofs
/-- A nil slice in a variable's cell becomes an own array of nothing. -/
theorem gh_reify2 {H : HMap} {c n j id st v : Nat} {aty ty : TypeId} {cs : List C} (h1 : H n = some (.var v ty cs)) (h2 : cs[j]? = some .nil0) (hne : n ≠ id) (hst : 0 < st) :
    Gh H c (upd (upd H id (some (.arr c true st aty []))) n (some (.var v ty (putC cs j [.own id c 0])))) (c + 1) := by
  refine ⟨Nat.le_succ c, fun w imm L hH => ?_⟩
  have hg := goes_arr_nil (w := w) (imm := imm) (L := L) hH id c (by simp) true st aty hst none
  have h1' : upd H id (some (.arr c true st aty [])) n = some (.var v ty cs) := by rw [upd_ne _ _ hne]; exact h1
  have hjl : j < cs.length := (List.getElem?_eq_some_iff.1 h2).1
  have hre : ∀ xs, CsRep w imm (upd H id (some (.arr c true st aty []))) (L.up id none noB) (with_ (· < c) c) xs cs → CsRep w imm (upd H id (some (.arr c true st aty []))) (L.up id none noB) (with_ (· < c) c) xs (putC cs j [.own id c 0]) := by
    intro xs hx
    have hpl : (putC cs j [C.own id c 0]).length = cs.length := by simp [putC]; omega
    refine ⟨by rw [hpl]; exact hx.1, fun k u y hu hy => ?_⟩
    by_cases hk : k = j
    · subst hk
      have : y = .own id c 0 := by
        simp only [putC, List.append_assoc] at hy
        rw [List.getElem?_append_right (by simp; omega)] at hy
        have e0 : k - (cs.take k).length = 0 := by simp; omega
        rw [e0] at hy
        simpa using hy.symm
      subst this
      obtain ⟨a0, rfl⟩ := hx.2 k u .nil0 hu h2
      refine ⟨.inr rfl, ⟨a0, 0, rfl, Nat.le_refl _⟩, fun wr' st' ty' es' hH => ?_⟩
      simp only [upd_same, Option.some.injEq, Blk.arr.injEq] at hH
      obtain ⟨_, _, _, _, rfl⟩ := hH
      exact ⟨Nat.le_refl _, .inl ⟨a0, rfl, rfl⟩⟩
    · refine hx.2 k u y hu ?_
      rw [← hy]
      simp only [putC, List.append_assoc]
      rcases Nat.lt_or_ge k j with hlt | hge
      · rw [List.getElem?_append_left (by simp; omega), List.getElem?_take, if_pos hlt]
      · rw [List.getElem?_append_right (by simp; omega)]
        have e0 : k - (cs.take j).length = (k - j - 1) + 1 := by simp; omega
        rw [e0]
        simp only [List.singleton_append, List.getElem?_cons_succ, List.getElem?_drop, List.length_singleton]
        congr 1
        omega
  obtain ⟨k1, k2, k3, k4⟩ := recell hg.hok h1' hre
  obtain ⟨s1, s2⟩ := Step.trans hg.step hg.near k3 k4
  have hu : ∀ v, with_ (· < c) c v → v < c + 1 := fun v hv => by rcases hv with hv | hv <;> omega
  exact ⟨L.up id none noB, k1.use hu, (hg.ext.trans k2).trans (CRep.use (w := w) hu), s1, s2⟩
theorem closed_map (xs : List V) : closedT (.pt (.agg (xs.map .v))) = true := by simp [closedT, closedP, closedC]
/-- A piece of code behind another one, told as a state of its own. -/
def thenO (P : Program) (X : Ctx) (b : ACode) (Q : Exit → St → Prop) : Exit → St → Prop := thenA (oneW P X b Q) Q
section
variable {P : Program} {X : Ctx} {Q : Exit → St → Prop} {σ σ' : St} {t : Nat → T} {H : HMap} {c : Nat}
theorem thenO_n (b : ACode) : thenO P X b Q .normal ⟨t, H, c⟩ = oneW P X b Q ⟨t, H, c⟩ := rfl
theorem thenO_e (b : ACode) (id : Nat) (σ : St) : thenO P X b Q (.exit id) σ = Q (.exit id) σ := rfl
theorem thenO_r (b : ACode) (σ : St) : thenO P X b Q .ret σ = Q .ret σ := rfl
theorem thenO_cg (x : ACode) (e : Exit) (h : σ = σ') : thenO P X x Q e σ = thenO P X x Q e σ' := by rw [h]
/-- a is run; what comes behind is told anew. -/
theorem oneW.run {a b : ACode} (h : wpa P X a (thenO P X b Q) σ) : oneW P X (.seq a b) Q σ := oneW.seq (oneW.of h)
theorem oneW.runS {a b : ACode} (h : oneW P X a (thenO P X b Q) σ) : oneW P X (.seq a b) Q σ := oneW.seq h
theorem oneW.blk {a : ACode} {id : Nat} (h : oneW P X a (inW id Q) σ) : oneW P X (.block id a) Q σ := oneW.block h
end
attribute [go_sem] thenO_n thenO_e thenO_r
attribute [congr] thenO_cg
end Go.V
set_option linter.unusedSimpArgs false
set_option maxRecDepth 20000
namespace Go.V
open Go.Proofs
abbrev zT : List C := [.v (.s (.int .i64 0)), .v (.s (.int .i64 0)), .v (.s (.string ⟨#[]⟩)), .nil0, .nil0]
abbrev noT : Tr := .mk 6 0 ⟨#[]⟩ [] []
/-- A tree as one of a wider schema. -/
inductive Wd : Kd → Kd → Tr → Tr → Prop
  | m (s : Int) (ns : List ByteArray) (ks : List Kd) (ns' : List ByteArray) (ks' : List Kd) (b : Kd) (t t' : Tr) (hs : s ≠ 6) (hb : ks'[0]? = some b) (h : Wd (.mk s ns ks) b t t') : Wd (.mk s ns ks) (.mk 6 ns' ks') t (.mk 6 0 ⟨#[]⟩ [] [t'])
  | f (s : Int) (ns : List ByteArray) (ks : List Kd) (ns' : List ByteArray) (ks' : List Kd) (ts tn : Int) (tx : ByteArray) (tns : List ByteArray) (tks outs : List Tr) (hl : outs.length = ns'.length)
      (h1 : ∀ (i j : Nat) x o k k' t, ns'[i]? = some x → outs[i]? = some o → ns[j]? = some x → ks[j]? = some k → ks'[i]? = some k' → tks[j]? = some t → Wd k k' t o)
      (h2 : ∀ (i : Nat) x o, ns'[i]? = some x → outs[i]? = some o → (∀ j : Nat, ns[j]? ≠ some x) → o = noT) : Wd (.mk s ns ks) (.mk 5 ns' ks') (.mk ts tn tx tns tks) (.mk 5 0 ⟨#[]⟩ ns' outs)
  | c (s : Int) (ns : List ByteArray) (ks : List Kd) (s' : Int) (ns' : List ByteArray) (ks' : List Kd) (ts tn : Int) (tx : ByteArray) (tns : List ByteArray) (tks outs : List Tr) (hs : s' ≠ 5) (hs2 : s' = 6 → s = 6) (hl : outs.length = tks.length)
      (h : ∀ (i : Nat) t o k k', tks[i]? = some t → outs[i]? = some o → ks[0]? = some k → ks'[0]? = some k' → Wd k k' t o) : Wd (.mk s ns ks) (.mk s' ns' ks') (.mk ts tn tx tns tks) (.mk ts tn tx tns outs)
theorem choose_list {α : Type} (P : Nat → α → Prop) : ∀ n, (∀ i, i < n → ∃ o, P i o) → ∃ outs : List α, outs.length = n ∧ ∀ i, i < n → ∃ o, outs[i]? = some o ∧ P i o
  | 0, _ => ⟨[], rfl, fun i hi => absurd hi (Nat.not_lt_zero i)⟩
  | n + 1, h => by
    obtain ⟨outs, h1, h2⟩ := choose_list P n fun i hi => h i (by omega)
    obtain ⟨o, ho⟩ := h n (by omega)
    refine ⟨outs ++ [o], by simp [h1], fun i hi => ?_⟩
    by_cases hin : i < n
    · obtain ⟨o', h3, h4⟩ := h2 i hin
      exact ⟨o', by rw [List.getElem?_append_left (by omega)]; exact h3, h4⟩
    · have : i = n := by omega
      subst this
      exact ⟨o, by rw [← h1, List.getElem?_append_right (Nat.le_refl _)]; simp, ho⟩
theorem all_of {α : Type} {P : α → Prop} {outs : List α} {n : Nat} (hl : outs.length = n) (h : ∀ i, i < n → ∃ o, outs[i]? = some o ∧ P o) : ∀ o ∈ outs, P o := by
  intro o ho
  obtain ⟨i, hi⟩ := List.mem_iff_getElem?.1 ho
  obtain ⟨o', h1, h2⟩ := h i (by have := (List.getElem?_eq_some_iff.1 hi).1; omega)
  rw [hi] at h1; cases h1; exact h2
theorem Fits.f_inv {ns : List ByteArray} {ks : List Kd} {ns' : List ByteArray} {ks' : List Kd} (h : Fits (.mk 5 ns ks) (.mk 5 ns' ks')) : (∀ (i : Nat) x, ns[i]? = some x → ∃ k', kid ns' ks' x = some k') ∧ (∀ (i : Nat) x k k', ns[i]? = some x → ks[i]? = some k → kid ns' ks' x = some k' → Fits k k') ∧
    ∀ (i : Nat) x (k' : Kd), ns'[i]? = some x → ks'[i]? = some k' → kid ns ks x = none → k'.sort = 6 := by
  cases h with
  | leaf _ _ _ _ _ hs => omega
  | f _ _ _ _ h1 h2 h3 => exact ⟨h1, h2, h3⟩
theorem enc_noT : encT noT = [.s (.int .i64 6), .s (.int .i64 0), .s (.string ⟨#[]⟩), .sl [], .sl []] := by rw [encT_mk, encTs_nil]; rfl
theorem moveT {H : HMap} {m1 v1 m2 v2 : Nat} {t : Tr} (h1 : H m1 = some (.arr v1 true 1 9 (encS t.n))) (h2 : H m2 = some (.tree v2 true 5 33 (encTs t.k) none)) :
    moveCs H 33 0 [.v (.s (.int .i64 t.s)), .v (.s (.int .i64 t.m)), .v (.s (.string t.x)), .own m1 v1 t.n.length, .tr m2 v2 t.k.length] = some (encT t, [m1, m2]) := by
  simp only [go_sem, h1, h2, take_encS, take_encTs, encT_eta]
def ok31 := okF.gu (P := Try.prog) tab Try.func31 Try.ntmps31 (by conv => lhs; cbv) (by kernel_rfl)
def WF (ns : List ByteArray) (ks : List Kd) (ns' : List ByteArray) (ks' : List Kd) (tks : List Tr) (i : Nat) (o : Tr) : Prop :=
  TB 2000 o ∧ ∃ x k' J b, ns'[i]? = some x ∧ ks'[i]? = some k' ∧ ACallsF Try.prog 52 [.c (.v (.sl (encS ns))), .s (.string x)] [] (tIB J b) ∧
    ((b = true ∧ ∃ k u, ns[J]? = some x ∧ ks[J]? = some k ∧ tks[J]? = some u ∧ Wd k k' u o ∧ ∀ m1 m2, ACallsF Try.prog 31 [tK k, tK k', tT u] (trH2 2001 32 m1 m2 o) (.pt (oTr 2001 0 32 0 o))) ∨ (b = false ∧ (∀ j : Nat, ns[j]? ≠ some x) ∧ o = noT))
def inv31f (ss : Int) (ns : List ByteArray) (ks : List Kd) (ns' : List ByteArray) (ks' : List Kd) (ts tn : Int) (tx : ByteArray) (tns : List ByteArray) (tks outs : List Tr) (i : Nat) (σ : St) : Prop :=
  (∃ u, σ.t 3 = .c (.ptr 3 u 0) ∧ σ.H 3 = some (.var u 38 [.v (.s (.int .i64 ss)), .v (.sl (encS ns)), .v (.sl (encKs ks))])) ∧ (∃ u, σ.t 4 = .c (.ptr 4 u 0) ∧ σ.H 4 = some (.var u 38 [.v (.s (.int .i64 5)), .v (.sl (encS ns')), .v (.sl (encKs ks'))])) ∧
  (∃ u, σ.t 5 = .c (.ptr 5 u 0) ∧ σ.H 5 = some (.var u 33 [.v (.s (.int .i64 ts)), .v (.s (.int .i64 tn)), .v (.s (.string tx)), .v (.sl (encS tns)), .v (.sl (encTs tks))])) ∧ (∃ u, σ.t 6 = .c (.ptr 6 u 0) ∧ σ.H 6 = some (.var u 33 zT)) ∧
  (∃ u a b, σ.t 7 = .c (.ptr 7 u 0) ∧ σ.H 7 = some (.var u 33 [.v (.s (.int .i64 5)), .v (.s (.int .i64 0)), .v (.s (.string ⟨#[]⟩)), .own 2001 a ns'.length, .tr 32 b i]) ∧ σ.H 2001 = some (.arr a true 1 9 (encS ns')) ∧ σ.H 32 = some (.tree b true 5 33 (encTs (outs.take i)) none)) ∧
  σ.t 43 = .c (.v (.sl (encS ns'))) ∧ σ.t 44 = .i ns'.length ∧ σ.t 45 = .i i
set_option maxHeartbeats 2000000 in
theorem widen_loopf (ss : Int) (ns : List ByteArray) (ks : List Kd) (ns' : List ByteArray) (ks' : List Kd) (ts tn : Int) (tx : ByteArray) (tns : List ByteArray) (tks outs : List Tr) (hl : outs.length = ns'.length) (hn : ns'.length ≤ 2000) (hW : ∀ i, i < ns'.length → ∃ o, outs[i]? = some o ∧ WF ns ks ns' ks' tks i o) {X : Ctx} {Q : Exit → St → Prop} {t : Nat → T} {H : HMap} {c : Nat}
    (h : inv31f ss ns ks ns' ks' ts tn tx tns tks outs 0 ⟨t, H, c⟩) (hQ : ∀ t H c, inv31f ss ns ks ns' ks' ts tn tx tns tks outs ns'.length ⟨t, H, c⟩ → Q (.exit 1) ⟨t, H, c⟩) : oneW Try.prog X (ok31.sub [1, 0, 0, 1, 1, 1, 0, 1, 0, 1, 0]) Q ⟨t, H, c⟩ := by
  dsimp only [okF.sub, ACode.sub]
  refine AW.uptoA ns'.length (inv31f ss ns ks ns' ks' ts tn tx tns tks outs) h fun i t H c hi h => ?_
  have hKI := h
  obtain ⟨⟨u3, e3, eH3⟩, ⟨u4, e4, eH4⟩, ⟨u5, e5, eH5⟩, ⟨u6, e6, eH6⟩, ⟨u7, a7, b7, e7, eH7, eHa, eHb⟩, e43, e44, e45⟩ := h
  simp only [T.c, T.i, zT] at e3 eH3 e4 eH4 e5 eH5 e6 eH6 e7 eH7 eHa eHb e43 e44 e45
  by_cases hlt : i < ns'.length
  · have g1 : (i : Int) < ns'.length := by omega
    have gz : (0 : Int) ≤ i := by omega
    have gw : IntKind.i64.wrap ((i : Int) + 1) = ((i + 1 : Nat) : Int) := wrap64 (x := (i : Int) + 1) ⟨by omega, by omega⟩
    have q3 : (i + 1) * 80 ≤ 140737488355328 := by omega
    have q4 : i + 1 ≤ 9223372036854775807 := by omega
    have hlr : (encTs (outs.take i)).length = i := by rw [encTs_len, List.length_take]; omega
    have htk : List.take i (encTs (outs.take i)) = encTs (outs.take i) := List.take_of_length_le (by omega)
    obtain ⟨o, ho, hBo, x, k', J, b, hx, hk', hCs, hcase⟩ := hW i hlt
    have es := encS_at hx
    have ek' := encKs_at hk'
    have hnew : encTs (outs.take (i + 1)) = encTs (outs.take i) ++ [encT o] := by rw [List.take_add_one, ho]; exact encTs_snoc _ _
    have nd : (([5003, 5004] : List Nat).Nodup ∧ ¬ 78 ∈ ([5003, 5004] : List Nat)) = True := eq_true (by decide)
    refine oneW.run ?_
    simp only [go_sem, e44, e45, g1]
    refine oneW.run ?_
    simp only [go_sem]
    refine oneW.runS (oneW.blk (oneW.run ?_))
    simp only [go_sem, e43, e45, gz, es]
    refine oneW.run ?_
    simp only [go_sem]
    refine oneW.run ?_
    simp only [go_sem, e3, eH3]
    refine callC hCs rfl rfl (by simp [closedA, closedP, closedC]) (by simp [closedT, closedP, closedC]) ?_
    rcases hcase with ⟨rfl, k, u, hnx, hk, hu, hWd, hC⟩ | ⟨rfl, hno, rfl⟩
    · have ek := encKs_at hk
      have eu := encTs_at hu
      have gzJ : (0 : Int) ≤ J := by omega
      simp only [go_sem, e3, eH3, e4, eH4, e5, eH5, gz, gzJ, ek, ek', eu, Int.toNat_natCast, List.length_map, encK_len, takeK, encT_len, takeT, Nat.le_refl]
      refine callTr (m1 := 5003) (m2 := 5004) (ws := []) (ns := []) (hC 5003 5004) (by decide) (by decide) rfl (lendC3 (clKd k) (clKd k') (clTr u)) (by simp [clKd, clTr]) ⟨?_, ?_⟩
      · simp only [go_sem]
      simp only [go_sem]
      refine oneW.of ?_
      rw [encT_eta] at hnew
      simp only [go_sem, e7, eH7, eHb, hlr, htk, q3, q4, nd]
      refine oneW.of ?_
      simp only [go_sem, e45, gw]
      refine ⟨hlt, ⟨u3, e3, eH3⟩, ⟨u4, e4, eH4⟩, ⟨u5, e5, eH5⟩, ⟨u6, e6, eH6⟩, ⟨u7, a7, _, e7, rfl, eHa, ?_⟩, e43, e44, rfl⟩
      rw [hnew]; rfl
    · simp only [go_sem]
      refine Gh.one (gh_reify2 (n := 10) (j := 3) (id := 5003) (st := 1) (aty := 9) rfl rfl (by decide) (by decide)) ?_
      refine Gh.one (gh_reify2 (n := 10) (j := 4) (id := 5004) (st := 5) (aty := 33) rfl rfl (by decide) (by decide)) ?_
      refine Gh.one (gh_plant (n := 10) (j := 4) (id := 5004) rfl rfl rfl (by simp)) ?_
      refine oneW.of ?_
      rw [enc_noT] at hnew
      simp only [go_sem, e7, eH7, eHb, hlr, htk, q3, q4, nd, List.not_mem_nil, false_implies, implies_true]
      refine oneW.of ?_
      simp only [go_sem, e45, gw]
      refine ⟨hlt, ⟨u3, e3, eH3⟩, ⟨u4, e4, eH4⟩, ⟨u5, e5, eH5⟩, ⟨u6, e6, eH6⟩, ⟨u7, a7, _, e7, rfl, eHa, ?_⟩, e43, e44, rfl⟩
      rw [hnew]; rfl
  · have hin : i = ns'.length := by omega
    subst hin
    have g1 : ¬ ((ns'.length : Nat) : Int) < ns'.length := by omega
    refine oneW.of ?_
    simp only [go_sem, e44, e45, g1]
    exact hQ _ _ _ hKI

def WC (ks ks' : List Kd) (tks : List Tr) (i : Nat) (o : Tr) : Prop :=
  TB 2000 o ∧ ∃ k k' u, ks[0]? = some k ∧ ks'[0]? = some k' ∧ tks[i]? = some u ∧ Wd k k' u o ∧ ∀ m1 m2, ACallsF Try.prog 31 [tK k, tK k', tT u] (trH2 2001 32 m1 m2 o) (.pt (oTr 2001 0 32 0 o))
/-- What stands beside the tree that is written. -/
def wcB (ss : Int) (ns : List ByteArray) (ks : List Kd) (s' : Int) (ns' : List ByteArray) (ks' : List Kd) (ts tn : Int) (tx : ByteArray) (tns : List ByteArray) (tks : List Tr) (b i : Nat) (σ : St) : Prop :=
  (∃ u, σ.t 3 = .c (.ptr 3 u 0) ∧ σ.H 3 = some (.var u 38 [.v (.s (.int .i64 ss)), .v (.sl (encS ns)), .v (.sl (encKs ks))])) ∧ (∃ u, σ.t 4 = .c (.ptr 4 u 0) ∧ σ.H 4 = some (.var u 38 [.v (.s (.int .i64 s')), .v (.sl (encS ns')), .v (.sl (encKs ks'))])) ∧
  (∃ u, σ.t 6 = .c (.ptr 6 u 0) ∧ σ.H 6 = some (.var u 33 zT)) ∧
  (∃ u a, σ.t 13 = .c (.ptr 13 u 0) ∧ σ.H 13 = some (.var u 33 [.v (.s (.int .i64 ts)), .v (.s (.int .i64 tn)), .v (.s (.string tx)), .own 2001 a tns.length, .tr 32 b tks.length]) ∧ σ.H 2001 = some (.arr a true 1 9 (encS tns))) ∧
  σ.t 86 = .c (.v (.sl (encTs tks))) ∧ σ.t 87 = .i tks.length ∧ σ.t 88 = .i i
theorem wcB.re {ss : Int} {ns : List ByteArray} {ks : List Kd} {s' : Int} {ns' : List ByteArray} {ks' : List Kd} {ts tn : Int} {tx : ByteArray} {tns : List ByteArray} {tks : List Tr} {b i : Nat} {t : Nat → T} {H H' : HMap} {c c' : Nat} (h : wcB ss ns ks s' ns' ks' ts tn tx tns tks b i ⟨t, H, c⟩) (hH : ∀ n, n < 5000 → n ≠ 32 → H' n = H n) : wcB ss ns ks s' ns' ks' ts tn tx tns tks b i ⟨t, H', c'⟩ := by
  obtain ⟨⟨u3, e3, eH3⟩, ⟨u4, e4, eH4⟩, ⟨u6, e6, eH6⟩, ⟨u13, a, e13, eH13, eHa⟩, h⟩ := h
  exact ⟨⟨u3, e3, (hH 3 (by decide) (by decide)).trans eH3⟩, ⟨u4, e4, (hH 4 (by decide) (by decide)).trans eH4⟩, ⟨u6, e6, (hH 6 (by decide) (by decide)).trans eH6⟩, ⟨u13, a, e13, (hH 13 (by decide) (by decide)).trans eH13, (hH 2001 (by decide) (by decide)).trans eHa⟩, h⟩
def inv31c (ss : Int) (ns : List ByteArray) (ks : List Kd) (s' : Int) (ns' : List ByteArray) (ks' : List Kd) (ts tn : Int) (tx : ByteArray) (tns : List ByteArray) (tks outs : List Tr) (i : Nat) (σ : St) : Prop :=
  ∃ b, wcB ss ns ks s' ns' ks' ts tn tx tns tks b i σ ∧
  ((i = 0 ∧ σ.H 32 = some (.tree b true 5 33 (encTs tks) none)) ∨ ∃ j o u1 u2, i = j + 1 ∧ outs[j]? = some o ∧
    σ.H 32 = some (.tree b true 5 33 (encTs (outs.take j ++ tks.drop j)) (some (j, [.v (.s (.int .i64 o.s)), .v (.s (.int .i64 o.m)), .v (.s (.string o.x)), .own 6003 u1 o.n.length, .tr 6004 u2 o.k.length]))) ∧
    σ.H 6003 = some (.arr u1 true 1 9 (encS o.n)) ∧ σ.H 6004 = some (.tree u2 true 5 33 (encTs o.k) none))
def mid31c (ss : Int) (ns : List ByteArray) (ks : List Kd) (s' : Int) (ns' : List ByteArray) (ks' : List Kd) (ts tn : Int) (tx : ByteArray) (tns : List ByteArray) (tks outs : List Tr) (i : Nat) (σ : St) : Prop :=
  ∃ b, wcB ss ns ks s' ns' ks' ts tn tx tns tks b i σ ∧
  (i < tks.length → ∃ cs, σ.H 32 = some (.tree b true 5 33 (encTs (outs.take i ++ tks.drop i)) (some (i, cs))) ∧ cs.length = 5) ∧ (i = tks.length → σ.H 32 = some (.tree b true 5 33 (encTs outs) none))
theorem set_wc {outs tks : List Tr} (hl : outs.length = tks.length) {i : Nat} {o : Tr} (ho : outs[i]? = some o) : (outs.take i ++ tks.drop i).set i o = outs.take (i + 1) ++ tks.drop (i + 1) := by
  have hi := (List.getElem?_eq_some_iff.1 ho).1
  rw [List.set_append_right _ _ (by rw [List.length_take]; omega), List.length_take, show i - min i outs.length = 0 from by omega, List.take_add_one, ho, List.drop_eq_getElem_cons (by omega : i < tks.length), List.set_cons_zero]
  simp
set_option maxHeartbeats 2000000 in
theorem widen_loopc (ss : Int) (ns : List ByteArray) (ks : List Kd) (s' : Int) (ns' : List ByteArray) (ks' : List Kd) (ts tn : Int) (tx : ByteArray) (tns : List ByteArray) (tks outs : List Tr) (hl : outs.length = tks.length) (hn : tks.length ≤ 2000) (hW : ∀ i, i < tks.length → ∃ o, outs[i]? = some o ∧ WC ks ks' tks i o) {X : Ctx} {Q : Exit → St → Prop} {t : Nat → T} {H : HMap} {c : Nat}
    (h : inv31c ss ns ks s' ns' ks' ts tn tx tns tks outs 0 ⟨t, H, c⟩) (hQ : ∀ t H c, mid31c ss ns ks s' ns' ks' ts tn tx tns tks outs tks.length ⟨t, H, c⟩ → Q (.exit 3) ⟨t, H, c⟩) : oneW Try.prog X (ok31.sub [1, 1, 1, 0, 1, 0]) Q ⟨t, H, c⟩ := by
  dsimp only [okF.sub, ACode.sub]
  refine AW.uptoG tks.length (inv31c ss ns ks s' ns' ks' ts tn tx tns tks outs) (mid31c ss ns ks s' ns' ks' ts tn tx tns tks outs) h (fun i t H c hi h => ?_) fun i t H c hi h => ?_
  · obtain ⟨b, hB, hH⟩ := h
    obtain ⟨H1, g1, k1, k2⟩ : ∃ H1, Gh H c H1 c ∧ H1 32 = some (.tree b true 5 33 (encTs (outs.take i ++ tks.drop i)) none) ∧ ∀ n, n < 5000 → n ≠ 32 → H1 n = H n := by
      rcases hH with ⟨rfl, hH⟩ | ⟨j, o, u1, u2, rfl, ho, hH, h1, h2⟩
      · exact ⟨H, Gh.refl H c, by simpa using hH, fun _ _ _ => rfl⟩
      · have := gh_close (c := c) hH (moveT h1 h2) (by simp) (by decide)
        rw [set_encTs, set_wc hl ho] at this
        exact ⟨_, this, closeH_id _ _ _ _, fun n h1 h2 => closeH_out _ _ _ _ h2 (by simp; omega)⟩
    by_cases hlt : i < tks.length
    · obtain ⟨u, hu⟩ : ∃ u, tks[i]? = some u := ⟨_, List.getElem?_eq_getElem hlt⟩
      have eat : (encTs (outs.take i ++ tks.drop i))[i]? = some (encT u) := encTs_at (by
        rw [List.getElem?_append_right (by rw [List.length_take]; omega), List.length_take, List.getElem?_drop, show i + (i - min i outs.length) = i from by omega]; exact hu)
      refine ⟨_, _, g1.trans (gh_open 5000 k1 eat (by decide)), b, hB.re fun n h1 h2 => (openH_out H1 32 b 5 33 _ i (encT u) 5000 c h2 (by omega)).trans (k2 n h1 h2), fun _ => ⟨_, openH_id H1 32 b 5 33 _ i (encT u) 5000 c, by rw [(openCs_at (k := 0)).1, encT_len]⟩, fun h => absurd h (by omega)⟩
    · have : i = tks.length := by omega
      subst this
      rw [List.drop_length, List.append_nil, ← hl, List.take_length] at k1
      exact ⟨_, _, g1, b, hB.re k2, fun h => absurd h hlt, fun _ => k1⟩
  · have hKI := h
    obtain ⟨b, hB, hm, hq⟩ := h
    obtain ⟨⟨u3, e3, eH3⟩, ⟨u4, e4, eH4⟩, ⟨u6, e6, eH6⟩, ⟨u13, a, e13, eH13, eHa⟩, e86, e87, e88⟩ := hB
    simp only [T.c, T.i, zT] at e3 eH3 e4 eH4 e6 eH6 e13 eH13 eHa e86 e87 e88
    by_cases hlt : i < tks.length
    · obtain ⟨cs, eH, hcs⟩ := hm hlt
      replace eH : H 32 = _ := eH
      have g1 : (i : Int) < tks.length := by omega
      have gz : (0 : Int) ≤ i := by omega
      have gw : IntKind.i64.wrap ((i : Int) + 1) = ((i + 1 : Nat) : Int) := wrap64 (x := (i : Int) + 1) ⟨by omega, by omega⟩
      have hlr : (encTs (outs.take i ++ tks.drop i)).length = tks.length := by rw [encTs_len, List.length_append, List.length_take, List.length_drop]; omega
      obtain ⟨o, ho, hBo, k, k', u, hk, hk', hu, hWd, hC⟩ := hW i hlt
      have ek := encKs_at hk
      have ek' := encKs_at hk'
      have eu := encTs_at hu
      have hd : cs.drop 5 = [] := List.drop_of_length_le (by omega)
      simp only [go_sem, e3, eH3, e4, eH4, e13, eH13, e86, e87, e88, g1, gz, ek, ek', eu, Int.toNat_natCast, Int.toNat_zero, Int.le_refl, List.length_map, encK_len, takeK, encT_len, takeT, Nat.le_refl]
      refine callTr (m1 := 6003) (m2 := 6004) (ws := []) (ns := []) (hC 6003 6004) (by decide) (by decide) rfl (lendC3 (clKd k) (clKd k') (clTr u)) (by simp [clKd, clTr]) ⟨?_, ?_⟩
      · simp only [go_sem]
      simp only [go_sem, e13, eH13, eH, e88, g1, hlt, gz, gw, hlr, hcs, hd, Int.toNat_natCast]
      exact ⟨b, ⟨⟨u3, e3, eH3⟩, ⟨u4, e4, eH4⟩, ⟨u6, e6, eH6⟩, ⟨u13, a, e13, eH13, eHa⟩, e86, e87, rfl⟩, .inr ⟨i, o, _, _, rfl, ho, rfl, rfl, rfl⟩⟩
    · have hin : i = tks.length := by omega
      subst hin
      have g1 : ¬ ((tks.length : Nat) : Int) < tks.length := by omega
      simp only [go_sem, e87, e88, g1]
      exact hQ _ _ _ hKI
end Go.V
set_option linter.unusedSimpArgs false
namespace Go.V
open Go.Proofs
set_option maxHeartbeats 2000000 in
theorem widenO_ok : ∀ (b a : Kd) (t : Tr) (d d' e : Nat), KOk d a → KOk d' b → TOk e t → Fits a b → Has a t → KB 2000 a → KB 2000 b → TB 2000 t → ∃ t', Wd a b t t' ∧ TB 2000 t' ∧ ∀ m1 m2, ACallsF Try.prog 31 [tK a, tK b, tT t] (trH2 2001 32 m1 m2 t') (.pt (oTr 2001 0 32 0 t')) := by
  intro b
  induction b using Kd.ind with
  | _ s' ns' ks' ih =>
    intro a t d d' e hOa hOb hOt hF hH hBa hBb hBt
    obtain ⟨s, ns, ks⟩ := a
    obtain ⟨ts, tn, tx, tns, tks⟩ := t
    obtain ⟨_, hSa, hKa⟩ := hOa.inv
    obtain ⟨_, hSb, hKb⟩ := hOb.inv
    obtain ⟨_, hSt, hKt⟩ := hOt.inv
    have hSt := tshape_sh hSt
    obtain ⟨hss, hnames, hkids⟩ := hH.inv
    subst hss
    obtain ⟨a1, a2, a3, a4⟩ := hBa.inv
    obtain ⟨b1, b2, b3, b4⟩ := hBb.inv
    obtain ⟨t0, t1, t2, t3, t4⟩ := hBt.inv
    have hz0 : (⟨#[]⟩ : ByteArray).size ≤ 2000 := by decide
    have noTB : TB 2000 noT := .mk _ _ _ _ _ hz0 (by simp) (by simp) (by simp) (by simp)
    by_cases hm : s' = 6 ∧ s ≠ 6
    · obtain ⟨rfl, h6⟩ := hm
      have hl' := hSb.one (.inr rfl)
      obtain ⟨kb, hkb⟩ : ∃ k, ks'[0]? = some k := ⟨_, List.getElem?_eq_getElem (by omega)⟩
      have hmb := List.mem_of_getElem? hkb
      have ekb := encKs_at hkb
      obtain ⟨t', hW, hB', hC⟩ := ih kb hmb (.mk s ns ks) (.mk s tn tx tns tks) _ _ _ hOa (hKb kb hmb) hOt ((Fits.m_iff h6 hkb).1 hF) hH hBa (b4 kb hmb) hBt
      refine ⟨.mk 6 0 ⟨#[]⟩ [] [t'], .m _ _ _ _ _ _ _ _ h6 hkb hW, .mk _ _ _ _ _ hz0 (by simp) (by simp) (by simp) (by simpa using hB'), fun m1 m2 => ?_⟩
      have h6b : (s != 6) = true := by simp [h6]
      have nd : (([4003, 4004] : List Nat).Nodup ∧ ¬ 32 ∈ ([4003, 4004] : List Nat)) = True := eq_true (by decide)
      have e1 : encTs [t'] = [encT t'] := by simp [encTs_eq]
      refine own0 (r := .pt (.agg [.v (.s (.int .i64 6)), .v (.s (.int .i64 0)), .v (.s (.string ⟨#[]⟩)), .nil0, .tr 32 0 1])) (hs := [newT 32 m2 5 33 (encTs [t'])]) false 0 3 2001 m1 1 9 (by decide) rfl rfl (fun ν ν' h => by simp [verT, verP, verC, h]) (fun ν ν' h x hx v => by simp at hx; subst hx; rfl) (ACallsF.intro ok31 follows fun X c0 => ?_)
      have clA := clKd (.mk s ns ks)
      have clB := clTr (.mk s tn tx tns tks)
      simp only [tK, tT, encK_mk, encT_mk, List.map_cons, List.map_nil] at hC clA clB
      simp only [go_sem, encK_mk, encT_mk, Int.reduceBEq, h6b, ekb, Int.le_refl, Int.toNat_zero, List.length_map, encK_len, takeK]
      refine callTr (m1 := 4003) (m2 := 4004) (ws := []) (ns := []) (hC 4003 4004) (by decide) (by decide) rfl (lendC3 clA (clKd kb) clB) (by simp [clA, clKd, clB]) ⟨?_, ?_⟩
      · simp only [go_sem]
      rw [e1, encT_eta]
      simp only [go_sem, nd, take_encS, take_encTs, imp_self]
    have hc : s' = 6 → s = 6 := fun h => by
      by_cases h6 : s = 6
      · exact h6
      · exact absurd ⟨h, h6⟩ hm
    have hcond : ((s' == 6) = true ∧ (s != 6) = false) ∨ (s' == 6) = false := by
      by_cases h : s' = 6
      · exact .inl ⟨beq_iff_eq.2 h, by rw [hc h]; rfl⟩
      · exact .inr (beq_eq_false_iff_ne.2 h)
    by_cases h5 : s' = 5
    · subst h5
      have hs5 : s = 5 := hF.sort_eq (by omega)
      subst hs5
      obtain ⟨f1, f2, f3⟩ := hF.f_inv
      have hn := hnames rfl
      subst hn
      have la := hSa.form rfl
      have lb := hSb.form rfl
      have lt := hSt.form rfl
      obtain ⟨outs, hlo, houts⟩ := choose_list (WF ns ks ns' ks' tks) ns'.length fun i hi => by
        obtain ⟨x, hx⟩ : ∃ x, ns'[i]? = some x := ⟨_, List.getElem?_eq_getElem hi⟩
        obtain ⟨k', hk'⟩ : ∃ k, ks'[i]? = some k := ⟨_, List.getElem?_eq_getElem (by omega)⟩
        have hmk' := List.mem_of_getElem? hk'
        obtain ⟨J, b, hb1, hb2, hCs⟩ := search_ok ns x la.2 (by omega)
        cases b with
        | true =>
          have hJ := hb1 rfl
          have hJl := (List.getElem?_eq_some_iff.1 hJ).1
          obtain ⟨k, hk⟩ : ∃ k, ks[J]? = some k := ⟨_, List.getElem?_eq_getElem (by omega)⟩
          obtain ⟨u, hu⟩ : ∃ u, tks[J]? = some u := ⟨_, List.getElem?_eq_getElem (by omega)⟩
          have hmk := List.mem_of_getElem? hk
          have hmu := List.mem_of_getElem? hu
          have hkid : kid ns' ks' x = some k' := kid_at (fun j hj e => by have := rise_inj (rise_true.1 lb.2) e hx; omega) hx hk'
          obtain ⟨o, hW, hB', hC⟩ := ih k' hmk' k u _ _ _ (hKa k hmk) (hKb k' hmk') (hKt u hmu) (f2 J x k k' hJ hk hkid) (hkids J u k hu (by rw [sel, if_pos rfl]; exact hk)) (a4 k hmk) (b4 k' hmk') (t4 u hmu)
          exact ⟨o, hB', x, k', J, true, hx, hk', hCs, .inl ⟨rfl, k, u, hJ, hk, hu, hW, hC⟩⟩
        | false => exact ⟨noT, noTB, x, k', J, false, hx, hk', hCs, .inr ⟨rfl, hb2 rfl, rfl⟩⟩
      refine ⟨.mk 5 0 ⟨#[]⟩ ns' outs, .f _ _ _ _ _ _ _ _ _ _ _ hlo (fun i j x o k k' u hx ho hj hk hk' hu => ?_) (fun i x o hx ho hno => ?_), .mk _ _ _ _ _ hz0 b1 (by omega) b3 (all_of hlo fun i hi => by obtain ⟨o, h1, h2⟩ := houts i hi; exact ⟨o, h1, h2.1⟩), fun m1 m2 => ACallsF.intro ok31 follows fun X c0 => ?_⟩
      · obtain ⟨o', ho', _, x2, k2, J, b, hx2, hk2, _, hcase⟩ := houts i (List.getElem?_eq_some_iff.1 hx).1
        rw [ho] at ho'; rw [hx] at hx2; rw [hk'] at hk2
        cases ho'; cases hx2; cases hk2
        rcases hcase with ⟨_, k3, u3, hJ, hk3, hu3, hW, _⟩ | ⟨_, hno, _⟩
        · have := rise_inj (rise_true.1 la.2) hj hJ
          subst this
          rw [hk] at hk3; rw [hu] at hu3; cases hk3; cases hu3
          exact hW
        · exact absurd hj (hno j)
      · obtain ⟨o', ho', _, x2, k2, J, b, hx2, hk2, _, hcase⟩ := houts i (List.getElem?_eq_some_iff.1 hx).1
        rw [ho] at ho'; rw [hx] at hx2
        cases ho'; cases hx2
        rcases hcase with ⟨_, k3, u3, hJ, _⟩ | ⟨_, _, h⟩
        · exact absurd hJ (hno J)
        · exact h
      simp only [go_sem, encK_mk, encT_mk, Int.reduceBEq]
      refine callA1 (m := 2001) (ws := []) (ns := []) (cloneS_ok ns' (by omega) 2001) rfl rfl rfl (encS_flat _) ⟨rfl, ?_⟩
      simp only [go_sem]
      refine Gh.one (gh_reify2 (n := 7) (j := 4) (id := 32) (st := 5) (aty := 33) rfl rfl (by decide) (by decide)) ?_
      refine Gh.one (gh_plant (n := 7) (j := 4) (id := 32) rfl rfl rfl (by simp)) ?_
      refine widen_loopf 5 ns ks ns' ks' 5 tn tx ns tks outs hlo (by omega) houts ?_ fun t H c h => ?_
      · unfold inv31f
        exact ⟨⟨_, rfl, rfl⟩, ⟨_, rfl, rfl⟩, ⟨_, rfl, rfl⟩, ⟨_, rfl, rfl⟩, ⟨_, _, _, rfl, rfl, rfl, rfl⟩, rfl, rfl, rfl⟩
      obtain ⟨⟨u3, e3, eH3⟩, ⟨u4, e4, eH4⟩, ⟨u5, e5, eH5⟩, ⟨u6, e6, eH6⟩, ⟨u7, a7, b7, e7, eH7, eHa, eHb⟩, e43, e44, e45⟩ := h
      rw [show outs.take ns'.length = outs from by rw [← hlo, List.take_length]] at eHb
      simp only [T.c, T.i, zT] at e6 eH6 e7 eH7 eHa eHb
      simp only [go_sem, e6, eH6, e7, eH7, eHa, eHb, hlo, imp_self]
    · have h5b : (s' == 5) = false := beq_eq_false_iff_ne.2 h5
      have hkid0 : ∀ i, i < tks.length → ∃ k k' u, ks[0]? = some k ∧ ks'[0]? = some k' ∧ tks[i]? = some u ∧ Fits k k' ∧ Has k u := by
        intro i hi
        obtain ⟨u, hu⟩ : ∃ u, tks[i]? = some u := ⟨_, List.getElem?_eq_getElem hi⟩
        have hs5 : s ≠ 5 := fun h => by
          subst h
          by_cases h6' : s' = 6
          · have := hc h6'; omega
          · exact h5 (hF.sort_eq h6').symm
        have hs4 : ¬ s < 4 := fun h => by have := hSt.leaf h; omega
        have h46 : s = 4 ∨ s = 6 := by have := hSa.hi; omega
        have la := hSa.one h46
        obtain ⟨k, hk⟩ : ∃ k, ks[0]? = some k := ⟨_, List.getElem?_eq_getElem (by omega)⟩
        have hHk := hkids i u k hu (by rw [sel, if_neg hs5]; exact hk)
        by_cases h6' : s' = 6
        · have h6 := hc h6'
          subst h6 h6'
          have lb := hSb.one (.inr rfl)
          obtain ⟨k', hk'⟩ : ∃ k, ks'[0]? = some k := ⟨_, List.getElem?_eq_getElem (by omega)⟩
          exact ⟨k, k', u, hk, hk', hu, (Fits.mm_iff hk hk').1 hF, hHk⟩
        · have hse := hF.sort_eq h6'
          subst hse
          have h4 : s = 4 := by omega
          subst h4
          have lb := hSb.one (.inl rfl)
          obtain ⟨k', hk'⟩ : ∃ k, ks'[0]? = some k := ⟨_, List.getElem?_eq_getElem (by omega)⟩
          exact ⟨k, k', u, hk, hk', hu, (Fits.l_iff hk hk').1 hF, hHk⟩
      obtain ⟨outs, hlo, houts⟩ := choose_list (WC ks ks' tks) tks.length fun i hi => by
        obtain ⟨k, k', u, hk, hk', hu, hFk, hHk⟩ := hkid0 i hi
        have hmk := List.mem_of_getElem? hk
        have hmk' := List.mem_of_getElem? hk'
        have hmu := List.mem_of_getElem? hu
        obtain ⟨o, hW, hB', hC⟩ := ih k' hmk' k u _ _ _ (hKa k hmk) (hKb k' hmk') (hKt u hmu) hFk hHk (a4 k hmk) (b4 k' hmk') (t4 u hmu)
        exact ⟨o, hB', k, k', u, hk, hk', hu, hW, hC⟩
      refine ⟨.mk s tn tx tns outs, .c _ _ _ _ _ _ _ _ _ _ _ _ h5 hc hlo (fun i u o k k' hu ho hk hk' => ?_), .mk _ _ _ _ _ t0 t1 (by omega) t3 (all_of hlo fun i hi => by obtain ⟨o, h1, h2⟩ := houts i hi; exact ⟨o, h1, h2.1⟩), fun m1 m2 => ACallsF.intro ok31 follows fun X c0 => ?_⟩
      · obtain ⟨o', ho', _, k2, k2', u2, hk2, hk2', hu2, hW, _⟩ := houts i (List.getElem?_eq_some_iff.1 hu).1
        rw [ho] at ho'; rw [hk] at hk2; rw [hk'] at hk2'; rw [hu] at hu2
        cases ho'; cases hk2; cases hk2'; cases hu2
        exact hW
      have hCt := cloneTr_ok (.mk s tn tx tns tks) (hBt.le (by omega)) 2001 32
      have clA := clTr (.mk s tn tx tns tks)
      simp only [tT, encT_mk, List.map_cons, List.map_nil] at hCt clA
      have tail : ∀ (X : Ctx) (t : Nat → T) (H : HMap) (c : Nat), inv31c s ns ks s' ns' ks' s tn tx tns tks outs 0 ⟨t, H, c⟩ →
          oneW Try.prog X (ok31.sub [1, 1, 1, 0, 1, 0]) (inW 3 (thenW Try.prog X (ok31.sub [1, 1, 1, 1]) (endA (FinC ok31.res (.pt (oTr 2001 0 32 0 (.mk s tn tx tns outs))) (trH2 2001 32 m1 m2 (.mk s tn tx tns outs)))))) ⟨t, H, c⟩ := by
        intro X t H c h
        refine widen_loopc s ns ks s' ns' ks' s tn tx tns tks outs hlo t2 houts h fun t H c h => ?_
        dsimp only [okF.sub, ACode.sub, okF.res]
        obtain ⟨b, ⟨⟨u3, e3, eH3⟩, ⟨u4, e4, eH4⟩, ⟨u6, e6, eH6⟩, ⟨u13, a, e13, eH13, eHa⟩, e86, e87, e88⟩, _, hq⟩ := h
        replace hq := hq rfl
        simp only [T.c, T.i, zT] at e6 eH6 e13 eH13 eHa hq
        simp only [go_sem, e6, eH6, e13, eH13, eHa, hq, hlo, imp_self]
      rcases hcond with ⟨h6b, h6b2⟩ | h6b
      · simp only [go_sem, encK_mk, encT_mk, h6b, h6b2, h5b]
        refine callTr (m1 := 2001) (m2 := 32) (ws := []) (ns := []) hCt (by decide) (by decide) rfl (lendC1 clA) (by simp [clA]) ⟨?_, ?_⟩
        · simp only [go_sem]
        simp only [go_sem]
        exact tail X _ _ _ ⟨_, ⟨⟨_, rfl, rfl⟩, ⟨_, rfl, rfl⟩, ⟨_, rfl, rfl⟩, ⟨_, _, rfl, rfl, rfl⟩, rfl, rfl, rfl⟩, .inl ⟨rfl, rfl⟩⟩
      · simp only [go_sem, encK_mk, encT_mk, h6b, h5b]
        refine callTr (m1 := 2001) (m2 := 32) (ws := []) (ns := []) hCt (by decide) (by decide) rfl (lendC1 clA) (by simp [clA]) ⟨?_, ?_⟩
        · simp only [go_sem]
        simp only [go_sem]
        exact tail X _ _ _ ⟨_, ⟨⟨_, rfl, rfl⟩, ⟨_, rfl, rfl⟩, ⟨_, rfl, rfl⟩, ⟨_, _, rfl, rfl, rfl⟩, rfl, rfl, rfl⟩, .inl ⟨rfl, rfl⟩⟩
end Go.V
set_option linter.unusedSimpArgs false
set_option maxRecDepth 20000
namespace Go.V
open Go.Proofs
abbrev z0T : Tr := .mk 0 0 ⟨#[]⟩ [] []
theorem enc_z0T : encT z0T = [.s (.int .i64 0), .s (.int .i64 0), .s (.string ⟨#[]⟩), .sl [], .sl []] := by rw [encT_mk, encTs_nil]; rfl
theorem z0T_TB : TB 2000 z0T := .mk _ _ _ _ _ (by decide) (by simp) (by simp) (by simp) (by simp)
/-- What KindWiden tells. -/
def KW (a b : Kd) (t t' : Tr) (ok : Bool) : Prop :=
  (∃ w, okK a = true ∧ okK b = true ∧ Fits a b ∧ okT t = true ∧ Has a t ∧ Wd a b t w ∧ ((okT w = true ∧ ok = true ∧ t' = w) ∨ (okT w = false ∧ ok = false ∧ t' = z0T))) ∨
  (¬ (okK a = true ∧ okK b = true ∧ Fits a b ∧ okT t = true ∧ Has a t) ∧ ok = false ∧ t' = z0T)
abbrev tTB (t : Tr) (b : Bool) : T := .tup [.agg ((encT t).map .v), .one (.v (.s (.bool b)))]
abbrev oTrB (c1 v1 c2 v2 : Nat) (t : Tr) (b : Bool) : T := .tup [oTr c1 v1 c2 v2 t, .one (.v (.s (.bool b)))]
/-- A tree of nil slices and a truth value. -/
theorem ownZT {P : Program} {f : FuncId} {args : List T} {m1 m2 : Nat} {b : Bool} (h : ACallsF P f args [] (.tup [.agg [.v (.s (.int .i64 0)), .v (.s (.int .i64 0)), .v (.s (.string ⟨#[]⟩)), .nil0, .nil0], .one (.v (.s (.bool b)))])) :
    ACallsF P f args (trH2 2001 32 m1 m2 z0T) (oTrB 2001 0 32 0 z0T b) :=
  own0 (r := .tup [.agg [.v (.s (.int .i64 0)), .v (.s (.int .i64 0)), .v (.s (.string ⟨#[]⟩)), .nil0, .tr 32 0 0], .one (.v (.s (.bool b)))]) (hs := [newT 32 m2 5 33 []]) false 0 3 2001 m1 1 9 (by decide) rfl rfl (fun ν ν' h => by simp [verT, verP, verC, h]) (fun ν ν' h x hx v => by simp at hx; subst hx; rfl)
    (own0 (r := .tup [.agg [.v (.s (.int .i64 0)), .v (.s (.int .i64 0)), .v (.s (.string ⟨#[]⟩)), .nil0, .nil0], .one (.v (.s (.bool b)))]) (hs := []) true 0 4 32 m2 5 33 (by decide) rfl rfl (fun ν ν' h => by simp [verT, verP, verC]) (fun ν ν' h x hx v => by cases hx) h)
section
variable {H : HMap} {m1 v1 m2 v2 n1 n2 : Nat} {w1 w2 : Bool}
theorem lendTr {t : Tr} (h1 : H m1 = some (.arr v1 w1 1 9 (encS t.n))) (h2 : H m2 = some (.tree v2 w2 5 33 (encTs t.k) none)) (e1 : n1 = t.n.length) (e2 : n2 = t.k.length) :
    lendT H (tT t) (.pt (.agg [.v (.s (.int .i64 t.s)), .v (.s (.int .i64 t.m)), .v (.s (.string t.x)), .own m1 v1 n1, .tr m2 v2 n2])) = some (tT t, [(m1, .arr v1 false 1 9 (encS t.n)), (m2, .tree v2 false 5 33 (encTs t.k) none)], [m1, m2]) := by
  subst e1 e2
  simp only [tT, encT_eta, List.map_cons, List.map_nil, lendT, lendCs, lendC, sealC, h1, h2, encS_len, encTs_len, take_encS, take_encTs, Nat.le_refl, and_self, if_true, Option.map_some, List.cons_append, List.nil_append]
theorem lendKd {k : Kd} (h1 : H m1 = some (.arr v1 w1 1 9 (encS k.n))) (h2 : H m2 = some (.tree v2 w2 3 38 (encKs k.k) none)) (e1 : n1 = k.n.length) (e2 : n2 = k.k.length) :
    lendT H (tK k) (.pt (.agg [.v (.s (.int .i64 k.s)), .own m1 v1 n1, .tr m2 v2 n2])) = some (tK k, [(m1, .arr v1 false 1 9 (encS k.n)), (m2, .tree v2 false 3 38 (encKs k.k) none)], [m1, m2]) := by
  subst e1 e2
  simp only [tK, encK_eta, List.map_cons, List.map_nil, lendT, lendCs, lendC, sealC, h1, h2, encS_len, encKs_len, take_encS, take_encKs, Nat.le_refl, and_self, if_true, Option.map_some, List.cons_append, List.nil_append]
end
abbrev trL (m1 v1 m2 v2 : Nat) (t : Tr) : List (Nat × Blk) := [(m1, .arr v1 false 1 9 (encS t.n)), (m2, .tree v2 false 5 33 (encTs t.k) none)]
abbrev kdL (m1 v1 m2 v2 : Nat) (k : Kd) : List (Nat × Blk) := [(m1, .arr v1 false 1 9 (encS k.n)), (m2, .tree v2 false 3 38 (encKs k.k) none)]
theorem lendTr1 {H : HMap} {m1 v1 m2 v2 n1 n2 : Nat} {w1 w2 : Bool} {t : Tr} (h1 : H m1 = some (.arr v1 w1 1 9 (encS t.n))) (h2 : H m2 = some (.tree v2 w2 5 33 (encTs t.k) none)) (e1 : n1 = t.n.length) (e2 : n2 = t.k.length) :
    lendTs H [tT t] [.pt (.agg [.v (.s (.int .i64 t.s)), .v (.s (.int .i64 t.m)), .v (.s (.string t.x)), .own m1 v1 n1, .tr m2 v2 n2])] = some ([tT t], trL m1 v1 m2 v2 t, [m1, m2]) := by
  simp only [lendTs, lendTr h1 h2 e1 e2, List.append_nil]
theorem lendKd1 {H : HMap} {m1 v1 m2 v2 n1 n2 : Nat} {w1 w2 : Bool} {k : Kd} (h1 : H m1 = some (.arr v1 w1 1 9 (encS k.n))) (h2 : H m2 = some (.tree v2 w2 3 38 (encKs k.k) none)) (e1 : n1 = k.n.length) (e2 : n2 = k.k.length) :
    lendTs H [tK k] [.pt (.agg [.v (.s (.int .i64 k.s)), .own m1 v1 n1, .tr m2 v2 n2])] = some ([tK k], kdL m1 v1 m2 v2 k, [m1, m2]) := by
  simp only [lendTs, lendKd h1 h2 e1 e2, List.append_nil]
def ok10 := okF.gu (P := Try.prog) tab Try.func10 Try.ntmps10 (by conv => lhs; cbv) (by kernel_rfl)
theorem kindWidenO_ok (a b : Kd) (t : Tr) (ha : KB 2000000 a) (hb : KB 2000000 b) (ht : TB 2000000 t) : ∃ t' ok, KW a b t t' ok ∧ TB 2000 t' ∧ ∀ m1 m2, ACallsF Try.prog 10 [tK a, tK b, tT t] (trH2 2001 32 m1 m2 t') (oTrB 2001 0 32 0 t' ok) := by
  have hCf := kindFitsI_ok a b ha hb
  by_cases h1 : (okK a && (okK b && kfits a b)) = true
  · have hCh := kindHas_ok a t ha ht
    by_cases h2 : (okK a && (okT t && has a t)) = true
    · have h1' := h1
      have h2' := h2
      simp only [Bool.and_eq_true] at h1' h2'
      have hF := fits_true.1 h1'.2.2
      have hH := has_true.1 h2'.2.2
      obtain ⟨w, hW, hBw, hC⟩ := widenO_ok b a t 1 1 1 (okK_true.1 h1'.1).1 (okK_true.1 h1'.2.1).1 (okT_true.1 h2'.2.1).1 hF hH ((okK_KB h1'.1).le (by omega)) ((okK_KB h1'.2.1).le (by omega)) ((okT_TB h2'.2.1).le (by omega))
      have hCo := treeOk_ok w (hBw.le (by omega))
      cases hok : okT w with
      | true =>
        refine ⟨w, true, .inl ⟨w, h1'.1, h1'.2.1, hF, h2'.2.1, hH, hW, .inl ⟨hok, rfl, rfl⟩⟩, hBw, fun m1 m2 => ACallsF.intro ok10 follows fun X c0 => ?_⟩
        simp only [go_sem, List.length_map, encK_len, takeK, encT_len, takeT, Nat.le_refl]
        refine callC hCf rfl rfl (by simp [closedA, closedP, closedC]) rfl ?_
        simp only [go_sem, h1, List.length_map, encK_len, takeK, encT_len, takeT, Nat.le_refl]
        refine callC hCh rfl rfl (by simp [closedA, closedP, closedC]) rfl ?_
        simp only [go_sem, h2, List.length_map, encK_len, takeK, encT_len, takeT, Nat.le_refl]
        refine callTr (m1 := 2001) (m2 := 32) (ws := []) (ns := []) (hC 2001 32) (by decide) (by decide) rfl (lendC3 (clKd a) (clKd b) (clTr t)) (by simp [clKd, clTr]) ⟨?_, ?_⟩
        · simp only [go_sem]
        simp only [go_sem, List.length_map, encT_len, takeT, Nat.le_refl]
        refine callL (ws := trL 2001 _ 32 _ w) (ns := [2001, 32]) hCo rfl (lendTr1 rfl rfl rfl rfl) (by simp [clTr]) rfl ⟨?_, ?_⟩
        · simp only [go_sem]
        simp only [go_sem, hok, scalarT, scalarP, scalarC, imp_self]
      | false =>
        refine ⟨z0T, false, .inl ⟨w, h1'.1, h1'.2.1, hF, h2'.2.1, hH, hW, .inr ⟨hok, rfl, rfl⟩⟩, z0T_TB, fun m1 m2 => ownZT (ACallsF.intro ok10 follows fun X c0 => ?_)⟩
        simp only [go_sem, List.length_map, encK_len, takeK, encT_len, takeT, Nat.le_refl]
        refine callC hCf rfl rfl (by simp [closedA, closedP, closedC]) rfl ?_
        simp only [go_sem, h1, List.length_map, encK_len, takeK, encT_len, takeT, Nat.le_refl]
        refine callC hCh rfl rfl (by simp [closedA, closedP, closedC]) rfl ?_
        simp only [go_sem, h2, List.length_map, encK_len, takeK, encT_len, takeT, Nat.le_refl]
        refine callTr (m1 := 2001) (m2 := 32) (ws := []) (ns := []) (hC 2001 32) (by decide) (by decide) rfl (lendC3 (clKd a) (clKd b) (clTr t)) (by simp [clKd, clTr]) ⟨?_, ?_⟩
        · simp only [go_sem]
        simp only [go_sem, List.length_map, encT_len, takeT, Nat.le_refl]
        refine callL (ws := trL 2001 _ 32 _ w) (ns := [2001, 32]) hCo rfl (lendTr1 rfl rfl rfl rfl) (by simp [clTr]) rfl ⟨?_, ?_⟩
        · simp only [go_sem]
        simp only [go_sem, hok, scalarT, scalarP, scalarC, imp_self]
    · refine ⟨z0T, false, .inr ⟨fun h => h2 ?_, rfl, rfl⟩, z0T_TB, fun m1 m2 => ownZT (ACallsF.intro ok10 follows fun X c0 => ?_)⟩
      · simp only [h.1, h.2.2.2.1, has_true.2 h.2.2.2.2, Bool.and_self]
      have h2 : (okK a && (okT t && has a t)) = false := by simpa using h2
      simp only [go_sem, List.length_map, encK_len, takeK, encT_len, takeT, Nat.le_refl]
      refine callC hCf rfl rfl (by simp [closedA, closedP, closedC]) rfl ?_
      simp only [go_sem, h1, List.length_map, encK_len, takeK, encT_len, takeT, Nat.le_refl]
      refine callC hCh rfl rfl (by simp [closedA, closedP, closedC]) rfl ?_
      simp only [go_sem, h2]
  · refine ⟨z0T, false, .inr ⟨fun h => h1 ?_, rfl, rfl⟩, z0T_TB, fun m1 m2 => ownZT (ACallsF.intro ok10 follows fun X c0 => ?_)⟩
    · simp only [h.1, h.2.1, fits_true.2 h.2.2.1, Bool.and_self]
    have h1 : (okK a && (okK b && kfits a b)) = false := by simpa using h1
    simp only [go_sem, List.length_map, encK_len, takeK, encT_len, takeT, Nat.le_refl]
    refine callC hCf rfl rfl (by simp [closedA, closedP, closedC]) rfl ?_
    simp only [go_sem, h1]
end Go.V
set_option linter.unusedSimpArgs false
set_option maxRecDepth 20000
namespace Go.V
open Go.Proofs
theorem push_size (r : ByteArray) (b : UInt8) : (r.push b).size = r.size + 1 := by cases r; simp [ByteArray.push, ByteArray.size]
def en {α : Type} (f : α → List V) (xs : List α) : List (List V) := xs.map f
section
variable {α : Type} (f : α → List V)
theorem en_len (xs : List α) : (en f xs).length = xs.length := by simp [en]
theorem en_at {xs : List α} {i : Nat} {x : α} (h : xs[i]? = some x) : (en f xs)[i]? = some (f x) := by simp [en, h]
theorem en_snoc (xs : List α) (x : α) : en f (xs ++ [x]) = en f xs ++ [f x] := by simp [en]
theorem en_app (xs ys : List α) : en f (xs ++ ys) = en f xs ++ en f ys := by simp [en]
theorem en_nil : en f [] = [] := rfl
theorem en_take (xs : List α) : (en f xs).take xs.length = en f xs := by rw [← en_len f xs, List.take_length]
theorem en_cut (xs : List α) (n : Nat) : (en f xs).take n = en f (xs.take n) := by simp [en, List.map_take]
theorem en_drop (xs : List α) (n : Nat) : (en f xs).drop n = en f (xs.drop n) := by simp [en, List.map_drop]
theorem en_set (xs : List α) (i : Nat) (x : α) : (en f xs).set i (f x) = en f (xs.set i x) := by simp [en, List.map_set]
theorem en_rep (n : Nat) (x : α) : List.replicate n (f x) = en f (List.replicate n x) := by simp [en]
theorem en_one {st : Nat} (h : ∀ x, (f x).length = st) (xs : List α) : ∀ e ∈ en f xs, e.length = st := by
  intro e he
  obtain ⟨x, _, rfl⟩ := List.mem_map.1 he
  exact h x
theorem en_all {st : Nat} (h : ∀ x, (f x).length = st) (xs : List α) : (∀ e ∈ en f xs, e.length = st) = True := eq_true (en_one f h xs)
theorem en_flat (h : ∀ x, (f x).all flatV = true) (xs : List α) : ((en f xs).all fun e => e.all flatV) = true := by
  rw [List.all_eq_true]
  intro e he
  obtain ⟨x, _, rfl⟩ := List.mem_map.1 he
  exact h x
def wsum (w : α → Nat) (xs : List α) : Nat := (xs.map w).sum
theorem wsum_take (w : α → Nat) {xs : List α} {i : Nat} {x : α} (h : xs[i]? = some x) : wsum w (xs.take (i + 1)) = wsum w (xs.take i) + w x := by
  rw [List.take_add_one, h]; simp [wsum]
theorem wsum_le (w : α → Nat) : ∀ (xs : List α) (n : Nat), wsum w (xs.take n) ≤ wsum w xs
  | [], n => by simp [wsum]
  | x :: xs, 0 => by simp [wsum]
  | x :: xs, n + 1 => by have := wsum_le w xs n; simp only [wsum, List.take_succ_cons, List.map_cons, List.sum_cons] at this ⊢; omega
theorem wsum_mem (w : α → Nat) {xs : List α} {x : α} (h : x ∈ xs) : w x ≤ wsum w xs := by
  induction xs with
  | nil => cases h
  | cons y ys ih =>
    simp only [wsum, List.map_cons, List.sum_cons]
    rcases List.mem_cons.1 h with rfl | h
    · omega
    · have := ih h; simp only [wsum] at this; omega
end
def sub1 (left : Int) (w : Nat) : Int := if (w : Int) ≤ left then left - w else -1
def zS : ByteArray := ⟨#[]⟩
def wS (s : ByteArray) : Nat := s.size
def okS (s : ByteArray) : Prop := s.size ≤ 9223372036854775807
theorem encS_set (xs : List ByteArray) (i : Nat) (x : ByteArray) : (encS xs).set i [.s (.string x)] = encS (xs.set i x) := by simp [encS, List.map_set]
theorem encS_rep (n : Nat) (x : ByteArray) : List.replicate n [V.s (.string x)] = encS (List.replicate n x) := by simp [encS]
def ok55 := okF.gu (P := Try.prog) tab Try.func55 Try.ntmps55 (by conv => lhs; cbv) (by kernel_rfl)
/-- How far the text of a mark is written. -/
def mtI (k : Nat) : Nat → Nat × ByteArray
  | 0 => (k, ⟨#[]⟩)
  | i + 1 => ((mtI k i).1 / 10, pushB [IntKind.u8.wrap (48 + (((mtI k i).1 % 10 : Nat) : Int))] ++ (mtI k i).2)
theorem mtI_size (k : Nat) : ∀ i, (mtI k i).2.size = i
  | 0 => rfl
  | i + 1 => by
    have hsz : ∀ x : Int, (pushB [x]).size = 1 := fun x => by rw [pushB, List.foldl_cons, List.foldl_nil, push_size]; rfl
    rw [mtI, ByteArray.size_append, hsz, mtI_size k i]; omega
theorem mtI_le (k : Nat) : ∀ i, (mtI k i).1 ≤ k
  | 0 => Nat.le_refl _
  | i + 1 => by have := mtI_le k i; simp only [mtI]; omega
theorem mtI_fall (k : Nat) : ∀ i, (mtI k i).1 * 10 ^ i ≤ k
  | 0 => by simp [mtI]
  | i + 1 => by
    have := mtI_fall k i
    simp only [mtI]
    have h : (mtI k i).1 / 10 * 10 ≤ (mtI k i).1 := Nat.div_mul_le_self _ _
    calc (mtI k i).1 / 10 * 10 ^ (i + 1) = (mtI k i).1 / 10 * 10 * 10 ^ i := by rw [Nat.pow_succ, Nat.mul_comm (10 ^ i) 10, Nat.mul_assoc]
      _ ≤ (mtI k i).1 * 10 ^ i := Nat.mul_le_mul_right _ h
      _ ≤ k := this
def inv55 (k N : Nat) (i : Nat) (σ : St) : Prop := (∀ j, j < i → (mtI k j).1 ≠ 0) ∧ i ≤ N ∧ σ.t 0 = .i (mtI k i).1 ∧ σ.t 3 = tS (mtI k i).2
def mtG (k : Nat) : Nat → Nat → Nat
  | 0, i => i
  | f + 1, i => if (mtI k i).1 = 0 then i else mtG k f (i + 1)
theorem mtG_ok (k : Nat) : ∀ f i, (mtI k (i + f)).1 = 0 → (mtI k (mtG k f i)).1 = 0 ∧ (∀ j, i ≤ j → j < mtG k f i → (mtI k j).1 ≠ 0) ∧ mtG k f i ≤ i + f
  | 0, i, h => ⟨h, fun j h1 h2 => absurd h2 (by simp only [mtG]; omega), Nat.le_refl _⟩
  | f + 1, i, h => by
    by_cases h0 : (mtI k i).1 = 0
    · simp only [mtG, if_pos h0]; exact ⟨h0, fun j h1 h2 => by omega, by omega⟩
    · simp only [mtG, if_neg h0]
      obtain ⟨g1, g2, g3⟩ := mtG_ok k f (i + 1) (by rw [show i + 1 + f = i + (f + 1) by omega]; exact h)
      refine ⟨g1, fun j h1 h2 => ?_, by omega⟩
      rcases Nat.eq_or_lt_of_le h1 with rfl | h1
      · exact h0
      · exact g2 j h1 h2
/-- The text of a mark. -/
def mt (k : Nat) : ByteArray := ⟨#[109]⟩ ++ (mtI k (mtG k 9 0)).2
theorem mark_ok (k : Nat) (h1 : 1 ≤ k) (h2 : k ≤ 100000000) : ACallsF Try.prog 55 [.i k] [] (tS (mt k)) := by
  have h0 : (mtI k 9).1 = 0 := by
    have := mtI_fall k 9
    by_cases h : (mtI k 9).1 = 0
    · exact h
    · have : 1 * 10 ^ 9 ≤ (mtI k 9).1 * 10 ^ 9 := Nat.mul_le_mul_right _ (by omega)
      omega
  obtain ⟨hN, hmin, hN9⟩ := mtG_ok k 9 0 h0
  unfold mt
  generalize mtG k 9 0 = N at *
  have hsz : ∀ x : Int, (pushB [x]).size = 1 := fun x => by rw [pushB, List.foldl_cons, List.foldl_nil, push_size]; rfl
  refine ACallsF.intro ok55 follows fun X c0 => ?_
  have k0 : ¬ (k : Int) ≤ 0 := by omega
  simp only [go_sem, k0]
  refine AW.upto N (inv55 k N) ⟨fun j hj => absurd hj (Nat.not_lt_zero j), Nat.zero_le _, rfl, rfl⟩ fun i t H c hi h => ?_
  obtain ⟨g, _, e0, e3⟩ := h
  simp only [T.c, T.i, T.s] at e0 e3
  have hle := mtI_le k i
  have hz := mtI_size k i
  by_cases hlt : i < N
  · have hne : (mtI k i).1 ≠ 0 := hmin i (Nat.zero_le _) hlt
    have k1 : ((mtI k i).1 : Int) > 0 := by omega
    have q1 : IntKind.i64.wrap (((mtI k i).1 : Int).tdiv 10) = (((mtI k i).1 / 10 : Nat) : Int) := (IntWalk.i64_quo ((mtI k i).1 : Int) 10 ⟨by omega, by omega, by omega⟩).trans (by omega)
    have q2 : ((mtI k i).1 : Int).tmod 10 = (((mtI k i).1 % 10 : Nat) : Int) := rfl
    have q3 : IntKind.i64.wrap (48 + (((mtI k i).1 % 10 : Nat) : Int)) = 48 + (((mtI k i).1 % 10 : Nat) : Int) := wrap64 ⟨by omega, by omega⟩
    have h10 : ¬ (10 : Int) = 0 := by omega
    have hlen : fits (pushB [IntKind.u8.wrap (48 + (((mtI k i).1 % 10 : Nat) : Int))]) (mtI k i).2 := by rw [fits, hsz, hz]; omega
    simp only [go_sem, e0, e3, k1, q1, q2, q3, h10, bytesOf, sStr, hlen]
    exact ⟨hlt, fun j hj => (by rcases Nat.lt_succ_iff_lt_or_eq.1 hj with hj | rfl; exact g j hj; exact hne), hlt, rfl, rfl⟩
  · have hi2 : i = N := by omega
    subst hi2
    have hN' : (mtI k i).1 = 0 := hN
    have k1 : ¬ ((mtI k i).1 : Int) > 0 := by omega
    have hlen : fits ⟨#[109]⟩ (mtI k i).2 := by rw [fits, hz]; show 1 + i ≤ _; omega
    simp only [go_sem, e0, e3, k1, sStr, hlen]
/-- What stands in a list that is marked. -/
def marks {α : Type} (m : Nat → α) (s k n : Nat) : List α := (List.range n).map fun j => m (k + s * j)
theorem marks_len {α : Type} (m : Nat → α) (s k n : Nat) : (marks m s k n).length = n := by simp [marks]
theorem marks_at {α : Type} (m : Nat → α) (s k : Nat) {n i : Nat} (h : i < n) : (marks m s k n)[i]? = some (m (k + s * i)) := by simp [marks, h]
def mrk {α : Type} (m : Nat → α) (s : Nat) (xs : List α) (k i : Nat) : List α := marks m s k i ++ xs.drop i
theorem mrk_len {α : Type} (m : Nat → α) (s : Nat) (xs : List α) (k : Nat) {i : Nat} (h : i ≤ xs.length) : (mrk m s xs k i).length = xs.length := by simp [mrk, marks_len]; omega
theorem mrk_zero {α : Type} (m : Nat → α) (s : Nat) (xs : List α) (k : Nat) : mrk m s xs k 0 = xs := by simp [mrk, marks]
theorem mrk_end {α : Type} (m : Nat → α) (s : Nat) (xs : List α) (k : Nat) : mrk m s xs k xs.length = marks m s k xs.length := by simp [mrk]
theorem mrk_at {α : Type} (m : Nat → α) (s : Nat) (xs : List α) (k : Nat) {i : Nat} {x : α} (h : xs[i]? = some x) : (mrk m s xs k i)[i]? = some x := by
  rw [mrk, List.getElem?_append_right (by rw [marks_len]; omega), marks_len, Nat.sub_self, List.getElem?_drop]; simpa using h
theorem mrk_set {α : Type} (m : Nat → α) (s : Nat) (xs : List α) (k : Nat) {i : Nat} {x : α} (h : xs[i]? = some x) : (mrk m s xs k i).set i (m (k + s * i)) = mrk m s xs k (i + 1) := by
  have hi := (List.getElem?_eq_some_iff.1 h).1
  rw [mrk, List.set_append, if_neg (by rw [marks_len]; omega), marks_len, Nat.sub_self, List.drop_eq_getElem_cons hi, List.set_cons_zero, mrk]
  simp [marks, List.range_succ]
def mS (k : Nat) : ByteArray := mt k
theorem SET : (type_of% @List.getElem?_set_self.{0}) ∧ (type_of% @List.set_set.{0}) ∧ (type_of% @List.length_set.{0}) := ⟨@List.getElem?_set_self.{0}, @List.set_set.{0}, @List.length_set.{0}⟩
/-- An array that is handed on. -/
abbrev arH (c m v st : Nat) (ty : TypeId) (es es' : List (List V)) : Hand := ⟨c, m, some (.arr v true st ty es), .arr v true st ty es', true⟩
/-- A call that works in place on an array of the caller's. -/
theorem callM1 {P : Program} {t : Nat → T} {H : HMap} {c : Nat} {f : Opd} {args : List Opd} {fid : FuncId} {n m v N st : Nat} {ty : TypeId} {es es' : List (List V)} {x r : T} {k : Nat} {d : Option Nat} {un : List Nat} {l : List AOper} {prev : List (Nat × List Nat × List Nat)} {K : St → Prop}
    (hC : ACallsF P fid [.c (.own n v N), x] [arH n m v st ty es es'] r) (hf : ev t f = .pt (.one (.fn fid []))) (hl : args.map (ev t) = [.c (.own m v N), x]) (hH : H m = some (.arr v true st ty es)) (hx : closedA x = true) (hr : closedT r = true)
    (hk : chk prev un ⟨r, [(m, .arr v true st ty es')], [m], [m]⟩ = true ∧ DRun P l ((k, [m], [m]) :: prev) K ⟨updD t d r, upd H m (some (.arr v true st ty es')), c⟩) :
    step P k d un (.call f args) l prev K t H c := by
  have hN : renN [arH n m v st ty es es'] n = some (arH n m v st ty es es') := by simp [renN]
  obtain ⟨x1, x2⟩ := closed_A [arH n m v st ty es es'] H x hx
  refine callW (caps := []) («as» := [.c (.own m v N), x]) (ws := []) (ns := []) (r' := r) (ob := [(m, .arr v true st ty es')]) [arH n m v st ty es es'] hC hf ?_ ?_ ⟨?_, trivial⟩ (by simp) (by simp) (closed_T _ r hr _) ?_ ?_
  · rw [hl]
    have a1 : lendT H (T.c (.own n v N)) (T.c (.own m v N)) = some (T.c (.own m v N), [], []) := rfl
    simp only [List.map_nil, List.append_nil, lendTs, a1, x1]
  · have a1 : renIT [arH n m v st ty es es'] (T.c (.own n v N)) = some (T.c (.own m v N)) := by simp only [T.c, renIT, renI, inN, hN, Option.bind_some, Option.map_some]
    simp only [renITs, a1, x2]
  · show (match renIB [arH n m v st ty es es'] (.arr v true st ty es) with | some B => (updH H []) m = some B | none => False)
    simp only [renIB, updH]
    exact hH
  · simp only [renOBs, renOB, verOf, if_true, Blk.ver]
  · have hq : quiet r [arH n m v st ty es es'] = false := by simp [quiet]
    simpa [hq, updH] using hk
def ok19 := okF.gu (P := Try.prog) tab Try.func19 Try.ntmps19 (by conv => lhs; cbv) (by kernel_rfl)
def inv19 (xs : List ByteArray) (left : Int) (i : Nat) (σ : St) : Prop := ((xs.length + wsum wS (xs.take i) : Nat) : Int) ≤ left ∧ σ.t 0 = .c (.v (.sl (encS xs))) ∧ σ.t 1 = .i (left - ((xs.length + wsum wS (xs.take i) : Nat) : Int)) ∧ σ.t 5 = .i i
theorem szSs_ok (xs : List ByteArray) (left : Int) (h0 : 0 ≤ left ∧ left ≤ 1048576) (hl : xs.length ≤ 9223372036854775807) (hw : ∀ x ∈ xs, okS x) : ACallsF Try.prog 19 [.c (.v (.sl (encS xs))), .i left] [] (.i (sub1 left (xs.length + wsum wS xs))) := by
  refine ACallsF.intro ok19 follows fun X c0 => ?_
  have gw0 : IntKind.i64.wrap (left - xs.length) = left - xs.length := wrap64 ⟨by omega, by omega⟩
  by_cases hA : (xs.length : Int) ≤ left
  · have k0 : ¬ left - (xs.length : Int) < 0 := by omega
    simp only [go_sem, gw0, k0]
    refine AW.upto xs.length (inv19 xs left) ⟨by simpa [wsum] using hA, rfl, by show T.i (left - (xs.length : Int)) = _; simp [wsum], rfl⟩ fun i t H c hi h => ?_
    obtain ⟨g, e0, e1, e5⟩ := h
    simp only [T.c, T.i] at e0 e1 e5
    by_cases hlt : i < xs.length
    · obtain ⟨x, hx⟩ : ∃ x, xs[i]? = some x := ⟨_, List.getElem?_eq_getElem hlt⟩
      have ex := encS_at hx
      have k1 : (i : Int) < xs.length := by omega
      have gz : (0 : Int) ≤ i := by omega
      have gw : IntKind.i64.wrap ((i : Int) + 1) = ((i + 1 : Nat) : Int) := wrap64 (x := (i : Int) + 1) ⟨by omega, by omega⟩
      have hs : wsum wS (xs.take (i + 1)) = wsum wS (xs.take i) + wS x := wsum_take wS hx
      have hle : wsum wS (xs.take (i + 1)) ≤ wsum wS xs := wsum_le wS xs _
      have hwx := hw x (List.mem_of_getElem? hx)
      unfold okS at hwx
      have gw1 : IntKind.i64.wrap (left - ((xs.length + wsum wS (xs.take i) : Nat) : Int) - (x.size : Int)) = left - ((xs.length + wsum wS (xs.take i) : Nat) : Int) - (x.size : Int) := wrap64 ⟨by omega, by omega⟩
      by_cases hB : ((wS x : Nat) : Int) ≤ left - ((xs.length + wsum wS (xs.take i) : Nat) : Int)
      · rw [show wS x = x.size from rfl] at hB
        have hs' : wsum wS (xs.take (i + 1)) = wsum wS (xs.take i) + x.size := hs
        have k2 : left - ((xs.length + wsum wS (xs.take i) : Nat) : Int) - (x.size : Int) = left - ((xs.length + wsum wS (xs.take (i + 1)) : Nat) : Int) := by omega
        have k3 : ¬ left - ((xs.length + wsum wS (xs.take (i + 1)) : Nat) : Int) < 0 := by omega
        simp only [go_sem, e0, e1, e5, encS_len, k1, gz, ex, Int.toNat_natCast, gw1.trans k2, k3, gw]
        exact ⟨hlt, by omega, e0, rfl, rfl⟩
      · rw [show wS x = x.size from rfl] at hB
        have hs' : wsum wS (xs.take (i + 1)) = wsum wS (xs.take i) + x.size := hs
        have k2 : left - ((xs.length + wsum wS (xs.take i) : Nat) : Int) - (x.size : Int) < 0 := by omega
        have k3 : sub1 left (xs.length + wsum wS xs) = -1 := by rw [sub1, if_neg (by omega)]
        simp only [go_sem, e0, e1, e5, encS_len, k1, gz, ex, Int.toNat_natCast, gw1, k2, k3]
    · have k1 : ¬ (i : Int) < xs.length := by omega
      have hi2 : i = xs.length := by omega
      subst hi2
      rw [List.take_length] at g
      rw [List.take_length] at e1
      have k3 : sub1 left (xs.length + wsum wS xs) = left - ((xs.length + wsum wS xs : Nat) : Int) := by rw [sub1, if_pos g]
      simp only [go_sem, e0, e1, e5, encS_len, k1, k3]
  · have k0 : left - (xs.length : Int) < 0 := by omega
    have k3 : sub1 left (xs.length + wsum wS xs) = -1 := by rw [sub1, if_neg (by omega)]
    simp only [go_sem, gw0, k0, k3]
def ok26 := okF.gu (P := Try.prog) tab Try.func26 Try.ntmps26 (by conv => lhs; cbv) (by kernel_rfl)
def inv26 (xs : List ByteArray) (i : Nat) (σ : St) : Prop := σ.t 0 = tL (encS xs) ∧ (∃ v, σ.t 3 = .c (.own 7 v xs.length) ∧ σ.H 7 = some (.arr v true 1 9 (encS (part xs zS i)))) ∧ σ.t 4 = .i i
theorem toSs_ok (xs : List ByteArray) (hl : xs.length ≤ 1048576) (m : Nat) : ACallsF Try.prog 26 [tL (encS xs)] [newH 7 m 1 9 (encS xs)] (.c (.own 7 0 xs.length)) := by
  refine ACallsF.intro ok26 follows fun X c0 => ?_
  have q0 : (0 : Int) ≤ xs.length := by omega
  have q1 : ((16 : Nat) : Int) * (xs.length : Int) ≤ 281474976710656 := by omega
  have q2 : (xs.length : Int) ≤ 9223372036854775807 := by omega
  simp only [go_sem, q0, q1, q2, Int.le_refl]
  refine AW.upto xs.length (inv26 xs) ?_ fun i t H c hi h => ?_
  · unfold inv26
    rw [part_zero, ← encS_rep]
    exact ⟨rfl, ⟨_, rfl, rfl⟩, rfl⟩
  obtain ⟨e0, ⟨v, e3, eH⟩, e4⟩ := h
  simp only [T.c, T.i, tL] at e0 e3 eH e4
  have hpl : (part xs zS i).length = xs.length := part_len xs zS hi
  by_cases hlt : i < xs.length
  · obtain ⟨x, hx⟩ : ∃ x, xs[i]? = some x := ⟨_, List.getElem?_eq_getElem hlt⟩
    have ex := encS_at hx
    have ez := encS_at (part_at xs zS hlt)
    have k1 : (i : Int) < xs.length := by omega
    have gz : (0 : Int) ≤ i := by omega
    have gm : i < xs.length := hlt
    have gw : IntKind.i64.wrap ((i : Int) + 1) = ((i + 1 : Nat) : Int) := wrap64 (x := (i : Int) + 1) ⟨by omega, by omega⟩
    have hn : (encS (part xs zS i)).set i [.s (.string x)] = encS (part xs zS (i + 1)) := by rw [encS_set, part_set xs zS hx]
    simp only [go_sem, e0, e3, eH, e4, encS_len, k1, gz, gm, ex, ez, Int.toNat_natCast, hpl, gw]
    exact ⟨e0, ⟨v, e3, congrArg (fun q => some (Blk.arr v true 1 9 q)) hn⟩, rfl⟩
  · have k1 : ¬ (i : Int) < xs.length := by omega
    have hi2 : i = xs.length := by omega
    subst hi2
    rw [part_end] at eH
    simp only [go_sem, e0, e3, eH, e4, encS_len, k1, imp_self]
def ok33 := okF.gu (P := Try.prog) tab Try.func33 Try.ntmps33 (by conv => lhs; cbv) (by kernel_rfl)
def inv33 (xs : List ByteArray) (i : Nat) (σ : St) : Prop := σ.t 0 = tL (encS xs) ∧ σ.t 1 = tL (encS xs) ∧ σ.t 5 = .i i
theorem eqSs_ok (xs : List ByteArray) (hl : xs.length ≤ 9000000000000000000) : ACallsF Try.prog 33 [tL (encS xs), tL (encS xs)] [] (.b true) := by
  have n0 : ((xs.length : Int) != xs.length) = false := by simp
  refine ACallsF.intro ok33 follows fun X c0 => ?_
  simp only [go_sem, n0]
  refine AW.upto xs.length (inv33 xs) ⟨rfl, rfl, rfl⟩ fun i t H c hi h => ?_
  obtain ⟨e0, e1, e5⟩ := h
  simp only [T.c, T.i, tL] at e0 e1 e5
  by_cases hlt : i < xs.length
  · obtain ⟨x, hx⟩ : ∃ x, xs[i]? = some x := ⟨_, List.getElem?_eq_getElem hlt⟩
    have ex := encS_at hx
    have k1 : (i : Int) < xs.length := by omega
    have gz : (0 : Int) ≤ i := by omega
    have gw : IntKind.i64.wrap ((i : Int) + 1) = ((i + 1 : Nat) : Int) := wrap64 (x := (i : Int) + 1) ⟨by omega, by omega⟩
    simp only [go_sem, e0, e1, e5, encS_len, k1, gz, ex, Int.toNat_natCast, sStr, str_beq, decide_true, gw]
    exact ⟨hlt, e0, e1, rfl⟩
  · have k1 : ¬ (i : Int) < xs.length := by omega
    simp only [go_sem, e0, e1, e5, encS_len, k1]
def ok36 := okF.gu (P := Try.prog) tab Try.func36 Try.ntmps36 (by conv => lhs; cbv) (by kernel_rfl)
def inv36 (xs : List ByteArray) (k v : Nat) (i : Nat) (σ : St) : Prop := σ.t 0 = .c (.own 2001 v xs.length) ∧ σ.H 2001 = some (.arr v true 1 9 (encS (mrk mS 1 xs k i))) ∧ σ.t 1 = .i ((k + 1 * i : Nat) : Int) ∧ σ.t 5 = .i i
theorem markSs_ok (xs : List ByteArray) (k : Nat) (h1 : 1 ≤ k) (hk : k + 1 * xs.length ≤ 100000000) (m v : Nat) : ACallsF Try.prog 36 [.c (.own 2001 v xs.length), .i k] [arH 2001 m v 1 9 (encS xs) (encS (marks mS 1 k xs.length))] (.i ((k + 1 * xs.length : Nat) : Int)) := by
  refine ACallsF.intro ok36 follows fun X c0 => ?_
  simp only [go_sem]
  refine AW.upto xs.length (inv36 xs k v) ?_ fun i t H c hi h => ?_
  · unfold inv36
    rw [mrk_zero]
    exact ⟨rfl, rfl, rfl, rfl⟩
  obtain ⟨e0, eH, e1, e5⟩ := h
  simp only [T.c, T.i] at e0 eH e1 e5
  have hpl : (mrk mS 1 xs k i).length = xs.length := mrk_len mS 1 xs k hi
  by_cases hlt : i < xs.length
  · obtain ⟨x, hx⟩ : ∃ x, xs[i]? = some x := ⟨_, List.getElem?_eq_getElem hlt⟩
    have ex := encS_at (mrk_at mS 1 xs k hx)
    have k1 : (i : Int) < xs.length := by omega
    have gz : (0 : Int) ≤ i := by omega
    have gm : i < xs.length := hlt
    have gw : IntKind.i64.wrap ((i : Int) + 1) = ((i + 1 : Nat) : Int) := wrap64 (x := (i : Int) + 1) ⟨by omega, by omega⟩
    have h30 : ¬ (3 : Int) = 0 := by omega
    have q3 : ((k + 1 * i : Nat) : Int).tmod 3 = (((k + 1 * i) % 3 : Nat) : Int) := rfl
    have g0 : IntKind.i64.wrap (((k + 1 * i : Nat) : Int) + 1) = ((k + 1 * (i + 1) : Nat) : Int) := (wrap64 (x := ((k + 1 * i : Nat) : Int) + 1) ⟨by omega, by omega⟩).trans (by omega)
    have hn : (encS (mrk mS 1 xs k i)).set i [.s (.string (mS (k + 1 * i)))] = encS (mrk mS 1 xs k (i + 1)) := by rw [encS_set, mrk_set mS 1 xs k hx]
    simp only [go_sem, SET, e0, eH, e1, e5, encS_len, hpl, k1, gz, gm, ex, g0, gw, h30, q3]
    refine callC (mark_ok (k + 1 * i) (by omega) (by omega)) rfl rfl rfl rfl ?_
    simp only [go_sem, SET, e0, eH, e1, e5, encS_len, hpl, k1, gz, gm, ex, g0, gw, h30, q3]
    exact ⟨e0, congrArg (fun q => some (Blk.arr v true 1 9 q)) hn, rfl, rfl⟩
  · have k1 : ¬ (i : Int) < xs.length := by omega
    have hi2 : i = xs.length := by omega
    subst hi2
    rw [mrk_end] at eH
    simp only [go_sem, e0, eH, e1, e5, encS_len, k1, imp_self]
def ok39 := okF.gu (P := Try.prog) tab Try.func39 Try.ntmps39 (by conv => lhs; cbv) (by kernel_rfl)
def inv39 (N k : Nat) (i : Nat) (σ : St) : Prop := σ.t 0 = tL (encS (marks mS 1 k N)) ∧ σ.t 1 = .i ((k + 1 * i : Nat) : Int) ∧ σ.t 5 = .i i
theorem heldSs_ok (N : Nat) (k : Nat) (h1 : 1 ≤ k) (hk : k + 1 * N ≤ 100000000) : ACallsF Try.prog 39 [tL (encS (marks mS 1 k N)), .i k] [] (.i ((k + 1 * N : Nat) : Int)) := by
  refine ACallsF.intro ok39 follows fun X c0 => ?_
  simp only [go_sem]
  refine AW.upto N (inv39 N k) ⟨rfl, rfl, rfl⟩ fun i t H c hi h => ?_
  obtain ⟨e0, e1, e5⟩ := h
  simp only [T.c, T.i, tL] at e0 e1 e5
  have hpl : (marks mS 1 k N).length = N := marks_len mS 1 k N
  by_cases hlt : i < N
  · have ex := encS_at (marks_at mS 1 k hlt)
    have k1 : (i : Int) < N := by omega
    have gz : (0 : Int) ≤ i := by omega
    have gw : IntKind.i64.wrap ((i : Int) + 1) = ((i + 1 : Nat) : Int) := wrap64 (x := (i : Int) + 1) ⟨by omega, by omega⟩
    have h30 : ¬ (3 : Int) = 0 := by omega
    have q3 : ((k + 1 * i : Nat) : Int).tmod 3 = (((k + 1 * i) % 3 : Nat) : Int) := rfl
    have g0 : IntKind.i64.wrap (((k + 1 * i : Nat) : Int) + 1) = ((k + 1 * (i + 1) : Nat) : Int) := (wrap64 (x := ((k + 1 * i : Nat) : Int) + 1) ⟨by omega, by omega⟩).trans (by omega)

    simp only [go_sem, e0, e1, e5, encS_len, hpl, k1, gz, ex, mS, g0, gw, h30, q3, sStr, str_beq, decide_true]
    refine callC (mark_ok (k + 1 * i) (by omega) (by omega)) rfl rfl rfl rfl ?_
    simp only [go_sem, e0, e1, e5, encS_len, hpl, k1, gz, ex, mS, g0, gw, h30, q3, sStr, str_beq, decide_true]
    exact ⟨hlt, e0, rfl, rfl⟩
  · have k1 : ¬ (i : Int) < N := by omega
    have hi2 : i = N := by omega
    subst hi2
    simp only [go_sem, e0, e1, e5, encS_len, hpl, k1]
end Go.V

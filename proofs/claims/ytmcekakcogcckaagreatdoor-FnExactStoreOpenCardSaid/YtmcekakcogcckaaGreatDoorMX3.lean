/- The program's StoreOpen returns what the reference's returns, for every disk: no condition but the ones of the given statement. -/
import Derived.Test.YtmcekakcogcckaaGreatDoorMX2
import Derived.Test.YtmcekakcogcckaaGreatDoorMK1
import Derived.Lib.ItoaNum
set_option linter.unusedVariables false
set_option linter.unusedSimpArgs false
set_option maxRecDepth 20000
namespace Go.V
open Go.Proofs
/-! Numbers in decimals. -/
/-- What comes of a function, told by a set. -/
def PC (f : Nat) (args : List T) {α : Type} (S : α → Prop) (r : α → T) : Prop := ∃ a : α, S a ∧ ACallsF Tryz.prog f args [] (r a)
theorem PC.intro {f n : Nat} {ac : ACode} {rs : List ARes} {args : List T} {α : Type} {S : α → Prop} {r : α → T} (ho : okF Tryz.prog f n ac rs) (ha : args.all closedA = true) (hr : ∀ a, closedT (r a) = true)
    (h : ∀ X : Ctx, wpa Tryz.prog X ac (endE S r (fun _ => []) rs) ⟨argsT args, hinOf [], 0⟩) : PC f args S r :=
  ACallsF.ex0 S ho follows ha (fun a _ => hr a) h
def isDig (b : UInt8) : Prop := 48 ≤ b.toNat ∧ b.toNat ≤ 57
instance (b : UInt8) : Decidable (isDig b) := inferInstanceAs (Decidable (_ ∧ _))
/-- The text of a number. -/
def dc (n : Int) : ByteArray := ofL (Lib.itoa n)
theorem ofL_app (a b : List UInt8) : ofL (a ++ b) = ofL a ++ ofL b := by
  apply ByteArray.ext
  simp [ofL]
theorem ofL_size (a : List UInt8) : (ofL a).size = a.length := by simp [ofL, ByteArray.size]
theorem ofL_at (a : List UInt8) (i : Nat) : (ofL a).data[i]? = a[i]? := by simp [ofL]
theorem ofL_inj {a b : List UInt8} (h : ofL a = ofL b) : a = b := by
  have := congrArg (fun x : ByteArray => x.data.toList) h
  simpa [ofL] using this
theorem push1 (n : Int) : pushB [n] = ofL [UInt8.ofNat n.toNat] := by
  rw [pushB, List.foldl_cons, List.foldl_nil]; rfl
theorem dd_dig : ∀ (u : Nat), ∀ b ∈ Lib.decDigits u, isDig b := by
  intro u
  induction u using Nat.strongRecOn with
  | ind u ih =>
    intro b hb
    rw [Lib.decDigits] at hb
    split at hb
    · rw [List.mem_singleton.1 hb]
      simp only [isDig, UInt8.toNat_ofNat']; omega
    · rcases List.mem_append.1 hb with hb | hb
      · exact ih (u / 10) (by omega) b hb
      · rw [List.mem_singleton.1 hb]
        simp only [isDig, UInt8.toNat_ofNat']; omega
/-- What digits say. -/
def valL (l : List UInt8) : Nat := l.foldl (fun n b => n * 10 + (b.toNat - 48)) 0
theorem valL_snoc (l : List UInt8) (b : UInt8) : valL (l ++ [b]) = valL l * 10 + (b.toNat - 48) := by simp [valL, List.foldl_append]
theorem dd_val : ∀ (u : Nat), valL (Lib.decDigits u) = u := by
  intro u
  induction u using Nat.strongRecOn with
  | ind u ih =>
    rw [Lib.decDigits]
    split
    · simp only [valL, List.foldl_cons, List.foldl_nil, UInt8.toNat_ofNat']; omega
    · rw [valL_snoc, ih (u / 10) (by omega), UInt8.toNat_ofNat']; omega
theorem dd_len : ∀ (k u : Nat), u < 10 ^ (k + 1) → (Lib.decDigits u).length ≤ k + 1
  | 0, u, h => by rw [Lib.decDigits, dif_pos (by omega)]; simp
  | k + 1, u, h => by
    rw [Lib.decDigits]
    split
    · simp
    · have := dd_len k (u / 10) (by rw [Nat.pow_succ] at h; omega)
      rw [List.length_append, List.length_singleton]; omega
theorem dd_pos (u : Nat) : 1 ≤ (Lib.decDigits u).length := by
  rw [Lib.decDigits]
  split
  · simp
  · simp
theorem wrap8 {x : Int} (h : 0 ≤ x ∧ x ≤ 255) : IntKind.u8.wrap x = x := by
  simp only [IntKind.wrap, IntKind.bits, IntKind.signed, Bool.false_and, Bool.false_eq_true, if_false]; omega
def ok38 := okF.gu (P := Tryz.prog) tab Tryz.func38 Tryz.ntmps38 (by conv => lhs; cbv) (by kernel_rfl)
theorem dec_small (n : Nat) (h : n < 10) : ACallsF Tryz.prog 38 [.i n] [] (tS (dc n)) := by
  have h0 : ¬ (n : Int) < -9223372036854775807 := by omega
  have h1 : ¬ (n : Int) < 0 := by omega
  have h2 : (n : Int) < 10 := by omega
  have hd : dc n = pushB [48 + (n : Int)] := by
    rw [push1, dc, Lib.itoa, if_neg h1, Int.toNat_natCast, Lib.decDigits, dif_pos h]
    congr 3
  have e1 : IntKind.i64.wrap (48 + (n : Int)) = 48 + n := wrap64 ⟨by omega, by omega⟩
  have e2 : IntKind.u8.wrap (48 + (n : Int)) = 48 + n := wrap8 ⟨by omega, by omega⟩
  refine ACallsF.intro ok38 follows fun X c0 => ?_
  simp only [go_sem, h0, h1, h2, bytesOf, e1, e2, hd]
theorem dec_ok : ∀ (k : Nat) (n : Nat), n < 10 ^ (k + 1) → k ≤ 17 → ACallsF Tryz.prog 38 [.i n] [] (tS (dc n)) := by
  intro k
  induction k with
  | zero => intro n hn _; exact dec_small n (by omega)
  | succ k ih =>
    intro n hn hk
    by_cases h2 : n < 10
    · exact dec_small n h2
    have hp : (10 : Nat) ^ (k + 2) ≤ 10 ^ 19 := Nat.pow_le_pow_right (by omega) (by omega)
    have hC := ih (n / 10) (by rw [Nat.pow_succ] at hn; omega) (by omega)
    have h0 : ¬ (n : Int) < -9223372036854775807 := by omega
    have h1 : ¬ (n : Int) < 0 := by omega
    have h3 : ¬ (n : Int) < 10 := by omega
    have hz : ¬ (10 : Int) = 0 := by omega
    have hn19 : n < 10 ^ 19 := Nat.lt_of_lt_of_le hn hp
    have hq : (n : Int).tdiv 10 = ((n / 10 : Nat) : Int) := rfl
    have hr : (n : Int).tmod 10 = ((n % 10 : Nat) : Int) := rfl
    have gw : IntKind.i64.wrap ((n / 10 : Nat) : Int) = ((n / 10 : Nat) : Int) := wrap64 ⟨by omega, by omega⟩
    have e1 : IntKind.i64.wrap (48 + ((n % 10 : Nat) : Int)) = ((48 + n % 10 : Nat) : Int) := (wrap64 ⟨by omega, by omega⟩).trans (by omega)
    have e2 : IntKind.u8.wrap ((48 + n % 10 : Nat) : Int) = ((48 + n % 10 : Nat) : Int) := wrap8 ⟨by omega, by omega⟩
    have hd : dc n = dc ((n / 10 : Nat) : Int) ++ pushB [((48 + n % 10 : Nat) : Int)] := by
      have h4 : ¬ ((n / 10 : Nat) : Int) < 0 := by omega
      rw [push1, dc, dc, Lib.itoa, Lib.itoa, if_neg h1, if_neg h4, Int.toNat_natCast, Int.toNat_natCast, Int.toNat_natCast, ← ofL_app]
      conv => lhs; rw [Lib.decDigits, dif_neg h2]
    have hl : fits (dc ((n / 10 : Nat) : Int)) (pushB [((48 + n % 10 : Nat) : Int)]) := by
      have h4 : ¬ ((n / 10 : Nat) : Int) < 0 := by omega
      have := dd_len (k + 1) (n / 10) (by have : (10:Nat) ^ (k+1) ≤ 10 ^ (k+1+1) := Nat.pow_le_pow_right (by omega) (by omega); rw [Nat.pow_succ] at hn; omega)
      rw [fits, push1, dc, ofL_size, ofL_size, Lib.itoa, if_neg h4, Int.toNat_natCast, List.length_singleton]; omega
    refine ACallsF.intro ok38 follows fun X c0 => ?_
    simp only [go_sem, h0, h1, h3, bytesOf, hq, gw, hz]
    refine callC hC rfl rfl rfl rfl ?_
    simp only [go_sem, bytesOf, hz, hr, e1, e2, sStr, hl, hd]
end Go.V
set_option linter.unusedSimpArgs false
set_option maxRecDepth 20000
namespace Go.V
open Go.Proofs
/-- How many digits stand at a place, at most k. -/
def nd (s : ByteArray) (p : Nat) : Nat → Nat
  | 0 => 0
  | k + 1 => match s.data[p]? with
    | some b => if isDig b then nd s (p + 1) k + 1 else 0
    | none => 0
theorem nd_le (s : ByteArray) : ∀ (k p : Nat), nd s p k ≤ k
  | 0, _ => Nat.le_refl _
  | k + 1, p => by
    unfold nd
    split
    · split
      · have := nd_le s k (p + 1); omega
      · omega
    · omega
theorem nd_dig (s : ByteArray) : ∀ (k p i : Nat), i < nd s p k → ∃ b, s.data[p + i]? = some b ∧ isDig b
  | 0, _, _, h => by simp [nd] at h
  | k + 1, p, i, h => by
    unfold nd at h
    split at h
    · rename_i b hb
      split at h
      · rename_i hd
        cases i with
        | zero => exact ⟨b, hb, hd⟩
        | succ i =>
          obtain ⟨c, h1, h2⟩ := nd_dig s k (p + 1) i (by omega)
          exact ⟨c, by rw [← h1]; congr 1; omega, h2⟩
      · omega
    · omega
theorem nd_end (s : ByteArray) : ∀ (k p : Nat), nd s p k < k → ∀ b, s.data[p + nd s p k]? = some b → ¬ isDig b
  | 0, _, h => by simp [nd] at h
  | k + 1, p, h => by
    intro b hb
    unfold nd at h hb
    split at h
    · rename_i c hc
      rw [hc] at hb
      simp only at hb
      split at h
      · rename_i hd
        rw [if_pos hd] at hb
        exact nd_end s k (p + 1) (by omega) b (by rw [← hb]; congr 1; omega)
      · rename_i hd
        rw [if_neg hd] at hb
        rw [Nat.add_zero, hc] at hb
        cases hb
        exact hd
    · rename_i hc
      rw [hc] at hb
      simp [hc] at hb
theorem nd_size (s : ByteArray) (k p : Nat) (hp : p ≤ s.size) : p + nd s p k ≤ s.size := by
  by_cases h : nd s p k = 0
  · omega
  · obtain ⟨b, hb, _⟩ := nd_dig s k p (nd s p k - 1) (by omega)
    have h1 := (Array.getElem?_eq_some_iff.1 hb).1
    rw [← size_data] at h1; omega
/-- What i bytes at a place say, read as digits. -/
def vl (s : ByteArray) (p : Nat) : Nat → Nat
  | 0 => 0
  | i + 1 => vl s p i * 10 + (((s.data[p + i]?).getD 48).toNat - 48)
theorem vl_lt (s : ByteArray) (p : Nat) (k : Nat) : ∀ i, i ≤ nd s p k → vl s p i < 10 ^ i
  | 0, _ => by simp [vl]
  | i + 1, h => by
    have h1 := vl_lt s p k i (by omega)
    obtain ⟨b, hb, hd⟩ := nd_dig s k p i (by omega)
    unfold isDig at hd
    rw [vl, hb, Option.getD_some, Nat.pow_succ]; omega
theorem vl_lt7 (s : ByteArray) (p : Nat) (k : Nat) (hk : k ≤ 7) (i : Nat) (h : i ≤ nd s p k) : vl s p i < 10000000 := by
  have h1 := vl_lt s p k i h
  have h2 := nd_le s k p
  exact Nat.lt_of_lt_of_le h1 (Nat.pow_le_pow_right (n := 10) (by omega) (show i ≤ 7 by omega))
def ok87 := okF.gu (P := Tryz.prog) tab Tryz.func87 Tryz.ntmps87 (by conv => lhs; cbv) (by kernel_rfl)
def inv87 (s : ByteArray) (p : Nat) (i : Nat) (σ : St) : Prop := σ.t 0 = tS s ∧ σ.t 1 = .i ((p + i : Nat) : Int) ∧ σ.t 6 = .i (vl s p i) ∧ σ.t 7 = .i i
theorem num_ok (s : ByteArray) (p : Nat) (hp : p ≤ 1000000000000000000) (hs : s.size ≤ 1000000000000000000) : ACallsF Tryz.prog 87 [tS s, .i p] [] (.tup [.one (.v (.s (.int .i64 (vl s p (nd s p 7))))), .one (.v (.s (.int .i64 ((p + nd s p 7 : Nat) : Int))))]) := by
  refine ACallsF.intro ok87 follows fun X c0 => ?_
  simp only [go_sem]
  have hle := nd_le s 7 p
  refine AW.upto (nd s p 7) (inv87 s p) ⟨rfl, rfl, rfl, rfl⟩ fun i t H c hi h => ?_
  obtain ⟨e0, e1, e6, e7⟩ := h
  simp only [T.c, T.i, T.s] at e0 e1 e6 e7
  have hv := vl_lt7 s p 7 (Nat.le_refl _) i hi
  have gz : (0 : Int) ≤ ((p + i : Nat) : Int) := by omega
  by_cases hlt : i < nd s p 7
  · obtain ⟨b, hb, hd⟩ := nd_dig s 7 p i hlt
    have hd' := hd
    unfold isDig at hd'
    have h1 := (Array.getElem?_eq_some_iff.1 hb).1
    rw [← size_data] at h1
    have k1 : (i : Int) < 7 := by omega
    have k2 : ((p + i : Nat) : Int) < s.size := by omega
    have k3 : (b.toNat : Int) ≥ 48 := by omega
    have k4 : (b.toNat : Int) ≤ 57 := by omega
    have e1' : vl s p (i + 1) = vl s p i * 10 + (b.toNat - 48) := by rw [vl, hb, Option.getD_some]
    have w1 : IntKind.i64.wrap ((vl s p i : Int) * 10) = (vl s p i : Int) * 10 := wrap64 ⟨by omega, by omega⟩
    have w2 : IntKind.u8.wrap ((b.toNat : Int) - 48) = (b.toNat : Int) - 48 := wrap8 ⟨by omega, by omega⟩
    have w3 : IntKind.i64.wrap ((b.toNat : Int) - 48) = (b.toNat : Int) - 48 := wrap64 ⟨by omega, by omega⟩
    have w4 : IntKind.i64.wrap ((vl s p i : Int) * 10 + ((b.toNat : Int) - 48)) = ((vl s p (i + 1) : Nat) : Int) := (wrap64 ⟨by omega, by omega⟩).trans (by rw [e1']; omega)
    have w5 : IntKind.i64.wrap (((p + i : Nat) : Int) + 1) = ((p + (i + 1) : Nat) : Int) := (wrap64 ⟨by omega, by omega⟩).trans (by omega)
    have w6 : IntKind.i64.wrap ((i : Int) + 1) = ((i + 1 : Nat) : Int) := wrap64 (x := (i : Int) + 1) ⟨by omega, by omega⟩
    simp only [go_sem, e0, e1, e6, e7, k1, k2, gz, hb, k3, k4, w1, w2, w3, w4, w5, w6]
    exact ⟨hlt, e0, rfl, rfl, rfl⟩
  · have hi2 : i = nd s p 7 := by omega
    subst hi2
    by_cases k1 : nd s p 7 < 7
    · have k1' : ((nd s p 7 : Nat) : Int) < 7 := by omega
      by_cases k2 : p + nd s p 7 < s.size
      · obtain ⟨b, hb⟩ : ∃ b, s.data[p + nd s p 7]? = some b := ⟨_, Array.getElem?_eq_getElem (by rw [← size_data]; exact k2)⟩
        have hd := nd_end s 7 p k1 b hb
        have k2' : ((p + nd s p 7 : Nat) : Int) < s.size := by omega
        unfold isDig at hd
        by_cases k3 : (b.toNat : Int) ≥ 48
        · have k4 : ¬ (b.toNat : Int) ≤ 57 := by omega
          simp only [go_sem, e0, e1, e6, e7, k1', k2', gz, hb, k3, k4]
        · simp only [go_sem, e0, e1, e6, e7, k1', k2', gz, hb, k3]
      · have k2' : ¬ ((p + nd s p 7 : Nat) : Int) < s.size := by omega
        simp only [go_sem, e0, e1, e6, e7, k1', k2']
    · have k1' : ¬ ((nd s p 7 : Nat) : Int) < 7 := by omega
      simp only [go_sem, e0, e1, e6, e7, k1']
/-- So many numbers behind a place, each with a byte behind it. -/
def nus (s : ByteArray) (p : Nat) : Nat → List Int × Nat
  | 0 => ([], p)
  | i + 1 => ((nus s p i).1 ++ [((vl s (nus s p i).2 (nd s (nus s p i).2 7) : Nat) : Int)], (nus s p i).2 + nd s (nus s p i).2 7 + 1)
theorem nus_len (s : ByteArray) (p : Nat) : ∀ i, (nus s p i).1.length = i
  | 0 => rfl
  | i + 1 => by rw [nus, List.length_append, nus_len s p i, List.length_singleton]
theorem nus_le (s : ByteArray) (p : Nat) : ∀ i, (nus s p i).2 ≤ p + 8 * i
  | 0 => Nat.le_refl _
  | i + 1 => by
    have h1 := nus_le s p i
    have h2 := nd_le s 7 (nus s p i).2
    simp only [nus]; omega
def ok88 := okF.gu (P := Tryz.prog) tab Tryz.func88 Tryz.ntmps88 (by conv => lhs; cbv) (by kernel_rfl)
def inv88 (s : ByteArray) (p n : Nat) (i : Nat) (σ : St) : Prop := σ.t 0 = tS s ∧ σ.t 1 = .i ((nus s p i).2 : Int) ∧ σ.t 2 = .i n ∧ (∃ v, σ.t 8 = .c (.own 12 v i) ∧ σ.H 12 = some (.arr v true 1 3 (en eI (nus s p i).1))) ∧ σ.t 9 = .i i
theorem nums_ok (s : ByteArray) (p n : Nat) (hn : n ≤ 100) (hp : p ≤ 100000000000000000) (hs : s.size ≤ 1000000000000000000) : ACallsF Tryz.prog 88 [tS s, .i p, .i n] [] (.tup [.one (.v (.sl (en eI (nus s p n).1))), .one (.v (.s (.int .i64 ((nus s p n).2 : Int))))]) := by
  refine ACallsF.intro ok88 follows fun X c0 => ?_
  simp only [go_sem]
  refine AW.upto n (inv88 s p n) ⟨rfl, rfl, rfl, ⟨_, rfl, rfl⟩, rfl⟩ fun i t H c hi h => ?_
  obtain ⟨e0, e1, e2, ⟨v, e8, eH⟩, e9⟩ := h
  simp only [T.c, T.i, T.s] at e0 e1 e2 e8 eH e9
  have hlen := nus_len s p i
  have hle := nus_le s p i
  by_cases hlt : i < n
  · have k1 : (i : Int) < n := by omega
    have hd := nd_le s 7 (nus s p i).2
    have w5 : IntKind.i64.wrap (((nus s p i).2 + nd s (nus s p i).2 7 : Nat) + 1 : Int) = (((nus s p (i + 1)).2 : Nat) : Int) := (wrap64 ⟨by omega, by omega⟩).trans (by simp only [nus]; omega)
    have w6 : IntKind.i64.wrap ((i : Int) + 1) = ((i + 1 : Nat) : Int) := wrap64 (x := (i : Int) + 1) ⟨by omega, by omega⟩
    have q1 : (i + 1) * 8 ≤ 140737488355328 := by omega
    have q2 : i + 1 ≤ 9223372036854775807 := by omega
    have ht : List.take i (en eI (nus s p i).1) = en eI (nus s p i).1 := List.take_of_length_le (by rw [en_len, hlen]; exact Nat.le_refl _)
    simp only [go_sem, e0, e1, e2, e8, eH, e9, k1]
    refine callC (num_ok s _ (by omega) hs) rfl rfl rfl rfl ?_
    simp only [go_sem, e0, e1, e2, e8, eH, e9, hlen, q1, q2, ht, w5, w6]
    have heq : en eI (nus s p (i + 1)).1 = en eI (nus s p i).1 ++ [[.s (.int .i64 (vl s (nus s p i).2 (nd s (nus s p i).2 7)))]] := by simp only [nus, en, List.map_append, List.map_cons, List.map_nil]; rfl
    exact ⟨hlt, e0, rfl, e2, ⟨_, rfl, congrArg (fun q => some (Blk.arr _ true 1 3 q)) heq.symm⟩, rfl⟩
  · have hi2 : i = n := by omega
    subst hi2
    have k1 : ¬ (i : Int) < i := by omega
    have ht : List.take i (en eI (nus s p i).1) = en eI (nus s p i).1 := List.take_of_length_le (by rw [en_len, hlen]; exact Nat.le_refl _)
    simp only [go_sem, e0, e1, e2, e8, eH, e9, k1, hlen, ht]
/-- The number of a file of this letter, 0 for others. -/
def numOf (l : UInt8) (s : ByteArray) : Int := if s.data[0]? = some l ∧ vl s 1 (s.size - 1) ≤ 999999 ∧ dc (vl s 1 (s.size - 1)) = s.extract 1 s.size then vl s 1 (s.size - 1) else 0
theorem nd_all (s : ByteArray) : ∀ (k m p : Nat), m ≤ k → (∀ i, i < m → ∃ b, s.data[p + i]? = some b ∧ isDig b) → p + m = s.size → nd s p k = m
  | 0, 0, _, _, _, _ => rfl
  | 0, m + 1, _, h, _, _ => by omega
  | k + 1, 0, p, _, _, h => by
    have hn : s.data[p]? = none := Array.getElem?_eq_none (by rw [← size_data]; omega)
    unfold nd; rw [hn]
  | k + 1, m + 1, p, hm, hd, h => by
    obtain ⟨b, h1, h2⟩ := hd 0 (by omega)
    rw [Nat.add_zero] at h1
    unfold nd
    rw [h1]
    simp only [if_pos h2]
    rw [nd_all s k m (p + 1) (by omega) (fun i hi => by obtain ⟨c, h3, h4⟩ := hd (i + 1) (by omega); exact ⟨c, by rw [← h3]; congr 1; omega, h4⟩) (by omega)]
theorem dc_dig {n : Nat} {s : ByteArray} (h : dc n = s) (i : Nat) (hi : i < s.size) : ∃ b, s.data[i]? = some b ∧ isDig b := by
  subst h
  have hn : ¬ (n : Int) < 0 := by omega
  rw [dc, ofL_size] at hi
  refine ⟨(Lib.itoa n)[i], by rw [dc, ofL_at]; exact List.getElem?_eq_getElem hi, ?_⟩
  have hm := List.getElem_mem hi
  have e : Lib.itoa n = Lib.decDigits n := by rw [Lib.itoa, if_neg hn, Int.toNat_natCast]
  exact dd_dig n _ (e ▸ hm)
theorem dc_size {n : Nat} (h : n ≤ 999999) : (dc n).size ≤ 6 ∧ 1 ≤ (dc n).size := by
  have hn : ¬ (n : Int) < 0 := by omega
  rw [dc, ofL_size, Lib.itoa, if_neg hn, Int.toNat_natCast]
  exact ⟨dd_len 5 n (by omega), dd_pos n⟩
theorem ext_at (s : ByteArray) (a i : Nat) (h : a + i < s.size) : (s.extract a s.size).data[i]? = s.data[a + i]? := by
  rw [ByteArray.data_extract, Array.getElem?_extract]
  rw [size_data] at h ⊢
  simp only [Nat.min_self]
  rw [if_pos (by omega)]
theorem ext_size (s : ByteArray) (a : Nat) : (s.extract a s.size).size = s.size - a := by
  rw [ByteArray.size_extract, Nat.min_self]
theorem numOf_nd {l : UInt8} {s : ByteArray} (h : s.data[0]? = some l ∧ vl s 1 (s.size - 1) ≤ 999999 ∧ dc (vl s 1 (s.size - 1)) = s.extract 1 s.size) : 2 ≤ s.size ∧ 1 + nd s 1 7 = s.size := by
  obtain ⟨h0, h1, h2⟩ := h
  have hz := dc_size h1
  have h3 := congrArg ByteArray.size h2
  rw [ext_size] at h3
  have h4 : nd s 1 7 = s.size - 1 := nd_all s 7 (s.size - 1) 1 (by omega) (fun i hi => by
    obtain ⟨b, h5, h6⟩ := dc_dig h2 i (by rw [ext_size]; exact hi)
    exact ⟨b, by rw [ext_at s 1 i (by omega)] at h5; exact h5, h6⟩) (by omega)
  omega
def ok66 := okF.gu (P := Tryz.prog) tab Tryz.func66 Tryz.ntmps66 (by conv => lhs; cbv) (by kernel_rfl)
theorem num43_ok (s : ByteArray) (l : UInt8) (hs : s.size ≤ 1000000000000000000) : ACallsF Tryz.prog 66 [tS s, .s (.int .u8 l.toNat)] [] (.i (numOf l s)) := by
  refine ACallsF.intro ok66 follows fun X c0 => ?_
  by_cases g : s.data[0]? = some l ∧ vl s 1 (s.size - 1) ≤ 999999 ∧ dc (vl s 1 (s.size - 1)) = s.extract 1 s.size
  · obtain ⟨g1, g2⟩ := numOf_nd g
    obtain ⟨h0, h1, h2⟩ := g
    have hn : numOf l s = vl s 1 (s.size - 1) := if_pos ⟨h0, h1, h2⟩
    have e3 : nd s 1 7 = s.size - 1 := by omega
    have k1 : ¬ (s.size : Int) < 2 := by omega
    have k2 : ((l.toNat : Int) != l.toNat) = false := by simp
    have hC := num_ok s 1 (by omega) hs
    have hD := dec_ok 6 (vl s 1 (s.size - 1)) (by omega) (by omega)
    rw [e3] at hC
    have k3 : (((1 + (s.size - 1) : Nat) : Int) != s.size) = false := by
      have : 1 + (s.size - 1) = s.size := by omega
      rw [this]; simp
    have k4 : ¬ ((vl s 1 (s.size - 1) : Nat) : Int) > 999999 := by omega
    have k5 : (1 : Int) ≤ s.size := by omega
    rw [hn]
    simp only [go_sem, k1, h0, k2, Int.toNat_zero, Int.le_refl]
    refine callC hC rfl rfl rfl rfl ?_
    simp only [go_sem, k3]
    refine callC hD rfl rfl rfl rfl ?_
    simp only [go_sem, lohi, KI, Int.le_refl, and_self, k5, Int.toNat_one, sStr, h2, str_beq, decide_true, k4]
  · have hn : numOf l s = 0 := if_neg g
    rw [hn]
    by_cases k1 : (s.size : Int) < 2
    · simp only [go_sem, k1]
    obtain ⟨b, hb⟩ : ∃ b, s.data[0]? = some b := ⟨_, Array.getElem?_eq_getElem (by rw [← size_data]; omega)⟩
    by_cases kl : b = l
    rotate_left
    · have k2 : ((b.toNat : Int) != l.toNat) = true := by
        rw [bne_iff_ne]; intro h; exact kl (UInt8.toNat_inj.1 (by omega))
      simp only [go_sem, k1, hb, k2, Int.toNat_zero, Int.le_refl]
    subst kl
    have k2 : ((b.toNat : Int) != b.toNat) = false := by simp
    have hC := num_ok s 1 (by omega) hs
    have hsz := nd_size s 7 1 (by omega)
    simp only [go_sem, k1, hb, k2, Int.toNat_zero, Int.le_refl]
    refine callC hC rfl rfl rfl rfl ?_
    by_cases ka : 1 + nd s 1 7 = s.size
    rotate_left
    · have k3 : (((1 + nd s 1 7 : Nat) : Int) != s.size) = true := by rw [bne_iff_ne]; omega
      simp only [go_sem, k3]
    have e3 : nd s 1 7 = s.size - 1 := by omega
    have hv := vl_lt7 s 1 7 (Nat.le_refl _) _ (Nat.le_refl _)
    rw [e3] at hv ⊢
    have k3 : (((1 + (s.size - 1) : Nat) : Int) != s.size) = false := by
      have : 1 + (s.size - 1) = s.size := by omega
      rw [this]; simp
    have k5 : (1 : Int) ≤ s.size := by omega
    have hD := dec_ok 6 (vl s 1 (s.size - 1)) (by omega) (by omega)
    simp only [go_sem, k3]
    refine callC hD rfl rfl rfl rfl ?_
    by_cases kd : dc (vl s 1 (s.size - 1)) = s.extract 1 s.size
    · have k4 : ((vl s 1 (s.size - 1) : Nat) : Int) > 999999 := by
        have : ¬ vl s 1 (s.size - 1) ≤ 999999 := fun h => g ⟨hb, h, kd⟩
        omega
      simp only [go_sem, lohi, KI, Int.le_refl, and_self, k5, Int.toNat_one, sStr, kd, str_beq, decide_true, k4]
    · simp only [go_sem, lohi, KI, Int.le_refl, and_self, k5, Int.toNat_one, sStr, kd, str_beq, decide_false]
end Go.V
set_option linter.unusedSimpArgs false
set_option maxRecDepth 20000
namespace Go.V
open Go.Proofs
/-! Records as bytes. -/
structure LR where
  pos : Int
  data : ByteArray
abbrev tLR (r : LR) : T := .pt (.agg [.v (.s (.int .i64 r.pos)), .v (.s (.string r.data))])
def eR (x : LR) : List V := [.s (.int .i64 x.pos), .s (.string x.data)]
theorem eR_len (x : LR) : (eR x).length = 2 := rfl
theorem alR : type_of% (@en_all LR eR 2 eR_len) := @en_all LR eR 2 eR_len
attribute [go_sem] alR
abbrev tRI (rs : List LR) (n : Int) : T := .tup [.one (.v (.sl (en eR rs))), .one (.v (.s (.int .i64 n)))]
def recOk (r : LR) : Bool := decide (1 ≤ r.pos) && decide (r.pos ≤ 999999) && decide ((r.data.size : Int) ≤ 2000)
def ok101 := okF.gu (P := Tryz.prog) tab Tryz.func101 Tryz.ntmps101 (by conv => lhs; cbv) (by kernel_rfl)
theorem frameOk_ok (r : LR) : ACallsF Tryz.prog 101 [tLR r] [] (.b (recOk r)) := by
  unfold recOk
  refine ACallsF.intro ok101 follows fun X c0 => ?_
  simp only [go_sem]
  refine callC (inRange_ok _ _ _) rfl rfl rfl rfl ?_
  by_cases h1 : (decide (1 ≤ r.pos) && decide (r.pos ≤ 999999)) = true
  · simp only [go_sem, h1]
  · rw [Bool.not_eq_true] at h1
    simp only [go_sem, h1]
theorem recOk_iff (r : LR) : recOk r = true ↔ 1 ≤ r.pos ∧ r.pos ≤ 999999 ∧ r.data.size ≤ 2000 := by
  simp only [recOk, Bool.and_eq_true, decide_eq_true_eq]; omega
end Go.V
set_option linter.unusedSimpArgs false
set_option maxRecDepth 20000
namespace Go.V
open Go.Proofs
/-- A byte at a place. -/
def bt (s : ByteArray) (i : Nat) : Nat := ((s.data[i]?).getD 0).toNat
theorem bt_lt (s : ByteArray) (i : Nat) : bt s i < 256 := by have := ((s.data[i]?).getD 0).toNat_lt; exact this
/-- The record at a place, and where it ends. -/
def frAt (s : ByteArray) (a : Nat) : Option (LR × Nat) :=
  if a + 5 ≤ s.size ∧ bt s a * 256 + bt s (a + 1) ≤ 2000 ∧ 1 ≤ bt s (a + 2) * 65536 + bt s (a + 3) * 256 + bt s (a + 4) ∧ bt s (a + 2) * 65536 + bt s (a + 3) * 256 + bt s (a + 4) ≤ 999999 ∧ a + 5 + (bt s a * 256 + bt s (a + 1)) ≤ s.size then
    some (⟨((bt s (a + 2) * 65536 + bt s (a + 3) * 256 + bt s (a + 4) : Nat) : Int), s.extract (a + 5) (a + 5 + (bt s a * 256 + bt s (a + 1)))⟩, a + 5 + (bt s a * 256 + bt s (a + 1))) else none
def frL (s : ByteArray) (a : Nat) : Nat → List LR × Nat
  | 0 => ([], a)
  | k + 1 => match frAt s a with
    | some (r, b) => (r :: (frL s b k).1, (frL s b k).2)
    | none => ([], a)
/-- The whole records of bytes, and how many bytes they are. -/
def frames (s : ByteArray) : List LR × Nat := frL s 0 s.size
theorem frL_none {s : ByteArray} {a : Nat} (h : frAt s a = none) (k : Nat) : frL s a k = ([], a) := by
  cases k with
  | zero => rfl
  | succ k => rw [frL, h]
theorem frL_some {s : ByteArray} {a b : Nat} {r : LR} (h : frAt s a = some (r, b)) (k : Nat) : frL s a (k + 1) = (r :: (frL s b k).1, (frL s b k).2) := by rw [frL, h]
theorem frAt_le {s : ByteArray} {a b : Nat} {r : LR} (h : frAt s a = some (r, b)) : a + 5 ≤ b ∧ b ≤ s.size ∧ 1 ≤ r.pos ∧ r.pos ≤ 999999 ∧ r.data.size ≤ 2000 ∧ b = a + 5 + r.data.size := by
  unfold frAt at h
  split at h
  · cases h
    simp only [ByteArray.size_extract]
    omega
  · cases h
theorem bt_at {s : ByteArray} {i : Nat} {b : UInt8} (h : s.data[i]? = some b) : bt s i = b.toNat := by rw [bt, h, Option.getD_some]
theorem bt_get {s : ByteArray} {i : Nat} (h : i < s.size) : ∃ b, s.data[i]? = some b ∧ b.toNat = bt s i := by
  obtain ⟨b, hb⟩ : ∃ b, s.data[i]? = some b := ⟨_, Array.getElem?_eq_getElem (by rw [← size_data]; exact h)⟩
  exact ⟨b, hb, (bt_at hb).symm⟩
theorem frL_ok (s : ByteArray) : ∀ (k a : Nat), a ≤ s.size → (frL s a k).2 ≤ s.size ∧ a + 5 * (frL s a k).1.length ≤ (frL s a k).2 ∧ ∀ r ∈ (frL s a k).1, 1 ≤ r.pos ∧ r.pos ≤ 999999 ∧ r.data.size ≤ 2000
  | 0, a, h => ⟨h, Nat.le_refl _, fun r hr => by cases hr⟩
  | k + 1, a, h => by
    cases hf : frAt s a with
    | none => rw [frL_none hf]; exact ⟨h, Nat.le_refl _, fun r hr => by cases hr⟩
    | some x =>
      obtain ⟨r, b⟩ := x
      have hb := frAt_le hf
      obtain ⟨h1, h2, h3⟩ := frL_ok s k b (by omega)
      rw [frL_some hf]
      refine ⟨h1, by simp only [List.length_cons]; omega, fun q hq => ?_⟩
      rcases List.mem_cons.1 hq with rfl | hq
      · exact ⟨hb.2.2.1, hb.2.2.2.1, hb.2.2.2.2.1⟩
      · exact h3 q hq
theorem frames_le (s : ByteArray) : (frames s).2 ≤ s.size ∧ 5 * (frames s).1.length ≤ (frames s).2 ∧ ∀ r ∈ (frames s).1, 1 ≤ r.pos ∧ r.pos ≤ 999999 ∧ r.data.size ≤ 2000 := by
  obtain ⟨h1, h2, h3⟩ := frL_ok s s.size 0 (Nat.zero_le _)
  exact ⟨h1, by unfold frames; omega, h3⟩
/-- How far one is: what is there already, and what is still to come. -/
def FrS (s : ByteArray) (i a : Nat) (rs : List LR) : Prop := i ≤ a ∧ a ≤ s.size ∧ rs.length ≤ a ∧ frames s = (rs ++ (frL s a (s.size - i)).1, (frL s a (s.size - i)).2)
theorem FrS.stop {s : ByteArray} {i a : Nat} {rs : List LR} (h : FrS s i a rs) (hn : frAt s a = none) : frames s = (rs, a) := by
  obtain ⟨_, _, _, h4⟩ := h
  rw [h4, frL_none hn, List.append_nil]
theorem FrS.next {s : ByteArray} {i a b : Nat} {r : LR} {rs : List LR} (h : FrS s i a rs) (hn : frAt s a = some (r, b)) : i < s.size ∧ FrS s (i + 1) b (rs ++ [r]) := by
  obtain ⟨h1, h2, h3, h4⟩ := h
  have hb := frAt_le hn
  refine ⟨by omega, by omega, by omega, by rw [List.length_append, List.length_singleton]; omega, ?_⟩
  obtain ⟨k, hk⟩ : ∃ k, s.size - i = k + 1 := ⟨s.size - i - 1, by omega⟩
  have hk2 : s.size - (i + 1) = k := by omega
  rw [h4, hk, hk2, frL_some hn, List.append_assoc]
  rfl
def ok39 := okF.gu (P := Tryz.prog) tab Tryz.func39 Tryz.ntmps39 (by conv => lhs; cbv) (by kernel_rfl)
def inv39 (s : ByteArray) (i : Nat) (σ : St) : Prop := ∃ (rs : List LR) (a v : Nat), FrS s i a rs ∧ σ.t 0 = tS s ∧ σ.t 5 = .i a ∧ σ.t 4 = .c (.own 8 v rs.length) ∧ σ.H 8 = some (.arr v true 2 83 (en eR rs))
theorem framesS_ok (s : ByteArray) (hs : s.size ≤ 1000000) : ACallsF Tryz.prog 39 [tS s] [] (tRI (frames s).1 (frames s).2) := by
  refine ACallsF.intro ok39 follows fun X c0 => ?_
  simp only [go_sem]
  refine AW.upto s.size (inv39 s) ⟨[], 0, _, ⟨Nat.le_refl _, Nat.zero_le _, Nat.zero_le _, rfl⟩, rfl, rfl, rfl, rfl⟩ fun i t H c hi h => ?_
  obtain ⟨rs, a, v, hF, e0, e5, e4, eH⟩ := h
  have hF1 := hF
  obtain ⟨h1, h2, h3, _⟩ := hF1
  simp only [T.c, T.i, T.s] at e0 e5 e4 eH
  have ht1 : (en eR rs).take rs.length = en eR rs := en_take eR rs
  have w0 : IntKind.i64.wrap ((s.size : Int) - a) = (s.size : Int) - a := wrap64 ⟨by omega, by omega⟩
  by_cases g1 : (s.size : Int) - a ≥ 5
  rotate_left
  · rw [hF.stop (if_neg (by omega))]
    simp only [go_sem, e0, e5, e4, eH, w0, g1, ht1]
  obtain ⟨b0, hb0, x0⟩ := bt_get (s := s) (i := a) (by omega)
  obtain ⟨b1, hb1, x1⟩ := bt_get (s := s) (i := a + 1) (by omega)
  obtain ⟨b2, hb2, x2⟩ := bt_get (s := s) (i := a + 2) (by omega)
  obtain ⟨b3, hb3, x3⟩ := bt_get (s := s) (i := a + 3) (by omega)
  obtain ⟨b4, hb4, x4⟩ := bt_get (s := s) (i := a + 4) (by omega)
  have u0 := b0.toNat_lt
  have u1 := b1.toNat_lt
  have u2 := b2.toNat_lt
  have u3 := b3.toNat_lt
  have u4 := b4.toNat_lt
  have hfr : frAt s a = if a + 5 ≤ s.size ∧ b0.toNat * 256 + b1.toNat ≤ 2000 ∧ 1 ≤ b2.toNat * 65536 + b3.toNat * 256 + b4.toNat ∧ b2.toNat * 65536 + b3.toNat * 256 + b4.toNat ≤ 999999 ∧ a + 5 + (b0.toNat * 256 + b1.toNat) ≤ s.size then
    some (⟨((b2.toNat * 65536 + b3.toNat * 256 + b4.toNat : Nat) : Int), s.extract (a + 5) (a + 5 + (b0.toNat * 256 + b1.toNat))⟩, a + 5 + (b0.toNat * 256 + b1.toNat)) else none := by
    rw [x0, x1, x2, x3, x4]; rfl
  obtain ⟨n, hn⟩ : ∃ n : Nat, b0.toNat * 256 + b1.toNat = n := ⟨_, rfl⟩
  obtain ⟨q, hq⟩ : ∃ q : Nat, b2.toNat * 65536 + b3.toNat * 256 + b4.toNat = q := ⟨_, rfl⟩
  rw [hn, hq] at hfr
  have z0 : (0 : Int) ≤ (a : Int) := by omega
  have a1 : IntKind.i64.wrap ((a : Int) + 1) = ((a + 1 : Nat) : Int) := (wrap64 ⟨by omega, by omega⟩).trans (by omega)
  have a2 : IntKind.i64.wrap ((a : Int) + 2) = ((a + 2 : Nat) : Int) := (wrap64 ⟨by omega, by omega⟩).trans (by omega)
  have a3 : IntKind.i64.wrap ((a : Int) + 3) = ((a + 3 : Nat) : Int) := (wrap64 ⟨by omega, by omega⟩).trans (by omega)
  have a4 : IntKind.i64.wrap ((a : Int) + 4) = ((a + 4 : Nat) : Int) := (wrap64 ⟨by omega, by omega⟩).trans (by omega)
  have a5 : IntKind.i64.wrap ((a : Int) + 5) = ((a + 5 : Nat) : Int) := (wrap64 ⟨by omega, by omega⟩).trans (by omega)
  have k0 : IntKind.i64.wrap (b0.toNat : Int) = b0.toNat := (wrap64 ⟨by omega, by omega⟩).trans (by omega)
  have k1 : IntKind.i64.wrap (b1.toNat : Int) = b1.toNat := (wrap64 ⟨by omega, by omega⟩).trans (by omega)
  have k2 : IntKind.i64.wrap (b2.toNat : Int) = b2.toNat := (wrap64 ⟨by omega, by omega⟩).trans (by omega)
  have k3 : IntKind.i64.wrap (b3.toNat : Int) = b3.toNat := (wrap64 ⟨by omega, by omega⟩).trans (by omega)
  have k4 : IntKind.i64.wrap (b4.toNat : Int) = b4.toNat := (wrap64 ⟨by omega, by omega⟩).trans (by omega)
  have m0 : IntKind.i64.wrap ((b0.toNat : Int) * 256) = ((b0.toNat * 256 : Nat) : Int) := (wrap64 ⟨by omega, by omega⟩).trans (by omega)
  have m1 : IntKind.i64.wrap (((b0.toNat * 256 : Nat) : Int) + b1.toNat) = (n : Int) := (wrap64 ⟨by omega, by omega⟩).trans (by omega)
  have m2 : IntKind.i64.wrap ((b2.toNat : Int) * 65536) = ((b2.toNat * 65536 : Nat) : Int) := (wrap64 ⟨by omega, by omega⟩).trans (by omega)
  have m3 : IntKind.i64.wrap ((b3.toNat : Int) * 256) = ((b3.toNat * 256 : Nat) : Int) := (wrap64 ⟨by omega, by omega⟩).trans (by omega)
  have m4 : IntKind.i64.wrap (((b2.toNat * 65536 : Nat) : Int) + ((b3.toNat * 256 : Nat) : Int)) = ((b2.toNat * 65536 + b3.toNat * 256 : Nat) : Int) := (wrap64 ⟨by omega, by omega⟩).trans (by omega)
  have m5 : IntKind.i64.wrap (((b2.toNat * 65536 + b3.toNat * 256 : Nat) : Int) + b4.toNat) = (q : Int) := (wrap64 ⟨by omega, by omega⟩).trans (by omega)
  have zz : ∀ k : Nat, (0 : Int) ≤ ((a + k : Nat) : Int) := fun k => by omega
  have w5 : IntKind.i64.wrap ((s.size : Int) - a - 5) = (s.size : Int) - a - 5 := wrap64 ⟨by omega, by omega⟩
  by_cases f1 : (n : Int) > 2000
  · rw [hF.stop (hfr.trans (if_neg (by omega)))]
    simp only [go_sem, e0, e5, e4, eH, w0, g1, hb0, hb1, hb2, hb3, hb4, z0, zz, a1, a2, a3, a4, a5, k0, k1, k2, k3, k4, m0, m1, m2, m3, m4, m5, f1, ht1]
  simp only [go_sem, e0, e5, e4, eH, w0, g1, hb0, hb1, hb2, hb3, hb4, z0, zz, a1, a2, a3, a4, a5, k0, k1, k2, k3, k4, m0, m1, m2, m3, m4, m5, f1]
  refine callC (l6In_ok _ _ _) rfl rfl rfl rfl ?_
  by_cases f2 : (decide (1 ≤ (q : Int)) && decide ((q : Int) ≤ 999999)) = true
  rotate_left
  · have f2' : ¬ (1 ≤ q ∧ q ≤ 999999) := fun h => f2 (by rw [Bool.and_eq_true, decide_eq_true_eq, decide_eq_true_eq]; omega)
    rw [hF.stop (hfr.trans (if_neg (by omega)))]
    rw [Bool.not_eq_true] at f2
    simp only [go_sem, e0, e5, e4, eH, f1, f2, ht1]
  by_cases f3 : (s.size : Int) - a - 5 < n
  · rw [hF.stop (hfr.trans (if_neg (by omega)))]
    simp only [go_sem, e0, e5, e4, eH, w0, f1, f2, w5, f3, ht1]
  have w6 : IntKind.i64.wrap (((a + 5 : Nat) : Int) + n) = ((a + 5 + n : Nat) : Int) := (wrap64 ⟨by omega, by omega⟩).trans (by omega)
  have y1 : ((a + 5 : Nat) : Int) ≤ ((a + 5 + n : Nat) : Int) := by omega
  have y2 : ((a + 5 + n : Nat) : Int) ≤ s.size := by omega
  have q1 : (rs.length + 1) * 24 ≤ 140737488355328 := by omega
  have q2 : rs.length + 1 ≤ 9223372036854775807 := by omega
  simp only [go_sem, e0, e5, e4, eH, w0, zz, a5, f1, f2, w5, f3, lohi, w6, y1, y2, ht1, q1, q2]
  rw [Bool.and_eq_true, decide_eq_true_eq, decide_eq_true_eq] at f2
  obtain ⟨j1, j2⟩ := hF.next (b := a + 5 + n) (r := ⟨(q : Int), s.extract (a + 5) (a + 5 + n)⟩) (hfr.trans (if_pos (by omega)))
  refine ⟨j1, rs ++ [⟨(q : Int), s.extract (a + 5) (a + 5 + n)⟩], a + 5 + n, c + 5 + 12 + 20 + 16 + 12, j2, e0, rfl, ?_, ?_⟩
  · rw [List.length_append]; rfl
  · simp only [en_snoc]; rfl
end Go.V
set_option linter.unusedSimpArgs false
set_option maxRecDepth 20000
namespace Go.V
open Go.Proofs
theorem or_low (m b : Nat) (hm : m < 1000000000) (hb : b < 256) : IntKind.i64.wrap ((BitVec.ofInt 64 ((m * 256 : Nat) : Int) ||| BitVec.ofInt 64 (b : Int)).toNat : Int) = ((m * 256 + b : Nat) : Int) := by
  have e1 : (BitVec.ofInt 64 ((m * 256 : Nat) : Int)).toNat = m <<< 8 := by rw [BitVec.toNat_ofInt, Nat.shiftLeft_eq]; omega
  have e2 : (BitVec.ofInt 64 (b : Int)).toNat = b := by rw [BitVec.toNat_ofInt]; omega
  rw [BitVec.toNat_or, e1, e2, ← Nat.shiftLeft_add_eq_or_of_lt (by omega), Nat.shiftLeft_eq]
  exact wrap64 ⟨by omega, by omega⟩
/-- The number that bytes are, the highest first. -/
def bigN (s : ByteArray) : Nat → Nat
  | 0 => 0
  | i + 1 => bigN s i * 256 + bt s i
theorem bigN_lt (s : ByteArray) : ∀ i, bigN s i < 256 ^ i
  | 0 => by simp [bigN]
  | i + 1 => by
    have h1 := bigN_lt s i
    have h2 := bt_lt s i
    rw [bigN, Nat.pow_succ]; omega
def ok100 := okF.gu (P := Tryz.prog) tab Tryz.func100 Tryz.ntmps100 (by conv => lhs; cbv) (by kernel_rfl)
def inv100 (s : ByteArray) (i : Nat) (σ : St) : Prop := σ.t 0 = tS s ∧ σ.t 3 = .i (bigN s i) ∧ σ.t 6 = .i s.size ∧ σ.t 7 = .i i
theorem big_ok (s : ByteArray) (hs : s.size ≤ 3) : ACallsF Tryz.prog 100 [tS s] [] (.i (bigN s s.size)) := by
  refine ACallsF.intro ok100 follows fun X c0 => ?_
  simp only [go_sem]
  refine AW.upto s.size (inv100 s) ⟨rfl, rfl, rfl, rfl⟩ fun i t H c hi h => ?_
  obtain ⟨e0, e3, e6, e7⟩ := h
  simp only [T.c, T.i, T.s] at e0 e3 e6 e7
  by_cases hlt : i < s.size
  · obtain ⟨b, hb, hbt⟩ := bt_get hlt
    have u := b.toNat_lt
    have hm : bigN s i < 256 ^ 2 := Nat.lt_of_lt_of_le (bigN_lt s i) (Nat.pow_le_pow_right (by omega) (by omega))
    have k1 : (i : Int) < s.size := by omega
    have gz : (0 : Int) ≤ i := by omega
    have gw : IntKind.i64.wrap ((i : Int) + 1) = ((i + 1 : Nat) : Int) := wrap64 (x := (i : Int) + 1) ⟨by omega, by omega⟩
    have w0 : Int.toNat 8 = 8 := rfl
    have n8 : ¬ (8 : Int) < 0 := by omega
    have m8 : min 8 64 = 8 := rfl
    have sh : IntKind.i64.wrap ((bigN s i : Int) * 2 ^ 8) = ((bigN s i * 256 : Nat) : Int) := (wrap64 ⟨by omega, by omega⟩).trans (by omega)
    have kb : IntKind.i64.wrap (b.toNat : Int) = b.toNat := wrap64 ⟨by omega, by omega⟩
    have hor := or_low (bigN s i) b.toNat (by omega) (by omega)
    simp only [go_sem, e0, e3, e6, e7, k1, gz, hb, w0, n8, m8, sh, kb, hor, gw]
    exact ⟨hlt, e0, by rw [bigN, ← hbt]; exact congrArg T.i hor, e6, rfl⟩
  · have hi2 : i = s.size := by omega
    subst hi2
    have k1 : ¬ (s.size : Int) < s.size := by omega
    simp only [go_sem, e0, e3, e6, e7, k1]
theorem ext_bt {s : ByteArray} {a b i : Nat} (h : a + i < b) (hb : b ≤ s.size) : bt (s.extract a b) i = bt s (a + i) := by
  unfold bt
  congr 2
  rw [ByteArray.data_extract, Array.getElem?_extract]
  rw [size_data] at hb
  rw [if_pos (by omega)]
theorem big2 {s : ByteArray} {a : Nat} (h : a + 2 ≤ s.size) : bigN (s.extract a (a + 2)) (s.extract a (a + 2)).size = bt s a * 256 + bt s (a + 1) := by
  have e : (s.extract a (a + 2)).size = 2 := by rw [ByteArray.size_extract]; omega
  rw [e, bigN, bigN, bigN, ext_bt (by omega) h, ext_bt (by omega) h]; simp
theorem big3 {s : ByteArray} {a : Nat} (h : a + 5 ≤ s.size) : bigN (s.extract (a + 2) (a + 5)) (s.extract (a + 2) (a + 5)).size = bt s (a + 2) * 65536 + bt s (a + 3) * 256 + bt s (a + 4) := by
  have e : (s.extract (a + 2) (a + 5)).size = 3 := by rw [ByteArray.size_extract]; omega
  rw [e, bigN, bigN, bigN, bigN, ext_bt (by omega) h, ext_bt (by omega) h, ext_bt (by omega) h]
  simp only [Nat.add_zero, Nat.zero_mul, Nat.zero_add, Nat.add_assoc, Nat.reduceAdd]; omega
def ok80 := okF.gu (P := Tryz.prog) tab Tryz.func80 Tryz.ntmps80 (by conv => lhs; cbv) (by kernel_rfl)
def inv80 (s : ByteArray) (i : Nat) (σ : St) : Prop := ∃ (rs : List LR) (a v : Nat), FrS s i a rs ∧ σ.t 0 = tS s ∧ σ.t 5 = .i a ∧ σ.t 4 = .c (.own 8 v rs.length) ∧ σ.H 8 = some (.arr v true 2 83 (en eR rs))
theorem framesI_ok (s : ByteArray) (hs : s.size ≤ 1000000) : ACallsF Tryz.prog 80 [tS s] [] (tRI (frames s).1 (frames s).2) := by
  refine ACallsF.intro ok80 follows fun X c0 => ?_
  simp only [go_sem]
  refine AW.upto s.size (inv80 s) ⟨[], 0, _, ⟨Nat.le_refl _, Nat.zero_le _, Nat.zero_le _, rfl⟩, rfl, rfl, rfl, rfl⟩ fun i t H c hi h => ?_
  obtain ⟨rs, a, v, hF, e0, e5, e4, eH⟩ := h
  have hF1 := hF
  obtain ⟨h1, h2, h3, _⟩ := hF1
  simp only [T.c, T.i, T.s] at e0 e5 e4 eH
  have ht1 : (en eR rs).take rs.length = en eR rs := en_take eR rs
  have w0 : IntKind.i64.wrap ((s.size : Int) - a) = (s.size : Int) - a := wrap64 ⟨by omega, by omega⟩
  by_cases g1 : (s.size : Int) - a ≥ 5
  rotate_left
  · rw [hF.stop (if_neg (by omega))]
    simp only [go_sem, e0, e5, e4, eH, w0, g1, ht1]
  have u0 := bt_lt s a
  have u1 := bt_lt s (a + 1)
  have hb2 := big2 (s := s) (a := a) (by omega)
  have hb3 := big3 (s := s) (a := a) (by omega)
  have hC2 := big_ok (s.extract a (a + 2)) (by rw [ByteArray.size_extract]; omega)
  have hC3 := big_ok (s.extract (a + 2) (a + 5)) (by rw [ByteArray.size_extract]; omega)
  have hfr : frAt s a = if a + 5 ≤ s.size ∧ bt s a * 256 + bt s (a + 1) ≤ 2000 ∧ 1 ≤ bt s (a + 2) * 65536 + bt s (a + 3) * 256 + bt s (a + 4) ∧ bt s (a + 2) * 65536 + bt s (a + 3) * 256 + bt s (a + 4) ≤ 999999 ∧ a + 5 + (bt s a * 256 + bt s (a + 1)) ≤ s.size then
    some (⟨((bt s (a + 2) * 65536 + bt s (a + 3) * 256 + bt s (a + 4) : Nat) : Int), s.extract (a + 5) (a + 5 + (bt s a * 256 + bt s (a + 1)))⟩, a + 5 + (bt s a * 256 + bt s (a + 1))) else none := rfl
  obtain ⟨n, hn⟩ : ∃ n : Nat, bt s a * 256 + bt s (a + 1) = n := ⟨_, rfl⟩
  obtain ⟨q, hq⟩ : ∃ q : Nat, bt s (a + 2) * 65536 + bt s (a + 3) * 256 + bt s (a + 4) = q := ⟨_, rfl⟩
  rw [hn] at hb2
  rw [hq] at hb3
  rw [hn, hq] at hfr
  rw [hb2] at hC2
  rw [hb3] at hC3
  have z0 : (0 : Int) ≤ (a : Int) := by omega
  have z2 : (0 : Int) ≤ ((a + 2 : Nat) : Int) := by omega
  have z5 : (0 : Int) ≤ ((a + 5 : Nat) : Int) := by omega
  have y0 : (a : Int) ≤ ((a + 2 : Nat) : Int) := by omega
  have y1 : ((a + 2 : Nat) : Int) ≤ s.size := by omega
  have y2 : ((a + 2 : Nat) : Int) ≤ ((a + 5 : Nat) : Int) := by omega
  have y3 : ((a + 5 : Nat) : Int) ≤ s.size := by omega
  have a2 : IntKind.i64.wrap ((a : Int) + 2) = ((a + 2 : Nat) : Int) := (wrap64 ⟨by omega, by omega⟩).trans (by omega)
  have a5 : IntKind.i64.wrap ((a : Int) + 5) = ((a + 5 : Nat) : Int) := (wrap64 ⟨by omega, by omega⟩).trans (by omega)
  have an : IntKind.i64.wrap (((a + 5 : Nat) : Int) + n) = ((a + 5 + n : Nat) : Int) := (wrap64 ⟨by omega, by omega⟩).trans (by omega)
  simp only [go_sem, e0, e5, e4, eH, w0, g1, lohi, z0, y0, y1, a2, a5]
  refine callC hC2 rfl rfl rfl rfl ?_
  by_cases f1 : ((a + 5 + n : Nat) : Int) > s.size
  · rw [hF.stop (hfr.trans (if_neg (by omega)))]
    simp only [go_sem, e0, e5, e4, eH, an, f1, ht1]
  have y4 : ((a + 5 : Nat) : Int) ≤ ((a + 5 + n : Nat) : Int) := by omega
  have y5 : ((a + 5 + n : Nat) : Int) ≤ s.size := by omega
  simp only [go_sem, e0, e5, e4, eH, an, f1, lohi, z2, y2, y3, a2, a5]
  refine callC hC3 rfl rfl rfl rfl ?_
  simp only [go_sem, e0, e5, e4, eH, an, f1, lohi, z5, y4, y5, a2, a5]
  refine callC (frameOk_ok ⟨(q : Int), s.extract (a + 5) (a + 5 + n)⟩) rfl rfl rfl rfl ?_
  have hz : (s.extract (a + 5) (a + 5 + n)).size = n := by rw [ByteArray.size_extract]; omega
  cases f2 : recOk ⟨(q : Int), s.extract (a + 5) (a + 5 + n)⟩ with
  | false =>
    have f3 : ¬ (n ≤ 2000 ∧ 1 ≤ q ∧ q ≤ 999999) := fun h => by
      rw [(recOk_iff _).2 ⟨by simp only; omega, by simp only; omega, by simp only [hz]; omega⟩] at f2; cases f2
    rw [hF.stop (hfr.trans (if_neg (by omega)))]
    simp only [go_sem, e0, e5, e4, eH, f2, ht1]
  | true =>
    have f3 := (recOk_iff _).1 f2
    simp only [hz] at f3
    have q1 : (rs.length + 1) * 24 ≤ 140737488355328 := by omega
    have q2 : rs.length + 1 ≤ 9223372036854775807 := by omega
    obtain ⟨j1, j2⟩ := hF.next (b := a + 5 + n) (r := ⟨(q : Int), s.extract (a + 5) (a + 5 + n)⟩) (hfr.trans (if_pos (by omega)))
    simp only [go_sem, e0, e5, e4, eH, f2, ht1, q1, q2]
    refine ⟨j1, rs ++ [⟨(q : Int), s.extract (a + 5) (a + 5 + n)⟩], a + 5 + n, c + 5 + 10 + 4 + 15 + 3 + 3, j2, e0, rfl, ?_, ?_⟩
    · rw [List.length_append]; rfl
    · simp only [en_snoc]; rfl
end Go.V
set_option linter.unusedSimpArgs false
set_option maxRecDepth 20000
namespace Go.V
open Go.Proofs
/-! Plans. -/
structure LP where
  num : Int
  first : Int
  next : Int
  size : Int
structure Pl where
  parts : List LP
  opn : Int
  first : Int
def eP (x : LP) : List V := [.s (.int .i64 x.num), .s (.int .i64 x.first), .s (.int .i64 x.next), .s (.int .i64 x.size)]
theorem eP_len (x : LP) : (eP x).length = 4 := rfl
theorem alP : type_of% (@en_all LP eP 4 eP_len) := @en_all LP eP 4 eP_len
attribute [go_sem] alP
abbrev cPl (p : Pl) : List C := [.v (.sl (en eP p.parts)), .v (.s (.int .i64 p.opn)), .v (.s (.int .i64 p.first))]
abbrev tPl (p : Pl) : T := .pt (.agg (cPl p))
abbrev tLP (x : LP) : T := .pt (.agg [.v (.s (.int .i64 x.num)), .v (.s (.int .i64 x.first)), .v (.s (.int .i64 x.next)), .v (.s (.int .i64 x.size))])
def partOk (seen : List Int) (nx : Int) (x : LP) : Prop := (1 ≤ x.num ∧ x.num ≤ 999999) ∧ x.num ∉ seen ∧ x.first = nx ∧ x.first ≤ x.next ∧ x.next ≤ 1000000 ∧ 0 ≤ x.size ∧ x.size ≤ 20000
instance (seen : List Int) (nx : Int) (x : LP) : Decidable (partOk seen nx x) := inferInstanceAs (Decidable (_ ∧ _))
/-- Where the parts end, if they are as they must be. -/
def plGo : List Int → Int → List LP → Option Int
  | _, nx, [] => some nx
  | seen, nx, x :: xs => if partOk seen nx x then plGo (seen ++ [x.num]) x.next xs else none
def planOk (p : Pl) : Bool := decide (p.parts.length ≤ 40) && (decide (1 ≤ p.opn) && decide (p.opn ≤ 999999)) && decide (plGo [p.opn] 1 p.parts = some p.first)
theorem planOk_iff (p : Pl) : planOk p = true ↔ p.parts.length ≤ 40 ∧ (1 ≤ p.opn ∧ p.opn ≤ 999999) ∧ plGo [p.opn] 1 p.parts = some p.first := by
  simp only [planOk, Bool.and_eq_true, decide_eq_true_eq, and_assoc]
/-- The numbers of the first i parts, behind that of the open one. -/
def nums (p : Pl) (i : Nat) : List Int := p.opn :: (p.parts.take i).map LP.num
theorem nums_len (p : Pl) (i : Nat) (h : i ≤ p.parts.length) : (nums p i).length = i + 1 := by simp [nums]; omega
theorem take_snoc {α : Type} {l : List α} {i : Nat} {x : α} (h : l[i]? = some x) : l.take (i + 1) = l.take i ++ [x] := by
  rw [List.take_add_one, h]; rfl
theorem nums_snoc {p : Pl} {i : Nat} {x : LP} (h : p.parts[i]? = some x) : nums p (i + 1) = nums p i ++ [x.num] := by
  rw [nums, nums, take_snoc h, List.map_append]; rfl
def plI (p : Pl) (i : Nat) (nx : Int) : Prop := plGo [p.opn] 1 p.parts = plGo (nums p i) nx (p.parts.drop i)
theorem plI.step {p : Pl} {i : Nat} {nx : Int} {x : LP} (h : plI p i nx) (hx : p.parts[i]? = some x) (ho : partOk (nums p i) nx x) : plI p (i + 1) x.next := by
  unfold plI at h ⊢
  rw [h, drop_at hx, plGo, if_pos ho, nums_snoc hx]
theorem plI.bad {p : Pl} {i : Nat} {nx : Int} {x : LP} (h : plI p i nx) (hx : p.parts[i]? = some x) (ho : ¬ partOk (nums p i) nx x) : planOk p = false := by
  unfold plI at h
  rw [drop_at hx, plGo, if_neg ho] at h
  have : ¬ (plGo [p.opn] 1 p.parts = some p.first) := by rw [h]; simp
  simp [planOk, this]
theorem plI.stop {p : Pl} {nx : Int} (h : plI p p.parts.length nx) : planOk p = (decide (p.parts.length ≤ 40) && (decide (1 ≤ p.opn) && decide (p.opn ≤ 999999)) && (p.first == nx)) := by
  unfold plI at h
  rw [List.drop_length, plGo] at h
  rw [planOk, h]
  congr 1
  by_cases e : p.first = nx
  · simp [e]
  · have e2 : ¬ nx = p.first := fun h => e h.symm
    simp [e, e2]
def ok108 := okF.gu (P := Tryz.prog) tab Tryz.func108 Tryz.ntmps108 (by conv => lhs; cbv) (by kernel_rfl)
def Hd108 (p : Pl) (i : Nat) (σ : St) : Prop := (∃ u, σ.t 1 = .c (.ptr 1 u 0) ∧ σ.H 1 = some (.var u 47 (cPl p))) ∧ σ.t 4 = .i i
def inv108 (p : Pl) (i : Nat) (σ : St) : Prop := Hd108 p i σ ∧ ∃ nx : Int, plI p i nx ∧ σ.t 3 = .i nx
def inv108b (p : Pl) (i : Nat) (x : LP) (j : Nat) (σ : St) : Prop := (∀ k y, k < j → p.parts[k]? = some y → y.num ≠ x.num) ∧ Hd108 p i σ ∧ (∃ u, σ.t 5 = .c (.ptr 5 u 0) ∧ σ.H 5 = some (.var u 76 ((eP x).map .v))) ∧ σ.t 6 = .i j
theorem planOkS_ok (p : Pl) (hl : p.parts.length ≤ 9000000000000000000) : ACallsF Tryz.prog 108 [tPl p] [] (.b (planOk p)) := by
  refine ACallsF.intro ok108 follows fun X c0 => ?_
  by_cases g0 : (p.parts.length : Int) > 40
  · have e : planOk p = false := by
      have : ¬ p.parts.length ≤ 40 := by omega
      simp [planOk, this]
    simp only [go_sem, g0, e]
  have g0' : p.parts.length ≤ 40 := by omega
  simp only [go_sem, g0]
  refine callC (l6In_ok _ _ _) rfl rfl rfl rfl ?_
  by_cases g1 : (decide (1 ≤ p.opn) && decide (p.opn ≤ 999999)) = true
  rotate_left
  · rw [Bool.not_eq_true] at g1
    have e : planOk p = false := by simp only [planOk, g1, Bool.and_false, Bool.false_and]
    simp only [go_sem, g1, e]
  simp only [go_sem, g1]
  refine AW.upto p.parts.length (inv108 p) ⟨⟨⟨_, rfl, rfl⟩, rfl⟩, _, rfl, rfl⟩ fun i t H c hi h => ?_
  obtain ⟨⟨⟨u, e1, eH⟩, e4⟩, nx, hP, e3⟩ := h
  simp only [T.c, T.i, T.s] at e1 eH e4 e3
  by_cases k1 : (i : Int) < p.parts.length
  rotate_left
  · have hi2 : i = p.parts.length := by omega
    subst hi2
    rw [hP.stop, decide_eq_true g0', g1]
    simp only [go_sem, e1, eH, e4, e3, k1]
  obtain ⟨x, hx⟩ : ∃ x, p.parts[i]? = some x := ⟨_, List.getElem?_eq_getElem (by omega)⟩
  have ex := en_at eP hx
  have gz : (0 : Int) ≤ i := by omega
  have w2 : IntKind.i64.wrap ((i : Int) + 1) = ((i + 1 : Nat) : Int) := wrap64 (x := (i : Int) + 1) ⟨by omega, by omega⟩
  simp only [go_sem, e1, eH, e4, e3, k1, ex, gz, eP]
  refine callC (l6In_ok _ _ _) rfl rfl rfl rfl ?_
  by_cases f1 : (decide (1 ≤ x.num) && decide (x.num ≤ 999999)) = true
  rotate_left
  · have e := hP.bad hx fun h => f1 (by rw [Bool.and_eq_true, decide_eq_true_eq, decide_eq_true_eq]; exact h.1)
    rw [Bool.not_eq_true] at f1
    simp only [go_sem, f1, e]
  by_cases f2 : (x.num == p.opn) = true
  · have e := hP.bad hx fun h => h.2.1 (by rw [beq_iff_eq] at f2; rw [f2]; exact List.mem_cons_self)
    simp only [go_sem, e1, eH, f1, f2, e]
  by_cases f3 : (x.first != nx) = true
  · have e := hP.bad hx fun h => (bne_iff_ne.1 f3) h.2.2.1
    rw [Bool.not_eq_true] at f2
    simp only [go_sem, e1, eH, e3, f1, f2, f3, e]
  by_cases f4 : x.next < x.first
  · have e := hP.bad hx fun h => by have := h.2.2.2.1; omega
    rw [Bool.not_eq_true] at f2 f3
    simp only [go_sem, e1, eH, e3, f1, f2, f3, f4, e]
  by_cases f5 : x.next > 1000000
  · have e := hP.bad hx fun h => by have := h.2.2.2.2.1; omega
    rw [Bool.not_eq_true] at f2 f3
    simp only [go_sem, e1, eH, e3, f1, f2, f3, f4, f5, e]
  have f2' : x.num ≠ p.opn := fun h => f2 (by rw [beq_iff_eq]; exact h)
  have f3' : x.first = nx := Classical.byContradiction fun h => f3 (bne_iff_ne.2 h)
  rw [Bool.not_eq_true] at f2 f3
  simp only [go_sem, e1, eH, e3, f1, f2, f3, f4, f5]
  refine callC (l6In_ok _ _ _) rfl rfl rfl rfl ?_
  by_cases f6 : (decide (0 ≤ x.size) && decide (x.size ≤ 20000)) = true
  rotate_left
  · have e := hP.bad hx fun h => f6 (by rw [Bool.and_eq_true, decide_eq_true_eq, decide_eq_true_eq]; exact h.2.2.2.2.2)
    rw [Bool.not_eq_true] at f6
    simp only [go_sem, f6, e]
  rw [Bool.and_eq_true, decide_eq_true_eq, decide_eq_true_eq] at f1
  have f6' := f6
  rw [Bool.and_eq_true, decide_eq_true_eq, decide_eq_true_eq] at f6'
  simp only [go_sem, e1, eH, e4, e3, f6]
  refine AW.upto i (inv108b p i x) ⟨fun k y hk => absurd hk (Nat.not_lt_zero k), ⟨⟨u, e1, eH⟩, e4⟩, ⟨_, rfl, rfl⟩, rfl⟩ fun j t H c hj h => ?_
  obtain ⟨hN, ⟨⟨u, e1, eH⟩, e4⟩, ⟨u5, e5, eH5⟩, e6⟩ := h
  simp only [T.c, T.i, T.s, eP, List.map_cons, List.map_nil] at e1 eH e4 e5 eH5 e6
  by_cases k2 : (j : Int) < i
  · obtain ⟨y, hy⟩ : ∃ y, p.parts[j]? = some y := ⟨_, List.getElem?_eq_getElem (by omega)⟩
    have ey := en_at eP hy
    have gz2 : (0 : Int) ≤ j := by omega
    have w3 : IntKind.i64.wrap ((j : Int) + 1) = ((j + 1 : Nat) : Int) := wrap64 (x := (j : Int) + 1) ⟨by omega, by omega⟩
    by_cases f7 : (y.num == x.num) = true
    · have e := hP.bad hx fun h => h.2.1 (by
        rw [beq_iff_eq] at f7
        refine List.mem_cons_of_mem _ (List.mem_map.2 ⟨y, ?_, f7⟩)
        exact List.mem_of_getElem? (i := j) (by rw [List.getElem?_take, if_pos (by omega)]; exact hy))
      simp only [go_sem, e1, eH, e4, e5, eH5, e6, k2, ey, gz2, eP, f7, e]
    · have f7' : y.num ≠ x.num := fun h => f7 (by rw [beq_iff_eq]; exact h)
      rw [Bool.not_eq_true] at f7
      simp only [go_sem, e1, eH, e4, e5, eH5, e6, k2, ey, gz2, eP, f7, w3]
      refine ⟨by omega, fun k y' hk hy' => ?_, ⟨⟨u, e1, eH⟩, e4⟩, ⟨u5, e5, eH5⟩, rfl⟩
      rcases Nat.lt_succ_iff_lt_or_eq.1 hk with hk | rfl
      · exact hN k y' hk hy'
      · rw [hy] at hy'; cases hy'; exact f7'
  · have hns : x.num ∉ nums p i := fun hm => by
      rcases List.mem_cons.1 hm with hm | hm
      · exact f2' hm
      · obtain ⟨y, hy1, hy2⟩ := List.mem_map.1 hm
        obtain ⟨k, hk⟩ := List.mem_iff_getElem?.1 hy1
        rw [List.getElem?_take] at hk
        split at hk
        · rename_i hki
          exact hN k y (by omega) hk hy2
        · cases hk
    have ho : partOk (nums p i) nx x := ⟨f1, hns, f3', by omega, by omega, f6'.1, f6'.2⟩
    simp only [go_sem, e1, eH, e4, e5, eH5, e6, k2, w2]
    exact ⟨by omega, ⟨⟨u, e1, eH⟩, rfl⟩, _, hP.step hx ho, rfl⟩
end Go.V
set_option linter.unusedSimpArgs false
set_option maxRecDepth 20000
namespace Go.V
open Go.Proofs
def ixN (ns : List Int) (n : Int) : Int := match ns.findIdx? fun x => decide (x = n) with
  | some i => i
  | none => -1
theorem ixN_at {ns : List Int} {n : Int} {i : Nat} (h : ns[i]? = some n) (g : ∀ j : Nat, j < i → ns[j]? ≠ some n) : ixN ns n = i := by
  obtain ⟨hi, hi2⟩ := (List.getElem?_eq_some_iff.1 h)
  have : ns.findIdx? (fun x => decide (x = n)) = some i := by
    rw [List.findIdx?_eq_some_iff_getElem]
    refine ⟨hi, by simpa using hi2, fun j hj => ?_⟩
    have := g j hj
    rw [List.getElem?_eq_getElem (by omega)] at this
    have hj2 : j < ns.length := by omega
    simpa using fun e : ns[j] = n => this (congrArg some e)
  rw [ixN, this]
theorem ixN_no {ns : List Int} {n : Int} (h : n ∉ ns) : ixN ns n = -1 := by
  have : ns.findIdx? (fun x => decide (x = n)) = none := by
    rw [List.findIdx?_eq_none_iff]
    intro x hx
    simpa using fun e : x = n => h (e ▸ hx)
  rw [ixN, this]
theorem ixN_nn {ns : List Int} {n : Int} (h : n ∈ ns) : 0 ≤ ixN ns n := by
  unfold ixN
  cases hf : ns.findIdx? (fun x => decide (x = n)) with
  | none =>
    rw [List.findIdx?_eq_none_iff] at hf
    have := hf n h
    simp at this
  | some i => simp only; omega
def ok165 := okF.gu (P := Tryz.prog) tab Tryz.func165 Tryz.ntmps165 (by conv => lhs; cbv) (by kernel_rfl)
def inv165 (ns : List Int) (n : Int) (i : Nat) (σ : St) : Prop := (∀ (j : Nat), j < i → ns[j]? ≠ some n) ∧ σ.t 0 = tL (en eI ns) ∧ σ.t 1 = .i n ∧ σ.t 7 = .i ns.length ∧ σ.t 8 = .i i
theorem indexN_ok (ns : List Int) (n : Int) (hl : ns.length ≤ 9000000000000000000) : ACallsF Tryz.prog 165 [tL (en eI ns), .i n] [] (.i (ixN ns n)) := by
  refine ACallsF.intro ok165 follows fun X c0 => ?_
  simp only [go_sem]
  refine AW.upto ns.length (inv165 ns n) ⟨fun j hj => absurd hj (Nat.not_lt_zero j), rfl, rfl, rfl, rfl⟩ fun i t H c hi h => ?_
  obtain ⟨g, e0, e1, e7, e8⟩ := h
  simp only [T.c, T.i, T.s, tL] at e0 e1 e7 e8
  by_cases hlt : i < ns.length
  · obtain ⟨x, hx⟩ : ∃ x, ns[i]? = some x := ⟨_, List.getElem?_eq_getElem hlt⟩
    have ex := en_at eI hx
    have k1 : (i : Int) < ns.length := by omega
    have gz : (0 : Int) ≤ i := by omega
    have gw : IntKind.i64.wrap ((i : Int) + 1) = ((i + 1 : Nat) : Int) := wrap64 (x := (i : Int) + 1) ⟨by omega, by omega⟩
    by_cases hn : n = x
    · have hr : ixN ns n = i := ixN_at (by rw [hx, hn]) g
      have hb : (n == x) = true := by rw [beq_iff_eq]; exact hn
      simp only [go_sem, e0, e1, e7, e8, k1, gz, ex, eI, hb, hr]
    · have hb : (n == x) = false := beq_eq_false_iff_ne.2 hn
      simp only [go_sem, e0, e1, e7, e8, k1, gz, ex, eI, hb, gw]
      exact ⟨hlt, fun j hj => (by rcases Nat.lt_succ_iff_lt_or_eq.1 hj with hj | rfl; exact g j hj; rw [hx]; exact fun e => hn (Option.some.inj e).symm), e0, e1, e7, rfl⟩
  · have k1 : ¬ (i : Int) < ns.length := by omega
    have hr : ixN ns n = -1 := ixN_no fun hm => by
      obtain ⟨j, hj⟩ := List.mem_iff_getElem?.1 hm
      exact g j (by have := (List.getElem?_eq_some_iff.1 hj).1; omega) hj
    simp only [go_sem, e0, e1, e7, e8, k1, hr]
def ok144 := okF.gu (P := Tryz.prog) tab Tryz.func144 Tryz.ntmps144 (by conv => lhs; cbv) (by kernel_rfl)
theorem containsN_ok (ns : List Int) (n : Int) (hl : ns.length ≤ 9000000000000000000) : ACallsF Tryz.prog 144 [tL (en eI ns), .i n] [] (.b (decide (n ∈ ns))) := by
  refine ACallsF.intro ok144 follows fun X c0 => ?_
  simp only [go_sem]
  refine callC (indexN_ok ns n hl) rfl rfl rfl rfl ?_
  by_cases h : n ∈ ns
  · have h1 := ixN_nn h
    simp only [go_sem, decide_eq_true h, ge_iff_le, h1]
  · have h1 := ixN_no h
    have h4 : ¬ (0 : Int) ≤ -1 := by omega
    simp only [go_sem, decide_eq_false h, ge_iff_le, h1, h4]
def ok128 := okF.gu (P := Tryz.prog) tab Tryz.func128 Tryz.ntmps128 (by conv => lhs; cbv) (by kernel_rfl)
def inv128 (p : Pl) (i : Nat) (σ : St) : Prop := (∃ u, σ.t 1 = .c (.ptr 1 u 0) ∧ σ.H 1 = some (.var u 47 (cPl p))) ∧ σ.t 11 = tL (en eP p.parts) ∧ σ.t 12 = .i p.parts.length ∧ σ.t 13 = .i i ∧
  (∃ v, σ.t 3 = .c (.own 9 v (i + 1)) ∧ σ.H 9 = some (.arr v true 1 3 (en eI (nums p i)))) ∧ ∃ nx : Int, plI p i nx ∧ σ.t 4 = .i nx
set_option maxHeartbeats 1000000 in
theorem planOkI_ok (p : Pl) (hl : p.parts.length ≤ 1000000000000) : ACallsF Tryz.prog 128 [tPl p] [] (.b (planOk p)) := by
  refine ACallsF.intro ok128 follows fun X c0 => ?_
  simp only [go_sem]
  refine AW.upto p.parts.length (inv128 p) ⟨⟨_, rfl, rfl⟩, rfl, rfl, rfl, ⟨_, rfl, rfl⟩, _, rfl, rfl⟩ fun i t H c hi h => ?_
  obtain ⟨⟨u, e1, eH⟩, e11, e12, e13, ⟨v, e3, eH9⟩, nx, hP, e4⟩ := h
  simp only [T.c, T.i, T.s, tL] at e1 eH e11 e12 e13 e3 eH9 e4
  by_cases k1 : (i : Int) < p.parts.length
  rotate_left
  · have hi2 : i = p.parts.length := by omega
    subst hi2
    rw [hP.stop]
    by_cases g0 : (p.parts.length : Int) ≤ 40
    · have g0' : p.parts.length ≤ 40 := by omega
      rw [decide_eq_true g0']
      simp only [go_sem, e1, eH, e11, e12, e13, e3, e4, k1, g0]
      refine callC (inRange_ok _ _ _) rfl rfl rfl rfl ?_
      by_cases g1 : (decide (1 ≤ p.opn) && decide (p.opn ≤ 999999)) = true
      · simp only [go_sem, e1, eH, e4, g1]
      · rw [Bool.not_eq_true] at g1
        simp only [go_sem, e1, eH, e4, g1]
    · have g0' : ¬ p.parts.length ≤ 40 := by omega
      rw [decide_eq_false g0']
      simp only [go_sem, e1, eH, e11, e12, e13, e3, e4, k1, g0]
  obtain ⟨x, hx⟩ : ∃ x, p.parts[i]? = some x := ⟨_, List.getElem?_eq_getElem (by omega)⟩
  have ex := en_at eP hx
  have gz : (0 : Int) ≤ i := by omega
  have w2 : IntKind.i64.wrap ((i : Int) + 1) = ((i + 1 : Nat) : Int) := wrap64 (x := (i : Int) + 1) ⟨by omega, by omega⟩
  have hnl := nums_len p i hi
  have ht : List.take (i + 1) (en eI (nums p i)) = en eI (nums p i) := List.take_of_length_le (by rw [en_len, hnl]; exact Nat.le_refl _)
  simp only [go_sem, e1, eH, e11, e12, e13, e3, eH9, e4, k1, ex, gz, eP]
  refine callL (ws := [(9, .arr v false 1 3 (en eI (nums p i)))]) (ns := [9]) (containsN_ok (nums p i) x.num (by omega)) rfl ?_ rfl rfl ⟨?_, ?_⟩
  · simp only [go_sem, lendTs, lendT, eH9, hnl, ht]
  · simp only [go_sem, scalarT, scalarP, scalarC]
  by_cases f2 : x.num ∈ nums p i
  · have e := hP.bad hx fun h => h.2.1 f2
    have f2' := decide_eq_true f2
    simp only [go_sem, scalarT, scalarP, scalarC, e1, eH, f2', e]
  have f2' := decide_eq_false f2
  simp only [go_sem, scalarT, scalarP, scalarC, e1, eH, f2']
  refine callC (inRange_ok _ _ _) rfl rfl rfl rfl ?_
  by_cases f1 : (decide (1 ≤ x.num) && decide (x.num ≤ 999999)) = true
  rotate_left
  · have e := hP.bad hx fun h => f1 (by rw [Bool.and_eq_true, decide_eq_true_eq, decide_eq_true_eq]; exact h.1)
    rw [Bool.not_eq_true] at f1
    simp only [go_sem, f1, e]
  simp only [go_sem, e1, eH, f1]
  refine callC (inRange_ok _ _ _) rfl rfl rfl rfl ?_
  by_cases f6 : (decide (0 ≤ x.size) && decide (x.size ≤ 20000)) = true
  rotate_left
  · have e := hP.bad hx fun h => f6 (by rw [Bool.and_eq_true, decide_eq_true_eq, decide_eq_true_eq]; exact h.2.2.2.2.2)
    rw [Bool.not_eq_true] at f6
    simp only [go_sem, f6, e]
  by_cases f3 : (x.first != nx) = true
  · have e := hP.bad hx fun h => (bne_iff_ne.1 f3) h.2.2.1
    simp only [go_sem, e1, eH, e4, f6, f3, e]
  have f3' : x.first = nx := Classical.byContradiction fun h => f3 (bne_iff_ne.2 h)
  rw [Bool.not_eq_true] at f3
  simp only [go_sem, e1, eH, e4, f6, f3]
  refine callC (inRange_ok _ _ _) rfl rfl rfl rfl ?_
  by_cases f4 : (decide (x.first ≤ x.next) && decide (x.next ≤ 1000000)) = true
  rotate_left
  · have e := hP.bad hx fun h => f4 (by rw [Bool.and_eq_true, decide_eq_true_eq, decide_eq_true_eq]; exact ⟨h.2.2.2.1, h.2.2.2.2.1⟩)
    rw [Bool.not_eq_true] at f4
    simp only [go_sem, f4, e]
  have q1 : (i + 1 + 1) * 8 ≤ 140737488355328 := by omega
  have q2 : i + 1 + 1 ≤ 9223372036854775807 := by omega
  have ho : partOk (nums p i) nx x := by
    rw [Bool.and_eq_true, decide_eq_true_eq, decide_eq_true_eq] at f1 f4 f6
    exact ⟨f1, f2, f3', f4.1, f4.2, f6.1, f6.2⟩
  simp only [go_sem, e1, eH, e11, e12, e13, e3, eH9, e4, f4, hnl, ht, q1, q2, w2]
  have heq : en eI (nums p (i + 1)) = en eI (nums p i) ++ [[.s (.int .i64 x.num)]] := by rw [nums_snoc hx]; simp only [en, List.map_append, List.map_cons, List.map_nil]; rfl
  exact ⟨by omega, ⟨u, e1, eH⟩, e11, e12, rfl, ⟨_, rfl, congrArg (fun q => some (Blk.arr _ true 1 3 q)) heq.symm⟩, _, hP.step hx ho, rfl⟩
end Go.V

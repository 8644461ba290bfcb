/- The Go function laws.FnLogSame returns true for every input, in the program's own Lean form: rolls, syncs and mends never change what was appended. Conditions: those of the given row and card. -/
import Derived.Test.YtaojogkldejmhaaGreatDoorMX7
import Derived.Test.YtaojogkldejmhaaGreatDoorMK1
set_option linter.unusedVariables false
set_option linter.unusedSimpArgs false
set_option maxRecDepth 20000
namespace Go.V
open Go.Proofs
def ok123 := okF.gu (P := Tryz.prog) tab Tryz.func123 Tryz.ntmps123 (by conv => lhs; cbv) (by kernel_rfl)
def lits : List ByteArray := [⟨#[]⟩, ⟨#[97]⟩, ⟨#[10]⟩, ⟨#[115, 101, 97, 108, 32, 49, 32, 49, 32, 49, 32, 49, 10, 111, 112, 101, 110, 32, 49, 32, 49, 10, 101, 110, 100, 10]⟩, ⟨#[0, 0]⟩]
theorem lits_size : ∀ s ∈ lits, s.size ≤ 100 := by
  intro s hs
  simp only [lits, List.mem_cons, List.not_mem_nil, or_false] at hs
  rcases hs with rfl | rfl | rfl | rfl | rfl <;> decide
theorem data_ok (bs : List UInt8) (hb : bs.length ≤ 2000) (p : Int) (hp : 0 ≤ p ∧ p ≤ 900000000000) (i : Int) (hi : 0 ≤ i ∧ i ≤ 1000000) : RC 123 [.i i] bs p 2 (fun s : ByteArray => s.size ≤ 4000) tS := by
  obtain ⟨k, k0, k1, C1⟩ := pick_ok bs hb p 14 (by omega) (by omega)
  by_cases g0 : (k == 0) = true
  · refine RC.intro ok123 rfl (fun _ => rfl) fun X => ?_
    simp only [go_sem]
    refine callRc (C1 0) rfl rfl rfl rfl rfl ⟨rfl, ?_⟩
    simp only [go_sem, g0]
    refine ES.mk (p + 1, ⟨#[]⟩) ⟨by omega, by omega, Nat.zero_le _⟩ ?_
    simp only [go_sem]
  rw [Bool.not_eq_true] at g0
  by_cases g1 : (k == 1) = true
  · obtain ⟨j, j0, j1, C2⟩ := pick_ok bs hb (p + 1) 3 (by omega) (by omega)
    have w1 : IntKind.i64.wrap (j * 900) = j * 900 := wrap64 ⟨by omega, by omega⟩
    have w2 : IntKind.i64.wrap (2000 - j * 900) = ((2000 - j * 900).toNat : Int) := (wrap64 ⟨by omega, by omega⟩).trans (by omega)
    obtain ⟨s, hs, C3⟩ := many_ok ⟨#[121]⟩ (2000 - j * 900).toNat (by omega) (by decide)
    have hz : (⟨#[121]⟩ : ByteArray).size = 1 := rfl
    refine RC.intro ok123 rfl (fun _ => rfl) fun X => ?_
    simp only [go_sem]
    refine callRc (C1 0) rfl rfl rfl rfl rfl ⟨rfl, ?_⟩
    simp only [go_sem, g0, g1]
    refine callRc (C2 0) rfl rfl rfl rfl rfl ⟨rfl, ?_⟩
    simp only [go_sem, w1, w2]
    refine callC C3 rfl rfl rfl rfl ?_
    simp only [go_sem]
    refine ES.mk (p + 1 + 1, s) ⟨by omega, by omega, by simp only; rw [hs, hz]; omega⟩ ?_
    simp only [go_sem]
  rw [Bool.not_eq_true] at g1
  by_cases g2 : (k == 2) = true
  · obtain ⟨j, j0, j1, C2⟩ := pick_ok bs hb (p + 1) 10 (by omega) (by omega)
    have w2 : IntKind.i64.wrap (250 + j) = ((250 + j).toNat : Int) := (wrap64 ⟨by omega, by omega⟩).trans (by omega)
    obtain ⟨s, hs, C3⟩ := many_ok ⟨#[122]⟩ (250 + j).toNat (by omega) (by decide)
    have hz : (⟨#[122]⟩ : ByteArray).size = 1 := rfl
    refine RC.intro ok123 rfl (fun _ => rfl) fun X => ?_
    simp only [go_sem]
    refine callRc (C1 0) rfl rfl rfl rfl rfl ⟨rfl, ?_⟩
    simp only [go_sem, g0, g1, g2]
    refine callRc (C2 0) rfl rfl rfl rfl rfl ⟨rfl, ?_⟩
    simp only [go_sem, w2]
    refine callC C3 rfl rfl rfl rfl ?_
    simp only [go_sem]
    refine ES.mk (p + 1 + 1, s) ⟨by omega, by omega, by simp only; rw [hs, hz]; omega⟩ ?_
    simp only [go_sem]
  rw [Bool.not_eq_true] at g2
  have hw := dc_le7 i hi
  have C2 := decI i hi
  generalize dc i = w at *
  obtain ⟨q, s, q0, q1, hs, C3⟩ := of_ok bs hb (p + 1) (by omega) lits (by decide)
  have hsz := lits_size s hs
  have z1 : (⟨#[114]⟩ : ByteArray).size = 1 := rfl
  have l1 : fits ⟨#[114]⟩ w := (by omega : (⟨#[114]⟩ : ByteArray).size + w.size ≤ 9223372036854775807)
  have l2 : fits ((⟨#[114]⟩ : ByteArray) ++ w) s := by show ((⟨#[114]⟩ : ByteArray) ++ w).size + s.size ≤ 9223372036854775807; rw [ByteArray.size_append]; omega
  refine RC.intro ok123 rfl (fun _ => rfl) fun X => ?_
  simp only [go_sem]
  refine callRc (C1 0) rfl rfl rfl rfl rfl ⟨rfl, ?_⟩
  simp only [go_sem, g0, g1, g2]
  refine callC C2 rfl rfl rfl rfl ?_
  simp only [go_sem, sStr, l1]
  refine callR (ws := [(26, .arr 14 false 1 9 (en eS lits))]) (ns := [26]) (C3 0) rfl ?_ rfl rfl rfl ⟨rfl, ?_⟩
  · simp only [go_sem, lendTs, lendT]
    rfl
  simp only [go_sem, sStr, l2]
  refine ES.mk (q, (⟨#[114]⟩ : ByteArray) ++ w ++ s) ⟨by omega, by omega, by simp only [ByteArray.size_append]; omega⟩ ?_
  simp only [go_sem]
def ok92 := okF.gu (P := Tryz.prog) tab Tryz.func92 Tryz.ntmps92 (by conv => lhs; cbv) (by kernel_rfl)
def cAct (k : Int) (da : ByteArray) (cu : Bool) (af mo : Int) (ke : C) : List C := [.v (.s (.int .i64 k)), .v (.s (.string da)), .v (.s (.bool cu)), .v (.s (.int .i64 af)), .v (.s (.int .i64 mo)), ke]
def inv92 (bs : List UInt8) (p : Int) (k : Int) (da : ByteArray) (af mo : Int) (n : Nat) (i : Nat) (σ : St) : Prop := ∃ (ke : List Int) (v : Nat), i ≤ n ∧ ke.length = i ∧ σ.t 0 = rP 0 ∧ σ.t 8 = .i ((n - i : Nat) : Int) ∧ (∃ u, σ.t 6 = .c (.ptr 6 u 0) ∧ σ.H 6 = some (.var u 32 (cAct 0 ⟨#[]⟩ false 0 0 .nil0))) ∧ (∃ u, σ.t 7 = .c (.ptr 7 u 0) ∧ σ.H 7 = some (.var u 32 (cAct k da true af mo (.own 1007 v ke.length)))) ∧ σ.H 1007 = some (.arr v true 1 3 (en eI ke)) ∧ σ.H 1000 = some (rdr 0 bs (p + i))
/-- What is drawn as an act; where power is never lost, it isn't. -/
def actS (cuts : Int) (a : LA) : Prop := okA a ∧ (cuts ≤ 0 → a.cuts = false)
theorem act_ok (bs : List UInt8) (hb : bs.length ≤ 2000) (p : Int) (hp : 0 ≤ p ∧ p ≤ 900000000000) (i cuts : Int) (hi : 0 ≤ i ∧ i ≤ 1000000) : RC 92 [.i i, .i cuts] bs p 20 (actS cuts) tLA := by
  obtain ⟨p1, da, p10, p11, hda, C1⟩ := data_ok bs hb p hp i hi
  obtain ⟨k, k0, k1, C2⟩ := pick_ok bs hb p1 10 (by omega) (by omega)
  obtain ⟨cc, c0, c1, C3⟩ := pick_ok bs hb (p1 + 1) 10 (by omega) (by omega)
  obtain ⟨af, f0, f1, C4⟩ := pick_ok bs hb (p1 + 1 + 1) 10 (by omega) (by omega)
  obtain ⟨mo, m0, m1, C5⟩ := pick_ok bs hb (p1 + 1 + 1 + 1) 5 (by omega) (by omega)
  obtain ⟨n, n0, n1, C6⟩ := pick_ok bs hb (p1 + 1 + 1 + 1 + 1) 6 (by omega) (by omega)
  obtain ⟨n, rfl⟩ : ∃ m : Nat, n = m := ⟨n.toNat, (Int.toNat_of_nonneg n0).symm⟩
  refine RC.intro ok92 rfl (fun _ => rfl) fun X => ?_
  show wpa _ _ (.seq _ (.seq _ (.seq _ (.seq (ok92.sub [1,1,1,0]) (.seq (ok92.sub [1,1,1,1,0]) .ret))))) _ _
  simp only [go_sem]
  refine callRc (C1 0) rfl rfl rfl rfl rfl ⟨rfl, ?_⟩
  simp only [go_sem]
  refine callRc (C2 0) rfl rfl rfl rfl rfl ⟨rfl, ?_⟩
  have hrest : ∀ t H c (k : Int) (da : ByteArray), da.size ≤ 4000 → t 0 = rP 0 → t 2 = .i cuts → (∃ u, t 6 = .c (.ptr 6 u 0) ∧ H 6 = some (.var u 32 (cAct 0 ⟨#[]⟩ false 0 0 .nil0))) → (∃ u, t 7 = .c (.ptr 7 u 0) ∧ H 7 = some (.var u 32 (cAct k da false 0 0 .nil0))) → H 1000 = some (rdr 0 bs (p1 + 1)) → H 1007 = none →
      wpa Tryz.prog X (.seq (ok92.sub [1,1,1,0]) (.seq (ok92.sub [1,1,1,1,0]) .ret)) (endR p 20 (actS cuts) tLA bs ok92.res) ⟨t, H, c⟩ := by
    dsimp only [okF.sub, ACode.sub, okF.res]
    intro t H c k da hda e0 e2 ⟨u6, e6, eH6⟩ ⟨u7, e7, eH7⟩ eR eN
    simp only [T.c, T.i, cAct] at e0 e2 e6 eH6 e7 eH7
    simp only [go_sem, e0, e2]
    refine callRc (C3 0) rfl rfl rfl rfl eR ⟨rfl, ?_⟩
    by_cases g1 : cc < cuts
    rotate_left
    · simp only [go_sem, e2, g1, e6, eH6, e7, eH7]
      refine ES.mk (p1 + 1 + 1, ⟨k, da, false, 0, 0, []⟩) ⟨by omega, by omega, ⟨by simp only; omega, Nat.zero_le _⟩, fun _ => rfl⟩ ?_
      simp only [go_sem, e6, en_nil]
    simp only [go_sem, e2, g1, e6, eH6, e7, eH7, e0]
    refine callRc (C4 0) rfl rfl rfl rfl rfl ⟨rfl, ?_⟩
    simp only [go_sem, e6, eH6, e7, eH7, e0]
    refine callRc (C5 0) rfl rfl rfl rfl rfl ⟨rfl, ?_⟩
    simp only [go_sem, e6, eH6, e7, eH7, e0]
    refine callRc (C6 0) rfl rfl rfl rfl rfl ⟨rfl, ?_⟩
    simp only [go_sem, e6, eH6, e7, eH7, e0]
    refine AW.reify 7 5 1007 1 3 rfl rfl eN (by decide) ?_
    refine AW.upto n (inv92 bs (p1 + 1 + 1 + 1 + 1 + 1) k da af mo n) ⟨[], _, Nat.zero_le _, rfl, e0, rfl, ⟨_, e6, eH6⟩, ⟨_, e7, rfl⟩, rfl, (by show _ = some (rdr 0 bs (p1 + 1 + 1 + 1 + 1 + 1 + ((0 : Nat) : Int))); rw [show ((0 : Nat) : Int) = 0 from rfl, Int.add_zero]; rfl)⟩ fun i t H c hi h => ?_
    clear e0 e2 e6 eH6 e7 eH7 eR eN
    obtain ⟨ke, v, hin, hl, e0, e8, ⟨u6, e6, eH6⟩, ⟨u7, e7, eH7⟩, eHk, eR⟩ := h
    simp only [T.c, T.i, cAct, rdr, rdC] at e0 e8 e6 eH6 e7 eH7 eHk eR
    have ht1 : (en eI ke).take ke.length = en eI ke := en_take eI ke
    by_cases k1 : ((n - i : Nat) : Int) > 0
    rotate_left
    · simp only [go_sem, e0, e8, e6, eH6, e7, eH7, eHk, eR, k1]
      refine ES.mk (p1 + 1 + 1 + 1 + 1 + 1 + i, ⟨k, da, true, af, mo, ke⟩) ⟨by simp only; omega, by simp only; omega, ⟨by simp only; omega, by simp only; omega⟩, fun h => absurd h (by omega)⟩ ?_
      simp only [go_sem, e6, eHk, eR, ht1, en_len]
    obtain ⟨j, j0, j1, C7⟩ := pick_ok bs hb (p1 + 1 + 1 + 1 + 1 + 1 + i) 6 (by omega) (by omega)
    obtain ⟨j, rfl⟩ : ∃ m : Nat, j = m := ⟨j.toNat, (Int.toNat_of_nonneg j0).symm⟩
    have hj6 : (j : Int) < ((6 : Nat) : Int) := j1
    obtain ⟨x, hx⟩ : ∃ x, ([0, 1, 4, 7, 30, 9999] : List Int)[j]? = some x := ⟨_, List.getElem?_eq_getElem (by simp only [List.length_cons, List.length_nil]; omega)⟩
    have ex := en_at eI hx
    simp only [en, List.map_cons, List.map_nil, eI] at ex
    have w2 : IntKind.i64.wrap (((n - i : Nat) : Int) - 1) = ((n - (i + 1) : Nat) : Int) := (wrap64 ⟨by omega, by omega⟩).trans (by omega)
    have q1 : (ke.length + 1) * 8 ≤ 140737488355328 := by omega
    have q2 : ke.length ≤ 9223372036854775806 := by omega
    simp only [go_sem, e0, e8, e6, eH6, e7, eH7, eHk, eR, k1]
    refine callRc (C7 0) rfl rfl rfl rfl (by simp only [go_sem, eR]) ⟨?_, ?_⟩
    · simp only [go_sem]
    simp only [go_sem, e0, e8, e6, eH6, e7, eH7, eHk, eR, k1, j0, Int.toNat_natCast, ex, w2, ht1, q1, q2, en_len, hj6]
    refine ⟨by omega, ke ++ [x], c + 2 + 8, by omega, by rw [List.length_append, hl]; rfl, e0, rfl, ⟨u6, e6, eH6⟩, ⟨u7, e7, ?_⟩, ?_, ?_⟩
    · rw [List.length_append]; rfl
    · rw [en_snoc]; rfl
    · show _ = some (rdr 0 bs (p1 + 1 + 1 + 1 + 1 + 1 + ((i + 1 : Nat) : Int)))
      rw [show p1 + 1 + 1 + 1 + 1 + 1 + ((i + 1 : Nat) : Int) = p1 + 1 + 1 + 1 + 1 + 1 + i + 1 from by omega]
      rfl
  simp only [go_sem]
  by_cases a0 : (k == 0) = true
  · simp only [go_sem, a0]
    exact hrest _ _ _ 2 ⟨#[]⟩ (Nat.zero_le _) rfl rfl ⟨_, rfl, rfl⟩ ⟨_, rfl, rfl⟩ rfl rfl
  rw [Bool.not_eq_true] at a0
  by_cases a1 : (k == 1) = true
  · simp only [go_sem, a0, a1]
    exact hrest _ _ _ 2 ⟨#[]⟩ (Nat.zero_le _) rfl rfl ⟨_, rfl, rfl⟩ ⟨_, rfl, rfl⟩ rfl rfl
  rw [Bool.not_eq_true] at a1
  by_cases a2 : (k == 2) = true
  · simp only [go_sem, a0, a1, a2]
    exact hrest _ _ _ 3 ⟨#[]⟩ (Nat.zero_le _) rfl rfl ⟨_, rfl, rfl⟩ ⟨_, rfl, rfl⟩ rfl rfl
  rw [Bool.not_eq_true] at a2
  by_cases a3 : (k == 3) = true
  · simp only [go_sem, a0, a1, a2, a3]
    exact hrest _ _ _ 4 ⟨#[]⟩ (Nat.zero_le _) rfl rfl ⟨_, rfl, rfl⟩ ⟨_, rfl, rfl⟩ rfl rfl
  rw [Bool.not_eq_true] at a3
  simp only [go_sem, a0, a1, a2, a3]
  exact hrest _ _ _ 1 da hda rfl rfl ⟨_, rfl, rfl⟩ ⟨_, rfl, rfl⟩ rfl rfl
end Go.V
set_option linter.unusedSimpArgs false
set_option maxRecDepth 20000
namespace Go.V
open Go.Proofs
def actsI (cuts : Int) (acts : List LA) : Prop := (∀ a ∈ acts, okA a) ∧ (∃ l, acts = ⟨4, ⟨#[]⟩, false, 0, 0, []⟩ :: l) ∧ (cuts ≤ 0 → ∀ a ∈ acts, a.cuts = false)
theorem actsI.snoc {cuts : Int} {acts : List LA} {a : LA} (h : actsI cuts acts) (ha : actS cuts a) : actsI cuts (acts ++ [a]) := by
  obtain ⟨h1, ⟨l, h2⟩, h3⟩ := h
  refine ⟨fun x hx => ?_, ⟨l ++ [a], by rw [h2]; rfl⟩, fun hc x hx => ?_⟩
  · rcases List.mem_append.1 hx with h | h
    · exact h1 x h
    · rw [List.mem_singleton.1 h]; exact ha.1
  · rcases List.mem_append.1 hx with h | h
    · exact h3 hc x h
    · rw [List.mem_singleton.1 h]; exact ha.2 hc
def okActs (cuts : Int) (acts : List LA) : Prop := acts.length ≤ 100 ∧ actsI cuts acts
theorem ALV : (type_of% (@en_all LA eLA 6 eLA_len)) ∧ (type_of% @List.forall_mem_cons.{0}) := ⟨@en_all LA eLA 6 eLA_len, @List.forall_mem_cons.{0}⟩
theorem caps {n : Nat} (h : n ≤ 1000) : (n + 1) * 72 ≤ 140737488355328 ∧ n ≤ 9223372036854775806 ∧ (n + 1 + 1) * 72 ≤ 140737488355328 ∧ n ≤ 9223372036854775805 := ⟨by omega, by omega, by omega, by omega⟩
theorem mulw {x : Int} (h : 0 ≤ x ∧ x < 2) : IntKind.i64.wrap (x * 9999) = x * 9999 := wrap64 ⟨by omega, by omega⟩
def ok43 := okF.gu (P := Tryz.prog) tab Tryz.func43 Tryz.ntmps43 (by conv => lhs; cbv) (by kernel_rfl)
def inv43 (bs : List UInt8) (p cuts : Int) (n : Nat) (i : Nat) (σ : St) : Prop := ∃ (acts : List LA) (v : Nat) (q : Int), i ≤ n ∧ acts.length ≤ 1 + 2 * i ∧ actsI cuts acts ∧ p ≤ q ∧ q ≤ p + 40 * i ∧ σ.t 0 = rP 0 ∧ σ.t 2 = .i cuts ∧ σ.t 8 = .i ((n - i : Nat) : Int) ∧ σ.t 7 = .c (.own 11 v acts.length) ∧ σ.H 11 = some (.arr v true 6 32 (en eLA acts)) ∧ σ.H 1000 = some (rdr 0 bs q)
set_option maxHeartbeats 2000000 in
theorem acts_ok (bs : List UInt8) (hb : bs.length ≤ 2000) (p : Int) (hp : 0 ≤ p ∧ p ≤ 800000000000) (most cuts : Int) (hm : 0 < most ∧ most ≤ 24) : RC 43 [.i most, .i cuts] bs p 1000 (okActs cuts) (fun a => tL (en eLA a)) := by
  obtain ⟨n, n0, n1, C1⟩ := pick_ok bs hb p most (by omega) (by omega)
  obtain ⟨n, rfl⟩ : ∃ m : Nat, n = m := ⟨n.toNat, (Int.toNat_of_nonneg n0).symm⟩
  refine RC.intro ok43 rfl (fun _ => rfl) fun X => ?_
  simp only [go_sem]
  refine callRc (C1 0) rfl rfl rfl rfl rfl ⟨rfl, ?_⟩
  simp only [go_sem]
  refine AW.upto n (inv43 bs (p + 1) cuts n) ⟨[⟨4, ⟨#[]⟩, false, 0, 0, []⟩], _, _, Nat.zero_le _, Nat.le_refl _, ⟨fun a h => by rw [List.mem_singleton.1 h]; exact ⟨Nat.zero_le _, Nat.zero_le _⟩, ⟨[], rfl⟩, fun _ a h => by rw [List.mem_singleton.1 h]⟩, Int.le_refl _, by omega, rfl, rfl, rfl, rfl, rfl, rfl⟩ fun i t H c hi h => ?_
  obtain ⟨acts, v, q, hin, hl, hok, q0, q1, e0, e2, e8, e7, eH, eR⟩ := h
  simp only [T.c, T.i, rdr, rdC] at e0 e2 e8 e7 eH eR
  have ht1 : (en eLA acts).take acts.length = en eLA acts := en_take eLA acts
  by_cases k1 : ((n - i : Nat) : Int) > 0
  rotate_left
  · simp only [go_sem, e0, e2, e8, e7, eH, eR, k1]
    refine ES.mk (q, acts) ⟨by simp only; omega, by simp only; omega, by simp only; omega, hok⟩ ?_
    simp only [go_sem, e7, eH, eR, ht1, en_len]
  obtain ⟨q2, a, q20, q21, ha, C2⟩ := act_ok bs hb q (by omega) acts.length cuts ⟨by omega, by omega⟩
  have w2 : IntKind.i64.wrap (((n - i : Nat) : Int) - 1) = ((n - (i + 1) : Nat) : Int) := (wrap64 ⟨by omega, by omega⟩).trans (by omega)
  have hal : acts.length ≤ 1000 := by omega
  obtain ⟨l1, l2, l3, l4⟩ := caps hal
  have hq2 : 0 ≤ q2 ∧ q2 ≤ 900000000000 := by omega
  have hok1 : actsI cuts (acts ++ [a]) := hok.snoc ha
  have hE : en eLA acts ++ [[.s (.int .i64 a.kind), .s (.string a.data), .s (.bool a.cuts), .s (.int .i64 a.after), .s (.int .i64 a.moves), .sl (en eI a.keep)]] = en eLA (acts ++ [a]) := by rw [en_snoc]; rfl
  have hL : (acts ++ [a]).length = acts.length + 1 := by simp
  have ht2 : (en eLA (acts ++ [a])).take (acts.length + 1) = en eLA (acts ++ [a]) := by rw [← hL]; exact en_take eLA _
  simp only [go_sem, e0, e2, e8, e7, eH, eR, k1, en_len, ALV, List.not_mem_nil, false_implies, implies_true, and_self]
  refine callRc (C2 0) rfl rfl rfl rfl (by simp only [go_sem, eR]) ⟨?_, ?_⟩
  · simp only [go_sem]
  cases hc : a.cuts with
  | false =>
    rw [hc] at hE
    simp only [go_sem, e0, e2, e8, e7, eH, eR, k1, en_len, ALV, List.not_mem_nil, false_implies, implies_true, and_self, l1, l2, ht1, hc, w2, hE]
    exact ⟨by omega, acts ++ [a], c + 2 + 7 + 3, q2, by omega, by rw [hL]; omega, hok1, by omega, by omega, e0, e2, rfl, by rw [hL]; rfl, rfl, rfl⟩
  | true =>
  rw [hc] at hE
  obtain ⟨d, d0, d1, C3⟩ := pick_ok bs hb q2 3 (by omega) (by omega)
  obtain ⟨x0, x0l, x0h, D0⟩ := pick_ok bs hb (q2 + 1) 3 (by omega) (by omega)
  obtain ⟨x1, x1l, x1h, D1⟩ := pick_ok bs hb (q2 + 1 + 1) 9 (by omega) (by omega)
  obtain ⟨x2, x2l, x2h, D2⟩ := pick_ok bs hb (q2 + 1 + 1 + 1) 4 (by omega) (by omega)
  obtain ⟨x3, x3l, x3h, D3⟩ := pick_ok bs hb (q2 + 1 + 1 + 1 + 1) 2 (by omega) (by omega)
  obtain ⟨x4, x4l, x4h, D4⟩ := pick_ok bs hb (q2 + 1 + 1 + 1 + 1 + 1) 2 (by omega) (by omega)
  obtain ⟨x5, x5l, x5h, D5⟩ := pick_ok bs hb (q2 + 1 + 1 + 1 + 1 + 1 + 1) 3 (by omega) (by omega)
  obtain ⟨x6, x6l, x6h, D6⟩ := pick_ok bs hb (q2 + 1 + 1 + 1 + 1 + 1 + 1 + 1) 2 (by omega) (by omega)
  simp only [go_sem, e0, e2, e8, e7, eH, eR, k1, en_len, ALV, List.not_mem_nil, false_implies, implies_true, and_self, l1, l2, ht1, hc, w2, hE]
  refine callRc (C3 0) rfl rfl rfl rfl rfl ⟨?_, ?_⟩
  · simp only [go_sem]
  by_cases f1 : d > 0
  rotate_left
  · simp only [go_sem, e0, e2, e8, e7, eH, eR, k1, en_len, ALV, List.not_mem_nil, false_implies, implies_true, and_self, f1, w2]
    exact ⟨by omega, acts ++ [a], c + 2 + 7 + 3, q2 + 1, by omega, by rw [hL]; omega, hok1, by omega, by omega, e0, e2, rfl, by rw [hL]; rfl, rfl, rfl⟩
  have ww3 := mulw ⟨x3l, x3h⟩
  have ww4 := mulw ⟨x4l, x4h⟩
  have ww6 := mulw ⟨x6l, x6h⟩
  simp only [go_sem, e0, e2, e8, e7, eH, eR, k1, en_len, ALV, List.not_mem_nil, false_implies, implies_true, and_self, f1]
  refine callRc (D0 0) rfl rfl rfl rfl rfl ⟨?_, ?_⟩
  · simp only [go_sem]
  simp only [go_sem, e0, e2, e8, e7, eH, eR, k1, en_len, ALV, List.not_mem_nil, false_implies, implies_true, and_self, e7, ww3, ww4, ww6, l3, l4, ht2, w2]
  refine callRc (D1 0) rfl rfl rfl rfl rfl ⟨?_, ?_⟩
  · simp only [go_sem]
  simp only [go_sem, e0, e2, e8, e7, eH, eR, k1, en_len, ALV, List.not_mem_nil, false_implies, implies_true, and_self, e7, ww3, ww4, ww6, l3, l4, ht2, w2]
  refine callRc (D2 0) rfl rfl rfl rfl rfl ⟨?_, ?_⟩
  · simp only [go_sem]
  simp only [go_sem, e0, e2, e8, e7, eH, eR, k1, en_len, ALV, List.not_mem_nil, false_implies, implies_true, and_self, e7, ww3, ww4, ww6, l3, l4, ht2, w2]
  refine callRc (D3 0) rfl rfl rfl rfl rfl ⟨?_, ?_⟩
  · simp only [go_sem]
  simp only [go_sem, e0, e2, e8, e7, eH, eR, k1, en_len, ALV, List.not_mem_nil, false_implies, implies_true, and_self, e7, ww3, ww4, ww6, l3, l4, ht2, w2]
  refine callRc (D4 0) rfl rfl rfl rfl rfl ⟨?_, ?_⟩
  · simp only [go_sem]
  simp only [go_sem, e0, e2, e8, e7, eH, eR, k1, en_len, ALV, List.not_mem_nil, false_implies, implies_true, and_self, e7, ww3, ww4, ww6, l3, l4, ht2, w2]
  refine callRc (D5 0) rfl rfl rfl rfl rfl ⟨?_, ?_⟩
  · simp only [go_sem]
  simp only [go_sem, e0, e2, e8, e7, eH, eR, k1, en_len, ALV, List.not_mem_nil, false_implies, implies_true, and_self, e7, ww3, ww4, ww6, l3, l4, ht2, w2]
  refine callRc (D6 0) rfl rfl rfl rfl rfl ⟨?_, ?_⟩
  · simp only [go_sem]
  simp only [go_sem, e0, e2, e8, e7, eH, eR, k1, en_len, ALV, List.not_mem_nil, false_implies, implies_true, and_self, e7, ww3, ww4, ww6, l3, l4, ht2, w2]
  obtain ⟨a2, ha2⟩ : ∃ a2 : LA, a2 = ⟨4, ⟨#[]⟩, x0 == 0, x1, x2, [x3 * 9999, x4 * 9999, x5, x6 * 9999]⟩ := ⟨_, rfl⟩
  have hE2 : ([V.s (.int .i64 4), V.s (.string ⟨#[]⟩), V.s (.bool (x0 == 0)), V.s (.int .i64 x1), V.s (.int .i64 x2), V.sl [[V.s (.int .i64 (x3 * 9999))], [V.s (.int .i64 (x4 * 9999))], [V.s (.int .i64 x5)], [V.s (.int .i64 (x6 * 9999))]]] : List V) = eLA a2 := by rw [ha2]; rfl
  have hok2 : actsI cuts ((acts ++ [a]) ++ [a2]) := hok1.snoc ⟨by rw [ha2]; exact ⟨Nat.zero_le _, by simp⟩, fun h => absurd (ha.2 h) (by rw [hc]; decide)⟩
  have hE3 := (en_snoc eLA (acts ++ [a]) a2).trans (congrArg (fun z => en eLA (acts ++ [a]) ++ [z]) hE2.symm)
  have hL2 : ((acts ++ [a]) ++ [a2]).length = acts.length + 1 + 1 := by simp
  refine ⟨by omega, (acts ++ [a]) ++ [a2], c + 2 + 7 + 5 + 7 + 22, q2 + 1 + 1 + 1 + 1 + 1 + 1 + 1 + 1, by omega, by rw [hL2]; omega, hok2, by omega, by omega, e0, e2, rfl, by rw [hL2]; rfl, ?_, rfl⟩
  rw [hE3]
  rfl
end Go.V
set_option linter.unusedSimpArgs false
set_option maxRecDepth 20000
namespace Go.V
open Go.Proofs
end Go.V
set_option linter.unusedSimpArgs false
set_option maxRecDepth 20000
namespace Go.V
open Go.Proofs
end Go.V
set_option linter.unusedSimpArgs false
set_option maxRecDepth 20000
namespace Go.V
open Go.Proofs
def St48 (bs : List UInt8) (q : Int) (F : List DF) (N : List ByteArray) (M : List DM) (i : Nat) (t : Nat → T) (H : HMap) : Prop := ∃ u v1 v2 v3 u4, t 0 = rP 0 ∧ t 3 = .c (.ptr 3 u 0) ∧ H 3 = some (.var u 29 [.own 1001 v1 F.length, .own 1002 v2 N.length, .own 1003 v3 M.length]) ∧ H 1001 = some (.arr v1 true 3 92 (en eF F)) ∧ H 1002 = some (.arr v2 true 1 9 (en eS N)) ∧ H 1003 = some (.arr v3 true 2 94 (en eM M)) ∧ t 4 = .c (.ptr 4 u4 0) ∧ H 4 = some (.var u4 29 [.nil0, .nil0, .nil0]) ∧ t 5 = .i i ∧ H 1000 = some (rdr 0 bs q)
section
variable {X : Ctx} {bs : List UInt8} (hb : bs.length ≤ 2000) {p q : Int} (hq : 0 ≤ p ∧ p ≤ 900000000000 ∧ p ≤ q ∧ q ≤ p + 100) {F : List DF} {N : List ByteArray} {M : List DM} (hfd : fineDk ⟨F, N, M⟩) {i : Nat} {f : DF} (hx : F[i]? = some f) (hd2 : f.data.size ≤ 20000) (hsN : N.length ≤ 1000) (hsM : M.length ≤ 1000) {t : Nat → T} {H : HMap} {c : Nat} (hst : St48 bs q F N M i t H)
include hb hq hfd hx hd2 hsN hsM hst
end
end Go.V
set_option linter.unusedSimpArgs false
namespace Go.V
open Go.Proofs
section
variable {X : Ctx} {bs : List UInt8} (hb : bs.length ≤ 2000) {p q : Int} (hq : 0 ≤ p ∧ p ≤ 900000000000 ∧ p ≤ q ∧ q ≤ p + 100) {F : List DF} {N : List ByteArray} {M : List DM} (hfd : fineDk ⟨F, N, M⟩) {i : Nat} {f : DF} (hx : F[i]? = some f) (hd2 : f.data.size ≤ 20000) {t : Nat → T} {H : HMap} {c : Nat} (hst : St48 bs q F N M i t H)
include hb hq hfd hx hd2 hst
end
end Go.V
set_option linter.unusedSimpArgs false
set_option maxRecDepth 20000
namespace Go.V
open Go.Proofs
end Go.V
set_option linter.unusedSimpArgs false
set_option maxRecDepth 20000
namespace Go.V
open Go.Proofs
end Go.V
set_option linter.unusedSimpArgs false
set_option maxRecDepth 20000
namespace Go.V
open Go.Proofs
def playS (acts : List LA) : Prop := acts.length ≤ 1000 ∧ ∀ a ∈ acts, okA a
theorem playS.app {l m : List LA} (h : ∀ a ∈ l, okA a) (g : ∀ a ∈ m, okA a) : ∀ a ∈ l ++ m, okA a := fun a ha => (List.mem_append.1 ha).elim (h a) (g a)
def ok15 := okF.gu (P := Tryz.prog) tab Tryz.func15 Tryz.ntmps15 (by conv => lhs; cbv) (by kernel_rfl)
theorem drawCalm_ok (bs : List UInt8) : PC 15 [.c (.v (.sl (encB bs)))] (okActs 0) (fun a => tL (en eLA a)) := by
  have hb : (bs.take 2000).length ≤ 2000 := by rw [List.length_take]; omega
  obtain ⟨q, acts, q0, q1, ha, C1⟩ := acts_ok (bs.take 2000) hb 0 (by omega) 24 0 (by omega)
  refine PC.intro ok15 rfl (fun _ => rfl) fun X => ?_
  simp only [go_sem]
  refine callOpen rfl rfl ⟨?_, ?_⟩
  · simp only [go_sem]
  simp only [go_sem]
  refine callRc (C1 _) rfl rfl rfl rfl rfl ⟨?_, ?_⟩
  · simp only [go_sem]
  simp only [go_sem]
  refine ES.mk acts ha ?_
  simp only [go_sem]
end Go.V

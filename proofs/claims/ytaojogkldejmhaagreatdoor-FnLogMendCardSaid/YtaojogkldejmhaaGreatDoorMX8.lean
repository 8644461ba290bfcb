/- The Go function laws.FnLogMend returns true for every input, in the program's own Lean form: however power was lost, the log can be mended, and goes on. Conditions: those of the given row and card. -/
import Derived.Test.YtaojogkldejmhaaGreatDoorMX7
import Derived.Test.YtaojogkldejmhaaGreatDoorMK1
set_option linter.unusedVariables false
set_option linter.unusedSimpArgs false
set_option maxRecDepth 20000
namespace Go.V
open Go.Proofs
def ok123 := okF.gu (P := Tryz.prog) tab Tryz.func123 Tryz.ntmps123 (by conv => lhs; cbv) (by kernel_rfl)
def lits : List ByteArray := [⟨#[]⟩, ⟨#[97]⟩, ⟨#[10]⟩, ⟨#[115, 101, 97, 108, 32, 49, 32, 49, 32, 49, 32, 49, 10, 111, 112, 101, 110, 32, 49, 32, 49, 10, 101, 110, 100, 10]⟩, ⟨#[0, 0]⟩]
theorem lits_size : ∀ s ∈ lits, s.size ≤ 100 := by
  intro s hs
  simp only [lits, List.mem_cons, List.not_mem_nil, or_false] at hs
  rcases hs with rfl | rfl | rfl | rfl | rfl <;> decide
theorem data_ok (bs : List UInt8) (hb : bs.length ≤ 2000) (p : Int) (hp : 0 ≤ p ∧ p ≤ 900000000000) (i : Int) (hi : 0 ≤ i ∧ i ≤ 1000000) : RC 123 [.i i] bs p 2 (fun s : ByteArray => s.size ≤ 4000) tS := by
  obtain ⟨k, k0, k1, C1⟩ := pick_ok bs hb p 14 (by omega) (by omega)
  by_cases g0 : (k == 0) = true
  · refine RC.intro ok123 rfl (fun _ => rfl) fun X => ?_
    simp only [go_sem]
    refine callRc (C1 0) rfl rfl rfl rfl rfl ⟨rfl, ?_⟩
    simp only [go_sem, g0]
    refine ES.mk (p + 1, ⟨#[]⟩) ⟨by omega, by omega, Nat.zero_le _⟩ ?_
    simp only [go_sem]
  rw [Bool.not_eq_true] at g0
  by_cases g1 : (k == 1) = true
  · obtain ⟨j, j0, j1, C2⟩ := pick_ok bs hb (p + 1) 3 (by omega) (by omega)
    have w1 : IntKind.i64.wrap (j * 900) = j * 900 := wrap64 ⟨by omega, by omega⟩
    have w2 : IntKind.i64.wrap (2000 - j * 900) = ((2000 - j * 900).toNat : Int) := (wrap64 ⟨by omega, by omega⟩).trans (by omega)
    obtain ⟨s, hs, C3⟩ := many_ok ⟨#[121]⟩ (2000 - j * 900).toNat (by omega) (by decide)
    have hz : (⟨#[121]⟩ : ByteArray).size = 1 := rfl
    refine RC.intro ok123 rfl (fun _ => rfl) fun X => ?_
    simp only [go_sem]
    refine callRc (C1 0) rfl rfl rfl rfl rfl ⟨rfl, ?_⟩
    simp only [go_sem, g0, g1]
    refine callRc (C2 0) rfl rfl rfl rfl rfl ⟨rfl, ?_⟩
    simp only [go_sem, w1, w2]
    refine callC C3 rfl rfl rfl rfl ?_
    simp only [go_sem]
    refine ES.mk (p + 1 + 1, s) ⟨by omega, by omega, by simp only; rw [hs, hz]; omega⟩ ?_
    simp only [go_sem]
  rw [Bool.not_eq_true] at g1
  by_cases g2 : (k == 2) = true
  · obtain ⟨j, j0, j1, C2⟩ := pick_ok bs hb (p + 1) 10 (by omega) (by omega)
    have w2 : IntKind.i64.wrap (250 + j) = ((250 + j).toNat : Int) := (wrap64 ⟨by omega, by omega⟩).trans (by omega)
    obtain ⟨s, hs, C3⟩ := many_ok ⟨#[122]⟩ (250 + j).toNat (by omega) (by decide)
    have hz : (⟨#[122]⟩ : ByteArray).size = 1 := rfl
    refine RC.intro ok123 rfl (fun _ => rfl) fun X => ?_
    simp only [go_sem]
    refine callRc (C1 0) rfl rfl rfl rfl rfl ⟨rfl, ?_⟩
    simp only [go_sem, g0, g1, g2]
    refine callRc (C2 0) rfl rfl rfl rfl rfl ⟨rfl, ?_⟩
    simp only [go_sem, w2]
    refine callC C3 rfl rfl rfl rfl ?_
    simp only [go_sem]
    refine ES.mk (p + 1 + 1, s) ⟨by omega, by omega, by simp only; rw [hs, hz]; omega⟩ ?_
    simp only [go_sem]
  rw [Bool.not_eq_true] at g2
  have hw := dc_le7 i hi
  have C2 := decI i hi
  generalize dc i = w at *
  obtain ⟨q, s, q0, q1, hs, C3⟩ := of_ok bs hb (p + 1) (by omega) lits (by decide)
  have hsz := lits_size s hs
  have z1 : (⟨#[114]⟩ : ByteArray).size = 1 := rfl
  have l1 : fits ⟨#[114]⟩ w := (by omega : (⟨#[114]⟩ : ByteArray).size + w.size ≤ 9223372036854775807)
  have l2 : fits ((⟨#[114]⟩ : ByteArray) ++ w) s := by show ((⟨#[114]⟩ : ByteArray) ++ w).size + s.size ≤ 9223372036854775807; rw [ByteArray.size_append]; omega
  refine RC.intro ok123 rfl (fun _ => rfl) fun X => ?_
  simp only [go_sem]
  refine callRc (C1 0) rfl rfl rfl rfl rfl ⟨rfl, ?_⟩
  simp only [go_sem, g0, g1, g2]
  refine callC C2 rfl rfl rfl rfl ?_
  simp only [go_sem, sStr, l1]
  refine callR (ws := [(26, .arr 14 false 1 9 (en eS lits))]) (ns := [26]) (C3 0) rfl ?_ rfl rfl rfl ⟨rfl, ?_⟩
  · simp only [go_sem, lendTs, lendT]
    rfl
  simp only [go_sem, sStr, l2]
  refine ES.mk (q, (⟨#[114]⟩ : ByteArray) ++ w ++ s) ⟨by omega, by omega, by simp only [ByteArray.size_append]; omega⟩ ?_
  simp only [go_sem]
def ok92 := okF.gu (P := Tryz.prog) tab Tryz.func92 Tryz.ntmps92 (by conv => lhs; cbv) (by kernel_rfl)
def cAct (k : Int) (da : ByteArray) (cu : Bool) (af mo : Int) (ke : C) : List C := [.v (.s (.int .i64 k)), .v (.s (.string da)), .v (.s (.bool cu)), .v (.s (.int .i64 af)), .v (.s (.int .i64 mo)), ke]
def inv92 (bs : List UInt8) (p : Int) (k : Int) (da : ByteArray) (af mo : Int) (n : Nat) (i : Nat) (σ : St) : Prop := ∃ (ke : List Int) (v : Nat), i ≤ n ∧ ke.length = i ∧ σ.t 0 = rP 0 ∧ σ.t 8 = .i ((n - i : Nat) : Int) ∧ (∃ u, σ.t 6 = .c (.ptr 6 u 0) ∧ σ.H 6 = some (.var u 32 (cAct 0 ⟨#[]⟩ false 0 0 .nil0))) ∧ (∃ u, σ.t 7 = .c (.ptr 7 u 0) ∧ σ.H 7 = some (.var u 32 (cAct k da true af mo (.own 1007 v ke.length)))) ∧ σ.H 1007 = some (.arr v true 1 3 (en eI ke)) ∧ σ.H 1000 = some (rdr 0 bs (p + i))
/-- What is drawn as an act; where power is never lost, it isn't. -/
def actS (cuts : Int) (a : LA) : Prop := okA a ∧ (cuts ≤ 0 → a.cuts = false)
theorem act_ok (bs : List UInt8) (hb : bs.length ≤ 2000) (p : Int) (hp : 0 ≤ p ∧ p ≤ 900000000000) (i cuts : Int) (hi : 0 ≤ i ∧ i ≤ 1000000) : RC 92 [.i i, .i cuts] bs p 20 (actS cuts) tLA := by
  obtain ⟨p1, da, p10, p11, hda, C1⟩ := data_ok bs hb p hp i hi
  obtain ⟨k, k0, k1, C2⟩ := pick_ok bs hb p1 10 (by omega) (by omega)
  obtain ⟨cc, c0, c1, C3⟩ := pick_ok bs hb (p1 + 1) 10 (by omega) (by omega)
  obtain ⟨af, f0, f1, C4⟩ := pick_ok bs hb (p1 + 1 + 1) 10 (by omega) (by omega)
  obtain ⟨mo, m0, m1, C5⟩ := pick_ok bs hb (p1 + 1 + 1 + 1) 5 (by omega) (by omega)
  obtain ⟨n, n0, n1, C6⟩ := pick_ok bs hb (p1 + 1 + 1 + 1 + 1) 6 (by omega) (by omega)
  obtain ⟨n, rfl⟩ : ∃ m : Nat, n = m := ⟨n.toNat, (Int.toNat_of_nonneg n0).symm⟩
  refine RC.intro ok92 rfl (fun _ => rfl) fun X => ?_
  show wpa _ _ (.seq _ (.seq _ (.seq _ (.seq (ok92.sub [1,1,1,0]) (.seq (ok92.sub [1,1,1,1,0]) .ret))))) _ _
  simp only [go_sem]
  refine callRc (C1 0) rfl rfl rfl rfl rfl ⟨rfl, ?_⟩
  simp only [go_sem]
  refine callRc (C2 0) rfl rfl rfl rfl rfl ⟨rfl, ?_⟩
  have hrest : ∀ t H c (k : Int) (da : ByteArray), da.size ≤ 4000 → t 0 = rP 0 → t 2 = .i cuts → (∃ u, t 6 = .c (.ptr 6 u 0) ∧ H 6 = some (.var u 32 (cAct 0 ⟨#[]⟩ false 0 0 .nil0))) → (∃ u, t 7 = .c (.ptr 7 u 0) ∧ H 7 = some (.var u 32 (cAct k da false 0 0 .nil0))) → H 1000 = some (rdr 0 bs (p1 + 1)) → H 1007 = none →
      wpa Tryz.prog X (.seq (ok92.sub [1,1,1,0]) (.seq (ok92.sub [1,1,1,1,0]) .ret)) (endR p 20 (actS cuts) tLA bs ok92.res) ⟨t, H, c⟩ := by
    dsimp only [okF.sub, ACode.sub, okF.res]
    intro t H c k da hda e0 e2 ⟨u6, e6, eH6⟩ ⟨u7, e7, eH7⟩ eR eN
    simp only [T.c, T.i, cAct] at e0 e2 e6 eH6 e7 eH7
    simp only [go_sem, e0, e2]
    refine callRc (C3 0) rfl rfl rfl rfl eR ⟨rfl, ?_⟩
    by_cases g1 : cc < cuts
    rotate_left
    · simp only [go_sem, e2, g1, e6, eH6, e7, eH7]
      refine ES.mk (p1 + 1 + 1, ⟨k, da, false, 0, 0, []⟩) ⟨by omega, by omega, ⟨by simp only; omega, Nat.zero_le _⟩, fun _ => rfl⟩ ?_
      simp only [go_sem, e6, en_nil]
    simp only [go_sem, e2, g1, e6, eH6, e7, eH7, e0]
    refine callRc (C4 0) rfl rfl rfl rfl rfl ⟨rfl, ?_⟩
    simp only [go_sem, e6, eH6, e7, eH7, e0]
    refine callRc (C5 0) rfl rfl rfl rfl rfl ⟨rfl, ?_⟩
    simp only [go_sem, e6, eH6, e7, eH7, e0]
    refine callRc (C6 0) rfl rfl rfl rfl rfl ⟨rfl, ?_⟩
    simp only [go_sem, e6, eH6, e7, eH7, e0]
    refine AW.reify 7 5 1007 1 3 rfl rfl eN (by decide) ?_
    refine AW.upto n (inv92 bs (p1 + 1 + 1 + 1 + 1 + 1) k da af mo n) ⟨[], _, Nat.zero_le _, rfl, e0, rfl, ⟨_, e6, eH6⟩, ⟨_, e7, rfl⟩, rfl, (by show _ = some (rdr 0 bs (p1 + 1 + 1 + 1 + 1 + 1 + ((0 : Nat) : Int))); rw [show ((0 : Nat) : Int) = 0 from rfl, Int.add_zero]; rfl)⟩ fun i t H c hi h => ?_
    clear e0 e2 e6 eH6 e7 eH7 eR eN
    obtain ⟨ke, v, hin, hl, e0, e8, ⟨u6, e6, eH6⟩, ⟨u7, e7, eH7⟩, eHk, eR⟩ := h
    simp only [T.c, T.i, cAct, rdr, rdC] at e0 e8 e6 eH6 e7 eH7 eHk eR
    have ht1 : (en eI ke).take ke.length = en eI ke := en_take eI ke
    by_cases k1 : ((n - i : Nat) : Int) > 0
    rotate_left
    · simp only [go_sem, e0, e8, e6, eH6, e7, eH7, eHk, eR, k1]
      refine ES.mk (p1 + 1 + 1 + 1 + 1 + 1 + i, ⟨k, da, true, af, mo, ke⟩) ⟨by simp only; omega, by simp only; omega, ⟨by simp only; omega, by simp only; omega⟩, fun h => absurd h (by omega)⟩ ?_
      simp only [go_sem, e6, eHk, eR, ht1, en_len]
    obtain ⟨j, j0, j1, C7⟩ := pick_ok bs hb (p1 + 1 + 1 + 1 + 1 + 1 + i) 6 (by omega) (by omega)
    obtain ⟨j, rfl⟩ : ∃ m : Nat, j = m := ⟨j.toNat, (Int.toNat_of_nonneg j0).symm⟩
    have hj6 : (j : Int) < ((6 : Nat) : Int) := j1
    obtain ⟨x, hx⟩ : ∃ x, ([0, 1, 4, 7, 30, 9999] : List Int)[j]? = some x := ⟨_, List.getElem?_eq_getElem (by simp only [List.length_cons, List.length_nil]; omega)⟩
    have ex := en_at eI hx
    simp only [en, List.map_cons, List.map_nil, eI] at ex
    have w2 : IntKind.i64.wrap (((n - i : Nat) : Int) - 1) = ((n - (i + 1) : Nat) : Int) := (wrap64 ⟨by omega, by omega⟩).trans (by omega)
    have q1 : (ke.length + 1) * 8 ≤ 140737488355328 := by omega
    have q2 : ke.length ≤ 9223372036854775806 := by omega
    simp only [go_sem, e0, e8, e6, eH6, e7, eH7, eHk, eR, k1]
    refine callRc (C7 0) rfl rfl rfl rfl (by simp only [go_sem, eR]) ⟨?_, ?_⟩
    · simp only [go_sem]
    simp only [go_sem, e0, e8, e6, eH6, e7, eH7, eHk, eR, k1, j0, Int.toNat_natCast, ex, w2, ht1, q1, q2, en_len, hj6]
    refine ⟨by omega, ke ++ [x], c + 2 + 8, by omega, by rw [List.length_append, hl]; rfl, e0, rfl, ⟨u6, e6, eH6⟩, ⟨u7, e7, ?_⟩, ?_, ?_⟩
    · rw [List.length_append]; rfl
    · rw [en_snoc]; rfl
    · show _ = some (rdr 0 bs (p1 + 1 + 1 + 1 + 1 + 1 + ((i + 1 : Nat) : Int)))
      rw [show p1 + 1 + 1 + 1 + 1 + 1 + ((i + 1 : Nat) : Int) = p1 + 1 + 1 + 1 + 1 + 1 + i + 1 from by omega]
      rfl
  simp only [go_sem]
  by_cases a0 : (k == 0) = true
  · simp only [go_sem, a0]
    exact hrest _ _ _ 2 ⟨#[]⟩ (Nat.zero_le _) rfl rfl ⟨_, rfl, rfl⟩ ⟨_, rfl, rfl⟩ rfl rfl
  rw [Bool.not_eq_true] at a0
  by_cases a1 : (k == 1) = true
  · simp only [go_sem, a0, a1]
    exact hrest _ _ _ 2 ⟨#[]⟩ (Nat.zero_le _) rfl rfl ⟨_, rfl, rfl⟩ ⟨_, rfl, rfl⟩ rfl rfl
  rw [Bool.not_eq_true] at a1
  by_cases a2 : (k == 2) = true
  · simp only [go_sem, a0, a1, a2]
    exact hrest _ _ _ 3 ⟨#[]⟩ (Nat.zero_le _) rfl rfl ⟨_, rfl, rfl⟩ ⟨_, rfl, rfl⟩ rfl rfl
  rw [Bool.not_eq_true] at a2
  by_cases a3 : (k == 3) = true
  · simp only [go_sem, a0, a1, a2, a3]
    exact hrest _ _ _ 4 ⟨#[]⟩ (Nat.zero_le _) rfl rfl ⟨_, rfl, rfl⟩ ⟨_, rfl, rfl⟩ rfl rfl
  rw [Bool.not_eq_true] at a3
  simp only [go_sem, a0, a1, a2, a3]
  exact hrest _ _ _ 1 da hda rfl rfl ⟨_, rfl, rfl⟩ ⟨_, rfl, rfl⟩ rfl rfl
end Go.V
set_option linter.unusedSimpArgs false
set_option maxRecDepth 20000
namespace Go.V
open Go.Proofs
def actsI (cuts : Int) (acts : List LA) : Prop := (∀ a ∈ acts, okA a) ∧ (∃ l, acts = ⟨4, ⟨#[]⟩, false, 0, 0, []⟩ :: l) ∧ (cuts ≤ 0 → ∀ a ∈ acts, a.cuts = false)
theorem actsI.snoc {cuts : Int} {acts : List LA} {a : LA} (h : actsI cuts acts) (ha : actS cuts a) : actsI cuts (acts ++ [a]) := by
  obtain ⟨h1, ⟨l, h2⟩, h3⟩ := h
  refine ⟨fun x hx => ?_, ⟨l ++ [a], by rw [h2]; rfl⟩, fun hc x hx => ?_⟩
  · rcases List.mem_append.1 hx with h | h
    · exact h1 x h
    · rw [List.mem_singleton.1 h]; exact ha.1
  · rcases List.mem_append.1 hx with h | h
    · exact h3 hc x h
    · rw [List.mem_singleton.1 h]; exact ha.2 hc
def okActs (cuts : Int) (acts : List LA) : Prop := acts.length ≤ 100 ∧ actsI cuts acts
theorem ALV : (type_of% (@en_all LA eLA 6 eLA_len)) ∧ (type_of% @List.forall_mem_cons.{0}) := ⟨@en_all LA eLA 6 eLA_len, @List.forall_mem_cons.{0}⟩
theorem caps {n : Nat} (h : n ≤ 1000) : (n + 1) * 72 ≤ 140737488355328 ∧ n ≤ 9223372036854775806 ∧ (n + 1 + 1) * 72 ≤ 140737488355328 ∧ n ≤ 9223372036854775805 := ⟨by omega, by omega, by omega, by omega⟩
theorem mulw {x : Int} (h : 0 ≤ x ∧ x < 2) : IntKind.i64.wrap (x * 9999) = x * 9999 := wrap64 ⟨by omega, by omega⟩
def ok43 := okF.gu (P := Tryz.prog) tab Tryz.func43 Tryz.ntmps43 (by conv => lhs; cbv) (by kernel_rfl)
def inv43 (bs : List UInt8) (p cuts : Int) (n : Nat) (i : Nat) (σ : St) : Prop := ∃ (acts : List LA) (v : Nat) (q : Int), i ≤ n ∧ acts.length ≤ 1 + 2 * i ∧ actsI cuts acts ∧ p ≤ q ∧ q ≤ p + 40 * i ∧ σ.t 0 = rP 0 ∧ σ.t 2 = .i cuts ∧ σ.t 8 = .i ((n - i : Nat) : Int) ∧ σ.t 7 = .c (.own 11 v acts.length) ∧ σ.H 11 = some (.arr v true 6 32 (en eLA acts)) ∧ σ.H 1000 = some (rdr 0 bs q)
set_option maxHeartbeats 2000000 in
theorem acts_ok (bs : List UInt8) (hb : bs.length ≤ 2000) (p : Int) (hp : 0 ≤ p ∧ p ≤ 800000000000) (most cuts : Int) (hm : 0 < most ∧ most ≤ 24) : RC 43 [.i most, .i cuts] bs p 1000 (okActs cuts) (fun a => tL (en eLA a)) := by
  obtain ⟨n, n0, n1, C1⟩ := pick_ok bs hb p most (by omega) (by omega)
  obtain ⟨n, rfl⟩ : ∃ m : Nat, n = m := ⟨n.toNat, (Int.toNat_of_nonneg n0).symm⟩
  refine RC.intro ok43 rfl (fun _ => rfl) fun X => ?_
  simp only [go_sem]
  refine callRc (C1 0) rfl rfl rfl rfl rfl ⟨rfl, ?_⟩
  simp only [go_sem]
  refine AW.upto n (inv43 bs (p + 1) cuts n) ⟨[⟨4, ⟨#[]⟩, false, 0, 0, []⟩], _, _, Nat.zero_le _, Nat.le_refl _, ⟨fun a h => by rw [List.mem_singleton.1 h]; exact ⟨Nat.zero_le _, Nat.zero_le _⟩, ⟨[], rfl⟩, fun _ a h => by rw [List.mem_singleton.1 h]⟩, Int.le_refl _, by omega, rfl, rfl, rfl, rfl, rfl, rfl⟩ fun i t H c hi h => ?_
  obtain ⟨acts, v, q, hin, hl, hok, q0, q1, e0, e2, e8, e7, eH, eR⟩ := h
  simp only [T.c, T.i, rdr, rdC] at e0 e2 e8 e7 eH eR
  have ht1 : (en eLA acts).take acts.length = en eLA acts := en_take eLA acts
  by_cases k1 : ((n - i : Nat) : Int) > 0
  rotate_left
  · simp only [go_sem, e0, e2, e8, e7, eH, eR, k1]
    refine ES.mk (q, acts) ⟨by simp only; omega, by simp only; omega, by simp only; omega, hok⟩ ?_
    simp only [go_sem, e7, eH, eR, ht1, en_len]
  obtain ⟨q2, a, q20, q21, ha, C2⟩ := act_ok bs hb q (by omega) acts.length cuts ⟨by omega, by omega⟩
  have w2 : IntKind.i64.wrap (((n - i : Nat) : Int) - 1) = ((n - (i + 1) : Nat) : Int) := (wrap64 ⟨by omega, by omega⟩).trans (by omega)
  have hal : acts.length ≤ 1000 := by omega
  obtain ⟨l1, l2, l3, l4⟩ := caps hal
  have hq2 : 0 ≤ q2 ∧ q2 ≤ 900000000000 := by omega
  have hok1 : actsI cuts (acts ++ [a]) := hok.snoc ha
  have hE : en eLA acts ++ [[.s (.int .i64 a.kind), .s (.string a.data), .s (.bool a.cuts), .s (.int .i64 a.after), .s (.int .i64 a.moves), .sl (en eI a.keep)]] = en eLA (acts ++ [a]) := by rw [en_snoc]; rfl
  have hL : (acts ++ [a]).length = acts.length + 1 := by simp
  have ht2 : (en eLA (acts ++ [a])).take (acts.length + 1) = en eLA (acts ++ [a]) := by rw [← hL]; exact en_take eLA _
  simp only [go_sem, e0, e2, e8, e7, eH, eR, k1, en_len, ALV, List.not_mem_nil, false_implies, implies_true, and_self]
  refine callRc (C2 0) rfl rfl rfl rfl (by simp only [go_sem, eR]) ⟨?_, ?_⟩
  · simp only [go_sem]
  cases hc : a.cuts with
  | false =>
    rw [hc] at hE
    simp only [go_sem, e0, e2, e8, e7, eH, eR, k1, en_len, ALV, List.not_mem_nil, false_implies, implies_true, and_self, l1, l2, ht1, hc, w2, hE]
    exact ⟨by omega, acts ++ [a], c + 2 + 7 + 3, q2, by omega, by rw [hL]; omega, hok1, by omega, by omega, e0, e2, rfl, by rw [hL]; rfl, rfl, rfl⟩
  | true =>
  rw [hc] at hE
  obtain ⟨d, d0, d1, C3⟩ := pick_ok bs hb q2 3 (by omega) (by omega)
  obtain ⟨x0, x0l, x0h, D0⟩ := pick_ok bs hb (q2 + 1) 3 (by omega) (by omega)
  obtain ⟨x1, x1l, x1h, D1⟩ := pick_ok bs hb (q2 + 1 + 1) 9 (by omega) (by omega)
  obtain ⟨x2, x2l, x2h, D2⟩ := pick_ok bs hb (q2 + 1 + 1 + 1) 4 (by omega) (by omega)
  obtain ⟨x3, x3l, x3h, D3⟩ := pick_ok bs hb (q2 + 1 + 1 + 1 + 1) 2 (by omega) (by omega)
  obtain ⟨x4, x4l, x4h, D4⟩ := pick_ok bs hb (q2 + 1 + 1 + 1 + 1 + 1) 2 (by omega) (by omega)
  obtain ⟨x5, x5l, x5h, D5⟩ := pick_ok bs hb (q2 + 1 + 1 + 1 + 1 + 1 + 1) 3 (by omega) (by omega)
  obtain ⟨x6, x6l, x6h, D6⟩ := pick_ok bs hb (q2 + 1 + 1 + 1 + 1 + 1 + 1 + 1) 2 (by omega) (by omega)
  simp only [go_sem, e0, e2, e8, e7, eH, eR, k1, en_len, ALV, List.not_mem_nil, false_implies, implies_true, and_self, l1, l2, ht1, hc, w2, hE]
  refine callRc (C3 0) rfl rfl rfl rfl rfl ⟨?_, ?_⟩
  · simp only [go_sem]
  by_cases f1 : d > 0
  rotate_left
  · simp only [go_sem, e0, e2, e8, e7, eH, eR, k1, en_len, ALV, List.not_mem_nil, false_implies, implies_true, and_self, f1, w2]
    exact ⟨by omega, acts ++ [a], c + 2 + 7 + 3, q2 + 1, by omega, by rw [hL]; omega, hok1, by omega, by omega, e0, e2, rfl, by rw [hL]; rfl, rfl, rfl⟩
  have ww3 := mulw ⟨x3l, x3h⟩
  have ww4 := mulw ⟨x4l, x4h⟩
  have ww6 := mulw ⟨x6l, x6h⟩
  simp only [go_sem, e0, e2, e8, e7, eH, eR, k1, en_len, ALV, List.not_mem_nil, false_implies, implies_true, and_self, f1]
  refine callRc (D0 0) rfl rfl rfl rfl rfl ⟨?_, ?_⟩
  · simp only [go_sem]
  simp only [go_sem, e0, e2, e8, e7, eH, eR, k1, en_len, ALV, List.not_mem_nil, false_implies, implies_true, and_self, e7, ww3, ww4, ww6, l3, l4, ht2, w2]
  refine callRc (D1 0) rfl rfl rfl rfl rfl ⟨?_, ?_⟩
  · simp only [go_sem]
  simp only [go_sem, e0, e2, e8, e7, eH, eR, k1, en_len, ALV, List.not_mem_nil, false_implies, implies_true, and_self, e7, ww3, ww4, ww6, l3, l4, ht2, w2]
  refine callRc (D2 0) rfl rfl rfl rfl rfl ⟨?_, ?_⟩
  · simp only [go_sem]
  simp only [go_sem, e0, e2, e8, e7, eH, eR, k1, en_len, ALV, List.not_mem_nil, false_implies, implies_true, and_self, e7, ww3, ww4, ww6, l3, l4, ht2, w2]
  refine callRc (D3 0) rfl rfl rfl rfl rfl ⟨?_, ?_⟩
  · simp only [go_sem]
  simp only [go_sem, e0, e2, e8, e7, eH, eR, k1, en_len, ALV, List.not_mem_nil, false_implies, implies_true, and_self, e7, ww3, ww4, ww6, l3, l4, ht2, w2]
  refine callRc (D4 0) rfl rfl rfl rfl rfl ⟨?_, ?_⟩
  · simp only [go_sem]
  simp only [go_sem, e0, e2, e8, e7, eH, eR, k1, en_len, ALV, List.not_mem_nil, false_implies, implies_true, and_self, e7, ww3, ww4, ww6, l3, l4, ht2, w2]
  refine callRc (D5 0) rfl rfl rfl rfl rfl ⟨?_, ?_⟩
  · simp only [go_sem]
  simp only [go_sem, e0, e2, e8, e7, eH, eR, k1, en_len, ALV, List.not_mem_nil, false_implies, implies_true, and_self, e7, ww3, ww4, ww6, l3, l4, ht2, w2]
  refine callRc (D6 0) rfl rfl rfl rfl rfl ⟨?_, ?_⟩
  · simp only [go_sem]
  simp only [go_sem, e0, e2, e8, e7, eH, eR, k1, en_len, ALV, List.not_mem_nil, false_implies, implies_true, and_self, e7, ww3, ww4, ww6, l3, l4, ht2, w2]
  obtain ⟨a2, ha2⟩ : ∃ a2 : LA, a2 = ⟨4, ⟨#[]⟩, x0 == 0, x1, x2, [x3 * 9999, x4 * 9999, x5, x6 * 9999]⟩ := ⟨_, rfl⟩
  have hE2 : ([V.s (.int .i64 4), V.s (.string ⟨#[]⟩), V.s (.bool (x0 == 0)), V.s (.int .i64 x1), V.s (.int .i64 x2), V.sl [[V.s (.int .i64 (x3 * 9999))], [V.s (.int .i64 (x4 * 9999))], [V.s (.int .i64 x5)], [V.s (.int .i64 (x6 * 9999))]]] : List V) = eLA a2 := by rw [ha2]; rfl
  have hok2 : actsI cuts ((acts ++ [a]) ++ [a2]) := hok1.snoc ⟨by rw [ha2]; exact ⟨Nat.zero_le _, by simp⟩, fun h => absurd (ha.2 h) (by rw [hc]; decide)⟩
  have hE3 := (en_snoc eLA (acts ++ [a]) a2).trans (congrArg (fun z => en eLA (acts ++ [a]) ++ [z]) hE2.symm)
  have hL2 : ((acts ++ [a]) ++ [a2]).length = acts.length + 1 + 1 := by simp
  refine ⟨by omega, (acts ++ [a]) ++ [a2], c + 2 + 7 + 5 + 7 + 22, q2 + 1 + 1 + 1 + 1 + 1 + 1 + 1 + 1, by omega, by rw [hL2]; omega, hok2, by omega, by omega, e0, e2, rfl, by rw [hL2]; rfl, ?_, rfl⟩
  rw [hE3]
  rfl
end Go.V
set_option linter.unusedSimpArgs false
set_option maxRecDepth 20000
namespace Go.V
open Go.Proofs
theorem en_cons2 {α : Type} (f : α → List V) (x : α) (xs : List α) : en f (x :: xs) = f x :: en f xs := rfl
def wnames : List ByteArray := [⟨#[115, 49]⟩, ⟨#[109, 57]⟩, ⟨#[120]⟩, ⟨#[116, 111, 111, 108, 111, 110, 103, 97, 97]⟩, ⟨#[115, 48, 49]⟩]
theorem wnames_size : ∀ s ∈ wnames, s.size ≤ 100 := by
  intro s hs
  simp only [wnames, List.mem_cons, List.not_mem_nil, or_false] at hs
  rcases hs with rfl | rfl | rfl | rfl | rfl <;> decide
def ok145 := okF.gu (P := Tryz.prog) tab Tryz.func145 Tryz.ntmps145 (by conv => lhs; cbv) (by kernel_rfl)
set_option maxHeartbeats 1000000 in
theorem write20_ok (bs : List UInt8) (hb : bs.length ≤ 2000) (p : Int) (hp : 0 ≤ p ∧ p ≤ 900000000000) (d : Dk) (hD : DOk d) (more : ByteArray) (hm : more.size ≤ 1000000) : RC 145 [tDk d, tS more] bs p 3 fineDW tDW := by
  have hl := th_len hD
  have hnz := fun x (h : x ∈ th d) => th_size hD h
  have C1 := names_ok d hD.fine hD
  change ∀ m, ACallsF Tryz.prog 98 [tDk d] [newH 1001 m 1 9 (en eS (th d))] (.c (.own 1001 0 (th d).length)) at C1
  generalize th d = ns at *
  have hw5 : wnames.length = 5 := rfl
  obtain ⟨k, k0, k1, C2⟩ := pick_ok bs hb p 8 (by omega) (by omega)
  obtain ⟨j, j0, j1, C3⟩ := pick_ok bs hb (p + 1) ((ns.length + 5 : Nat) : Int) (by omega) (by omega)
  obtain ⟨j, rfl⟩ : ∃ m : Nat, j = m := ⟨j.toNat, (Int.toNat_of_nonneg j0).symm⟩
  obtain ⟨q, da, q0, q1, hda, C4⟩ := of_ok bs hb (p + 1 + 1) (by omega) [⟨#[]⟩, ⟨#[97, 98, 99]⟩, more, ⟨#[0, 1, 0, 0, 1, 97]⟩] (by simp)
  have hds : da.size ≤ 1048576 := by
    simp only [List.mem_cons, List.not_mem_nil, or_false] at hda
    rcases hda with rfl | rfl | rfl | rfl
    · decide
    · decide
    · omega
    · decide
  obtain ⟨nm, hx⟩ : ∃ x, (ns ++ wnames)[j]? = some x := ⟨_, List.getElem?_eq_getElem (by rw [List.length_append, hw5]; omega)⟩
  have ex := en_at eS hx
  have hnm : nm.size ≤ 1048576 := by
    rcases List.mem_append.1 (List.mem_of_getElem? hx) with h | h
    · have := hnz nm h; omega
    · have := wnames_size nm h; omega
  have hlit : en eS wnames = [[V.s (.string ⟨#[115, 49]⟩)], [V.s (.string ⟨#[109, 57]⟩)], [V.s (.string ⟨#[120]⟩)], [V.s (.string ⟨#[116, 111, 111, 108, 111, 110, 103, 97, 97]⟩)], [V.s (.string ⟨#[115, 48, 49]⟩)]] := rfl
  rw [en_app, hlit] at ex
  simp only [eS] at ex
  have ht1 : (en eS ns).take ns.length = en eS ns := en_take eS ns
  have l1 : (ns.length + 5) * 16 ≤ 140737488355328 := by omega
  have l2 : ns.length + 5 ≤ 9223372036854775807 := by omega
  refine RC.intro ok145 rfl (fun _ => rfl) fun X => ?_
  simp only [go_sem]
  refine callA1 (m := 2001) (ws := []) (ns := []) (C1 2001) rfl rfl rfl (en_flat eS eS_flat _) ⟨rfl, ?_⟩
  simp only [go_sem, en_len, ht1, l1, l2, List.forall_mem_cons, List.not_mem_nil, false_implies, implies_true, and_self]
  refine callRc (C2 0) rfl rfl rfl rfl rfl ⟨?_, ?_⟩
  · simp only [go_sem]
  simp only [go_sem]
  refine callRc (C3 0) rfl rfl rfl rfl rfl ⟨?_, ?_⟩
  · simp only [go_sem]
  simp only [go_sem, ex, j0, j1, Int.toNat_natCast]
  refine callR (ws := [(23, .arr 19 false 1 9 (en eS [⟨#[]⟩, ⟨#[97, 98, 99]⟩, more, ⟨#[0, 1, 0, 0, 1, 97]⟩]))]) (ns := [23]) (C4 0) rfl ?_ rfl rfl rfl ⟨?_, ?_⟩
  · simp only [go_sem, lendTs, lendT]
    rfl
  · simp only [go_sem, en_cons2, en_nil, List.cons_append, List.nil_append]
  simp only [go_sem]
  refine ES.mk (q, ⟨k, nm, da⟩) ⟨by omega, by omega, hnm, hds⟩ ?_
  simp only [go_sem]
end Go.V
set_option linter.unusedSimpArgs false
set_option maxRecDepth 20000
namespace Go.V
open Go.Proofs
theorem planW_le (p : Pl) : (planW p).size ≤ 100000 := by
  unfold planW
  split
  · rename_i h
    have h1 := planT_le (planOk_pl h)
    have h2 := (planOk_ok h).1
    omega
  · exact Nat.zero_le _
theorem opn_parts {d : Dk} (hD : DOk d) : (opn d).plan.parts.length ≤ 40 := by
  rcases opn_ok hD with ⟨_, hg, _⟩ | h | h
  · exact (planOk_ok hg.plan).1
  · rw [h]; exact Nat.zero_le _
  · rw [h]; exact Nat.zero_le _
def ok115 := okF.gu (P := Tryz.prog) tab Tryz.func115 Tryz.ntmps115 (by conv => lhs; cbv) (by kernel_rfl)
def Hd115 (d : Dk) (σ : St) : Prop := σ.t 0 = rP 0 ∧ (∃ u, σ.t 2 = .c (.ptr 2 u 0) ∧ σ.H 2 = some (.var u 29 [.nil0, .nil0, .nil0])) ∧ (∃ u, σ.t 3 = .c (.ptr 3 u 0) ∧ σ.H 3 = some (.var u 29 (cDk d)))
def inv115 (bs : List UInt8) (p : Int) (w : ByteArray) (n : Nat) (i : Nat) (σ : St) : Prop := ∃ d q, i ≤ n ∧ DOk d ∧ Hd115 d σ ∧ p ≤ q ∧ q ≤ p + 3 * i ∧ σ.t 5 = tS w ∧ σ.t 6 = .i ((n - i : Nat) : Int) ∧ σ.H 1000 = some (rdr 0 bs q)
def inv115b (bs : List UInt8) (p : Int) (ws : List DW) (i : Nat) (σ : St) : Prop := ∃ d, DOk d ∧ Hd115 d σ ∧ σ.t 7 = tL (en eW ws) ∧ σ.t 10 = .i i ∧ σ.H 1000 = some (rdr 0 bs (p + i))
set_option maxHeartbeats 1000000 in
theorem disk_ok (bs : List UInt8) (hb : bs.length ≤ 2000) (p : Int) (hp : 0 ≤ p ∧ p ≤ 700000000000) : RC 115 [] bs p 9000000 DOk tDk := by
  obtain ⟨p1, acts, p10, p11, ⟨_, hacts, _⟩, C1⟩ := acts_ok bs hb p (by omega) 14 2 (by omega)
  have C2 := logPlay_ok acts hacts
  have hD := playR_ok acts
  generalize playR acts = pr at *
  obtain ⟨d, codes⟩ := pr
  simp only at hD C2
  have hd := hD.fine
  obtain ⟨k, k0, k1, C3⟩ := pick_ok bs hb p1 6 (by omega) (by omega)
  refine RC.intro ok115 rfl (fun _ => rfl) fun X => ?_
  simp only [go_sem]
  refine callRc (C1 0) rfl rfl rfl rfl rfl ⟨rfl, ?_⟩
  simp only [go_sem]
  refine callC C2 rfl rfl rfl rfl ?_
  simp only [go_sem]
  refine callRc (C3 0) rfl rfl rfl rfl (by simp only [go_sem]) ⟨?_, ?_⟩
  · simp only [go_sem]
  by_cases g0 : (k == 0) = true
  · have C4 := opnS_ok d hD
    have hs := opn_parts hD
    have C5 := planWS_ok (opn d).plan (by omega)
    have hw := planW_le (opn d).plan
    generalize opn d = s at *
    generalize planW s.plan = w at *
    obtain ⟨n, n0, n1, C6⟩ := pick_ok bs hb (p1 + 1) 4 (by omega) (by omega)
    obtain ⟨n, rfl⟩ : ∃ m : Nat, n = m := ⟨n.toNat, (Int.toNat_of_nonneg n0).symm⟩
    simp only [go_sem, g0]
    refine callC C4 rfl rfl rfl rfl ?_
    simp only [go_sem]
    refine callC C5 rfl rfl rfl rfl ?_
    simp only [go_sem]
    refine callRc (C6 0) rfl rfl rfl rfl rfl ⟨?_, ?_⟩
    · simp only [go_sem]
    simp only [go_sem]
    refine AW.upto n (inv115 bs (p1 + 1 + 1) w n) ⟨d, _, Nat.zero_le _, hD, ⟨rfl, ⟨_, rfl, rfl⟩, ⟨_, rfl, rfl⟩⟩, Int.le_refl _, by omega, rfl, rfl, rfl⟩ fun i t H c hi h => ?_
    clear hD hd C2 C4
    obtain ⟨d, q, hin, hD, ⟨e0, ⟨u2, e2, eH2⟩, ⟨u3, e3, eH3⟩⟩, q0, q1, e5, e6, eR⟩ := h
    simp only [T.c, T.i, T.s, rdr, rdC] at e0 e2 eH2 e3 eH3 e5 e6 eR
    by_cases f1 : ((n - i : Nat) : Int) > 0
    rotate_left
    · simp only [go_sem, e0, e2, eH2, e3, eH3, e5, e6, eR, f1]
      refine ES.mk (q, d) ⟨by simp only; omega, by simp only; omega, hD⟩ ?_
      simp only [go_sem, e2, eR]
    have hd := hD.fine
    obtain ⟨q2, wr, q20, q21, hwr, C7⟩ := write20_ok bs hb q (by omega) d hD w (by omega)
    obtain ⟨r, hr, C8⟩ := doS_ok d wr hd hwr
    have hr1 : DOk r.1 := by
      rcases hr with ⟨_, rfl⟩ | ⟨h, _⟩
      · exact hD.step wr
      · exact absurd hD h
    have w2 : IntKind.i64.wrap (((n - i : Nat) : Int) - 1) = ((n - (i + 1) : Nat) : Int) := (wrap64 ⟨by omega, by omega⟩).trans (by omega)
    simp only [go_sem, e0, e2, eH2, e3, eH3, e5, e6, eR, f1]
    refine callRc (C7 0) rfl rfl rfl rfl (by simp only [go_sem, eR]) ⟨?_, ?_⟩
    · simp only [go_sem]
    simp only [go_sem]
    refine callC C8 rfl rfl rfl rfl ?_
    simp only [go_sem, e3, eH3, e6, w2]
    exact ⟨by omega, r.1, q2, by omega, hr1, ⟨e0, ⟨u2, e2, eH2⟩, ⟨u3, e3, rfl⟩⟩, by omega, by omega, e5, rfl, rfl⟩
  rw [Bool.not_eq_true] at g0
  by_cases g1 : (k == 1) = true
  · have C4 := writesS_ok d hD ⟨3, ⟨#[]⟩, false, 0, 0, []⟩ (Nat.zero_le _)
    obtain ⟨hws, hwl⟩ := wr_fine hD ⟨3, ⟨#[]⟩, false, 0, 0, []⟩
    generalize wr d ⟨3, ⟨#[]⟩, false, 0, 0, []⟩ = wq at *
    obtain ⟨ws, p3, code⟩ := wq
    simp only at hws hwl C4
    simp only [go_sem, g0, g1]
    refine callL (ws := []) (ns := []) C4 rfl ?_ rfl rfl ?_
    · simp only [go_sem, lendTs, lendT, en_nil]
      rfl
    simp only [go_sem, scalarT, scalarP, scalarC, List.all_cons, Bool.false_and, ite_self]
    refine AW.upto ws.length (inv115b bs (p1 + 1) ws) ⟨d, hD, ⟨rfl, ⟨_, rfl, rfl⟩, ⟨_, rfl, rfl⟩⟩, rfl, rfl, (by show _ = some (rdr 0 bs (p1 + 1 + ((0 : Nat) : Int))); rw [show ((0 : Nat) : Int) = 0 from rfl, Int.add_zero]; rfl)⟩ fun i t H c hi h => ?_
    clear hD hd C2 C4
    obtain ⟨d, hD, ⟨e0, ⟨u2, e2, eH2⟩, ⟨u3, e3, eH3⟩⟩, e7, e10, eR⟩ := h
    simp only [T.c, T.i, T.s, tL, rdr, rdC] at e0 e2 eH2 e3 eH3 e7 e10 eR
    by_cases f1 : (i : Int) < ws.length
    rotate_left
    · simp only [go_sem, e0, e7, e10, en_len, f1, e2, eH2, e3, eH3, eR]
      refine ES.mk (p1 + 1 + i, d) ⟨by simp only; omega, by simp only; omega, hD⟩ ?_
      simp only [go_sem, e2, eR]
    obtain ⟨j, j0, j1, C5⟩ := pick_ok bs hb (p1 + 1 + i) 9 (by omega) (by omega)
    simp only [go_sem, e0, e7, e10, en_len, f1]
    refine callRc (C5 0) rfl rfl rfl rfl eR ⟨?_, ?_⟩
    · simp only [go_sem]
    by_cases f2 : (i : Int) < j
    rotate_left
    · simp only [go_sem, e0, e7, e10, en_len, f1, f2, e2, eH2, e3, eH3]
      refine ES.mk (p1 + 1 + i + 1, d) ⟨by simp only; omega, by simp only; omega, hD⟩ ?_
      simp only [go_sem, e2]
    have hd := hD.fine
    obtain ⟨wr, hx⟩ : ∃ x, ws[i]? = some x := ⟨_, List.getElem?_eq_getElem (by omega)⟩
    have ex := en_at eW hx
    have gz : (0 : Int) ≤ i := by omega
    have w2 : IntKind.i64.wrap ((i : Int) + 1) = ((i + 1 : Nat) : Int) := wrap64 (x := (i : Int) + 1) ⟨by omega, by omega⟩
    obtain ⟨r, hr, C8⟩ := doS_ok d wr hd (hws wr (List.mem_of_getElem? hx))
    have hr1 : DOk r.1 := by
      rcases hr with ⟨_, rfl⟩ | ⟨h, _⟩
      · exact hD.step wr
      · exact absurd hD h
    simp only [go_sem, e0, e2, eH2, e3, eH3, e7, e10, en_len, f1, f2, ex, gz, Int.toNat_natCast, eW]
    refine callC C8 rfl rfl rfl rfl ?_
    simp only [go_sem, e3, eH3, e10, w2]
    refine ⟨by omega, r.1, hr1, ⟨e0, ⟨u2, e2, eH2⟩, ⟨u3, e3, rfl⟩⟩, e7, rfl, ?_⟩
    show _ = some (rdr 0 bs (p1 + 1 + ((i + 1 : Nat) : Int)))
    rw [show p1 + 1 + ((i + 1 : Nat) : Int) = p1 + 1 + i + 1 from by omega]
    rfl
  rw [Bool.not_eq_true] at g1
  simp only [go_sem, g0, g1]
  refine ES.mk (p1 + 1, d) ⟨by simp only; omega, by simp only; omega, hD⟩ ?_
  simp only [go_sem]
end Go.V
set_option linter.unusedSimpArgs false
set_option maxRecDepth 20000
namespace Go.V
open Go.Proofs
theorem callOf {t : Nat → T} {H : HMap} {c : Nat} {f : Opd} {args : List Opd} {v : Nat} {bs : List UInt8} {p p' : Int} {ss : List ByteArray} {s : ByteArray} {id ver n : Nat} {wr : Bool} {k : Nat} {d : Option Nat} {un : List Nat} {l : List AOper} {prev : List (Nat × List Nat × List Nat)} {K : St → Prop}
    (hC : ACallsF Tryz.prog 146 [rP v, tL (en eS ss)] [rH v bs p p'] (tS s)) (hf : ev t f = .pt (.one (.fn 146 []))) (hl : args.map (ev t) = [rP v, .c (.own id ver n)]) (hB : H id = some (.arr ver wr 1 9 (en eS ss))) (hn : n = ss.length) (hid : id ≠ 1000) (hH : H 1000 = some (rdr v bs p))
    (hk : chk prev un ⟨tS s, [(id, .arr ver false 1 9 (en eS ss)), (1000, rdr v bs p')], [id, 1000], [id, 1000]⟩ = true ∧ DRun Tryz.prog l ((k, [id, 1000], [id, 1000]) :: prev) K ⟨updD t d (tS s), upd (upd H id (some (.arr ver false 1 9 (en eS ss)))) 1000 (some (rdr v bs p')), c⟩) :
    step Tryz.prog k d un (.call f args) l prev K t H c := by
  refine callR (ws := [(id, .arr ver false 1 9 (en eS ss))]) (ns := [id]) hC hf ?_ rfl rfl ?_ hk
  · rw [hl]
    subst hn
    simp only [lendTs, rP, tL, T.c, lendT, lendC, sealC, hB, en_len, en_take, Nat.le_refl, and_self, if_true, Option.map_some, List.append_nil, List.nil_append]
  · simp only [updH, upd, if_neg (Ne.symm hid), hH]
def ok116 := okF.gu (P := Tryz.prog) tab Tryz.func116 Tryz.ntmps116 (by conv => lhs; cbv) (by kernel_rfl)
def St48 (bs : List UInt8) (q : Int) (F : List DF) (N : List ByteArray) (M : List DM) (i : Nat) (t : Nat → T) (H : HMap) : Prop := ∃ u v1 v2 v3 u4, t 0 = rP 0 ∧ t 3 = .c (.ptr 3 u 0) ∧ H 3 = some (.var u 29 [.own 1001 v1 F.length, .own 1002 v2 N.length, .own 1003 v3 M.length]) ∧ H 1001 = some (.arr v1 true 3 92 (en eF F)) ∧ H 1002 = some (.arr v2 true 1 9 (en eS N)) ∧ H 1003 = some (.arr v3 true 2 94 (en eM M)) ∧ t 4 = .c (.ptr 4 u4 0) ∧ H 4 = some (.var u4 29 [.nil0, .nil0, .nil0]) ∧ t 5 = .i i ∧ H 1000 = some (rdr 0 bs q)
abbrev EN48 (bs : List UInt8) (p : Int) : Exit → St → Prop := endR p 300 fineDk tDk bs ok116.res
def QN48 (X : Ctx) (bs : List UInt8) (p : Int) : Exit → St → Prop := inW 0 (thenW Tryz.prog X (.seq ((ok116.sub [1, 1, 1, 1, 1, 0])) .ret) (EN48 bs p))
theorem spl74 {X : Ctx} {bs : List UInt8} {p q : Int} {F : List DF} {N : List ByteArray} {M : List DM} {i : Nat} {t : Nat → T} {H : HMap} {c : Nat} (h : St48 bs q F N M i t H) (hq : p ≤ q ∧ q ≤ p + 300) (hf : fineDk ⟨F, N, M⟩) : QN48 X bs p .normal ⟨t, H, c⟩ := by
  obtain ⟨u, v1, v2, v3, u4, e0, e3, eH3, eF1, eN1, eM1, e4, eH4, e5, eR⟩ := h
  simp only [T.c, T.i] at e0 e3 e4 e5
  unfold QN48 EN48
  dsimp only [okF.sub, ACode.sub, okF.res]
  simp only [go_sem, e3, eH3, e4, eH4]
  refine ES.mk (q, ⟨F, N, M⟩) ⟨hq.1, hq.2, hf⟩ ?_
  simp only [go_sem, e4, eH4, eF1, eN1, eM1, eR, en_len, en_take]
theorem fine_set {F : List DF} {N : List ByteArray} {M : List DM} (h : fineDk ⟨F, N, M⟩) (i : Nat) {f : DF} (h1 : f.name.size ≤ 1048576) (h2 : f.data.size ≤ 1048576) : fineDk ⟨F.set i f, N, M⟩ := by
  refine ⟨⟨by have := h.s.f; simp only [List.length_set]; exact this, h.s.n, h.s.m⟩, fun g hg => ?_, h.n, h.m⟩
  rcases List.mem_or_eq_of_mem_set hg with hg | rfl
  · exact h.f g hg
  · exact ⟨h1, h2⟩
section
variable {X : Ctx} {bs : List UInt8} (hb : bs.length ≤ 2000) {p q : Int} (hq : 0 ≤ p ∧ p ≤ 900000000000 ∧ p ≤ q ∧ q ≤ p + 100) {F : List DF} {N : List ByteArray} {M : List DM} (hfd : fineDk ⟨F, N, M⟩) {i : Nat} {f : DF} (hx : F[i]? = some f) (hd2 : f.data.size ≤ 20000) (hsN : N.length ≤ 1000) (hsM : M.length ≤ 1000) {t : Nat → T} {H : HMap} {c : Nat} (hst : St48 bs q F N M i t H)
include hb hq hfd hx hd2 hsN hsM hst
theorem spl0 : wpa Tryz.prog X ((ok116.sub [1, 1, 1, 1, 0, 1, 0, 1, 0])) (QN48 X bs p) ⟨t, H, c⟩ := by
  obtain ⟨u, v1, v2, v3, u4, e0, e3, eH3, eF1, eN1, eM1, e4, eH4, e5, eR⟩ := hst
  simp only [T.c, T.i] at e0 e3 e4 e5
  dsimp only [okF.sub, ACode.sub, okF.res]
  have ex := en_at eF hx
  have gi := (List.getElem?_eq_some_iff.1 hx).1
  have gi2 : (i : Int) < F.length := by omega
  have gz : (0 : Int) ≤ i := by omega
  have hs1 : F.length ≤ 1048576 := hfd.s.f
  have hs2 : N.length ≤ 1048576 := hfd.s.n
  have hs3 : M.length ≤ 1048576 := hfd.s.m
  have hfn := (hfd.f f (List.mem_of_getElem? hx)).1
  have _u := And.intro hb (And.intro hd2 (And.intro hsN hsM))
  obtain ⟨j, j0, j1, C1⟩ := pick_ok bs hb q 3 (by omega) (by omega)
  obtain ⟨j, rfl⟩ : ∃ m : Nat, j = m := ⟨j.toNat, (Int.toNat_of_nonneg j0).symm⟩
  have hj3 : (j : Int) < ((3 : Nat) : Int) := j1
  have w1 : IntKind.i64.wrap ((f.data.size : Int) + 1) = (f.data.size : Int) + 1 := wrap64 ⟨by omega, by omega⟩
  obtain ⟨x, hx2⟩ : ∃ x, ([-1, (f.data.size : Int) + 1, (f.data.size : Int)] : List Int)[j]? = some x := ⟨_, List.getElem?_eq_getElem (by simp only [List.length_cons, List.length_nil]; omega)⟩
  have ex2 := en_at eI hx2
  simp only [en, List.map_cons, List.map_nil, eI] at ex2
  simp only [go_sem, e0, e3, eH3, eF1, eN1, eM1, e4, eH4, e5, eR, en_len, ex, gi, gi2, gz, Int.toNat_natCast, eF, eS, eM, w1]
  refine callRc (C1 0) rfl rfl rfl rfl (by simp only [go_sem, eR]) ⟨?_, ?_⟩
  · simp only [go_sem]
  simp only [go_sem, e0, e3, eH3, eF1, eN1, eM1, e4, eH4, e5, eR, en_len, ex, gi, gi2, gz, Int.toNat_natCast, eF, eS, eM, j0, hj3, ex2]
  refine spl74 (F := F.set i ⟨f.name, f.data, x⟩) (q := q + 1) ⟨u, v1, v2, v3, u4, e0, e3, (by rw [List.length_set]; exact eH3), (by rw [← en_set]; rfl), eN1, eM1, e4, eH4, e5, rfl⟩ ⟨by omega, by omega⟩ (fine_set hfd i hfn (by simp only; omega))
theorem spl1 : wpa Tryz.prog X ((ok116.sub [1, 1, 1, 1, 0, 1, 0, 1, 1, 1, 0])) (QN48 X bs p) ⟨t, H, c⟩ := by
  obtain ⟨u, v1, v2, v3, u4, e0, e3, eH3, eF1, eN1, eM1, e4, eH4, e5, eR⟩ := hst
  simp only [T.c, T.i] at e0 e3 e4 e5
  dsimp only [okF.sub, ACode.sub, okF.res]
  have ex := en_at eF hx
  have gi := (List.getElem?_eq_some_iff.1 hx).1
  have gi2 : (i : Int) < F.length := by omega
  have gz : (0 : Int) ≤ i := by omega
  have hs1 : F.length ≤ 1048576 := hfd.s.f
  have hs2 : N.length ≤ 1048576 := hfd.s.n
  have hs3 : M.length ≤ 1048576 := hfd.s.m
  have hfn := (hfd.f f (List.mem_of_getElem? hx)).1
  have _u := And.intro hb (And.intro hd2 (And.intro hsN hsM))
  obtain ⟨q2, s, a0, a1, hs, C1⟩ := of_ok bs hb q (by omega) [⟨#[115, 49]⟩, ⟨#[]⟩, ⟨#[65]⟩, ⟨#[109, 49]⟩] (by decide)
  have hsz : s.size ≤ 100 := by
    simp only [List.mem_cons, List.not_mem_nil, or_false] at hs
    rcases hs with rfl | rfl | rfl | rfl <;> decide
  simp only [go_sem, e0, e3, eH3, eF1, eN1, eM1, e4, eH4, e5, eR, en_len, ex, gi, gi2, gz, Int.toNat_natCast, eF, eS, eM]
  refine callOf (C1 0) rfl rfl rfl rfl (by decide) (by simp only [go_sem, eR]) ⟨?_, ?_⟩
  · simp only [go_sem]
  simp only [go_sem, e0, e3, eH3, eF1, eN1, eM1, e4, eH4, e5, eR, en_len, ex, gi, gi2, gz, Int.toNat_natCast, eF, eS, eM]
  refine spl74 (F := F.set i ⟨s, f.data, f.kept⟩) (q := q2) ⟨u, v1, v2, v3, u4, e0, e3, (by rw [List.length_set]; exact eH3), (by rw [← en_set]; rfl), eN1, eM1, e4, eH4, e5, rfl⟩ ⟨by omega, by omega⟩ (fine_set hfd i (by simp only; omega) (by simp only; omega))
theorem spl2 : wpa Tryz.prog X ((ok116.sub [1, 1, 1, 1, 0, 1, 0, 1, 1, 1, 1, 1, 0])) (QN48 X bs p) ⟨t, H, c⟩ := by
  obtain ⟨u, v1, v2, v3, u4, e0, e3, eH3, eF1, eN1, eM1, e4, eH4, e5, eR⟩ := hst
  simp only [T.c, T.i] at e0 e3 e4 e5
  dsimp only [okF.sub, ACode.sub, okF.res]
  have ex := en_at eF hx
  have gi := (List.getElem?_eq_some_iff.1 hx).1
  have gi2 : (i : Int) < F.length := by omega
  have gz : (0 : Int) ≤ i := by omega
  have hs1 : F.length ≤ 1048576 := hfd.s.f
  have hs2 : N.length ≤ 1048576 := hfd.s.n
  have hs3 : M.length ≤ 1048576 := hfd.s.m
  have hfn := (hfd.f f (List.mem_of_getElem? hx)).1
  have _u := And.intro hb (And.intro hd2 (And.intro hsN hsM))
  obtain ⟨q2, s, a0, a1, hs, C1⟩ := of_ok bs hb q (by omega) [⟨#[115, 49]⟩, ⟨#[122, 122]⟩] (by decide)
  have hsz : s.size ≤ 100 := by
    simp only [List.mem_cons, List.not_mem_nil, or_false] at hs
    rcases hs with rfl | rfl <;> decide
  have ht1 : (en eS N).take N.length = en eS N := en_take eS N
  have l1 : (N.length + 1) * 16 ≤ 140737488355328 := by omega
  have l2 : N.length ≤ 9223372036854775806 := by omega
  simp only [go_sem, e0, e3, eH3, eF1, eN1, eM1, e4, eH4, e5, eR, en_len, ex, gi, gi2, gz, Int.toNat_natCast, eF, eS, eM]
  refine callOf (C1 0) rfl rfl rfl rfl (by decide) (by simp only [go_sem, eR]) ⟨?_, ?_⟩
  · simp only [go_sem]
  simp only [go_sem, e0, e3, eH3, eF1, eN1, eM1, e4, eH4, e5, eR, en_len, ex, gi, gi2, gz, Int.toNat_natCast, eF, eS, eM, ht1, l1, l2]
  refine spl74 (N := N ++ [s]) (q := q2) ⟨u, v1, c + 6, v3, u4, e0, e3, (by rw [List.length_append]; rfl), eF1, (by rw [en_snoc]; rfl), eM1, e4, eH4, e5, rfl⟩ ⟨by omega, by omega⟩ ⟨⟨hs1, by simp only [List.length_append, List.length_singleton]; have := hsN; omega, hs3⟩, hfd.f, fun x hx => ?_, hfd.m⟩
  rcases List.mem_append.1 hx with h | h
  · exact hfd.n x h
  · rw [List.mem_singleton.1 h]; omega
theorem spl3 : wpa Tryz.prog X ((ok116.sub [1, 1, 1, 1, 0, 1, 0, 1, 1, 1, 1, 1, 1, 1, 0])) (QN48 X bs p) ⟨t, H, c⟩ := by
  obtain ⟨u, v1, v2, v3, u4, e0, e3, eH3, eF1, eN1, eM1, e4, eH4, e5, eR⟩ := hst
  simp only [T.c, T.i] at e0 e3 e4 e5
  dsimp only [okF.sub, ACode.sub, okF.res]
  have ex := en_at eF hx
  have gi := (List.getElem?_eq_some_iff.1 hx).1
  have gi2 : (i : Int) < F.length := by omega
  have gz : (0 : Int) ≤ i := by omega
  have hs1 : F.length ≤ 1048576 := hfd.s.f
  have hs2 : N.length ≤ 1048576 := hfd.s.n
  have hs3 : M.length ≤ 1048576 := hfd.s.m
  have hfn := (hfd.f f (List.mem_of_getElem? hx)).1
  have _u := And.intro hb (And.intro hd2 (And.intro hsN hsM))
  obtain ⟨j, j0, j1, C1⟩ := pick_ok bs hb q 2 (by omega) (by omega)
  obtain ⟨q2, s, a0, a1, hs, C2⟩ := of_ok bs hb (q + 1) (by omega) [⟨#[122, 122]⟩, ⟨#[115, 49]⟩, f.name] (by simp)
  have hsz : s.size ≤ 1048576 := by
    simp only [List.mem_cons, List.not_mem_nil, or_false] at hs
    rcases hs with rfl | rfl | rfl
    · decide
    · decide
    · exact hfn
  have ht1 : (en eM M).take M.length = en eM M := en_take eM M
  have l1 : (M.length + 1) * 24 ≤ 140737488355328 := by omega
  have l2 : M.length ≤ 9223372036854775806 := by omega
  simp only [go_sem, e0, e3, eH3, eF1, eN1, eM1, e4, eH4, e5, eR, en_len, ex, gi, gi2, gz, Int.toNat_natCast, eF, eS, eM]
  refine callRc (C1 0) rfl rfl rfl rfl (by simp only [go_sem, eR]) ⟨?_, ?_⟩
  · simp only [go_sem]
  simp only [go_sem, e0, e3, eH3, eF1, eN1, eM1, e4, eH4, e5, eR, en_len, ex, gi, gi2, gz, Int.toNat_natCast, eF, eS, eM]
  refine callOf (C2 0) rfl rfl rfl rfl (by decide) (by simp only [go_sem, eR]) ⟨?_, ?_⟩
  · simp only [go_sem]
  simp only [go_sem, e0, e3, eH3, eF1, eN1, eM1, e4, eH4, e5, eR, en_len, ex, gi, gi2, gz, Int.toNat_natCast, eF, eS, eM, ht1, l1, l2]
  refine spl74 (M := M ++ [⟨j == 0, s⟩]) (q := q2) ⟨u, v1, v2, c + 16, u4, e0, e3, (by rw [List.length_append]; rfl), eF1, eN1, (by rw [en_snoc]; rfl), e4, eH4, e5, rfl⟩ ⟨by omega, by omega⟩ ⟨⟨hs1, hs2, by simp only [List.length_append, List.length_singleton]; have := hsM; omega⟩, hfd.f, hfd.n, fun m hm => ?_⟩
  rcases List.mem_append.1 hm with h | h
  · exact hfd.m m h
  · rw [List.mem_singleton.1 h]; exact hsz
theorem spl4 : wpa Tryz.prog X ((ok116.sub [1, 1, 1, 1, 0, 1, 0, 1, 1, 1, 1, 1, 1, 1, 1, 1, 0])) (QN48 X bs p) ⟨t, H, c⟩ := by
  obtain ⟨u, v1, v2, v3, u4, e0, e3, eH3, eF1, eN1, eM1, e4, eH4, e5, eR⟩ := hst
  simp only [T.c, T.i] at e0 e3 e4 e5
  dsimp only [okF.sub, ACode.sub, okF.res]
  have ex := en_at eF hx
  have gi := (List.getElem?_eq_some_iff.1 hx).1
  have gi2 : (i : Int) < F.length := by omega
  have gz : (0 : Int) ≤ i := by omega
  have hs1 : F.length ≤ 1048576 := hfd.s.f
  have hs2 : N.length ≤ 1048576 := hfd.s.n
  have hs3 : M.length ≤ 1048576 := hfd.s.m
  have hfn := (hfd.f f (List.mem_of_getElem? hx)).1
  have _u := And.intro hb (And.intro hd2 (And.intro hsN hsM))
  have w1 : IntKind.i64.wrap ((i : Int) + 1) = ((i + 1 : Nat) : Int) := wrap64 (x := (i : Int) + 1) ⟨by omega, by omega⟩
  have y0 : (0 : Int) ≤ 0 := Int.le_refl _
  have y1 : (i : Int) ≤ F.length := by omega
  have y2 : (0 : Int) ≤ ((i + 1 : Nat) : Int) := by omega
  have y3 : ((i + 1 : Nat) : Int) ≤ (F.length : Int) := by omega
  have y4 : (F.length : Int) ≤ F.length := Int.le_refl _
  have k0 : i + 1 + (F.length - (i + 1)) ≤ F.length := by omega
  have k1 : i ≤ F.length := by omega
  have k2 : (i + (F.length - (i + 1))) * 40 ≤ 140737488355328 := by omega
  have k3 : i + (F.length - (i + 1)) ≤ 9223372036854775807 := by omega
  have hys : List.take (F.length - (i + 1)) (List.drop (i + 1) (en eF F)) = en eF (F.drop (i + 1)) := by rw [en_drop]; exact List.take_of_length_le (by rw [en_len, List.length_drop]; exact Nat.le_refl _)
  simp only [go_sem, e0, e3, eH3, eF1, eN1, eM1, e4, eH4, e5, eR, en_len, ex, gi, gi2, gz, Int.toNat_natCast, eF, eS, eM, w1, lohi, y0, y1, y2, y3, y4, Int.toNat_zero, Nat.le_refl, k0, k1, k2, k3, hys, List.length_drop, en_cut]
  have hl : (F.take i ++ F.drop (i + 1)).length = i + (F.length - (i + 1)) := by rw [List.length_append, List.length_take, List.length_drop]; omega
  refine spl74 (F := F.take i ++ F.drop (i + 1)) (q := q) ⟨u, c + 9, v2, v3, u4, e0, e3, (by rw [hl]; rfl), (by rw [en_app]; rfl), eN1, eM1, e4, eH4, e5, eR⟩ ⟨by omega, by omega⟩ ⟨⟨by simp only [hl]; omega, hs2, hs3⟩, fun g hg => ?_, hfd.n, hfd.m⟩
  rcases List.mem_append.1 hg with h | h
  · exact hfd.f g (List.mem_of_mem_take h)
  · exact hfd.f g (List.mem_of_mem_drop h)
theorem spl5 : wpa Tryz.prog X ((ok116.sub [1, 1, 1, 1, 0, 1, 0, 1, 1, 1, 1, 1, 1, 1, 1, 1, 1, 1, 0])) (QN48 X bs p) ⟨t, H, c⟩ := by
  obtain ⟨u, v1, v2, v3, u4, e0, e3, eH3, eF1, eN1, eM1, e4, eH4, e5, eR⟩ := hst
  simp only [T.c, T.i] at e0 e3 e4 e5
  dsimp only [okF.sub, ACode.sub, okF.res]
  have ex := en_at eF hx
  have gi := (List.getElem?_eq_some_iff.1 hx).1
  have gi2 : (i : Int) < F.length := by omega
  have gz : (0 : Int) ≤ i := by omega
  have hs1 : F.length ≤ 1048576 := hfd.s.f
  have hs2 : N.length ≤ 1048576 := hfd.s.n
  have hs3 : M.length ≤ 1048576 := hfd.s.m
  have hfn := (hfd.f f (List.mem_of_getElem? hx)).1
  have _u := And.intro hb (And.intro hd2 (And.intro hsN hsM))
  obtain ⟨j, j0, j1, C1⟩ := pick_ok bs hb q 2 (by omega) (by omega)
  have w1 : IntKind.i64.wrap (20000 + j) = ((20000 + j).toNat : Int) := (wrap64 ⟨by omega, by omega⟩).trans (by omega)
  obtain ⟨s, hs, C2⟩ := many_ok ⟨#[120]⟩ (20000 + j).toNat (by omega) (by decide)
  have hz : (⟨#[120]⟩ : ByteArray).size = 1 := rfl
  simp only [go_sem, e0, e3, eH3, eF1, eN1, eM1, e4, eH4, e5, eR, en_len, ex, gi, gi2, gz, Int.toNat_natCast, eF, eS, eM]
  refine callRc (C1 0) rfl rfl rfl rfl (by simp only [go_sem, eR]) ⟨?_, ?_⟩
  · simp only [go_sem]
  simp only [go_sem, e0, e3, eH3, eF1, eN1, eM1, e4, eH4, e5, eR, en_len, ex, gi, gi2, gz, Int.toNat_natCast, eF, eS, eM, w1]
  refine callC C2 rfl rfl rfl rfl ?_
  simp only [go_sem, e0, e3, eH3, eF1, eN1, eM1, e4, eH4, e5, eR, en_len, ex, gi, gi2, gz, Int.toNat_natCast, eF, eS, eM]
  refine spl74 (F := F.set i ⟨f.name, s, f.kept⟩) (q := q + 1) ⟨u, v1, v2, v3, u4, e0, e3, (by rw [List.length_set]; exact eH3), (by rw [← en_set]; rfl), eN1, eM1, e4, eH4, e5, rfl⟩ ⟨by omega, by omega⟩ (fine_set hfd i hfn (by simp only; rw [hs, hz]; omega))
theorem spl6 : wpa Tryz.prog X ((ok116.sub [1, 1, 1, 1, 0, 1, 0, 1, 1, 1, 1, 1, 1, 1, 1, 1, 1, 1, 1, 1, 0])) (QN48 X bs p) ⟨t, H, c⟩ := by
  obtain ⟨u, v1, v2, v3, u4, e0, e3, eH3, eF1, eN1, eM1, e4, eH4, e5, eR⟩ := hst
  simp only [T.c, T.i] at e0 e3 e4 e5
  dsimp only [okF.sub, ACode.sub, okF.res]
  have ex := en_at eF hx
  have gi := (List.getElem?_eq_some_iff.1 hx).1
  have gi2 : (i : Int) < F.length := by omega
  have gz : (0 : Int) ≤ i := by omega
  have hs1 : F.length ≤ 1048576 := hfd.s.f
  have hs2 : N.length ≤ 1048576 := hfd.s.n
  have hs3 : M.length ≤ 1048576 := hfd.s.m
  have hfn := (hfd.f f (List.mem_of_getElem? hx)).1
  have _u := And.intro hb (And.intro hd2 (And.intro hsN hsM))
  obtain ⟨q2, s, a0, a1, hs, C1⟩ := of_ok bs hb q (by omega) [⟨#[120]⟩, ⟨#[0, 1, 0, 0, 9, 97]⟩, ⟨#[111, 112, 101, 110, 32, 49, 32, 49, 10, 101, 110, 100, 10]⟩] (by decide)
  have hsz : s.size ≤ 100 := by
    simp only [List.mem_cons, List.not_mem_nil, or_false] at hs
    rcases hs with rfl | rfl | rfl <;> decide
  have l1 : fits f.data s := (by omega : f.data.size + s.size ≤ 9223372036854775807)
  simp only [go_sem, e0, e3, eH3, eF1, eN1, eM1, e4, eH4, e5, eR, en_len, ex, gi, gi2, gz, Int.toNat_natCast, eF, eS, eM]
  refine callOf (C1 0) rfl rfl rfl rfl (by decide) (by simp only [go_sem, eR]) ⟨?_, ?_⟩
  · simp only [go_sem]
  simp only [go_sem, e0, e3, eH3, eF1, eN1, eM1, e4, eH4, e5, eR, en_len, ex, gi, gi2, gz, Int.toNat_natCast, eF, eS, eM, sStr, l1]
  refine spl74 (F := F.set i ⟨f.name, f.data ++ s, f.kept⟩) (q := q2) ⟨u, v1, v2, v3, u4, e0, e3, (by rw [List.length_set]; exact eH3), (by rw [← en_set]; rfl), eN1, eM1, e4, eH4, e5, rfl⟩ ⟨by omega, by omega⟩ (fine_set hfd i hfn (by simp only [ByteArray.size_append]; omega))
end
end Go.V
set_option linter.unusedSimpArgs false
namespace Go.V
open Go.Proofs
theorem QN48_r {X : Ctx} {bs : List UInt8} {p : Int} {σ : St} : QN48 X bs p .ret σ = EN48 bs p .ret σ := rfl
section
variable {X : Ctx} {bs : List UInt8} (hb : bs.length ≤ 2000) {p q : Int} (hq : 0 ≤ p ∧ p ≤ 900000000000 ∧ p ≤ q ∧ q ≤ p + 100) {F : List DF} {N : List ByteArray} {M : List DM} (hfd : fineDk ⟨F, N, M⟩) {i : Nat} {f : DF} (hx : F[i]? = some f) (hd2 : f.data.size ≤ 20000) {t : Nat → T} {H : HMap} {c : Nat} (hst : St48 bs q F N M i t H)
include hb hq hfd hx hd2 hst
theorem spl7 : wpa Tryz.prog X (ok116.sub [1, 1, 1, 1, 0, 1, 0, 1, 1, 1, 1, 1, 1, 1, 1, 1, 1, 1, 1, 1, 1, 1, 0]) (QN48 X bs p) ⟨t, H, c⟩ := by
  have hst0 := hst
  obtain ⟨u, v1, v2, v3, u4, e0, e3, eH3, eF1, eN1, eM1, e4, eH4, e5, eR⟩ := hst
  simp only [T.c, T.i] at e0 e3 e4 e5
  dsimp only [okF.sub, ACode.sub, okF.res]
  have ex := en_at eF hx
  have gi := (List.getElem?_eq_some_iff.1 hx).1
  have gi2 : (i : Int) < F.length := by omega
  have gi3 : i < (en eF F).length := by rw [en_len]; exact gi
  have gz : (0 : Int) ≤ i := by omega
  have hs1 : F.length ≤ 1048576 := hfd.s.f
  have hs2 : N.length ≤ 1048576 := hfd.s.n
  have hs3 : M.length ≤ 1048576 := hfd.s.m
  have hfn := (hfd.f f (List.mem_of_getElem? hx)).1
  by_cases g1 : (f.data.size : Int) > 0
  rotate_left
  · simp only [go_sem, e0, e3, eH3, eF1, eN1, eM1, e4, eH4, e5, eR, en_len, ex, gi, gi2, gz, Int.toNat_natCast, eF, eS, eM, g1]
    exact spl74 hst0 ⟨by omega, by omega⟩ hfd
  obtain ⟨j, j0, j1, C1⟩ := pick_ok bs hb q f.data.size (by omega) (by omega)
  have y0 : (0 : Int) ≤ 0 := Int.le_refl _
  have y1 : j ≤ (f.data.size : Int) := by omega
  simp only [go_sem, e0, e3, eH3, eF1, eN1, eM1, e4, eH4, e5, eR, en_len, ex, gi, gi2, gz, Int.toNat_natCast, eF, eS, eM, g1]
  refine callRc (C1 0) rfl rfl rfl rfl (by simp only [go_sem, eR]) ⟨?_, ?_⟩
  · simp only [go_sem]
  simp only [go_sem, e0, e3, eH3, eF1, eN1, eM1, e4, eH4, e5, eR, en_len, ex, gi, gi2, gz, Int.toNat_natCast, eF, eS, eM, lohi, j0, y0, y1, Int.toNat_zero, SET, List.getElem?_set_self, gi3, List.length_set]
  refine spl74 (F := F.set i ⟨f.name, f.data.extract 0 j.toNat, 0⟩) (q := q + 1) ⟨u, v1, v2, v3, u4, e0, e3, (by rw [List.length_set]; exact eH3), (by rw [← en_set]; rfl), eN1, eM1, e4, eH4, e5, rfl⟩ ⟨by omega, by omega⟩ (fine_set hfd i hfn (by simp only [ByteArray.size_extract]; omega))
theorem spl8 : wpa Tryz.prog X (ok116.sub [1, 1, 1, 1, 0, 1, 0, 1, 1, 1, 1, 1, 1, 1, 1, 1, 1, 1, 1, 1, 1, 1, 1, 1, 0]) (QN48 X bs p) ⟨t, H, c⟩ := by
  have hst0 := hst
  obtain ⟨u, v1, v2, v3, u4, e0, e3, eH3, eF1, eN1, eM1, e4, eH4, e5, eR⟩ := hst
  simp only [T.c, T.i] at e0 e3 e4 e5
  dsimp only [okF.sub, ACode.sub, okF.res]
  have ex := en_at eF hx
  have gi := (List.getElem?_eq_some_iff.1 hx).1
  have gi2 : (i : Int) < F.length := by omega
  have gi3 : i < (en eF F).length := by rw [en_len]; exact gi
  have gz : (0 : Int) ≤ i := by omega
  have hs1 : F.length ≤ 1048576 := hfd.s.f
  have hs2 : N.length ≤ 1048576 := hfd.s.n
  have hs3 : M.length ≤ 1048576 := hfd.s.m
  have hfn := (hfd.f f (List.mem_of_getElem? hx)).1
  by_cases g1 : (f.data.size : Int) > 0
  rotate_left
  · simp only [go_sem, e0, e3, eH3, eF1, eN1, eM1, e4, eH4, e5, eR, en_len, ex, gi, gi2, gz, Int.toNat_natCast, eF, eS, eM, g1]
    exact spl74 hst0 ⟨by omega, by omega⟩ hfd
  obtain ⟨j, j0, j1, C1⟩ := pick_ok bs hb q f.data.size (by omega) (by omega)
  obtain ⟨q2, s, a0, a1, hs, C2⟩ := of_ok bs hb (q + 1) (by omega) [⟨#[0]⟩, ⟨#[49]⟩, ⟨#[57]⟩, ⟨#[32]⟩] (by decide)
  have hsz : s.size ≤ 100 := by
    simp only [List.mem_cons, List.not_mem_nil, or_false] at hs
    rcases hs with rfl | rfl | rfl | rfl <;> decide
  have y0 : (0 : Int) ≤ 0 := Int.le_refl _
  have y1 : j ≤ (f.data.size : Int) := by omega
  have y2 : (0 : Int) ≤ j + 1 := by omega
  have y3 : j + 1 ≤ (f.data.size : Int) := by omega
  have y4 : (f.data.size : Int) ≤ f.data.size := Int.le_refl _
  have w1 : IntKind.i64.wrap (j + 1) = j + 1 := wrap64 ⟨by omega, by omega⟩
  have l1 : fits (f.data.extract 0 j.toNat) s := by
    show (f.data.extract 0 j.toNat).size + s.size ≤ 9223372036854775807
    simp only [ByteArray.size_extract]; omega
  have l2 : fits (f.data.extract 0 j.toNat ++ s) (f.data.extract (j + 1).toNat f.data.size) := by
    show (f.data.extract 0 j.toNat ++ s).size + (f.data.extract (j + 1).toNat f.data.size).size ≤ 9223372036854775807
    simp only [ByteArray.size_append, ByteArray.size_extract]; omega
  simp only [go_sem, e0, e3, eH3, eF1, eN1, eM1, e4, eH4, e5, eR, en_len, ex, gi, gi2, gz, Int.toNat_natCast, eF, eS, eM, g1]
  refine callRc (C1 0) rfl rfl rfl rfl (by simp only [go_sem, eR]) ⟨?_, ?_⟩
  · simp only [go_sem]
  simp only [go_sem, e0, e3, eH3, eF1, eN1, eM1, e4, eH4, e5, eR, en_len, ex, gi, gi2, gz, Int.toNat_natCast, eF, eS, eM, lohi, j0, y0, y1, Int.toNat_zero]
  refine callOf (C2 0) rfl rfl rfl rfl (by decide) (by simp only [go_sem, eR]) ⟨?_, ?_⟩
  · simp only [go_sem]
  simp only [go_sem, e0, e3, eH3, eF1, eN1, eM1, e4, eH4, e5, eR, en_len, ex, gi, gi2, gz, Int.toNat_natCast, eF, eS, eM, lohi, j0, y0, y1, y2, y3, y4, Int.toNat_zero, Int.toNat_natCast, sStr, w1, l1, l2]
  refine spl74 (F := F.set i ⟨f.name, f.data.extract 0 j.toNat ++ s ++ f.data.extract (j + 1).toNat f.data.size, f.kept⟩) (q := q2) ⟨u, v1, v2, v3, u4, e0, e3, (by rw [List.length_set]; exact eH3), (by rw [← en_set]; rfl), eN1, eM1, e4, eH4, e5, rfl⟩ ⟨by omega, by omega⟩ (fine_set hfd i hfn (by simp only [ByteArray.size_append, ByteArray.size_extract]; omega))
end
def inv116 (bs : List UInt8) (q : Int) (i : Nat) (σ : St) : Prop := ∃ (F : List DF) (N : List ByteArray) (v1 v2 : Nat), F.length = i ∧ N.length = i ∧ (∀ f ∈ F, f.name.size ≤ 1048576 ∧ f.data.size ≤ 1048576) ∧ (∀ x ∈ N, x.size ≤ 1048576) ∧ σ.t 0 = rP 0 ∧ σ.t 9 = .i i ∧ (∃ u, σ.t 8 = .c (.ptr 8 u 0) ∧ σ.H 8 = some (.var u 29 [.own 3001 v1 F.length, .own 3002 v2 N.length, .nil0])) ∧ σ.H 3001 = some (.arr v1 true 3 92 (en eF F)) ∧ σ.H 3002 = some (.arr v2 true 1 9 (en eS N)) ∧ (∃ u, σ.t 4 = .c (.ptr 4 u 0) ∧ σ.H 4 = some (.var u 29 [.nil0, .nil0, .nil0])) ∧ σ.H 1000 = some (rdr 0 bs (q + i))
theorem spl9 {X : Ctx} {bs : List UInt8} (hb : bs.length ≤ 2000) {p q : Int} (hq : 0 ≤ p ∧ p ≤ 900000000000 ∧ p ≤ q ∧ q ≤ p + 100) {F : List DF} {N : List ByteArray} {M : List DM} {i : Nat} {t : Nat → T} {H : HMap} {c : Nat} (hst : St48 bs q F N M i t H) (h1 : H 3001 = none) (h2 : H 3002 = none) : wpa Tryz.prog X (ok116.sub [1, 1, 1, 1, 0, 1, 0, 1, 1, 1, 1, 1, 1, 1, 1, 1, 1, 1, 1, 1, 1, 1, 1, 1, 1]) (QN48 X bs p) ⟨t, H, c⟩ := by
  obtain ⟨u, v1, v2, v3, u4, e0, e3, eH3, eF1, eN1, eM1, e4, eH4, e5, eR⟩ := hst
  simp only [T.c, T.i] at e0 e3 e4 e5
  dsimp only [okF.sub, ACode.sub, okF.res]
  simp only [go_sem, e0, e4, eH4]
  refine AW.reify 8 0 3001 3 92 rfl rfl h1 (by decide) ?_
  refine AW.reify 8 1 3002 1 9 rfl rfl h2 (by decide) ?_
  refine AW.upto 65 (inv116 bs q) ⟨[], [], _, _, rfl, rfl, (fun x h => by cases h), (fun x h => by cases h), e0, rfl, ⟨_, rfl, rfl⟩, rfl, rfl, ⟨u4, e4, eH4⟩, (by show _ = some (rdr 0 bs (q + ((0 : Nat) : Int))); rw [show ((0 : Nat) : Int) = 0 from rfl, Int.add_zero]; exact eR)⟩ fun k t H c hk h => ?_
  clear e0 e3 eH3 eF1 eN1 eM1 e4 eH4 e5 eR
  obtain ⟨F, N, v1, v2, l1, l2, hF, hN, e0, e9, ⟨u8, e8, eH8⟩, eF1, eN1, ⟨u4, e4, eH4⟩, eR⟩ := h
  simp only [T.c, T.i, rdr, rdC] at e0 e9 e8 eH8 eF1 eN1 e4 eH4 eR
  obtain ⟨j, j0, j1, C1⟩ := pick_ok bs hb (q + k) 3 (by omega) (by omega)
  have w1 : IntKind.i64.wrap (64 - j) = 64 - j := wrap64 ⟨by omega, by omega⟩
  have w2 : IntKind.i64.wrap (64 - j + 1) = 64 - j + 1 := wrap64 ⟨by omega, by omega⟩
  have ht1 : (en eF F).take F.length = en eF F := en_take eF F
  have ht2 : (en eS N).take N.length = en eS N := en_take eS N
  simp only [go_sem, e0, e9, e8, eH8, eF1, eN1, e4, eH4, en_len]
  refine callRc (C1 0) rfl rfl rfl rfl (by simp only [go_sem, eR]) ⟨?_, ?_⟩
  · simp only [go_sem]
  by_cases g1 : (k : Int) < 64 - j + 1
  rotate_left
  · simp only [go_sem, e0, e9, e8, eH8, eF1, eN1, e4, eH4, en_len, QN48_r, w1, w2, g1]
    dsimp only [okF.res]
    refine ES.mk (q + k + 1, ⟨F, N, []⟩) ⟨by simp only; omega, by simp only; omega, ⟨⟨by simp only; omega, by simp only; omega, Nat.zero_le _⟩, hF, hN, fun m h => (by cases h)⟩⟩ ?_
    simp only [go_sem, e4, eF1, eN1, ht1, ht2, en_len, en_nil]
  have C2 := decI (k : Int) ⟨by omega, by omega⟩
  have hs := dc_le7 (k : Int) ⟨by omega, by omega⟩
  generalize dc (k : Int) = s at *
  have z1 : (⟨#[102]⟩ : ByteArray).size = 1 := rfl
  have y1 : fits ⟨#[102]⟩ s := (by omega : (⟨#[102]⟩ : ByteArray).size + s.size ≤ 9223372036854775807)
  have hl : F.length ≤ 1000 := by omega
  have hl2 : N.length ≤ 1000 := by omega
  have a1 : (F.length + 1) * 40 ≤ 140737488355328 := by clear w1 w2 g1 l1 l2; omega
  have a2 : F.length ≤ 9223372036854775806 := by clear w1 w2 g1 l1 l2; omega
  have a3 : (N.length + 1) * 16 ≤ 140737488355328 := by clear w1 w2 g1 l1 l2 a1; omega
  have a4 : N.length ≤ 9223372036854775806 := by clear w1 w2 g1 l1 l2 a1 a3; omega
  have w3 : IntKind.i64.wrap ((k : Int) + 1) = ((k + 1 : Nat) : Int) := wrap64 (x := (k : Int) + 1) ⟨by omega, by omega⟩
  have hb1 : ((⟨#[102]⟩ : ByteArray) ++ s).size ≤ 1048576 := by rw [ByteArray.size_append]; omega
  simp only [go_sem, e0, e9, e8, eH8, eF1, eN1, e4, eH4, en_len, w1, w2, g1]
  refine callC C2 rfl rfl rfl rfl ?_
  simp only [go_sem, e0, e9, e8, eH8, eF1, eN1, e4, eH4, en_len, sStr, y1, ht1, a1, a2]
  refine callC C2 rfl rfl rfl rfl ?_
  simp only [go_sem, e0, e9, e8, eH8, eF1, eN1, e4, eH4, en_len, sStr, y1, ht2, a3, a4, w3]
  refine ⟨by omega, F ++ [⟨⟨#[102]⟩ ++ s, ⟨#[]⟩, 0⟩], N ++ [⟨#[102]⟩ ++ s], c + 6 + 7, c + 6 + 10 + 6, by rw [List.length_append, l1]; rfl, by rw [List.length_append, l2]; rfl, fun g hg => ?_, fun x hx => ?_, e0, rfl, ⟨u8, e8, (by rw [List.length_append, List.length_append]; rfl)⟩, (by rw [en_snoc]; rfl), (by rw [en_snoc]; rfl), ⟨u4, e4, eH4⟩, ?_⟩
  · rcases List.mem_append.1 hg with h | h
    · exact hF g h
    · rw [List.mem_singleton.1 h]; exact ⟨hb1, Nat.zero_le _⟩
  · rcases List.mem_append.1 hx with h | h
    · exact hN x h
    · rw [List.mem_singleton.1 h]; exact hb1
  · show _ = some (rdr 0 bs (q + ((k + 1 : Nat) : Int)))
    rw [show q + ((k + 1 : Nat) : Int) = q + k + 1 from by omega]
    rfl
set_option maxHeartbeats 2000000 in
theorem spoil_ok (bs : List UInt8) (hb : bs.length ≤ 2000) (p : Int) (hp : 0 ≤ p ∧ p ≤ 900000000000) (d : Dk) (hD : DOk d) : RC 116 [tDk d] bs p 300 fineDk tDk := by
  have hd := hD.fine
  have hcp := copyDk_ok d hd.s 1001 1002 1003
  refine RC.intro ok116 rfl (fun _ => rfl) fun X => ?_
  show wpa _ _ (.seq _ (.seq _ (.seq _ (.seq _ (.seq (.seq _ (.block 0 (.seq _ (.cond _ (ok116.sub [1, 1, 1, 1, 0, 1, 0, 1, 0]) (.seq _ (.cond _ (ok116.sub [1, 1, 1, 1, 0, 1, 0, 1, 1, 1, 0]) (.seq _ (.cond _ (ok116.sub [1, 1, 1, 1, 0, 1, 0, 1, 1, 1, 1, 1, 0]) (.seq _ (.cond _ (ok116.sub [1, 1, 1, 1, 0, 1, 0, 1, 1, 1, 1, 1, 1, 1, 0]) (.seq _ (.cond _ (ok116.sub [1, 1, 1, 1, 0, 1, 0, 1, 1, 1, 1, 1, 1, 1, 1, 1, 0]) (.seq _ (.cond _ (ok116.sub [1, 1, 1, 1, 0, 1, 0, 1, 1, 1, 1, 1, 1, 1, 1, 1, 1, 1, 0]) (.seq _ (.cond _ (ok116.sub [1, 1, 1, 1, 0, 1, 0, 1, 1, 1, 1, 1, 1, 1, 1, 1, 1, 1, 1, 1, 0]) (.seq _ (.cond _ (ok116.sub [1, 1, 1, 1, 0, 1, 0, 1, 1, 1, 1, 1, 1, 1, 1, 1, 1, 1, 1, 1, 1, 1, 0]) (.seq _ (.cond _ (ok116.sub [1, 1, 1, 1, 0, 1, 0, 1, 1, 1, 1, 1, 1, 1, 1, 1, 1, 1, 1, 1, 1, 1, 1, 1, 0]) (ok116.sub [1, 1, 1, 1, 0, 1, 0, 1, 1, 1, 1, 1, 1, 1, 1, 1, 1, 1, 1, 1, 1, 1, 1, 1, 1]))))))))))))))))))))) (.seq (ok116.sub [1, 1, 1, 1, 1, 0]) .ret)))))) _ _
  simp only [go_sem]
  refine callDk (ws := []) (ns := []) hcp rfl rfl rfl (by decide) ⟨rfl, ?_⟩
  by_cases g0 : ((d.files.length : Int) == 0) = true
  · simp only [go_sem, en_len, g0]
    refine ES.mk (p, ⟨[], [⟨#[97]⟩], []⟩) ⟨by simp only; omega, by simp only; omega, ⟨⟨Nat.zero_le _, by simp, Nat.zero_le _⟩, fun f h => (by cases h), fun x h => (by rw [List.mem_singleton.1 h]; decide), fun m h => (by cases h)⟩⟩ ?_
    simp only [go_sem, en_nil]
    rfl
  rw [Bool.not_eq_true] at g0
  have hpos : 0 < (d.files.length : Int) := by
    have : ¬ ((d.files.length : Int) = 0) := by simpa using g0
    omega
  have hf64 := hD.f
  obtain ⟨i, i0, i1, C1⟩ := pick_ok bs hb p d.files.length (by omega) (by omega)
  obtain ⟨i, rfl⟩ : ∃ m : Nat, i = m := ⟨i.toNat, (Int.toNat_of_nonneg i0).symm⟩
  obtain ⟨f, hx⟩ : ∃ x, d.files[i]? = some x := ⟨_, List.getElem?_eq_getElem (by omega)⟩
  have hd2 := (hD.files i f hx).data
  obtain ⟨k, k0, k1, C2⟩ := pick_ok bs hb (p + 1) 10 (by omega) (by omega)
  simp only [go_sem, en_len, g0]
  refine callRc (C1 0) rfl rfl rfl rfl rfl ⟨?_, ?_⟩
  · simp only [go_sem]
  simp only [go_sem]
  refine callRc (C2 0) rfl rfl rfl rfl rfl ⟨?_, ?_⟩
  · simp only [go_sem]
  have hq : 0 ≤ p ∧ p ≤ 900000000000 ∧ p ≤ p + 1 + 1 ∧ p + 1 + 1 ≤ p + 100 := by omega
  have hn := hD.n
  have hm := hD.m
  simp only [go_sem]
  by_cases b0 : (k == 0) = true
  · simp only [go_sem, b0]
    exact spl0 hb hq hd hx hd2 (by omega) (by omega) ⟨_, _, _, _, _, rfl, rfl, rfl, rfl, rfl, rfl, rfl, rfl, rfl, rfl⟩
  rw [Bool.not_eq_true] at b0
  by_cases b1 : (k == 1) = true
  · simp only [go_sem, b0, b1]
    exact spl1 hb hq hd hx hd2 (by omega) (by omega) ⟨_, _, _, _, _, rfl, rfl, rfl, rfl, rfl, rfl, rfl, rfl, rfl, rfl⟩
  rw [Bool.not_eq_true] at b1
  by_cases b2 : (k == 2) = true
  · simp only [go_sem, b0, b1, b2]
    exact spl2 hb hq hd hx hd2 (by omega) (by omega) ⟨_, _, _, _, _, rfl, rfl, rfl, rfl, rfl, rfl, rfl, rfl, rfl, rfl⟩
  rw [Bool.not_eq_true] at b2
  by_cases b3 : (k == 3) = true
  · simp only [go_sem, b0, b1, b2, b3]
    exact spl3 hb hq hd hx hd2 (by omega) (by omega) ⟨_, _, _, _, _, rfl, rfl, rfl, rfl, rfl, rfl, rfl, rfl, rfl, rfl⟩
  rw [Bool.not_eq_true] at b3
  by_cases b4 : (k == 4) = true
  · simp only [go_sem, b0, b1, b2, b3, b4]
    exact spl4 hb hq hd hx hd2 (by omega) (by omega) ⟨_, _, _, _, _, rfl, rfl, rfl, rfl, rfl, rfl, rfl, rfl, rfl, rfl⟩
  rw [Bool.not_eq_true] at b4
  by_cases b5 : (k == 5) = true
  · simp only [go_sem, b0, b1, b2, b3, b4, b5]
    exact spl5 hb hq hd hx hd2 (by omega) (by omega) ⟨_, _, _, _, _, rfl, rfl, rfl, rfl, rfl, rfl, rfl, rfl, rfl, rfl⟩
  rw [Bool.not_eq_true] at b5
  by_cases b6 : (k == 6) = true
  · simp only [go_sem, b0, b1, b2, b3, b4, b5, b6]
    exact spl6 hb hq hd hx hd2 (by omega) (by omega) ⟨_, _, _, _, _, rfl, rfl, rfl, rfl, rfl, rfl, rfl, rfl, rfl, rfl⟩
  rw [Bool.not_eq_true] at b6
  by_cases b7 : (k == 7) = true
  · simp only [go_sem, b0, b1, b2, b3, b4, b5, b6, b7]
    exact spl7 hb hq hd hx hd2 ⟨_, _, _, _, _, rfl, rfl, rfl, rfl, rfl, rfl, rfl, rfl, rfl, rfl⟩
  rw [Bool.not_eq_true] at b7
  by_cases b8 : (k == 8) = true
  · simp only [go_sem, b0, b1, b2, b3, b4, b5, b6, b7, b8]
    exact spl8 hb hq hd hx hd2 ⟨_, _, _, _, _, rfl, rfl, rfl, rfl, rfl, rfl, rfl, rfl, rfl, rfl⟩
  rw [Bool.not_eq_true] at b8
  simp only [go_sem, b0, b1, b2, b3, b4, b5, b6, b7, b8]
  exact spl9 hb hq ⟨_, _, _, _, _, rfl, rfl, rfl, rfl, rfl, rfl, rfl, rfl, rfl, rfl⟩ rfl rfl
end Go.V
set_option linter.unusedSimpArgs false
set_option maxRecDepth 20000
namespace Go.V
open Go.Proofs
def ok71 := okF.gu (P := Tryz.prog) tab Tryz.func71 Tryz.ntmps71 (by conv => lhs; cbv) (by kernel_rfl)
theorem any_ok (bs : List UInt8) (hb : bs.length ≤ 2000) (p : Int) (hp : 0 ≤ p ∧ p ≤ 600000000000) : RC 71 [] bs p 10000000 fineDk tDk := by
  obtain ⟨q, d, q0, q1, hD, C1⟩ := disk_ok bs hb p (by omega)
  obtain ⟨k, k0, k1, C2⟩ := pick_ok bs hb q 8 (by omega) (by omega)
  refine RC.intro ok71 rfl (fun _ => rfl) fun X => ?_
  simp only [go_sem]
  refine callRc (C1 0) rfl rfl rfl rfl rfl ⟨?_, ?_⟩
  · simp only [go_sem]
  simp only [go_sem]
  refine callRc (C2 0) rfl rfl rfl rfl rfl ⟨?_, ?_⟩
  · simp only [go_sem]
  by_cases g : (k == 0) = true
  · obtain ⟨q2, d', q20, q21, hd', C3⟩ := spoil_ok bs hb (q + 1) (by omega) d hD
    simp only [go_sem, g]
    refine callRc (C3 0) rfl rfl rfl rfl rfl ⟨?_, ?_⟩
    · simp only [go_sem]
    simp only [go_sem]
    refine ES.mk (q2, d') ⟨by simp only; omega, by simp only; omega, hd'⟩ ?_
    simp only [go_sem]
  · rw [Bool.not_eq_true] at g
    simp only [go_sem, g]
    refine ES.mk (q + 1, d) ⟨by simp only; omega, by simp only; omega, hD.fine⟩ ?_
    simp only [go_sem]
end Go.V
set_option linter.unusedSimpArgs false
set_option maxRecDepth 20000
namespace Go.V
open Go.Proofs
def ok72 := okF.gu (P := Tryz.prog) tab Tryz.func72 Tryz.ntmps72 (by conv => lhs; cbv) (by kernel_rfl)
def inv72 (bs : List UInt8) (p : Int) (n : Nat) (i : Nat) (σ : St) : Prop := ∃ (ke : List Int) (v : Nat), i ≤ n ∧ ke.length = i ∧ σ.t 0 = rP 0 ∧ σ.t 4 = .i ((n - i : Nat) : Int) ∧ σ.t 3 = .c (.own 5 v ke.length) ∧ σ.H 5 = some (.arr v true 1 3 (en eI ke)) ∧ σ.H 1000 = some (rdr 0 bs (p + i))
theorem keep45_ok (bs : List UInt8) (hb : bs.length ≤ 2000) (p : Int) (hp : 0 ≤ p ∧ p ≤ 900000000000) : RC 72 [] bs p 20 (fun ke : List Int => ke.length ≤ 10) (fun ke => tL (en eI ke)) := by
  obtain ⟨n, n0, n1, C1⟩ := pick_ok bs hb p 8 (by omega) (by omega)
  obtain ⟨n, rfl⟩ : ∃ m : Nat, n = m := ⟨n.toNat, (Int.toNat_of_nonneg n0).symm⟩
  refine RC.intro ok72 rfl (fun _ => rfl) fun X => ?_
  simp only [go_sem]
  refine callRc (C1 0) rfl rfl rfl rfl rfl ⟨?_, ?_⟩
  · simp only [go_sem]
  simp only [go_sem]
  refine AW.upto n (inv72 bs (p + 1) n) ⟨[], _, Nat.zero_le _, rfl, rfl, rfl, rfl, rfl, (by show _ = some (rdr 0 bs (p + 1 + ((0 : Nat) : Int))); rw [show ((0 : Nat) : Int) = 0 from rfl, Int.add_zero]; rfl)⟩ fun i t H c hi h => ?_
  obtain ⟨ke, v, hin, hl, e0, e4, e3, eH, eR⟩ := h
  simp only [T.c, T.i, rdr, rdC] at e0 e4 e3 eH eR
  have ht1 : (en eI ke).take ke.length = en eI ke := en_take eI ke
  by_cases k1 : ((n - i : Nat) : Int) > 0
  rotate_left
  · simp only [go_sem, e0, e4, e3, eH, eR, k1]
    refine ES.mk (p + 1 + i, ke) ⟨by simp only; omega, by simp only; omega, by simp only; omega⟩ ?_
    simp only [go_sem, e3, eH, eR, ht1, en_len]
  obtain ⟨j, j0, j1, C7⟩ := pick_ok bs hb (p + 1 + i) 6 (by omega) (by omega)
  obtain ⟨j, rfl⟩ : ∃ m : Nat, j = m := ⟨j.toNat, (Int.toNat_of_nonneg j0).symm⟩
  have hj6 : (j : Int) < ((6 : Nat) : Int) := j1
  obtain ⟨x, hx⟩ : ∃ x, ([0, 1, 5, -3, 9999, 40] : List Int)[j]? = some x := ⟨_, List.getElem?_eq_getElem (by simp only [List.length_cons, List.length_nil]; omega)⟩
  have ex := en_at eI hx
  simp only [en, List.map_cons, List.map_nil, eI] at ex
  have w2 : IntKind.i64.wrap (((n - i : Nat) : Int) - 1) = ((n - (i + 1) : Nat) : Int) := (wrap64 ⟨by omega, by omega⟩).trans (by omega)
  have hkl : ke.length ≤ 1000 := by omega
  have q1 : (ke.length + 1) * 8 ≤ 140737488355328 := by clear w2 hl; omega
  have q2 : ke.length ≤ 9223372036854775806 := by clear w2 hl q1; omega
  simp only [go_sem, e0, e4, e3, eH, eR, k1]
  refine callRc (C7 0) rfl rfl rfl rfl (by simp only [go_sem, eR]) ⟨?_, ?_⟩
  · simp only [go_sem]
  simp only [go_sem, e0, e4, e3, eH, eR, k1, j0, Int.toNat_natCast, ex, w2, ht1, q1, q2, en_len, hj6]
  refine ⟨by omega, ke ++ [x], c + 2 + 7, by omega, by rw [List.length_append, hl]; rfl, e0, rfl, ?_, ?_, ?_⟩
  · rw [List.length_append]; rfl
  · rw [en_snoc]; rfl
  · show _ = some (rdr 0 bs (p + 1 + ((i + 1 : Nat) : Int)))
    rw [show p + 1 + ((i + 1 : Nat) : Int) = p + 1 + i + 1 from by omega]
    rfl
abbrev tDkIs (x : Dk × Int × List Int) : T := .tup [.agg (cDk x.1), .one (.v (.s (.int .i64 x.2.1))), .one (.v (.sl (en eI x.2.2)))]
def ok23 := okF.gu (P := Tryz.prog) tab Tryz.func23 Tryz.ntmps23 (by conv => lhs; cbv) (by kernel_rfl)
theorem drawCut_ok (bs : List UInt8) : PC 23 [.c (.v (.sl (encB bs)))] (fun _ : Dk × Int × List Int => True) tDkIs := by
  have hb : (bs.take 2000).length ≤ 2000 := by rw [List.length_take]; omega
  obtain ⟨q, d, q0, q1, hd, C1⟩ := any_ok (bs.take 2000) hb 0 (by omega)
  obtain ⟨k, k0, k1, C2⟩ := pick_ok (bs.take 2000) hb q 8 (by omega) (by omega)
  obtain ⟨q2, ke, q20, q21, hke, C3⟩ := keep45_ok (bs.take 2000) hb (q + 1) (by omega)
  have w1 : IntKind.i64.wrap (k - 1) = k - 1 := wrap64 ⟨by omega, by omega⟩
  refine PC.intro ok23 rfl (fun _ => rfl) fun X => ?_
  simp only [go_sem]
  refine callOpen rfl rfl ⟨?_, ?_⟩
  · simp only [go_sem]
  simp only [go_sem]
  refine callRc (C1 _) rfl rfl rfl rfl rfl ⟨?_, ?_⟩
  · simp only [go_sem]
  simp only [go_sem]
  refine callRc (C2 _) rfl rfl rfl rfl rfl ⟨?_, ?_⟩
  · simp only [go_sem]
  simp only [go_sem, w1]
  refine callRc (C3 _) rfl rfl rfl rfl rfl ⟨?_, ?_⟩
  · simp only [go_sem]
  simp only [go_sem, w1]
  refine ES.mk (d, k - 1, ke) trivial ?_
  simp only [go_sem]
end Go.V
set_option linter.unusedSimpArgs false
set_option maxRecDepth 20000
namespace Go.V
open Go.Proofs
def zLA : LA := ⟨0, ⟨#[]⟩, false, 0, 0, []⟩
def playS (acts : List LA) : Prop := acts.length ≤ 1000 ∧ ∀ a ∈ acts, okA a
theorem playS.app {l m : List LA} (h : ∀ a ∈ l, okA a) (g : ∀ a ∈ m, okA a) : ∀ a ∈ l ++ m, okA a := fun a ha => (List.mem_append.1 ha).elim (h a) (g a)
def ok9 := okF.gu (P := Tryz.prog) tab Tryz.func9 Tryz.ntmps9 (by conv => lhs; cbv) (by kernel_rfl)
def inv9 (bs : List UInt8) (w : Nat) (i : Nat) (σ : St) : Prop := ∃ (acts : List LA) (v : Nat), i ≤ 45 ∧ acts.length = 1 + 2 * i ∧ (∀ a ∈ acts, okA a) ∧ σ.t 3 = rP w ∧ σ.t 5 = .i i ∧ σ.t 4 = .c (.own 21 v acts.length) ∧ σ.H 21 = some (.arr v true 6 32 (en eLA acts)) ∧ σ.H 1000 = some (rdr w bs (1 + 3 * i : Nat))
def inv9b (bs : List UInt8) (w : Nat) (i : Nat) (σ : St) : Prop := ∃ (acts : List LA) (v : Nat), i ≤ 30 ∧ acts.length = 1 + i ∧ (∀ a ∈ acts, okA a) ∧ σ.t 3 = rP w ∧ σ.t 7 = .i i ∧ σ.t 6 = .c (.own 46 v acts.length) ∧ σ.H 46 = some (.arr v true 6 32 (en eLA acts)) ∧ σ.H 1000 = some (rdr w bs 1)
set_option maxHeartbeats 2000000 in
theorem drawPlay_ok (bs : List UInt8) : PC 9 [.c (.v (.sl (encB bs)))] playS (fun a => tL (en eLA a)) := by
  have hb : (bs.take 2000).length ≤ 2000 := by rw [List.length_take]; omega
  obtain ⟨k, k0, k1, C1⟩ := pick_ok (bs.take 2000) hb 0 24 (by omega) (by omega)
  refine PC.intro ok9 rfl (fun _ => rfl) fun X => ?_
  simp only [go_sem]
  refine callOpen rfl rfl ⟨?_, ?_⟩
  · simp only [go_sem]
  simp only [go_sem]
  refine callRc (C1 _) rfl rfl rfl rfl rfl ⟨?_, ?_⟩
  · simp only [go_sem]
  by_cases g0 : (k == 0) = true
  · obtain ⟨j, j0, j1, C2⟩ := pick_ok (bs.take 2000) hb (0 + 1) 2 (by omega) (by omega)
    obtain ⟨j, rfl⟩ : ∃ m : Nat, j = m := ⟨j.toNat, (Int.toNat_of_nonneg j0).symm⟩
    have w1 : IntKind.i64.wrap (200 + (j : Int)) = ((200 + j : Nat) : Int) := (wrap64 ⟨by omega, by omega⟩).trans (by omega)
    have hz : (0 : Int) ≤ ((200 + j : Nat) : Int) := by omega
    have hl1 : (200 + j) * 72 ≤ 140737488355328 := by omega
    have hl2 : ((72 : Nat) : Int) * ((200 + j : Nat) : Int) ≤ 281474976710656 := by omega
    have hl3 : ((200 + j : Nat) : Int) ≤ 9223372036854775807 := by omega
    have hrep : List.replicate (200 + j) [V.s (.int .i64 0), V.s (.string ⟨#[]⟩), V.s (.bool false), V.s (.int .i64 0), V.s (.int .i64 0), V.sl []] = en eLA (List.replicate (200 + j) zLA) := by rw [en, List.map_replicate]; rfl
    have hrl : (List.replicate (200 + j) zLA).length = 200 + j := List.length_replicate
    simp only [go_sem, g0]
    refine callRc (C2 _) rfl rfl rfl rfl rfl ⟨?_, ?_⟩
    · simp only [go_sem]
    simp only [go_sem, w1, hz, hl1, hl2, hl3, Int.le_refl, Int.toNat_natCast, hrep]
    refine ES.mk (List.replicate (200 + j) zLA) ⟨by rw [hrl]; omega, fun a ha => by rw [List.eq_of_mem_replicate ha]; exact ⟨Nat.zero_le _, Nat.zero_le _⟩⟩ ?_
    have ht4 : (en eLA (List.replicate (200 + j) zLA)).take (200 + j) = en eLA (List.replicate (200 + j) zLA) := List.take_of_length_le (by rw [en_len, hrl]; exact Nat.le_refl _)
    simp only [go_sem, hrep, en_len, hrl, ht4]
  rw [Bool.not_eq_true] at g0
  by_cases g1 : (k == 1) = true
  · simp only [go_sem, g0, g1]
    refine AW.upto 45 (inv9 (bs.take 2000) _) ⟨[⟨4, ⟨#[]⟩, false, 0, 0, []⟩], _, Nat.zero_le _, rfl, (fun a h => by rw [List.mem_singleton.1 h]; exact ⟨Nat.zero_le _, Nat.zero_le _⟩), rfl, rfl, rfl, rfl, rfl⟩ fun i t H c hi h => ?_
    obtain ⟨acts, v, hin, hl, hok, e3, e5, e4, eH, eR⟩ := h
    simp only [T.c, T.i, rdr, rdC] at e3 e5 e4 eH eR
    have ht1 : (en eLA acts).take acts.length = en eLA acts := en_take eLA acts
    by_cases k1 : (i : Int) < 45
    rotate_left
    · obtain ⟨q, more, q0, q1, ⟨hm1, hm2, _⟩, C5⟩ := acts_ok (bs.take 2000) hb (1 + 3 * i : Nat) (by omega) 6 5 (by omega)
      have ht2 : (en eLA more).take more.length = en eLA more := en_take eLA more
      have hl1 : (acts.length + more.length) * 72 ≤ 140737488355328 := by omega
      have hl2 : acts.length + more.length ≤ 9223372036854775807 := by omega
      simp only [go_sem, e3, e5, e4, eH, eR, k1]
      refine callRc (C5 _) rfl rfl rfl rfl (by simp only [go_sem, eR]) ⟨?_, ?_⟩
      · simp only [go_sem]
      have ht3 : (en eLA acts ++ en eLA more).take (acts.length + more.length) = en eLA acts ++ en eLA more := List.take_of_length_le (by rw [List.length_append, en_len, en_len]; exact Nat.le_refl _)
      simp only [go_sem, e3, e5, e4, eH, eR, k1, en_len, ht1, hl1, hl2, en_all eLA eLA_len]
      refine ES.mk (acts ++ more) ⟨by rw [List.length_append]; omega, playS.app hok hm2⟩ ?_
      simp only [go_sem, e4, eH, en_app, en_len, ht3]
    obtain ⟨x0, x0l, x0h, D0⟩ := pick_ok (bs.take 2000) hb (1 + 3 * i : Nat) 9 (by omega) (by omega)
    obtain ⟨x1, x1l, x1h, D1⟩ := pick_ok (bs.take 2000) hb (((1 + 3 * i : Nat) : Int) + 1) 9 (by omega) (by omega)
    obtain ⟨x2, x2l, x2h, D2⟩ := pick_ok (bs.take 2000) hb (((1 + 3 * i : Nat) : Int) + 1 + 1) 4 (by omega) (by omega)
    have w2 : IntKind.i64.wrap ((i : Int) + 1) = ((i + 1 : Nat) : Int) := wrap64 (x := (i : Int) + 1) ⟨by omega, by omega⟩
    have l3 : (acts.length + 2) * 72 ≤ 140737488355328 := by omega
    have l4 : acts.length + 2 ≤ 9223372036854775807 := by omega
    have l3' : (acts.length + 1 + 1) * 72 ≤ 140737488355328 := by omega
    have l4' : acts.length ≤ 9223372036854775805 := by omega
    simp only [go_sem, e3, e5, e4, eH, eR, k1]
    refine callRc (D0 _) rfl rfl rfl rfl (by simp only [go_sem, eR]) ⟨?_, ?_⟩
    · simp only [go_sem]
    simp only [go_sem, e3]
    refine callRc (D1 _) rfl rfl rfl rfl rfl ⟨?_, ?_⟩
    · simp only [go_sem]
    simp only [go_sem, e3]
    refine callRc (D2 _) rfl rfl rfl rfl rfl ⟨?_, ?_⟩
    · simp only [go_sem]
    simp only [go_sem, e3, e5, e4, eH, k1, en_len, ht1, l3, l4, l3', l4', w2, ALV, List.not_mem_nil, false_implies, implies_true, and_self]
    obtain ⟨a2, ha2⟩ : ∃ a2 : LA, a2 = ⟨3, ⟨#[]⟩, x0 == 0, x1, x2, [9999]⟩ := ⟨_, rfl⟩
    refine ⟨by omega, acts ++ [⟨1, ⟨#[97]⟩, false, 0, 0, []⟩, a2], _, by omega, by rw [List.length_append, hl]; simp only [List.length_cons, List.length_nil]; omega, playS.app hok fun a ha => ?_, e3, rfl, by rw [List.length_append]; rfl, ?_, ?_⟩
    · simp only [List.mem_cons, List.not_mem_nil, or_false] at ha
      rcases ha with rfl | rfl
      · exact ⟨by decide, by simp⟩
      · rw [ha2]; exact ⟨Nat.zero_le _, by simp⟩
    · rw [en_app, ha2]; rfl
    · show _ = some (rdr _ _ _)
      rw [show ((1 + 3 * (i + 1) : Nat) : Int) = ((1 + 3 * i : Nat) : Int) + 1 + 1 + 1 from by omega]
      rfl
  rw [Bool.not_eq_true] at g1
  by_cases g2 : (k == 2) = true
  · simp only [go_sem, g0, g1, g2]
    refine AW.upto 30 (inv9b (bs.take 2000) _) ⟨[⟨4, ⟨#[]⟩, false, 0, 0, []⟩], _, Nat.zero_le _, rfl, (fun a h => by rw [List.mem_singleton.1 h]; exact ⟨Nat.zero_le _, Nat.zero_le _⟩), rfl, rfl, rfl, rfl, rfl⟩ fun i t H c hi h => ?_
    obtain ⟨acts, v, hin, hl, hok, e3, e7, e6, eH, eR⟩ := h
    simp only [T.c, T.i, rdr, rdC] at e3 e7 e6 eH eR
    have ht1 : (en eLA acts).take acts.length = en eLA acts := en_take eLA acts
    by_cases k1 : (i : Int) < 30
    rotate_left
    · obtain ⟨q, more, q0, q1, ⟨hm1, hm2, _⟩, C5⟩ := acts_ok (bs.take 2000) hb 1 (by omega) 6 5 (by omega)
      have hl1 : (acts.length + more.length) * 72 ≤ 140737488355328 := by omega
      have hl2 : acts.length + more.length ≤ 9223372036854775807 := by omega
      simp only [go_sem, e3, e7, e6, eH, eR, k1]
      refine callRc (C5 _) rfl rfl rfl rfl (by simp only [go_sem, eR]) ⟨?_, ?_⟩
      · simp only [go_sem]
      have ht3 : (en eLA acts ++ en eLA more).take (acts.length + more.length) = en eLA acts ++ en eLA more := List.take_of_length_le (by rw [List.length_append, en_len, en_len]; exact Nat.le_refl _)
      simp only [go_sem, e3, e7, e6, eH, eR, k1, en_len, ht1, hl1, hl2, en_all eLA eLA_len]
      refine ES.mk (acts ++ more) ⟨by rw [List.length_append]; omega, playS.app hok hm2⟩ ?_
      simp only [go_sem, e6, eH, en_app, en_len, ht3]
    have w2 : IntKind.i64.wrap ((i : Int) + 1) = ((i + 1 : Nat) : Int) := wrap64 (x := (i : Int) + 1) ⟨by omega, by omega⟩
    have l3 : (acts.length + 1) * 72 ≤ 140737488355328 := by omega
    have l4 : acts.length ≤ 9223372036854775806 := by omega
    simp only [go_sem, e3, e7, e6, eH, eR, k1, en_len, ht1, l3, l4, w2, ALV, List.not_mem_nil, false_implies, implies_true, and_self]
    refine ⟨by omega, acts ++ [⟨3, ⟨#[]⟩, true, 4, 2, [9999, 9999, 5]⟩], _, by omega, by rw [List.length_append, hl]; simp only [List.length_cons, List.length_nil]; omega, playS.app hok fun a ha => ?_, e3, rfl, by rw [List.length_append]; rfl, ?_, eR⟩
    · rw [List.mem_singleton.1 ha]; exact ⟨Nat.zero_le _, by simp⟩
    · rw [en_app]; rfl
  rw [Bool.not_eq_true] at g2
  obtain ⟨q, acts, q0, q1, ⟨hm1, hm2, _⟩, C5⟩ := acts_ok (bs.take 2000) hb (0 + 1) (by omega) 16 3 (by omega)
  simp only [go_sem, g0, g1, g2]
  refine callRc (C5 _) rfl rfl rfl rfl rfl ⟨?_, ?_⟩
  · simp only [go_sem]
  simp only [go_sem]
  refine ES.mk acts ⟨by omega, hm2⟩ ?_
  simp only [go_sem]
end Go.V

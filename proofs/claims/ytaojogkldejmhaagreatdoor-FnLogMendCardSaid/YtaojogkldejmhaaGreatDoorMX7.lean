/- The Go function laws.FnLogMend returns true for every input, in the program's own Lean form: however power was lost, the log can be mended, and goes on. Conditions: those of the given row and card. -/
import Derived.Test.YtaojogkldejmhaaGreatDoorMX6
import Derived.Test.YtaojogkldejmhaaGreatDoorMK1
set_option linter.unusedVariables false
set_option linter.unusedSimpArgs false
set_option maxRecDepth 20000
namespace Go.V
open Go.Proofs
def ok42 := okF.gu (P := Tryz.prog) tab Tryz.func42 Tryz.ntmps42 (by conv => lhs; cbv) (by kernel_rfl)
def encB (bs : List UInt8) : List (List V) := bs.map fun b => [.s (.int .u8 b.toNat)]
theorem encB_len (bs : List UInt8) : (encB bs).length = bs.length := by simp [encB]
theorem encB_at {bs : List UInt8} {i : Nat} {b : UInt8} (h : bs[i]? = some b) : (encB bs)[i]? = some [.s (.int .u8 b.toNat)] := by simp [encB, h]
/-- The reader: its bytes, and the place. -/
abbrev rdC (bs : List UInt8) (p : Int) : List C := [.v (.sl (encB bs)), .v (.s (.int .i64 p))]
abbrev rdr (v : Nat) (bs : List UInt8) (p : Int) : Blk := .var v 131 (rdC bs p)
abbrev rH (v : Nat) (bs : List UInt8) (p p' : Int) : Hand := rV v 131 (rdC bs p) (rdC bs p')
theorem xor_nonneg {a b : Int} (ha : 0 ≤ a ∧ a ≤ 9223372022854775807) (hb : 0 ≤ b ∧ b ≤ 9223372022854775807) : 0 ≤ IntKind.i64.wrap ((BitVec.ofInt IntKind.i64.bits a ^^^ BitVec.ofInt IntKind.i64.bits b).toNat : Int) := by
  have h1 : (BitVec.ofInt 64 a).toNat < 2 ^ 63 := by rw [BitVec.toNat_ofInt]; omega
  have h2 : (BitVec.ofInt 64 b).toNat < 2 ^ 63 := by rw [BitVec.toNat_ofInt]; omega
  have h3 : (BitVec.ofInt 64 a ^^^ BitVec.ofInt 64 b).toNat < 2 ^ 63 := by rw [BitVec.toNat_xor]; exact Nat.xor_lt_two_pow h1 h2
  show 0 ≤ IntKind.i64.wrap ((BitVec.ofInt 64 a ^^^ BitVec.ofInt 64 b).toNat : Int)
  rw [wrap64 (by omega)]
  omega
set_option maxRecDepth 100000 in
theorem pick_ok (bs : List UInt8) (hb : bs.length ≤ 2000) (p n : Int) (hp : 0 ≤ p ∧ p ≤ 1000000000000) (hn : 0 < n ∧ n ≤ 9223372022854775807) : ∃ k : Int, 0 ≤ k ∧ k < n ∧ ∀ v, ACallsF Tryz.prog 42 [rP v, .i n] [rH v bs p (p + 1)] (.i k) := by
  have hw : IntKind.i64.wrap (p + 1) = p + 1 := wrap64 (by omega)
  have hw2 : IntKind.i64.wrap (p + 1 - 1) = p := (wrap64 (x := p + 1 - 1) ⟨by omega, by omega⟩).trans (by omega)
  have h1 : ¬ n < 1 := by omega
  have hn0 : ¬ n = 0 := by omega
  by_cases hb0 : bs.length = 0
  · refine ⟨0, by omega, by omega, fun v => ACallsF.intro ok42 follows fun X c0 => ?_⟩
    have hbz : ((bs.length : Int) == 0) = true := by simp [hb0]
    simp only [go_sem, encB_len, hw, hw2, h1, hbz]
  · have hbz : ((bs.length : Int) == 0) = false := beq_eq_false_iff_ne.2 (by omega)
    by_cases hlt : p < bs.length
    · have hp0 := hp.1
      obtain ⟨i, rfl⟩ : ∃ i : Nat, p = i := ⟨p.toNat, (Int.toNat_of_nonneg hp0).symm⟩
      have hi : i < bs.length := by omega
      have e1 := encB_at (List.getElem?_eq_getElem hi)
      have hr := Int.emod_lt_of_pos (bs[i].toNat : Int) hn.1
      have hr2 := Int.emod_nonneg (bs[i].toNat : Int) hn0
      have hu : ((bs[i].toNat : Int)) < 256 := by have := bs[i].toNat_lt; omega
      have hwu : IntKind.i64.wrap (bs[i].toNat : Int) = bs[i].toNat := wrap64 (by omega)
      refine ⟨(bs[i].toNat : Int) % n, hr2, hr, fun v => ACallsF.intro ok42 follows fun X c0 => ?_⟩
      have ht : (bs[i].toNat : Int).tmod n = (bs[i].toNat : Int) % n := Int.tmod_eq_emod_of_nonneg (by omega)
      simp only [go_sem, encB_len, hw, hw2, h1, hbz, hlt, e1, hp0, Int.toNat_natCast, hwu, hn0, ht]
    · have hp0 := hp.1
      obtain ⟨k, rfl⟩ : ∃ i : Nat, p = i := ⟨p.toNat, (Int.toNat_of_nonneg hp0).symm⟩
      obtain ⟨l, hl⟩ : ∃ l : Nat, bs.length = l := ⟨_, rfl⟩
      rw [hl] at hb hb0 hbz hlt
      obtain ⟨q, hq⟩ : ∃ q : Nat, k / l = q := ⟨_, rfl⟩
      have hql : q ≤ k := by rw [← hq]; exact Nat.div_le_self _ _
      have t1 : (k : Int).tmod l = ((k % l : Nat) : Int) := rfl
      have t2 : ((k : Int) * 7 + 3).tmod l = (((k * 7 + 3) % l : Nat) : Int) := rfl
      have t3 : (k : Int).tdiv l = (q : Int) := by rw [← hq]; rfl
      have hl0 : ¬ (l : Int) = 0 := by omega
      obtain ⟨i, hi⟩ : ∃ i : Nat, k % l = i := ⟨_, rfl⟩
      obtain ⟨j, hj⟩ : ∃ j : Nat, (k * 7 + 3) % l = j := ⟨_, rfl⟩
      rw [hi] at t1
      rw [hj] at t2
      have hi2 : i < bs.length := by rw [← hi, hl]; exact Nat.mod_lt _ (by omega)
      have hj2 : j < bs.length := by rw [← hj, hl]; exact Nat.mod_lt _ (by omega)
      have e1 := encB_at (List.getElem?_eq_getElem hi2)
      have e2 := encB_at (List.getElem?_eq_getElem hj2)
      have hu1 := bs[i].toNat_lt
      have hu2 := bs[j].toNat_lt
      generalize bs[i].toNat = a at e1 hu1
      generalize bs[j].toNat = b at e2 hu2
      obtain ⟨x, hx⟩ : ∃ x : Int, (a : Int) * 131 + (b : Int) * 1117 + (k : Int) * 29 + (q : Int) * 53 = x := ⟨_, rfl⟩
      have hx0 : 0 ≤ x ∧ x ≤ 100000000000000 := by omega
      have t4 : IntKind.i64.wrap (x.tdiv 64) = x / 64 := IntWalk.i64_quo x 64 (by omega)
      obtain ⟨y, hy⟩ : ∃ y : Int, IntKind.i64.wrap ((BitVec.ofInt 64 x ^^^ BitVec.ofInt 64 (x / 64)).toNat : Int) = y := ⟨_, rfl⟩
      have hy0 : 0 ≤ y := by rw [← hy]; exact xor_nonneg (by omega) (by omega)
      have t5 : y.tmod n = y % n := Int.tmod_eq_emod_of_nonneg hy0
      have hz1 : (0 : Int) ≤ i := by omega
      have hz2 : (0 : Int) ≤ j := by omega
      have hz3 : ¬ (64 : Int) = 0 := by omega
      obtain ⟨p0, hp1⟩ : ∃ p0 : Int, (k : Int) + 1 = p0 := ⟨_, rfl⟩
      rw [hp1] at hw
      have w0 : IntKind.i64.wrap (p0 - 1) = k := by rw [← hp1]; exact (wrap64 ⟨by omega, by omega⟩).trans (by omega)
      have w1 : IntKind.i64.wrap (a : Int) = a := wrap64 ⟨by omega, by omega⟩
      have w2 : IntKind.i64.wrap ((a : Int) * 131) = (a : Int) * 131 := wrap64 ⟨by omega, by omega⟩
      have w3 : IntKind.i64.wrap ((k : Int) * 7) = (k : Int) * 7 := wrap64 ⟨by omega, by omega⟩
      have w4 : IntKind.i64.wrap ((k : Int) * 7 + 3) = (k : Int) * 7 + 3 := wrap64 ⟨by omega, by omega⟩
      have w5 : IntKind.i64.wrap (b : Int) = b := wrap64 ⟨by omega, by omega⟩
      have w6 : IntKind.i64.wrap ((b : Int) * 1117) = (b : Int) * 1117 := wrap64 ⟨by omega, by omega⟩
      have w7 : IntKind.i64.wrap ((a : Int) * 131 + (b : Int) * 1117) = (a : Int) * 131 + (b : Int) * 1117 := wrap64 ⟨by omega, by omega⟩
      have w8 : IntKind.i64.wrap ((k : Int) * 29) = (k : Int) * 29 := wrap64 ⟨by omega, by omega⟩
      have w9 : IntKind.i64.wrap ((a : Int) * 131 + (b : Int) * 1117 + (k : Int) * 29) = (a : Int) * 131 + (b : Int) * 1117 + (k : Int) * 29 := wrap64 ⟨by omega, by omega⟩
      have w10 : IntKind.i64.wrap (q : Int) = q := wrap64 ⟨by omega, by omega⟩
      have w11 : IntKind.i64.wrap ((q : Int) * 53) = (q : Int) * 53 := wrap64 ⟨by omega, by omega⟩
      have w12 : IntKind.i64.wrap x = x := wrap64 ⟨by omega, by omega⟩
      refine ⟨y % n, Int.emod_nonneg _ hn0, Int.emod_lt_of_pos _ hn.1, fun v => ACallsF.intro ok42 follows fun X c0 => ?_⟩
      simp only [go_sem, encB_len, hl, hw, w0, hp1, h1, hbz, hlt, hl0, t1, t2, t3, e1, e2, hz1, hz2, Int.toNat_natCast, w1, w2, w3, w4, w5, w6, w7, w8, w9, w10, w11, hn0, hx, w12, t4, hz3]
      show T.pt (P1.one (C.v (V.s (Value.int IntKind.i64 ((IntKind.i64.wrap ((BitVec.ofInt 64 x ^^^ BitVec.ofInt 64 (x / 64)).toNat : Int)).tmod n))))) = _
      rw [hy, t5]

section
variable {t : Nat → T} {H : HMap} {c : Nat} {f : Opd} {args : List Opd} {fid : FuncId} {v : Nat} {bs : List UInt8} {p p' : Int} {argsC : List T} {ws : List (Nat × Blk)} {ns : List Nat} {r : T} {k : Nat} {d : Option Nat} {un : List Nat} {l : List AOper} {prev : List (Nat × List Nat × List Nat)} {K : St → Prop}
theorem callR (hC : ACallsF Tryz.prog fid (rP v :: argsC) [rH v bs p p'] r) (hf : ev t f = .pt (.one (.fn fid []))) (hl : lendTs H (rP v :: argsC) (args.map (ev t)) = some (rP v :: argsC, ws, ns))
    (ha : argsC.all closedA = true) (hr : closedT r = true) (hH : updH H ws 1000 = some (rdr v bs p))
    (hk : chk prev un ⟨r, ws ++ [(1000, rdr v bs p')], ns ++ [1000], ns ++ [1000]⟩ = true ∧ DRun Tryz.prog l ((k, ns ++ [1000], ns ++ [1000]) :: prev) K ⟨updD t d r, updH H (ws ++ [(1000, rdr v bs p')]), c⟩) :
    step Tryz.prog k d un (.call f args) l prev K t H c :=
  callV (n := 1000) (v := v) (ty := 131) (xs := [.sl (encB bs), .s (.int .i64 p)]) (ys := [.sl (encB bs), .s (.int .i64 p')]) hC hf hl ha hr hH hk
/-- .. where the arguments are closed already. -/
theorem callRc (hC : ACallsF Tryz.prog fid (rP v :: argsC) [rH v bs p p'] r) (hf : ev t f = .pt (.one (.fn fid []))) (hl : args.map (ev t) = rP v :: argsC)
    (ha : argsC.all closedA = true) (hr : closedT r = true) (hH : H 1000 = some (rdr v bs p))
    (hk : chk prev un ⟨r, [(1000, rdr v bs p')], [1000], [1000]⟩ = true ∧ DRun Tryz.prog l ((k, [1000], [1000]) :: prev) K ⟨updD t d r, upd H 1000 (some (rdr v bs p')), c⟩) :
    step Tryz.prog k d un (.call f args) l prev K t H c := by
  refine callR (ws := []) (ns := []) hC hf ?_ ha hr hH hk
  rw [hl]
  simp only [lendTs, rP, lendT, lendC, Option.map_some, (closed_As [] H argsC ha).1, List.append_nil]
end
/-- What comes of a function that draws: so many bytes are read at most, the result is such as S says. -/
def RC (f : Nat) (args : List T) (bs : List UInt8) (p k : Int) {α : Type} (S : α → Prop) (r : α → T) : Prop := ∃ (q : Int) (a : α), p ≤ q ∧ q ≤ p + k ∧ S a ∧ ∀ v, ACallsF Tryz.prog f (rP v :: args) [rH v bs p q] (r a)
abbrev endR {α : Type} (p k : Int) (S : α → Prop) (r : α → T) (bs : List UInt8) (rs : List ARes) : Exit → St → Prop := endE (α := Int × α) (fun x => p ≤ x.1 ∧ x.1 ≤ p + k ∧ S x.2) (fun x => r x.2) (fun x => [rH 0 bs p x.1]) rs
theorem RC.intro {f n : Nat} {ac : ACode} {rs : List ARes} {args : List T} {bs : List UInt8} {p k : Int} {α : Type} {S : α → Prop} {r : α → T} (ho : okF Tryz.prog f n ac rs) (ha : args.all closedA = true) (hr : ∀ a, closedT (r a) = true)
    (h : ∀ X : Ctx, wpa Tryz.prog X ac (endR p k S r bs rs) ⟨argsT (rP 0 :: args), hinOf [rH 0 bs p p], 1⟩) : RC f args bs p k S r := by
  obtain ⟨⟨q, a⟩, ⟨h1, h2, h3⟩, h4⟩ := ACallsF.exR (α := Int × α) (cs' := fun x => rdC bs x.1) (fun x => p ≤ x.1 ∧ x.1 ≤ p + k ∧ S x.2) ho follows ha (fun a _ => hr a.2) rfl (fun _ _ => rfl) h
  exact ⟨q, a, h1, h2, h3, h4⟩
def ok146 := okF.gu (P := Tryz.prog) tab Tryz.func146 Tryz.ntmps146 (by conv => lhs; cbv) (by kernel_rfl)
theorem of_ok (bs : List UInt8) (hb : bs.length ≤ 2000) (p : Int) (hp : 0 ≤ p ∧ p ≤ 1000000000000) (ss : List ByteArray) (hs : 0 < ss.length ∧ ss.length ≤ 1000000) : RC 146 [tL (en eS ss)] bs p 1 (fun s => s ∈ ss) tS := by
  obtain ⟨k, h1, h2, hC⟩ := pick_ok bs hb p ss.length hp (by omega)
  obtain ⟨i, rfl⟩ : ∃ i : Nat, k = i := ⟨k.toNat, (Int.toNat_of_nonneg h1).symm⟩
  have hi : i < ss.length := by omega
  have e1 := en_at eS (List.getElem?_eq_getElem hi)
  refine RC.intro ok146 rfl (fun _ => rfl) fun X => ?_
  simp only [go_sem]
  refine callRc (hC 0) rfl rfl rfl rfl rfl ⟨rfl, ?_⟩
  simp only [go_sem, e1, h1, eS]
  refine ES.mk (p + 1, ss[i]) ⟨by omega, by omega, List.getElem_mem hi⟩ ?_
  simp only [go_sem]
def ok41 := okF.gu (P := Tryz.prog) tab Tryz.func41 Tryz.ntmps41 (by conv => lhs; cbv) (by kernel_rfl)
theorem encB_all1 (bs : List UInt8) : (∀ e ∈ encB bs, e.length = 1) = True := eq_true fun e he => by simp only [encB, List.mem_map] at he; obtain ⟨_, _, rfl⟩ := he; rfl
theorem take_encB (bs : List UInt8) (n : Nat) : (encB bs).take n = encB (bs.take n) := by simp [encB, List.map_take]
theorem open_ok (bs : List UInt8) : ACallsF Tryz.prog 41 [.c (.v (.sl (encB bs)))] [⟨10, 1000, none, rdr 0 (bs.take 2000) 0, false⟩] (.c (.ptr 10 0 0)) := by
  refine ACallsF.intro ok41 follows fun X c0 => ?_
  by_cases h : (bs.length : Int) > 2000
  · have h0 : (0 : Int) ≤ 2000 := by omega
    have h1 : (2000 : Int) ≤ bs.length := by omega
    simp only [go_sem, encB_len, h, lohi, h0, h1, encB_all1, Int.reduceToNat, Nat.sub_zero, take_encB, rdr, rdC, Int.le_refl, List.drop_zero]
    exact id
  · have ht : bs.take 2000 = bs := List.take_of_length_le (by omega)
    simp only [go_sem, encB_len, h, ht, rdr, rdC]
    exact id
theorem callOpen {t : Nat → T} {H : HMap} {c : Nat} {f : Opd} {args : List Opd} {bs : List UInt8} {k : Nat} {d : Option Nat} {un : List Nat} {l : List AOper} {prev : List (Nat × List Nat × List Nat)} {K : St → Prop}
    (hf : ev t f = .pt (.one (.fn 41 []))) (hl : args.map (ev t) = [.c (.v (.sl (encB bs)))])
    (hk : chk prev un ⟨rP (c + k), [(1000, rdr (c + k) (bs.take 2000) 0)], [1000], [1000]⟩ = true ∧ DRun Tryz.prog l ((k, [1000], [1000]) :: prev) K ⟨updD t d (rP (c + k)), upd H 1000 (some (rdr (c + k) (bs.take 2000) 0)), c⟩) :
    step Tryz.prog k d un (.call f args) l prev K t H c :=
  callW (r' := rP (c + k)) (ob := [(1000, rdr (c + k) (bs.take 2000) 0)]) [⟨10, 1000, none, rdr 0 (bs.take 2000) 0, false⟩] (open_ok bs) hf (show lendTs H [.c (.v (.sl (encB bs)))] (args.map (ev t) ++ [].map capT) = some ([.c (.v (.sl (encB bs)))], [], []) from by rw [hl]; rfl) rfl (by simp [handsIn]) (by simp) (by simp) rfl rfl hk
end Go.V
set_option linter.unusedSimpArgs false
set_option maxRecDepth 20000
namespace Go.V
open Go.Proofs
def ok107 := okF.gu (P := Tryz.prog) tab Tryz.func107 Tryz.ntmps107 (by conv => lhs; cbv) (by kernel_rfl)
def inv107 (N : Nat) (B : Nat) (i : Nat) (σ : St) : Prop := ∃ (m : Nat) (s out : ByteArray), m + i ≤ N ∧ out.size + s.size * m = B ∧ s.size ≤ 2 * B + 1 ∧ σ.t 0 = tS s ∧ σ.t 1 = .i m ∧ σ.t 5 = tS out
theorem many_ok (s : ByteArray) (n : Nat) (hn : n ≤ 1000000 ∧ 0 < n) (hs : s.size ≤ 1000) : PC 107 [tS s, .i n] (fun o : ByteArray => o.size = s.size * n) tS := by
  refine PC.intro ok107 rfl (fun _ => rfl) fun X => ?_
  have hB : s.size * n ≤ 1000000000 := by have := Nat.mul_le_mul hs hn.1; omega
  have hB0 : s.size ≤ s.size * n := Nat.le_mul_of_pos_right _ hn.2
  simp only [go_sem]
  refine AW.upto n (inv107 n (s.size * n)) ⟨n, s, ⟨#[]⟩, by omega, (by show 0 + _ = _; rw [Nat.zero_add]), by omega, rfl, rfl, rfl⟩ fun i t H c hi h => ?_
  obtain ⟨m, s', out, h1, h2, h3, e0, e1, e5⟩ := h
  simp only [T.c, T.i, T.s] at e0 e1 e5
  by_cases hm : (m : Int) > 0
  · have hz : ¬ (2 : Int) = 0 := by omega
    have hr : (m : Int).tmod 2 = ((m % 2 : Nat) : Int) := rfl
    have hq : (m : Int).tdiv 2 = ((m / 2 : Nat) : Int) := rfl
    have gw1 : IntKind.i64.wrap ((m / 2 : Nat) : Int) = ((m / 2 : Nat) : Int) := wrap64 ⟨by omega, by omega⟩
    have hl2 : fits s' s' := (by omega : s'.size + s'.size ≤ 9223372036854775807)
    obtain ⟨q, hq0⟩ : ∃ q, m / 2 = q := ⟨_, rfl⟩
    rcases Nat.mod_two_eq_zero_or_one m with hp | hp
    · have hb : (((m % 2 : Nat) : Int) == 1) = false := by rw [hp]; rfl
      simp only [go_sem, e0, e1, e5, hm, hz, hr, hq, gw1, hb, sStr, hl2]
      refine ⟨by omega, q, s' ++ s', out, by omega, ?_, ?_, rfl, (by rw [← hq0]; rfl), e5⟩
      · have hmq : m = 2 * q := by omega
        rw [ByteArray.size_append, ← h2, hmq, Nat.add_mul, Nat.two_mul, Nat.mul_add]
      · rw [ByteArray.size_append]
        have : s'.size * 2 ≤ s'.size * m := Nat.mul_le_mul_left _ (by omega)
        omega
    · have hb : (((m % 2 : Nat) : Int) == 1) = true := by rw [hp]; rfl
      have hl1 : fits out s' := by
        have : s'.size * 1 ≤ s'.size * m := Nat.mul_le_mul_left _ (by omega)
        exact (by omega : out.size + s'.size ≤ 9223372036854775807)
      simp only [go_sem, e0, e1, e5, hm, hz, hr, hq, gw1, hb, sStr, hl1, hl2]
      refine ⟨by omega, q, s' ++ s', out ++ s', by omega, ?_, ?_, rfl, (by rw [← hq0]; rfl), rfl⟩
      · have hmq : m = 2 * q + 1 := by omega
        rw [ByteArray.size_append, ByteArray.size_append, ← h2, hmq, Nat.add_mul, Nat.mul_add, Nat.two_mul, Nat.mul_add]; omega
      · rw [ByteArray.size_append]
        have : s'.size * 1 ≤ s'.size * m := Nat.mul_le_mul_left _ (by omega)
        omega
  · simp only [go_sem, e0, e1, e5, hm]
    have hm0 : m = 0 := by omega
    subst hm0
    refine ES.mk out (by simpa using h2) ?_
    simp only [go_sem]
end Go.V
set_option linter.unusedSimpArgs false
set_option maxRecDepth 20000
namespace Go.V
open Go.Proofs
def eLA (a : LA) : List V := [.s (.int .i64 a.kind), .s (.string a.data), .s (.bool a.cuts), .s (.int .i64 a.after), .s (.int .i64 a.moves), .sl (en eI a.keep)]
theorem eLA_len (a : LA) : (eLA a).length = 6 := rfl
def okA (a : LA) : Prop := a.data.size ≤ 1000000 ∧ a.keep.length ≤ 1000000
abbrev tDIs (x : Dk × List Int) : T := .tup [.agg (cDk x.1), .one (.v (.sl (en eI x.2)))]
theorem stepR_ok {d : Dk} (hD : DOk d) (a : LA) : DOk (stepR d a).1 := by
  by_cases h : (stepR d a).2.2 = 0
  · exact (step_zero hD h).2.2.2.2.2
  · exact (step_no hD h).2.1
/-- Acts, one behind the other. -/
def playG : Dk × List Int → List LA → Dk × List Int
  | x, [] => x
  | x, a :: l => playG ((stepR x.1 a).1, x.2 ++ [(stepR x.1 a).2.2]) l
def playR (acts : List LA) : Dk × List Int := if 200 < acts.length then (zDk, []) else playG (zDk, []) acts
theorem playG_snoc (a : LA) : ∀ (l : List LA) (x : Dk × List Int), playG x (l ++ [a]) = ((stepR (playG x l).1 a).1, (playG x l).2 ++ [(stepR (playG x l).1 a).2.2])
  | [], x => rfl
  | b :: l, x => by rw [List.cons_append, playG, playG_snoc a l, playG]
theorem playG_ok : ∀ (l : List LA) (x : Dk × List Int), DOk x.1 → DOk (playG x l).1
  | [], _, h => h
  | a :: l, x, h => playG_ok l _ (stepR_ok h a)
theorem playG_len : ∀ (l : List LA) (x : Dk × List Int), (playG x l).2.length = x.2.length + l.length
  | [], _ => rfl
  | a :: l, x => by rw [playG, playG_len l]; simp only [List.length_append, List.length_cons, List.length_nil]; omega
theorem playR_ok (acts : List LA) : DOk (playR acts).1 := by
  unfold playR
  split
  · exact zDk_ok
  · exact playG_ok _ _ zDk_ok
theorem playG_take {acts : List LA} {i : Nat} {a : LA} (h : acts[i]? = some a) (x : Dk × List Int) : playG x (acts.take (i + 1)) = ((stepR (playG x (acts.take i)).1 a).1, (playG x (acts.take i)).2 ++ [(stepR (playG x (acts.take i)).1 a).2.2]) := by
  rw [take_snoc h, playG_snoc]
def ok16 := okF.gu (P := Tryz.prog) tab Tryz.func16 Tryz.ntmps16 (by conv => lhs; cbv) (by kernel_rfl)
def isDk (cs : List C) (d : Dk) : Prop := (cs = [.nil0, .nil0, .nil0] ∧ d = zDk) ∨ cs = cDk d
def inv16 (acts : List LA) (i : Nat) (σ : St) : Prop := ∃ d codes cs v, (d, codes) = playG (zDk, []) (acts.take i) ∧ isDk cs d ∧ codes.length = i ∧ σ.t 0 = tL (en eLA acts) ∧ (∃ u, σ.t 2 = .c (.ptr 2 u 0) ∧ σ.H 2 = some (.var u 29 [.nil0, .nil0, .nil0])) ∧ (∃ u, σ.t 4 = .c (.ptr 4 u 0) ∧ σ.H 4 = some (.var u 29 cs)) ∧ σ.t 6 = .i i ∧ σ.t 5 = .c (.own 11 v codes.length) ∧ σ.H 11 = some (.arr v true 1 3 (en eI codes))
set_option maxHeartbeats 1000000 in
theorem logPlay_ok (acts : List LA) (ha : ∀ a ∈ acts, okA a) : ACallsF Tryz.prog 16 [tL (en eLA acts)] [] (tDIs (playR acts)) := by
  refine ACallsF.intro ok16 follows fun X c0 => ?_
  by_cases g1 : (acts.length : Int) > 200
  · have e : playR acts = (zDk, []) := if_pos (by omega)
    rw [e]
    simp only [go_sem, en_len, g1, zDk, en_nil]
  have e : playR acts = playG (zDk, []) acts := if_neg (by omega)
  rw [e]
  simp only [go_sem, en_len, g1]
  refine AW.upto acts.length (inv16 acts) ⟨zDk, [], _, _, rfl, .inl ⟨rfl, rfl⟩, rfl, rfl, ⟨_, rfl, rfl⟩, ⟨_, rfl, rfl⟩, rfl, rfl, rfl⟩ fun i t H c hi h => ?_
  obtain ⟨d, codes, cs, v, hpl, hcs, hl, e0, ⟨u2, e2, eH2⟩, ⟨u4, e4, eH4⟩, e6, e5, eH5⟩ := h
  simp only [T.c, T.i, tL] at e0 e2 eH2 e4 eH4 e6 e5 eH5
  have ht1 : (en eI codes).take codes.length = en eI codes := en_take eI codes
  by_cases k1 : (i : Int) < acts.length
  rotate_left
  · have hi2 : i = acts.length := by omega
    rw [hi2, List.take_length] at hpl
    rw [← hpl]
    rcases hcs with ⟨rfl, rfl⟩ | rfl
    · simp only [go_sem, e0, e2, eH2, e4, eH4, e6, e5, eH5, en_len, k1, ht1, zDk, en_nil]
    · simp only [go_sem, e0, e2, eH2, e4, eH4, e6, e5, eH5, en_len, k1, ht1]
  obtain ⟨a, hx⟩ : ∃ x, acts[i]? = some x := ⟨_, List.getElem?_eq_getElem (by omega)⟩
  have ex := en_at eLA hx
  have gz : (0 : Int) ≤ i := by omega
  have w2 : IntKind.i64.wrap ((i : Int) + 1) = ((i + 1 : Nat) : Int) := wrap64 (x := (i : Int) + 1) ⟨by omega, by omega⟩
  have hD : DOk d := by
    have := playG_ok (acts.take i) (zDk, []) zDk_ok
    rw [← hpl] at this
    exact this
  obtain ⟨r, hr, C1⟩ := stepS_ok d a hD.fine (by have := (ha a (List.mem_of_getElem? hx)).1; omega)
  have hr : r = stepR d a := by
    rcases hr with ⟨_, h⟩ | ⟨h, _⟩
    · exact h
    · exact absurd hD h
  have hpl2 := playG_take hx (zDk, [])
  rw [← hpl] at hpl2
  simp only at hpl2
  rw [← hr] at hpl2
  obtain ⟨d', p, code⟩ := r
  have q1 : (codes.length + 1) * 8 ≤ 140737488355328 := by omega
  have q2 : codes.length ≤ 9223372036854775806 := by omega
  rcases hcs with ⟨rfl, rfl⟩ | rfl
  · simp only [go_sem, e0, e2, eH2, e4, eH4, e6, e5, eH5, en_len, k1, ex, gz, Int.toNat_natCast, eLA]
    refine callL (ws := []) (ns := []) C1 rfl ?_ rfl rfl ?_
    · simp only [go_sem, lendTs, lendT, zDk, en_nil]
      rfl
    simp only [go_sem, e0, e2, eH2, e4, eH4, e6, e5, eH5, en_len, k1, scalarT, scalarP, scalarC, List.all_cons, Bool.false_and, w2, ht1, q1, q2, ite_self]
    refine ⟨by omega, d', codes ++ [code], cDk d', c + 4 + 14 + 2 + 3, hpl2.symm, .inr rfl, by rw [List.length_append, hl]; rfl, e0, ⟨u2, e2, eH2⟩, ⟨u4, e4, rfl⟩, rfl, ?_, ?_⟩
    · rw [List.length_append]; rfl
    · rw [en_snoc]; rfl
  · simp only [go_sem, e0, e2, eH2, e4, eH4, e6, e5, eH5, en_len, k1, ex, gz, Int.toNat_natCast, eLA]
    refine callL (ws := []) (ns := []) C1 rfl ?_ rfl rfl ?_
    · simp only [go_sem, lendTs, lendT, en_nil]
    simp only [go_sem, e0, e2, eH2, e4, eH4, e6, e5, eH5, en_len, k1, scalarT, scalarP, scalarC, List.all_cons, Bool.false_and, w2, ht1, q1, q2, ite_self]
    refine ⟨by omega, d', codes ++ [code], cDk d', c + 4 + 14 + 2 + 3, hpl2.symm, .inr rfl, by rw [List.length_append, hl]; rfl, e0, ⟨u2, e2, eH2⟩, ⟨u4, e4, rfl⟩, rfl, ?_, ?_⟩
    · rw [List.length_append]; rfl
    · rw [en_snoc]; rfl
end Go.V

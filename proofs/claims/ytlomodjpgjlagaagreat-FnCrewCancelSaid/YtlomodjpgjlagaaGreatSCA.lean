/- It is proved that the law FnCrewCancel returns true for every input and leaves its input as it was; no condition. -/
import Derived.Test.YtlomodjpgjlagaaGreatSC5
set_option linter.unusedSimpArgs false
namespace Go.V
open Go.Proofs
open Nat (reduceAdd reduceEqDiff reduceLT reduceLeDiff)
/- (*loop.example/teagle/spec.l6Rd).pick -/
def r65_0 : List AOper := [ao 0 4 (.mv (.k (.i 0)))]
def r65_1 : List AOper := [ao 0 7 (.mv (.t 0)),
  ao 1 8 (.mv (.t 0)),
  ao 2 9 (.nck (.t 8)),
  ao 3 10 (.fa 1 (.t 9)),
  ao 4 11 (.ld 1 false (.t 10)),
  ao 5 12 (.bin .add (.t 11) (.k (.i 1))),
  ao 6 13 (.nck (.t 7)),
  ao 7 14 (.fa 1 (.t 13)),
  an 8 (.st 1 (.t 14) (.t 12))]
def r65_2 : List AOper := [ao 0 15 (.mv (.t 1)),
  ao 1 16 (.bin .lss (.t 15) (.k (.i 1))),
  ao 2 17 (.mv (.t 16)),
  ag 3 18 17 false [] (.mv (.t 0)),
  ag 4 19 17 false [] (.nck (.t 18)),
  ag 5 20 17 false [] (.fa 0 (.t 19)),
  ag 6 21 17 false [] (.ld 1 false (.t 20)),
  ag 7 22 17 false [] (.len (.t 21)),
  ag 8 23 17 false [] (.bin .eql (.t 22) (.k (.i 0))),
  ao 9 24 (.pick (.t 17) (.k (.b true)) (.t 23))]
def r65_3 : List AOper := [ao 0 4 (.mv (.k (.i 0)))]
def c65_4 : ACode := .seq (.reg r65_3) .ret
def c65_5 : ACode := .cond (.t 24) c65_4 .skip
def c65_6 : ACode := .seq (.reg r65_2) c65_5
def r65_7 : List AOper := [ao 0 25 (.mv (.t 0)),
  ao 1 26 (.nck (.t 25)),
  ao 2 27 (.fa 1 (.t 26)),
  ao 3 28 (.ld 1 false (.t 27)),
  ao 4 29 (.bin .sub (.t 28) (.k (.i 1))),
  ao 5 5 (.mv (.t 29))]
def r65_8 : List AOper := [ao 0 30 (.mv (.t 5)),
  ao 1 31 (.mv (.t 0)),
  ao 2 32 (.nck (.t 31)),
  ao 3 33 (.fa 0 (.t 32)),
  ao 4 34 (.ld 1 false (.t 33)),
  ao 5 35 (.len (.t 34)),
  ao 6 36 (.bin .lss (.t 30) (.t 35))]
def r65_9 : List AOper := [ao 0 37 (.mv (.t 0)),
  ao 1 38 (.nck (.t 37)),
  ao 2 39 (.fa 0 (.t 38)),
  ao 3 40 (.ld 1 false (.t 39)),
  ao 4 41 (.mv (.t 5)),
  ao 5 42 (.ia 1 (.t 40) (.t 41)),
  ao 6 43 (.ld 1 false (.t 42)),
  ao 7 44 (.cnvI .i64 (.t 43)),
  ao 8 45 (.mv (.t 1)),
  ao 9 46 (.bin .rem (.t 44) (.t 45)),
  ao 10 4 (.mv (.t 46))]
def c65_10 : ACode := .seq (.reg r65_9) .ret
def c65_11 : ACode := .cond (.t 36) c65_10 .skip
def c65_12 : ACode := .seq (.reg r65_8) c65_11
def r65_13 : List AOper := [ao 0 47 (.mv (.t 0)),
  ao 1 48 (.nck (.t 47)),
  ao 2 49 (.fa 0 (.t 48)),
  ao 3 50 (.ld 1 false (.t 49)),
  au 4 51 (ru 4) (.mv (.t 5)),
  au 5 52 (ru 5) (.mv (.t 0)),
  au 6 53 (ru 5) (.nck (.t 52)),
  au 7 54 (ru 5) (.fa 0 (.t 53)),
  au 8 55 (ru 5) (.ld 1 false (.t 54)),
  au 9 56 (ru 5) (.len (.t 55)),
  au 10 57 (ru 4) (.bin .rem (.t 51) (.t 56)),
  ao 11 58 (.ia 1 (.t 50) (.t 57)),
  ao 12 59 (.ld 1 false (.t 58)),
  ao 13 60 (.cnvI .i64 (.t 59)),
  ao 14 61 (.bin .mul (.t 60) (.k (.i 131))),
  au 15 62 (ru 15) (.mv (.t 0)),
  au 16 63 (ru 15) (.nck (.t 62)),
  au 17 64 (ru 15) (.fa 0 (.t 63)),
  au 18 65 (ru 15) (.ld 1 false (.t 64)),
  au 19 66 (ru 19) (.mv (.t 5)),
  au 20 67 (ru 19) (.bin .mul (.t 66) (.k (.i 7))),
  au 21 68 (ru 19) (.bin .add (.t 67) (.k (.i 3))),
  au 22 69 (ru 22) (.mv (.t 0)),
  au 23 70 (ru 22) (.nck (.t 69)),
  au 24 71 (ru 22) (.fa 0 (.t 70)),
  au 25 72 (ru 22) (.ld 1 false (.t 71)),
  au 26 73 (ru 22) (.len (.t 72)),
  au 27 74 (ru 19) (.bin .rem (.t 68) (.t 73)),
  au 28 75 (ru 15) (.ia 1 (.t 65) (.t 74)),
  au 29 76 (ru 15) (.ld 1 false (.t 75)),
  au 30 77 (ru 15) (.cnvI .i64 (.t 76)),
  au 31 78 (ru 15) (.bin .mul (.t 77) (.k (.i 1117))),
  ao 32 79 (.bin .add (.t 61) (.t 78)),
  au 33 80 (ru 33) (.mv (.t 5)),
  au 34 81 (ru 33) (.bin .mul (.t 80) (.k (.i 29))),
  ao 35 82 (.bin .add (.t 79) (.t 81)),
  au 36 83 (ru 36) (.mv (.t 5)),
  au 37 84 (ru 37) (.mv (.t 0)),
  au 38 85 (ru 37) (.nck (.t 84)),
  au 39 86 (ru 37) (.fa 0 (.t 85)),
  au 40 87 (ru 37) (.ld 1 false (.t 86)),
  au 41 88 (ru 37) (.len (.t 87)),
  au 42 89 (ru 36) (.bin .quo (.t 83) (.t 88)),
  au 43 90 (ru 36) (.bin .mul (.t 89) (.k (.i 53))),
  ao 44 91 (.bin .add (.t 82) (.t 90)),
  ao 45 6 (.mv (.t 91))]
def r65_14 : List AOper := [ao 0 92 (.mv (.t 6)),
  ao 1 93 (.mv (.t 6)),
  ao 2 94 (.bin .quo (.t 93) (.k (.i 64))),
  ao 3 95 (.bin .xor (.t 92) (.t 94)),
  ao 4 6 (.mv (.t 95))]
def r65_15 : List AOper := [ao 0 96 (.mv (.t 6)),
  ao 1 97 (.mv (.t 1)),
  ao 2 98 (.bin .rem (.t 96) (.t 97)),
  ao 3 4 (.mv (.t 98))]
def c65 : ACode := .seq (.reg r65_0) (.seq (.reg r65_1) (.seq c65_6 (.seq (.reg r65_7) (.seq c65_12 (.seq (.reg r65_13) (.seq (.reg r65_14) (.seq (.reg r65_15) .ret)))))))
def s65 : List ARes := [.tmp 4]
theorem ok65 : okF Tryz.prog 65 99 c65 s65 := ⟨Tryz.f65, Tryz.func65, Tryz.ntmps65, by kernel_rfl, by kernel_rfl, by kernel_rfl⟩
def encB (bs : List UInt8) : List (List V) := bs.map fun b => [.s (.int .u8 b.toNat)]
theorem encB_len (bs : List UInt8) : (encB bs).length = bs.length := by simp [encB]
theorem encB_at {bs : List UInt8} {i : Nat} {b : UInt8} (h : bs[i]? = some b) : (encB bs)[i]? = some [.s (.int .u8 b.toNat)] := by simp [encB, h]
/-- The reader: its bytes, and the place. -/
abbrev rdC (bs : List UInt8) (p : Int) : List C := [.v (.sl (encB bs)), .v (.s (.int .i64 p))]
abbrev rdr (v : Nat) (bs : List UInt8) (p : Int) : Blk := .var v 81 (rdC bs p)
abbrev rH (v : Nat) (bs : List UInt8) (p p' : Int) : Hand := rV v 81 (rdC bs p) (rdC bs p')
theorem xor_nonneg {a b : Int} (ha : 0 ≤ a ∧ a ≤ 9223372022854775807) (hb : 0 ≤ b ∧ b ≤ 9223372022854775807) : 0 ≤ IntKind.i64.wrap ((BitVec.ofInt IntKind.i64.bits a ^^^ BitVec.ofInt IntKind.i64.bits b).toNat : Int) := by
  have h1 : (BitVec.ofInt 64 a).toNat < 2 ^ 63 := by rw [BitVec.toNat_ofInt]; omega
  have h2 : (BitVec.ofInt 64 b).toNat < 2 ^ 63 := by rw [BitVec.toNat_ofInt]; omega
  have h3 : (BitVec.ofInt 64 a ^^^ BitVec.ofInt 64 b).toNat < 2 ^ 63 := by rw [BitVec.toNat_xor]; exact Nat.xor_lt_two_pow h1 h2
  show 0 ≤ IntKind.i64.wrap ((BitVec.ofInt 64 a ^^^ BitVec.ofInt 64 b).toNat : Int)
  rw [wrap64 (by omega)]
  omega
def UEm_1 := Bx.mk <|
  aN (uA c65.eq_1) <| aN (uR r65_0.eq_1) <| aN (uR r65_1.eq_1) <| aN (uA c65_6.eq_1) <| aN (uR r65_2.eq_1) <| aN (uA c65_5.eq_1) <| aN (uA c65_4.eq_1) <| aN (uR r65_3.eq_1) <| aN (uR r65_7.eq_1) <| aN (uA c65_12.eq_1) <| aN (uR r65_8.eq_1) <| aN (uA c65_11.eq_1) <| aN (uA c65_10.eq_1) <| aN (uR r65_9.eq_1) <| aN (uR r65_13.eq_1) <| aN (uR r65_14.eq_1) <| aN (uR r65_15.eq_1) <| s65.eq_1
set_option maxRecDepth 100000 in
theorem pick_ok (bs : List UInt8) (hb : bs.length ≤ 2000) (p n : Int) (hp : 0 ≤ p ∧ p ≤ 1000000000000) (hn : 0 < n ∧ n ≤ 9223372022854775807) : ∃ k : Int, 0 ≤ k ∧ k < n ∧ ∀ v, ACallsF Tryz.prog 65 [rP v, .i n] [rH v bs p (p + 1)] (.i k) := by
  have hw : IntKind.i64.wrap (p + 1) = p + 1 := wrap64 (by omega)
  have hw2 : IntKind.i64.wrap (p + 1 - 1) = p := (wrap64 (x := p + 1 - 1) ⟨by omega, by omega⟩).trans (by omega)
  have h1 : ¬ n < 1 := by omega
  have hn0 : ¬ n = 0 := by omega
  by_cases hb0 : bs.length = 0
  · refine ⟨0, by omega, by omega, fun v => ACallsF.intro ok65 follows fun X c0 => ?_⟩
    have hbz : ((bs.length : Int) == 0) = true := by simp [hb0]
    simp only [RUX, Nat.reduceAdd, reduceIte, Nat.reduceEqDiff, Nat.reduceLT, Nat.reduceLeDiff, reduceCtorEq, eq_self, FIX, forall_const, endE_n, endE_r, rH, rV, rdC, rdr, UEm_1.d, encB_len, hw, hw2, h1, hbz]
  · have hbz : ((bs.length : Int) == 0) = false := beq_eq_false_iff_ne.2 (by omega)
    by_cases hlt : p < bs.length
    · have hp0 := hp.1
      obtain ⟨i, rfl⟩ : ∃ i : Nat, p = i := ⟨p.toNat, (Int.toNat_of_nonneg hp0).symm⟩
      have hi : i < bs.length := by omega
      have e1 := encB_at (List.getElem?_eq_getElem hi)
      have hr := Int.emod_lt_of_pos (bs[i].toNat : Int) hn.1
      have hr2 := Int.emod_nonneg (bs[i].toNat : Int) hn0
      have hu : ((bs[i].toNat : Int)) < 256 := by have := bs[i].toNat_lt; omega
      have hwu : IntKind.i64.wrap (bs[i].toNat : Int) = bs[i].toNat := wrap64 (by omega)
      refine ⟨(bs[i].toNat : Int) % n, hr2, hr, fun v => ACallsF.intro ok65 follows fun X c0 => ?_⟩
      have ht : (bs[i].toNat : Int).tmod n = (bs[i].toNat : Int) % n := Int.tmod_eq_emod_of_nonneg (by omega)
      simp only [RUX, Nat.reduceAdd, reduceIte, Nat.reduceEqDiff, Nat.reduceLT, Nat.reduceLeDiff, reduceCtorEq, eq_self, FIX, forall_const, endE_n, endE_r, rH, rV, rdC, rdr, UEm_1.d, encB_len, hw, hw2, h1, hbz, hlt, e1, hp0, Int.toNat_natCast, hwu, hn0, ht]
    · have hp0 := hp.1
      obtain ⟨k, rfl⟩ : ∃ i : Nat, p = i := ⟨p.toNat, (Int.toNat_of_nonneg hp0).symm⟩
      obtain ⟨l, hl⟩ : ∃ l : Nat, bs.length = l := ⟨_, rfl⟩
      rw [hl] at hb hb0 hbz hlt
      obtain ⟨q, hq⟩ : ∃ q : Nat, k / l = q := ⟨_, rfl⟩
      have hql : q ≤ k := by rw [← hq]; exact Nat.div_le_self _ _
      have t1 : (k : Int).tmod l = ((k % l : Nat) : Int) := rfl
      have t2 : ((k : Int) * 7 + 3).tmod l = (((k * 7 + 3) % l : Nat) : Int) := rfl
      have t3 : (k : Int).tdiv l = (q : Int) := by rw [← hq]; rfl
      have hl0 : ¬ (l : Int) = 0 := by omega
      obtain ⟨i, hi⟩ : ∃ i : Nat, k % l = i := ⟨_, rfl⟩
      obtain ⟨j, hj⟩ : ∃ j : Nat, (k * 7 + 3) % l = j := ⟨_, rfl⟩
      rw [hi] at t1
      rw [hj] at t2
      have hi2 : i < bs.length := by rw [← hi, hl]; exact Nat.mod_lt _ (by omega)
      have hj2 : j < bs.length := by rw [← hj, hl]; exact Nat.mod_lt _ (by omega)
      have e1 := encB_at (List.getElem?_eq_getElem hi2)
      have e2 := encB_at (List.getElem?_eq_getElem hj2)
      have hu1 := bs[i].toNat_lt
      have hu2 := bs[j].toNat_lt
      generalize bs[i].toNat = a at e1 hu1
      generalize bs[j].toNat = b at e2 hu2
      obtain ⟨x, hx⟩ : ∃ x : Int, (a : Int) * 131 + (b : Int) * 1117 + (k : Int) * 29 + (q : Int) * 53 = x := ⟨_, rfl⟩
      have hx0 : 0 ≤ x ∧ x ≤ 100000000000000 := by omega
      have t4 : IntKind.i64.wrap (x.tdiv 64) = x / 64 := IntWalk.i64_quo x 64 (by omega)
      obtain ⟨y, hy⟩ : ∃ y : Int, IntKind.i64.wrap ((BitVec.ofInt IntKind.i64.bits x ^^^ BitVec.ofInt IntKind.i64.bits (x / 64)).toNat : Int) = y := ⟨_, rfl⟩
      have hy0 : 0 ≤ y := by rw [← hy]; exact xor_nonneg (by omega) (by omega)
      have t5 : y.tmod n = y % n := Int.tmod_eq_emod_of_nonneg hy0
      have hz1 : (0 : Int) ≤ i := by omega
      have hz2 : (0 : Int) ≤ j := by omega
      have hz3 : ¬ (64 : Int) = 0 := by omega
      obtain ⟨p0, hp1⟩ : ∃ p0 : Int, (k : Int) + 1 = p0 := ⟨_, rfl⟩
      rw [hp1] at hw
      have w0 : IntKind.i64.wrap (p0 - 1) = k := by rw [← hp1]; exact (wrap64 ⟨by omega, by omega⟩).trans (by omega)
      have w1 : IntKind.i64.wrap (a : Int) = a := wrap64 ⟨by omega, by omega⟩
      have w2 : IntKind.i64.wrap ((a : Int) * 131) = (a : Int) * 131 := wrap64 ⟨by omega, by omega⟩
      have w3 : IntKind.i64.wrap ((k : Int) * 7) = (k : Int) * 7 := wrap64 ⟨by omega, by omega⟩
      have w4 : IntKind.i64.wrap ((k : Int) * 7 + 3) = (k : Int) * 7 + 3 := wrap64 ⟨by omega, by omega⟩
      have w5 : IntKind.i64.wrap (b : Int) = b := wrap64 ⟨by omega, by omega⟩
      have w6 : IntKind.i64.wrap ((b : Int) * 1117) = (b : Int) * 1117 := wrap64 ⟨by omega, by omega⟩
      have w7 : IntKind.i64.wrap ((a : Int) * 131 + (b : Int) * 1117) = (a : Int) * 131 + (b : Int) * 1117 := wrap64 ⟨by omega, by omega⟩
      have w8 : IntKind.i64.wrap ((k : Int) * 29) = (k : Int) * 29 := wrap64 ⟨by omega, by omega⟩
      have w9 : IntKind.i64.wrap ((a : Int) * 131 + (b : Int) * 1117 + (k : Int) * 29) = (a : Int) * 131 + (b : Int) * 1117 + (k : Int) * 29 := wrap64 ⟨by omega, by omega⟩
      have w10 : IntKind.i64.wrap (q : Int) = q := wrap64 ⟨by omega, by omega⟩
      have w11 : IntKind.i64.wrap ((q : Int) * 53) = (q : Int) * 53 := wrap64 ⟨by omega, by omega⟩
      have w12 : IntKind.i64.wrap x = x := wrap64 ⟨by omega, by omega⟩
      refine ⟨y % n, Int.emod_nonneg _ hn0, Int.emod_lt_of_pos _ hn.1, fun v => ACallsF.intro ok65 follows fun X c0 => ?_⟩
      simp only [RUX, Nat.reduceAdd, reduceIte, Nat.reduceEqDiff, Nat.reduceLT, Nat.reduceLeDiff, reduceCtorEq, eq_self, FIX, forall_const, endE_n, endE_r, rH, rV, rdC, rdr, UEm_1.d, encB_len, hl, hw, w0, hp1, h1, hbz, hlt, hl0, t1, t2, t3, e1, e2, hz1, hz2, Int.toNat_natCast, w1, w2, w3, w4, w5, w6, w7, w8, w9, w10, w11, hn0, hx, w12, t4, hy, t5, hz3]

section
variable {t : Nat → T} {H : HMap} {c : Nat} {f : Opd} {args : List Opd} {fid : FuncId} {v : Nat} {bs : List UInt8} {p p' : Int} {argsC : List T} {ws : List (Nat × Blk)} {ns : List Nat} {r : T} {k : Nat} {d : Option Nat} {un : List Nat} {l : List AOper} {prev : List (Nat × List Nat × List Nat)} {K : St → Prop}
theorem callR (hC : ACallsF Tryz.prog fid (rP v :: argsC) [rH v bs p p'] r) (hf : ev t f = .pt (.one (.fn fid []))) (hl : lendTs H (rP v :: argsC) (args.map (ev t)) = some (rP v :: argsC, ws, ns))
    (ha : argsC.all closedA = true) (hr : closedT r = true) (hH : updH H ws 1000 = some (rdr v bs p))
    (hk : chk prev un ⟨r, ws ++ [(1000, rdr v bs p')], ns ++ [1000], ns ++ [1000]⟩ = true ∧ DRun Tryz.prog l ((k, ns ++ [1000], ns ++ [1000]) :: prev) K ⟨updD t d r, updH H (ws ++ [(1000, rdr v bs p')]), c⟩) :
    step Tryz.prog k d un (.call f args) l prev K t H c :=
  callV (n := 1000) (v := v) (ty := 81) (xs := [.sl (encB bs), .s (.int .i64 p)]) (ys := [.sl (encB bs), .s (.int .i64 p')]) hC hf hl ha hr hH hk
/-- .. where the arguments are closed already. -/
theorem callRc (hC : ACallsF Tryz.prog fid (rP v :: argsC) [rH v bs p p'] r) (hf : ev t f = .pt (.one (.fn fid []))) (hl : args.map (ev t) = rP v :: argsC)
    (ha : argsC.all closedA = true) (hr : closedT r = true) (hH : H 1000 = some (rdr v bs p))
    (hk : chk prev un ⟨r, [(1000, rdr v bs p')], [1000], [1000]⟩ = true ∧ DRun Tryz.prog l ((k, [1000], [1000]) :: prev) K ⟨updD t d r, upd H 1000 (some (rdr v bs p')), c⟩) :
    step Tryz.prog k d un (.call f args) l prev K t H c := by
  refine callR (ws := []) (ns := []) hC hf ?_ ha hr hH hk
  rw [hl]
  simp only [lendTs, rP, lendT, lendC, Option.map_some, (closed_As [] H argsC ha).1, List.append_nil]
end
/-- What comes of a function that draws: so many bytes are read at most, the result is such as S says. -/
def RC (f : Nat) (args : List T) (bs : List UInt8) (p k : Int) {α : Type} (S : α → Prop) (r : α → T) : Prop := ∃ (q : Int) (a : α), p ≤ q ∧ q ≤ p + k ∧ S a ∧ ∀ v, ACallsF Tryz.prog f (rP v :: args) [rH v bs p q] (r a)
abbrev endR {α : Type} (p k : Int) (S : α → Prop) (r : α → T) (bs : List UInt8) (rs : List ARes) : Exit → St → Prop := endE (α := Int × α) (fun x => p ≤ x.1 ∧ x.1 ≤ p + k ∧ S x.2) (fun x => r x.2) (fun x => [rH 0 bs p x.1]) rs
theorem RC.intro {f n : Nat} {ac : ACode} {rs : List ARes} {args : List T} {bs : List UInt8} {p k : Int} {α : Type} {S : α → Prop} {r : α → T} (ho : okF Tryz.prog f n ac rs) (ha : args.all closedA = true) (hr : ∀ a, closedT (r a) = true)
    (h : ∀ X : Ctx, wpa Tryz.prog X ac (endR p k S r bs rs) ⟨argsT (rP 0 :: args), hinOf [rH 0 bs p p], 1⟩) : RC f args bs p k S r := by
  obtain ⟨⟨q, a⟩, ⟨h1, h2, h3⟩, h4⟩ := ACallsF.exR (α := Int × α) (cs' := fun x => rdC bs x.1) (fun x => p ≤ x.1 ∧ x.1 ≤ p + k ∧ S x.2) ho follows ha (fun a _ => hr a.2) rfl (fun _ _ => rfl) h
  exact ⟨q, a, h1, h2, h3, h4⟩
/- loop.example/teagle/spec.l6Open -/
def r32_0 : List AOper := [ao 0 2 (.mv (.k (.s (.pointer none))))]
def r32_1 : List AOper := [ao 0 3 (.mv (.t 0)),
  ao 1 4 (.len (.t 3)),
  ao 2 5 (.bin .gtr (.t 4) (.k (.i 2000)))]
def r32_2 : List AOper := [ao 0 6 (.mv (.t 0)),
  ao 1 7 (.slc 1 (.t 6) none (some (.k (.i 2000)))),
  ao 2 0 (.mv (.t 7))]
def c32_3 : ACode := .cond (.t 5) (.reg r32_2) .skip
def c32_4 : ACode := .seq (.reg r32_1) c32_3
def r32_5 : List AOper := [ao 0 8 (.mv (.t 0)),
  ao 1 9 (.build [.nil0, (.v (.s (.int .i64 0)))] [(0, 1, (.t 8))]),
  ao 2 10 (.box 81 (.t 9)),
  ao 3 2 (.mv (.t 10))]
def c32 : ACode := .seq (.reg r32_0) (.seq c32_4 (.seq (.reg r32_5) .ret))
def s32 : List ARes := [.tmp 2]
theorem ok32 : okF Tryz.prog 32 11 c32 s32 := ⟨Tryz.f32, Tryz.func32, Tryz.ntmps32, by kernel_rfl, by kernel_rfl, by kernel_rfl⟩
theorem encB_all1 (bs : List UInt8) : (∀ e ∈ encB bs, e.length = 1) = True := eq_true fun e he => by simp only [encB, List.mem_map] at he; obtain ⟨_, _, rfl⟩ := he; rfl
theorem take_encB (bs : List UInt8) (n : Nat) : (encB bs).take n = encB (bs.take n) := by simp [encB, List.map_take]
def UEm_2 := Bx.mk <|
  aN (uA c32.eq_1) <| aN (uR r32_0.eq_1) <| aN (uA c32_4.eq_1) <| aN (uR r32_1.eq_1) <| aN (uA c32_3.eq_1) <| aN (uR r32_2.eq_1) <| aN (uR r32_5.eq_1) <| s32.eq_1
theorem open_ok (bs : List UInt8) : ACallsF Tryz.prog 32 [.c (.v (.sl (encB bs)))] [⟨10, 1000, none, rdr 0 (bs.take 2000) 0, false⟩] (.c (.ptr 10 0 0)) := by
  refine ACallsF.intro ok32 follows fun X c0 => ?_
  by_cases h : (bs.length : Int) > 2000
  · have h0 : (0 : Int) ≤ 2000 := by omega
    have h1 : (2000 : Int) ≤ bs.length := by omega
    simp only [RZ, reduceAdd, reduceIte, reduceEqDiff, reduceLT, reduceLeDiff, reduceCtorEq, Nat.reduceBEq, UEm_2.d, encB_len, h, lohi, h0, h1, encB_all1, Int.reduceToNat, Nat.sub_zero, take_encB, rdr, rdC, Int.le_refl, List.drop_zero]
    exact id
  · have ht : bs.take 2000 = bs := List.take_of_length_le (by omega)
    simp only [RZ, reduceAdd, reduceIte, reduceEqDiff, reduceLT, reduceLeDiff, reduceCtorEq, Nat.reduceBEq, UEm_2.d, encB_len, h, ht, rdr, rdC]
    exact id
theorem callOpen {t : Nat → T} {H : HMap} {c : Nat} {f : Opd} {args : List Opd} {bs : List UInt8} {k : Nat} {d : Option Nat} {un : List Nat} {l : List AOper} {prev : List (Nat × List Nat × List Nat)} {K : St → Prop}
    (hf : ev t f = .pt (.one (.fn 32 []))) (hl : args.map (ev t) = [.c (.v (.sl (encB bs)))])
    (hk : chk prev un ⟨rP (c + k), [(1000, rdr (c + k) (bs.take 2000) 0)], [1000], [1000]⟩ = true ∧ DRun Tryz.prog l ((k, [1000], [1000]) :: prev) K ⟨updD t d (rP (c + k)), upd H 1000 (some (rdr (c + k) (bs.take 2000) 0)), c⟩) :
    step Tryz.prog k d un (.call f args) l prev K t H c :=
  callW (r' := rP (c + k)) (ob := [(1000, rdr (c + k) (bs.take 2000) 0)]) [⟨10, 1000, none, rdr 0 (bs.take 2000) 0, false⟩] (open_ok bs) hf (show lendTs H [.c (.v (.sl (encB bs)))] (args.map (ev t) ++ [].map capT) = some ([.c (.v (.sl (encB bs)))], [], []) from by rw [hl]; rfl) rfl (by simp [handsIn]) (by simp) (by simp) rfl rfl hk
end Go.V
set_option linter.unusedVariables false
set_option linter.unusedSimpArgs false
namespace Go.V
open Go.Proofs
open Nat (reduceAdd reduceEqDiff reduceLT reduceLeDiff)
/-- The lists of a world are short, and those that must be are not empty. -/
structure Wf (w : CW) : Prop where
  h1 : 1 ≤ w.hands.length
  h : w.hands.length ≤ 200
  g1 : 1 ≤ w.ring.length
  g : w.ring.length ≤ 200
  s : w.shut.length = 4
  q : w.queue.length ≤ 200
  r : w.results.length ≤ 200
  o : w.out.length ≤ 200
  t : w.got.length ≤ 200
theorem Wf.small {w : CW} (h : Wf w) : Small w := by
  obtain ⟨h1, h2, h3, h4, h5, h6, h7, h8, h9⟩ := h
  exact ⟨by omega, by omega, by omega, by omega, by omega, by omega, by omega⟩
theorem Form.wf {w : CW} (h : Form w) : Wf w := by
  have h1 := h.lq
  have h2 := h.lh
  have h3 := h.le
  have h4 := h.lr
  have h5 := h.lo
  have h6 := h.lg
  have h7 := h.ls
  have h8 := h.st.k
  have h9 := h.st.n
  have h10 := h.st.j
  exact ⟨by omega, by omega, by omega, by omega, by omega, by omega, by omega, by omega, by omega⟩
theorem start_wf {j k n : Int} (h : StartOk j k n) : Wf (start j k n) := by
  have hk := h.k
  have hn := h.n
  exact ⟨by simp [start]; omega, by simp [start]; omega, by simp [start]; omega, by simp [start]; omega, rfl, by simp [start], by simp [start], by simp [start], by simp [start]⟩
theorem stepW_wf {w : CW} (f : Form w) (m : Mv) : Wf (stepW w m) := by
  have h1 := f.lq
  have h2 := f.lh
  have h3 := f.le
  have h4 := f.lr
  have h5 := f.lo
  have h6 := f.lg
  have h7 := f.ls
  have h8 := f.st.k
  have h9 := f.st.n
  have h10 := f.st.j
  unfold stepW doR doH doK doC doU
  repeat' split
  all_goals
    constructor <;> simp only [List.length_set, List.length_append, List.length_drop, List.length_singleton, List.length_nil] <;> omega
theorem cancel_wf {w : CW} (f : Form w) : Wf (cancelW w) := by
  obtain ⟨h1, h2, h3, h4, h5, h6, h7, h8, h9⟩ := f.wf
  exact ⟨h1, h2, h3, h4, by show (w.shut.set 3 1).length = 4; rw [List.length_set]; exact h5, h6, h7, h8, h9⟩
theorem wmoves_mem {who : Int} {bs : List Bool} {n : Nat} {m : Mv} (h : m ∈ wmoves who bs n) : m.who = who ∧ 0 ≤ m.way ∧ bs[m.way.toNat]? = some true := by
  simp only [wmoves, List.mem_map, List.mem_filter, List.mem_range] at h
  obtain ⟨k, ⟨h1, h2⟩, rfl⟩ := h
  refine ⟨rfl, by show (0 : Int) ≤ (k : Int); omega, ?_⟩
  rw [Int.toNat_natCast]
  rw [List.getD_eq_getElem?_getD] at h2
  cases hq : bs[k]? with
  | none => rw [hq] at h2; cases h2
  | some b => rw [hq] at h2; rw [show b = true from h2]
theorem moves_can {w : CW} (ok : WOk w) {m : Mv} (h : m ∈ moves w) : Can w m := by
  have hk := ok.form.st.k
  simp only [moves, amoves, List.mem_flatMap, List.mem_range] at h
  obtain ⟨k, h1, h2⟩ := h
  obtain ⟨e1, e2, e3⟩ := wmoves_mem h2
  exact ⟨ok, by rw [e1]; omega, e2, by rw [e1]; exact e3⟩
/- loop.example/teagle/spec.l54World -/
def r64_0 : List AOper := [ao 0 2 (.alloc 26 [(.v (.s (.int .i64 0))), (.v (.s (.int .i64 0))), (.v (.s (.int .i64 0))), (.v (.s (.int .i64 0))), (.v (.s (.int .i64 0))), .nil0, .nil0, (.v (.s (.int .i64 0))), .nil0, (.v (.s (.int .i64 0))), .nil0, (.v (.s (.int .i64 0))), .nil0, (.v (.s (.int .i64 0))), .nil0, (.v (.s (.int .i64 0))), .nil0, (.v (.s (.int .i64 0)))])]
def r64_1 : List AOper := [ao 0 16 (.mv (.t 0)),
  ao 1 17 (.call (.k (.c (.fn 65 []))) [(.t 16), (.k (.i 12))]),
  ao 2 3 (.mv (.t 17))]
def r64_2 : List AOper := [ao 0 18 (.mv (.t 0)),
  ao 1 19 (.call (.k (.c (.fn 65 []))) [(.t 18), (.k (.i 4))]),
  ao 2 20 (.bin .add (.k (.i 1)) (.t 19)),
  ao 3 4 (.mv (.t 20))]
def r64_3 : List AOper := [ao 0 21 (.mv (.t 0)),
  ao 1 22 (.call (.k (.c (.fn 65 []))) [(.t 21), (.k (.i 5))]),
  ao 2 23 (.bin .add (.k (.i 1)) (.t 22)),
  ao 3 5 (.mv (.t 23))]
def r64_4 : List AOper := [ao 0 24 (.mv (.t 0)),
  ao 1 25 (.call (.k (.c (.fn 65 []))) [(.t 24), (.k (.i 12))]),
  ao 2 26 (.bin .eql (.t 25) (.k (.i 0)))]
def r64_5 : List AOper := [ao 0 3 (.mv (.k (.i 60)))]
def r64_6 : List AOper := [ao 0 4 (.mv (.k (.i 8)))]
def r64_7 : List AOper := [ao 0 5 (.mv (.k (.i 16)))]
def c64_8 : ACode := .seq (.reg r64_5) (.seq (.reg r64_6) (.reg r64_7))
def c64_9 : ACode := .cond (.t 26) c64_8 .skip
def c64_10 : ACode := .seq (.reg r64_4) c64_9
def r64_11 : List AOper := [ao 0 28 (.mv (.t 3)),
  ao 1 29 (.mv (.t 4)),
  ao 2 30 (.mv (.t 5)),
  ao 3 31 (.call (.k (.c (.fn 71 []))) [(.t 28), (.t 29), (.t 30)]),
  ao 4 27 (.mv (.t 31)),
  ao 5 32 (.ext 0 (.t 27)),
  ao 6 33 (.ext 1 (.t 27)),
  ao 7 6 (.alloc 26 [(.v (.s (.int .i64 0))), (.v (.s (.int .i64 0))), (.v (.s (.int .i64 0))), (.v (.s (.int .i64 0))), (.v (.s (.int .i64 0))), .nil0, .nil0, (.v (.s (.int .i64 0))), .nil0, (.v (.s (.int .i64 0))), .nil0, (.v (.s (.int .i64 0))), .nil0, (.v (.s (.int .i64 0))), .nil0, (.v (.s (.int .i64 0))), .nil0, (.v (.s (.int .i64 0)))]),
  an 8 (.st 18 (.t 6) (.t 32)),
  ao 9 7 (.mv (.t 33))]
def r64_12 : List AOper := [ao 0 34 (.mv (.t 0)),
  ao 1 35 (.call (.k (.c (.fn 65 []))) [(.t 34), (.k (.i 140))]),
  ao 2 8 (.mv (.t 35))]
def r64_13 : List AOper := [ao 0 36 (.mv (.t 0)),
  ao 1 37 (.call (.k (.c (.fn 65 []))) [(.t 36), (.k (.i 150))]),
  ao 2 9 (.mv (.t 37))]
def r64_14 : List AOper := [ao 0 38 (.mv (.t 0)),
  ao 1 39 (.call (.k (.c (.fn 65 []))) [(.t 38), (.k (.i 4))]),
  ao 2 10 (.mv (.t 39))]
def r64_15 : List AOper := [ao 0 11 (.mv (.k (.i 0)))]
def r64_16 : List AOper := [ao 0 40 (.mv (.t 11)),
  ao 1 41 (.mv (.t 8)),
  ao 2 42 (.bin .lss (.t 40) (.t 41))]
def c64_17 : ACode := .cond (.t 42) .skip (.exit 0)
def c64_18 : ACode := .seq (.reg r64_16) c64_17
def r64_19 : List AOper := [ao 0 45 (.mv (.t 11)),
  ao 1 46 (.mv (.t 9)),
  ao 2 47 (.bin .eql (.t 45) (.t 46))]
def r64_20 : List AOper := [ao 0 49 (.ld 18 true (.t 6)),
  ao 1 50 (.call (.k (.c (.fn 20 []))) [(.t 49)]),
  ao 2 48 (.mv (.t 50)),
  ao 3 51 (.ext 0 (.t 48)),
  ao 4 52 (.ext 1 (.t 48)),
  ao 5 12 (.alloc 26 [(.v (.s (.int .i64 0))), (.v (.s (.int .i64 0))), (.v (.s (.int .i64 0))), (.v (.s (.int .i64 0))), (.v (.s (.int .i64 0))), .nil0, .nil0, (.v (.s (.int .i64 0))), .nil0, (.v (.s (.int .i64 0))), .nil0, (.v (.s (.int .i64 0))), .nil0, (.v (.s (.int .i64 0))), .nil0, (.v (.s (.int .i64 0))), .nil0, (.v (.s (.int .i64 0)))]),
  an 6 (.st 18 (.t 12) (.t 51)),
  ao 7 13 (.mv (.t 52))]
def r64_21 : List AOper := [ao 0 53 (.mv (.t 13))]
def r64_22 : List AOper := [ao 0 54 (.ld 18 true (.t 12)),
  an 1 (.st 18 (.t 6) (.t 54))]
def c64_23 : ACode := .cond (.t 53) (.reg r64_22) .skip
def c64_24 : ACode := .seq (.reg r64_20) (.seq (.reg r64_21) c64_23)
def c64_25 : ACode := .cond (.t 47) c64_24 .skip
def c64_26 : ACode := .seq (.reg r64_19) c64_25
def r64_27 : List AOper := [ao 0 55 (.ld 18 true (.t 6)),
  ao 1 56 (.call (.k (.c (.fn 8 []))) [(.t 55)]),
  ao 2 14 (.mv (.t 56))]
def r64_28 : List AOper := [ao 0 57 (.mv (.t 14)),
  ao 1 58 (.len (.t 57)),
  ao 2 59 (.bin .eql (.t 58) (.k (.i 0)))]
def r64_29 : List AOper := [ao 0 60 (.ld 18 true (.t 6)),
  an 1 (.st 18 (.t 2) (.t 60))]
def c64_30 : ACode := .seq (.reg r64_29) .ret
def c64_31 : ACode := .cond (.t 59) c64_30 .skip
def c64_32 : ACode := .seq (.reg r64_28) c64_31
def r64_33 : List AOper := [ao 0 61 (.mv (.t 0)),
  ao 1 62 (.mv (.t 14)),
  ao 2 63 (.len (.t 62)),
  ao 3 64 (.call (.k (.c (.fn 65 []))) [(.t 61), (.t 63)]),
  ao 4 15 (.mv (.t 64))]
def r64_34 : List AOper := [ao 0 65 (.mv (.t 10)),
  ao 1 66 (.bin .eql (.t 65) (.k (.i 1))),
  ao 2 67 (.mv (.t 66)),
  ag 3 68 67 true [] (.mv (.t 0)),
  ag 4 69 67 true [] (.call (.k (.c (.fn 65 []))) [(.t 68), (.k (.i 3))]),
  ag 5 70 67 true [] (.bin .gtr (.t 69) (.k (.i 0))),
  ao 6 71 (.pick (.t 67) (.t 70) (.k (.b false)))]
def r64_35 : List AOper := [ao 0 15 (.mv (.k (.i 0)))]
def c64_36 : ACode := .cond (.t 71) (.reg r64_35) .skip
def c64_37 : ACode := .seq (.reg r64_34) c64_36
def r64_38 : List AOper := [ao 0 72 (.mv (.t 10)),
  ao 1 73 (.bin .eql (.t 72) (.k (.i 2))),
  ao 2 74 (.mv (.t 73)),
  ag 3 75 74 true [] (.mv (.t 0)),
  ag 4 76 74 true [] (.call (.k (.c (.fn 65 []))) [(.t 75), (.k (.i 3))]),
  ag 5 77 74 true [] (.bin .gtr (.t 76) (.k (.i 0))),
  ao 6 78 (.pick (.t 74) (.t 77) (.k (.b false)))]
def r64_39 : List AOper := [ao 0 79 (.mv (.t 14)),
  ao 1 80 (.len (.t 79)),
  ao 2 81 (.bin .sub (.t 80) (.k (.i 1))),
  ao 3 15 (.mv (.t 81))]
def c64_40 : ACode := .cond (.t 78) (.reg r64_39) .skip
def c64_41 : ACode := .seq (.reg r64_38) c64_40
def r64_42 : List AOper := [ao 0 83 (.ld 18 true (.t 6)),
  au 1 84 [0] (.mv (.t 14)),
  au 2 85 [0, 1] (.mv (.t 15)),
  au 3 86 [0] (.ia 2 (.t 84) (.t 85)),
  au 4 87 [0] (.ld 2 true (.t 86)),
  ao 5 88 (.call (.k (.c (.fn 25 []))) [(.t 83), (.t 87)]),
  ao 6 82 (.mv (.t 88)),
  ao 7 89 (.ext 0 (.t 82)),
  au 8 90 [7] (.ext 1 (.t 82)),
  ax 9 none none [8] (.st 18 (.t 6) (.t 89))]
def c64_43 : ACode := .seq c64_26 (.seq (.reg r64_27) (.seq c64_32 (.seq (.reg r64_33) (.seq c64_37 (.seq c64_41 (.reg r64_42))))))
def c64_44 : ACode := .block 1 c64_43
def r64_45 : List AOper := [ao 0 43 (.mv (.t 11)),
  ao 1 44 (.bin .add (.t 43) (.k (.i 1))),
  ao 2 11 (.mv (.t 44))]
def c64_46 : ACode := .seq c64_18 (.seq c64_44 (.reg r64_45))
def c64_47 : ACode := .loop c64_46
def c64_48 : ACode := .block 0 c64_47
def c64_49 : ACode := .seq (.reg r64_15) c64_48
def r64_50 : List AOper := [ao 0 91 (.ld 18 true (.t 6)),
  an 1 (.st 18 (.t 2) (.t 91))]
def c64 : ACode := .seq (.reg r64_0) (.seq (.reg r64_1) (.seq (.reg r64_2) (.seq (.reg r64_3) (.seq c64_10 (.seq (.reg r64_11) (.seq (.reg r64_12) (.seq (.reg r64_13) (.seq (.reg r64_14) (.seq c64_49 (.seq (.reg r64_50) .ret))))))))))
def s64 : List ARes := [.cell 2 18 true]
theorem ok64 : okF Tryz.prog 64 92 c64 s64 := ⟨Tryz.f64, Tryz.func64, Tryz.ntmps64, by kernel_rfl, by kernel_rfl, by kernel_rfl⟩
def inv64 (bs : List UInt8) (p0 n ca le : Int) (i : Nat) (σ : St) : Prop := ∃ w p u v, Wf w ∧ (p0 ≤ p ∧ p ≤ p0 + 3 * i) ∧ σ.t 0 = rP 0 ∧ σ.H 1000 = some (rdr 0 bs p) ∧ σ.t 8 = .i n ∧ σ.t 9 = .i ca ∧ σ.t 10 = .i le ∧ σ.t 11 = .i i ∧ σ.t 6 = .c (.ptr 6 u 0) ∧ σ.H 6 = some (cwB u w) ∧ σ.t 2 = .c (.ptr 2 v 0) ∧ σ.H 2 = some (.var v 26 czC)
def UEn_1 := Bx.mk <|
  aN (uA c64.eq_1) <| aN (uR r64_0.eq_1) <| aN (uR r64_1.eq_1) <| aN (uR r64_2.eq_1) <| aN (uR r64_3.eq_1) <| aN (uA c64_10.eq_1) <| aN (uR r64_4.eq_1) <| aN (uA c64_9.eq_1) <| aN (uA c64_8.eq_1) <| aN (uR r64_5.eq_1) <| aN (uR r64_6.eq_1) <| aN (uR r64_7.eq_1) <| aN (uR r64_11.eq_1) <| aN (uR r64_12.eq_1) <| aN (uR r64_13.eq_1) <| aN (uR r64_14.eq_1) <| aN (uA c64_49.eq_1) <| aN (uR r64_15.eq_1) <| aN (uA c64_48.eq_1) <| aN (uA c64_47.eq_1) <| aN (uR r64_50.eq_1) <| s64.eq_1
def UEn_2 := Bx.mk <|
  aN (uA c64.eq_1) <| aN (uR r64_0.eq_1) <| aN (uR r64_1.eq_1) <| aN (uR r64_2.eq_1) <| aN (uR r64_3.eq_1) <| aN (uA c64_10.eq_1) <| aN (uR r64_4.eq_1) <| aN (uA c64_9.eq_1) <| aN (uA c64_8.eq_1) <| aN (uR r64_5.eq_1) <| aN (uR r64_6.eq_1) <| aN (uR r64_7.eq_1) <| aN (uR r64_12.eq_1) <| aN (uR r64_13.eq_1) <| aN (uR r64_14.eq_1) <| aN (uA c64_49.eq_1) <| aN (uR r64_15.eq_1) <| aN (uA c64_48.eq_1) <| aN (uA c64_47.eq_1) <| aN (uR r64_50.eq_1) <| s64.eq_1
def UEn_3 := Bx.mk <|
  aN (uA c64_46.eq_1) <| aN (uA c64_18.eq_1) <| aN (uR r64_16.eq_1) <| aN (uA c64_17.eq_1) <| aN (uA c64_44.eq_1) <| aN (uA c64_43.eq_1) <| aN (uA c64_26.eq_1) <| aN (uR r64_19.eq_1) <| aN (uA c64_25.eq_1) <| aN (uA c64_24.eq_1) <| aN (uR r64_20.eq_1) <| aN (uR r64_21.eq_1) <| aN (uA c64_23.eq_1) <| aN (uR r64_22.eq_1) <| aN (uR r64_27.eq_1) <| aN (uA c64_32.eq_1) <| aN (uR r64_28.eq_1) <| aN (uA c64_31.eq_1) <| aN (uA c64_30.eq_1) <| aN (uR r64_29.eq_1) <| aN (uR r64_33.eq_1) <| aN (uA c64_37.eq_1) <| aN (uR r64_34.eq_1) <| aN (uA c64_36.eq_1) <| aN (uR r64_35.eq_1) <| aN (uA c64_41.eq_1) <| aN (uR r64_38.eq_1) <| aN (uA c64_40.eq_1) <| aN (uR r64_39.eq_1) <| aN (uR r64_42.eq_1) <| aN (uR r64_45.eq_1) <| aN (uA c64.eq_1) <| aN (uR r64_0.eq_1) <| aN (uR r64_1.eq_1) <| aN (uR r64_2.eq_1) <| aN (uR r64_3.eq_1) <| aN (uA c64_10.eq_1) <| aN (uR r64_4.eq_1) <| aN (uA c64_9.eq_1) <| aN (uA c64_8.eq_1) <| aN (uR r64_5.eq_1) <| aN (uR r64_6.eq_1) <| aN (uR r64_7.eq_1) <| aN (uR r64_11.eq_1) <| aN (uR r64_12.eq_1) <| aN (uR r64_13.eq_1) <| aN (uR r64_14.eq_1) <| aN (uA c64_49.eq_1) <| aN (uR r64_15.eq_1) <| aN (uA c64_48.eq_1) <| aN (uA c64_47.eq_1) <| aN (uR r64_50.eq_1) <| s64.eq_1
def UEn_4 := Bx.mk <|
  aN (uA c64_46.eq_1) <| aN (uA c64_18.eq_1) <| aN (uR r64_16.eq_1) <| aN (uA c64_17.eq_1) <| aN (uA c64_44.eq_1) <| aN (uA c64_43.eq_1) <| aN (uA c64_26.eq_1) <| aN (uR r64_19.eq_1) <| aN (uA c64_25.eq_1) <| aN (uA c64_24.eq_1) <| aN (uR r64_20.eq_1) <| aN (uR r64_21.eq_1) <| aN (uA c64_23.eq_1) <| aN (uR r64_22.eq_1) <| aN (uR r64_27.eq_1) <| aN (uA c64_32.eq_1) <| aN (uR r64_28.eq_1) <| aN (uA c64_31.eq_1) <| aN (uA c64_30.eq_1) <| aN (uR r64_29.eq_1) <| aN (uR r64_33.eq_1) <| aN (uA c64_37.eq_1) <| aN (uR r64_34.eq_1) <| aN (uA c64_36.eq_1) <| aN (uR r64_35.eq_1) <| aN (uA c64_41.eq_1) <| aN (uR r64_38.eq_1) <| aN (uA c64_40.eq_1) <| aN (uR r64_39.eq_1) <| aN (uR r64_45.eq_1) <| aN (uA c64.eq_1) <| aN (uR r64_0.eq_1) <| aN (uR r64_1.eq_1) <| aN (uR r64_2.eq_1) <| aN (uR r64_3.eq_1) <| aN (uA c64_10.eq_1) <| aN (uR r64_4.eq_1) <| aN (uA c64_9.eq_1) <| aN (uA c64_8.eq_1) <| aN (uR r64_5.eq_1) <| aN (uR r64_6.eq_1) <| aN (uR r64_7.eq_1) <| aN (uR r64_11.eq_1) <| aN (uR r64_12.eq_1) <| aN (uR r64_13.eq_1) <| aN (uR r64_14.eq_1) <| aN (uA c64_49.eq_1) <| aN (uR r64_15.eq_1) <| aN (uA c64_48.eq_1) <| aN (uA c64_47.eq_1) <| aN (uR r64_50.eq_1) <| s64.eq_1
def UEn_5 := Bx.mk <|
  aN (uA c64_46.eq_1) <| aN (uA c64_18.eq_1) <| aN (uR r64_16.eq_1) <| aN (uA c64_17.eq_1) <| aN (uA c64_44.eq_1) <| aN (uA c64_43.eq_1) <| aN (uA c64_26.eq_1) <| aN (uR r64_19.eq_1) <| aN (uA c64_25.eq_1) <| aN (uA c64_24.eq_1) <| aN (uR r64_20.eq_1) <| aN (uR r64_21.eq_1) <| aN (uA c64_23.eq_1) <| aN (uR r64_22.eq_1) <| aN (uA c64_32.eq_1) <| aN (uR r64_28.eq_1) <| aN (uA c64_31.eq_1) <| aN (uA c64_30.eq_1) <| aN (uR r64_29.eq_1) <| aN (uR r64_33.eq_1) <| aN (uA c64_37.eq_1) <| aN (uR r64_34.eq_1) <| aN (uA c64_36.eq_1) <| aN (uR r64_35.eq_1) <| aN (uA c64_41.eq_1) <| aN (uR r64_38.eq_1) <| aN (uA c64_40.eq_1) <| aN (uR r64_39.eq_1) <| aN (uR r64_42.eq_1) <| aN (uR r64_45.eq_1) <| aN (uA c64.eq_1) <| aN (uR r64_0.eq_1) <| aN (uR r64_1.eq_1) <| aN (uR r64_2.eq_1) <| aN (uR r64_3.eq_1) <| aN (uA c64_10.eq_1) <| aN (uR r64_4.eq_1) <| aN (uA c64_9.eq_1) <| aN (uA c64_8.eq_1) <| aN (uR r64_5.eq_1) <| aN (uR r64_6.eq_1) <| aN (uR r64_7.eq_1) <| aN (uR r64_11.eq_1) <| aN (uR r64_12.eq_1) <| aN (uR r64_13.eq_1) <| aN (uR r64_14.eq_1) <| aN (uA c64_49.eq_1) <| aN (uR r64_15.eq_1) <| aN (uA c64_48.eq_1) <| aN (uA c64_47.eq_1) <| aN (uR r64_50.eq_1) <| s64.eq_1
set_option maxRecDepth 8000 in
set_option maxHeartbeats 4000000 in
theorem l54World_ok (bs : List UInt8) (hb : bs.length ≤ 2000) (p : Int) (hp : 0 ≤ p ∧ p ≤ 1000000000) : RC 64 [] bs p 500 Wf (fun w => .pt (.agg (cwC w))) := by
  obtain ⟨a1, ha1, hb1, C1⟩ := pick_ok bs hb p 12 (by omega) (by omega)
  obtain ⟨a2, ha2, hb2, C2⟩ := pick_ok bs hb (p + 1) 4 (by omega) (by omega)
  obtain ⟨a3, ha3, hb3, C3⟩ := pick_ok bs hb (p + 1 + 1) 5 (by omega) (by omega)
  obtain ⟨a4, ha4, hb4, C4⟩ := pick_ok bs hb (p + 1 + 1 + 1) 12 (by omega) (by omega)
  obtain ⟨p1, hp1⟩ : ∃ p1, p + 1 + 1 + 1 + 1 = p1 := ⟨_, rfl⟩
  obtain ⟨n, hn0, hn1, C5⟩ := pick_ok bs hb p1 140 (by omega) (by omega)
  obtain ⟨ca, ha6, hb6, C6⟩ := pick_ok bs hb (p1 + 1) 150 (by omega) (by omega)
  obtain ⟨le, ha7, hb7, C7⟩ := pick_ok bs hb (p1 + 1 + 1) 4 (by omega) (by omega)
  have w2 : IntKind.i64.wrap (1 + a2) = 1 + a2 := wrap64 ⟨by omega, by omega⟩
  have w3 : IntKind.i64.wrap (1 + a3) = 1 + a3 := wrap64 ⟨by omega, by omega⟩
  refine RC.intro ok64 rfl (fun _ => rfl) fun X => ?_
  have fin : ∀ (j k nn : Int), StartOk j k nn → ∀ (t : Nat → T) (H : HMap) (c v : Nat), t 0 = rP 0 → H 1000 = some (rdr 0 bs p1) → t 3 = .i j → t 4 = .i k → t 5 = .i nn → t 2 = .c (.ptr 2 v 0) → H 2 = some (.var v 26 czC) → DRun Tryz.prog r64_11 [] (Kont (thenW Tryz.prog X (.seq (.reg r64_12) (.seq (.reg r64_13) (.seq (.reg r64_14) (.seq c64_49 (.seq (.reg r64_50) .ret))))) (endR p 500 Wf (fun w => .pt (.agg (cwC w))) bs [.cell 2 18 true])) r64_11) ⟨t, H, c⟩ := by
    intro j k nn hst t H c v e0 eR e3 e4 e5 e2 eH2
    simp only [T.c, T.i, rP, rdr, rdC] at e0 eR e3 e4 e5 e2 eH2
    simp only [RZ, reduceAdd, reduceIte, reduceEqDiff, reduceLT, reduceLeDiff, reduceCtorEq, Nat.reduceBEq, rH, rV, rdC, rdr, UEn_1.d, e0, eR, e3, e4, e5, e2, eH2]
    refine callC (start_yes hst) rfl rfl rfl rfl ?_
    simp only [RZ, reduceAdd, reduceIte, reduceEqDiff, reduceLT, reduceLeDiff, reduceCtorEq, Nat.reduceBEq, rH, rV, rdC, rdr, UEn_1.d, e0, eR, e3, e4, e5, e2, eH2]
    refine callRc (C5 0) rfl rfl rfl rfl eR ⟨rfl, ?_⟩
    simp only [RZ, reduceAdd, reduceIte, reduceEqDiff, reduceLT, reduceLeDiff, reduceCtorEq, Nat.reduceBEq, rH, rV, rdC, rdr, UEn_1.d, e0, eR, e3, e4, e5, e2, eH2]
    refine callRc (C6 0) rfl rfl rfl rfl rfl ⟨rfl, ?_⟩
    simp only [RZ, reduceAdd, reduceIte, reduceEqDiff, reduceLT, reduceLeDiff, reduceCtorEq, Nat.reduceBEq, rH, rV, rdC, rdr, UEn_1.d, e0, eR, e3, e4, e5, e2, eH2]
    refine callRc (C7 0) rfl rfl rfl rfl rfl ⟨rfl, ?_⟩
    simp only [RZ, reduceAdd, reduceIte, reduceEqDiff, reduceLT, reduceLeDiff, reduceCtorEq, Nat.reduceBEq, rH, rV, rdC, rdr, UEn_1.d, e0, eR, e3, e4, e5, e2, eH2]
    refine AW.upto n.toNat (inv64 bs (p1 + 1 + 1 + 1) n ca le) ⟨start j k nn, _, _, v, start_wf hst, ⟨Int.le_refl _, by omega⟩, e0, rfl, rfl, rfl, rfl, rfl, rfl, rfl, e2, eH2⟩ fun i t H c hi h' => ?_
    clear e0 eR e3 e4 e5 e2 eH2
    obtain ⟨w, q, u, v, hw, hq, e0, eR, e8, e9, e10, e11, e6, eH6, e2, eH2⟩ := h'
    simp only [T.c, T.i, rP, rdr, rdC] at e0 eR e8 e9 e10 e11 e6 eH6 e2 eH2
    by_cases k1 : (i : Int) < n
    rotate_left
    · simp only [RZ, reduceAdd, reduceIte, reduceEqDiff, reduceLT, reduceLeDiff, reduceCtorEq, Nat.reduceBEq, rH, rV, rdC, rdr, UEn_3.d, e0, eR, e8, e9, e10, e11, e6, eH6, e2, eH2, k1]
      refine ES.mk (q, w) ⟨by omega, by omega, hw⟩ ?_
      simp only [RZ, reduceAdd, reduceIte, reduceEqDiff, reduceLT, reduceLeDiff, reduceCtorEq, Nat.reduceBEq, rH, rV, rdC, rdr, UEn_3.d, e0, eR, e8, e9, e10, e11, e6, eH6, e2, eH2, k1]
    have gw := w1_ok (i := i) (by omega)
    have last : ∀ (w : CW) (ms : List Mv) (j : Nat) (m : Mv), ms[j]? = some m → ms.length ≤ 1000 → Can w m → ∀ (q : Int), p1 + 1 + 1 + 1 ≤ q ∧ q ≤ p1 + 1 + 1 + 1 + 3 * (i + 1) → ∀ (t : Nat → T) (H : HMap) (c u v : Nat), t 0 = rP 0 → H 1000 = some (rdr 0 bs q) → t 8 = .i n → t 9 = .i ca → t 10 = .i le → t 11 = .i i → t 6 = .c (.ptr 6 u 0) → H 6 = some (cwB u w) → t 2 = .c (.ptr 2 v 0) → H 2 = some (.var v 26 czC) → t 14 = tL (en eM ms) → t 15 = .i j → DRun Tryz.prog r64_42 [] (Kont (inW 1 (thenW Tryz.prog X (.reg r64_45) (thenA (fun σ => i < n.toNat ∧ inv64 bs (p1 + 1 + 1 + 1) n ca le (i + 1) σ) (inW 0 (thenW Tryz.prog X (.seq (.reg r64_50) .ret) (endR p 500 Wf (fun w => .pt (.agg (cwC w))) bs [.cell 2 18 true])))))) r64_42) ⟨t, H, c⟩ := by
      intro w ms j m hm hl hc q hq t H c u v e0 eR e8 e9 e10 e11 e6 eH6 e2 eH2 e14 e15
      simp only [T.c, T.i, tL, rP, rdr, rdC] at e0 eR e8 e9 e10 e11 e6 eH6 e2 eH2 e14 e15
      have em := en_at eM hm
      have gz : (0 : Int) ≤ j := by omega
      simp only [RZ, reduceAdd, reduceIte, reduceEqDiff, reduceLT, reduceLeDiff, reduceCtorEq, Nat.reduceBEq, rH, rV, rdC, rdr, UEn_3.d, e0, eR, e8, e9, e10, e11, e6, eH6, e2, eH2, e14, e15, em, gz, Int.toNat_natCast, eM]
      refine callC (stepS_yes hc (stepW_wf hc.ok.form m).small) rfl rfl rfl rfl ?_
      simp only [RZ, reduceAdd, reduceIte, reduceEqDiff, reduceLT, reduceLeDiff, reduceCtorEq, Nat.reduceBEq, rH, rV, rdC, rdr, UEn_3.d, e0, eR, e8, e9, e10, e11, e6, eH6, e2, eH2, e14, e15, em, gz, Int.toNat_natCast, eM, gw]
      exact ⟨by omega, stepW w m, q, u, v, stepW_wf hc.ok.form m, by omega, e0, eR, e8, e9, e10, rfl, e6, rfl, e2, eH2⟩
    have rest : ∀ (w : CW), Wf w → ∀ (t : Nat → T) (H : HMap) (c u v : Nat), t 0 = rP 0 → H 1000 = some (rdr 0 bs q) → t 8 = .i n → t 9 = .i ca → t 10 = .i le → t 11 = .i i → t 6 = .c (.ptr 6 u 0) → H 6 = some (cwB u w) → t 2 = .c (.ptr 2 v 0) → H 2 = some (.var v 26 czC) → DRun Tryz.prog r64_27 [] (Kont (thenW Tryz.prog X (.seq c64_32 (.seq (.reg r64_33) (.seq c64_37 (.seq c64_41 (.reg r64_42))))) (inW 1 (thenW Tryz.prog X (.reg r64_45) (thenA (fun σ => i < n.toNat ∧ inv64 bs (p1 + 1 + 1 + 1) n ca le (i + 1) σ) (inW 0 (thenW Tryz.prog X (.seq (.reg r64_50) .ret) (endR p 500 Wf (fun w => .pt (.agg (cwC w))) bs [.cell 2 18 true]))))))) r64_27) ⟨t, H, c⟩ := by
      intro w hw t H c u v e0 eR e8 e9 e10 e11 e6 eH6 e2 eH2
      simp only [T.c, T.i, rP, rdr, rdC] at e0 eR e8 e9 e10 e11 e6 eH6 e2 eH2
      obtain ⟨ms, hms, Cm⟩ := crewMoves_ok w
      simp only [RZ, reduceAdd, reduceIte, reduceEqDiff, reduceLT, reduceLeDiff, reduceCtorEq, Nat.reduceBEq, rH, rV, rdC, rdr, UEn_4.d, e0, eR, e8, e9, e10, e11, e6, eH6, e2, eH2]
      refine callC Cm rfl rfl rfl rfl ?_
      by_cases k3 : ms.length = 0
      · have k4 : ((ms.length : Int) == 0) = true := eqb (by omega)
        simp only [RZ, reduceAdd, reduceIte, reduceEqDiff, reduceLT, reduceLeDiff, reduceCtorEq, Nat.reduceBEq, rH, rV, rdC, rdr, UEn_4.d, e0, eR, e8, e9, e10, e11, e6, eH6, e2, eH2, k4]
        refine ES.mk (q, w) ⟨by omega, by omega, hw⟩ ?_
        simp only [RZ, reduceAdd, reduceIte, reduceEqDiff, reduceLT, reduceLeDiff, reduceCtorEq, Nat.reduceBEq, rH, rV, rdC, rdr, UEn_4.d, e0, eR, e8, e9, e10, e11, e6, eH6, e2, eH2, k4]
      have k4 : ((ms.length : Int) == 0) = false := neqb (by omega)
      have ok : WOk w := Classical.byContradiction fun g => k3 (by rw [hms.2 g]; rfl)
      have hmm := hms.1 ok
      have hml : ms.length ≤ 1000 := by
        have h1 := amoves_len w (w.workers.toNat + 4)
        have h2 := ok.form.st.k
        rw [hmm, moves]; omega
      have hcan : ∀ m ∈ ms, Can w m := fun m hm => moves_can ok (by rw [← hmm]; exact hm)
      obtain ⟨kk, hk0, hk1, D1⟩ := pick_ok bs hb q ms.length (by omega) (by omega)
      obtain ⟨dd, hd0, hd1, D2⟩ := pick_ok bs hb (q + 1) 3 (by omega) (by omega)
      have w4 : IntKind.i64.wrap ((ms.length : Int) - 1) = ((ms.length - 1 : Nat) : Int) := by rw [wrap64 ⟨by omega, by omega⟩]; omega
      simp only [RZ, reduceAdd, reduceIte, reduceEqDiff, reduceLT, reduceLeDiff, reduceCtorEq, Nat.reduceBEq, rH, rV, rdC, rdr, UEn_4.d, e0, eR, e8, e9, e10, e11, e6, eH6, e2, eH2, k4]
      refine callRc (D1 0) rfl rfl rfl rfl eR ⟨rfl, ?_⟩
      obtain ⟨j, rfl⟩ : ∃ j : Nat, kk = j := ⟨kk.toNat, by omega⟩
      have hj : ms[j]? = some ms[j] := List.getElem?_eq_getElem (by omega)
      have hz : ms[0]? = some ms[0] := List.getElem?_eq_getElem (by omega)
      have he : ms[ms.length - 1]? = some ms[ms.length - 1] := List.getElem?_eq_getElem (by omega)
      by_cases l1 : le = 1
      · have k5 := eqb l1
        have k6 : (le == 2) = false := neqb (by omega)
        simp only [RZ, reduceAdd, reduceIte, reduceEqDiff, reduceLT, reduceLeDiff, reduceCtorEq, Nat.reduceBEq, rH, rV, rdC, rdr, UEn_4.d, e0, eR, e8, e9, e10, e11, e6, eH6, e2, eH2, k4, k5]
        refine callRc (D2 0) rfl rfl rfl rfl rfl ⟨rfl, ?_⟩
        by_cases d1 : dd > 0
        · simp only [RZ, reduceAdd, reduceIte, reduceEqDiff, reduceLT, reduceLeDiff, reduceCtorEq, Nat.reduceBEq, rH, rV, rdC, rdr, UEn_4.d, e0, eR, e8, e9, e10, e11, e6, eH6, e2, eH2, k4, k5, k6, d1]
          refine last w ms 0 _ hz hml (hcan _ (List.getElem_mem _)) (q + 1 + 1) (by omega) _ _ _ u v ?_ ?_ ?_ ?_ ?_ ?_ ?_ ?_ ?_ ?_ ?_ ?_ <;> first | rfl | assumption
        · simp only [RZ, reduceAdd, reduceIte, reduceEqDiff, reduceLT, reduceLeDiff, reduceCtorEq, Nat.reduceBEq, rH, rV, rdC, rdr, UEn_4.d, e0, eR, e8, e9, e10, e11, e6, eH6, e2, eH2, k4, k5, k6, d1]
          refine last w ms j _ hj hml (hcan _ (List.getElem_mem _)) (q + 1 + 1) (by omega) _ _ _ u v ?_ ?_ ?_ ?_ ?_ ?_ ?_ ?_ ?_ ?_ ?_ ?_ <;> first | rfl | assumption
      have k5 := neqb l1
      by_cases l2 : le = 2
      · have k6 := eqb l2
        simp only [RZ, reduceAdd, reduceIte, reduceEqDiff, reduceLT, reduceLeDiff, reduceCtorEq, Nat.reduceBEq, rH, rV, rdC, rdr, UEn_4.d, e0, eR, e8, e9, e10, e11, e6, eH6, e2, eH2, k4, k5, k6]
        refine callRc (D2 0) rfl rfl rfl rfl rfl ⟨rfl, ?_⟩
        by_cases d1 : dd > 0
        · simp only [RZ, reduceAdd, reduceIte, reduceEqDiff, reduceLT, reduceLeDiff, reduceCtorEq, Nat.reduceBEq, rH, rV, rdC, rdr, UEn_4.d, e0, eR, e8, e9, e10, e11, e6, eH6, e2, eH2, k4, k5, k6, d1, w4]
          refine last w ms (ms.length - 1) _ he hml (hcan _ (List.getElem_mem _)) (q + 1 + 1) (by omega) _ _ _ u v ?_ ?_ ?_ ?_ ?_ ?_ ?_ ?_ ?_ ?_ ?_ ?_ <;> first | rfl | assumption
        · simp only [RZ, reduceAdd, reduceIte, reduceEqDiff, reduceLT, reduceLeDiff, reduceCtorEq, Nat.reduceBEq, rH, rV, rdC, rdr, UEn_4.d, e0, eR, e8, e9, e10, e11, e6, eH6, e2, eH2, k4, k5, k6, d1]
          refine last w ms j _ hj hml (hcan _ (List.getElem_mem _)) (q + 1 + 1) (by omega) _ _ _ u v ?_ ?_ ?_ ?_ ?_ ?_ ?_ ?_ ?_ ?_ ?_ ?_ <;> first | rfl | assumption
      have k6 := neqb l2
      simp only [RZ, reduceAdd, reduceIte, reduceEqDiff, reduceLT, reduceLeDiff, reduceCtorEq, Nat.reduceBEq, rH, rV, rdC, rdr, UEn_4.d, e0, eR, e8, e9, e10, e11, e6, eH6, e2, eH2, k4, k5, k6]
      refine last w ms j _ hj hml (hcan _ (List.getElem_mem _)) (q + 1) (by omega) _ _ _ u v ?_ ?_ ?_ ?_ ?_ ?_ ?_ ?_ ?_ ?_ ?_ ?_ <;> first | rfl | assumption
    by_cases k2 : (i : Int) = ca
    · have k3 := eqb k2
      by_cases hc : WOk w ∧ w.user ≠ 1
      · simp only [RZ, reduceAdd, reduceIte, reduceEqDiff, reduceLT, reduceLeDiff, reduceCtorEq, Nat.reduceBEq, rH, rV, rdC, rdr, UEn_5.d, e0, eR, e8, e9, e10, e11, e6, eH6, e2, eH2, k1, k3]
        refine callC (cancelS_yes hc.1 hc.2) rfl rfl rfl rfl ?_
        simp only [RZ, reduceAdd, reduceIte, reduceEqDiff, reduceLT, reduceLeDiff, reduceCtorEq, Nat.reduceBEq, rH, rV, rdC, rdr, UEn_5.d, e0, eR, e8, e9, e10, e11, e6, eH6, e2, eH2, k1, k3]
        refine rest (cancelW w) (cancel_wf hc.1.form) _ _ _ u v ?_ ?_ ?_ ?_ ?_ ?_ ?_ ?_ ?_ ?_ <;> first | rfl | assumption
      · simp only [RZ, reduceAdd, reduceIte, reduceEqDiff, reduceLT, reduceLeDiff, reduceCtorEq, Nat.reduceBEq, rH, rV, rdC, rdr, UEn_5.d, e0, eR, e8, e9, e10, e11, e6, eH6, e2, eH2, k1, k3]
        refine callC (cancelS_no hc) rfl rfl rfl rfl ?_
        simp only [RZ, reduceAdd, reduceIte, reduceEqDiff, reduceLT, reduceLeDiff, reduceCtorEq, Nat.reduceBEq, rH, rV, rdC, rdr, UEn_5.d, e0, eR, e8, e9, e10, e11, e6, eH6, e2, eH2, k1, k3]
        refine rest w hw _ _ _ u v ?_ ?_ ?_ ?_ ?_ ?_ ?_ ?_ ?_ ?_ <;> first | rfl | assumption
    · have k3 := neqb k2
      simp only [RZ, reduceAdd, reduceIte, reduceEqDiff, reduceLT, reduceLeDiff, reduceCtorEq, Nat.reduceBEq, rH, rV, rdC, rdr, UEn_5.d, e0, eR, e8, e9, e10, e11, e6, eH6, e2, eH2, k1, k3]
      refine rest w hw _ _ _ u v ?_ ?_ ?_ ?_ ?_ ?_ ?_ ?_ ?_ ?_ <;> first | rfl | assumption
  simp only [RZ, reduceAdd, reduceIte, reduceEqDiff, reduceLT, reduceLeDiff, reduceCtorEq, Nat.reduceBEq, rH, rV, rdC, rdr, UEn_2.d]
  refine callRc (C1 0) rfl rfl rfl rfl rfl ⟨rfl, ?_⟩
  simp only [RZ, reduceAdd, reduceIte, reduceEqDiff, reduceLT, reduceLeDiff, reduceCtorEq, Nat.reduceBEq, rH, rV, rdC, rdr, UEn_2.d]
  refine callRc (C2 0) rfl rfl rfl rfl rfl ⟨rfl, ?_⟩
  simp only [RZ, reduceAdd, reduceIte, reduceEqDiff, reduceLT, reduceLeDiff, reduceCtorEq, Nat.reduceBEq, rH, rV, rdC, rdr, UEn_2.d, w2]
  refine callRc (C3 0) rfl rfl rfl rfl rfl ⟨rfl, ?_⟩
  simp only [RZ, reduceAdd, reduceIte, reduceEqDiff, reduceLT, reduceLeDiff, reduceCtorEq, Nat.reduceBEq, rH, rV, rdC, rdr, UEn_2.d, w2, w3]
  refine callRc (C4 0) rfl rfl rfl rfl rfl ⟨rfl, ?_⟩
  rw [hp1]
  by_cases c1 : a4 = 0
  · have k1 := eqb c1
    simp only [RZ, reduceAdd, reduceIte, reduceEqDiff, reduceLT, reduceLeDiff, reduceCtorEq, Nat.reduceBEq, rH, rV, rdC, rdr, UEn_2.d, w2, w3, k1]
    refine fin 60 8 16 ⟨by omega, by omega, by omega⟩ _ _ _ 1 ?_ ?_ ?_ ?_ ?_ ?_ ?_ <;> rfl
  · have k1 := neqb c1
    simp only [RZ, reduceAdd, reduceIte, reduceEqDiff, reduceLT, reduceLeDiff, reduceCtorEq, Nat.reduceBEq, rH, rV, rdC, rdr, UEn_2.d, w2, w3, k1]
    refine fin a1 (1 + a2) (1 + a3) ⟨by omega, by omega, by omega⟩ _ _ _ 1 ?_ ?_ ?_ ?_ ?_ ?_ ?_ <;> rfl
end Go.V
set_option linter.unusedVariables false
set_option linter.unusedSimpArgs false
namespace Go.V
open Go.Proofs
open Nat (reduceAdd reduceEqDiff reduceLT reduceLeDiff)
theorem idx_ex (xs : List Int) (k : Int) (h0 : 0 ≤ k) (h1 : k < xs.length) : ∃ y, (en eI xs)[k.toNat]? = some (eI y) := by
  have h2 : k.toNat < xs.length := by omega
  exact ⟨xs[k.toNat], en_at eI (List.getElem?_eq_getElem h2)⟩
/- loop.example/teagle/spec.l54Spoil -/
def r66_0 : List AOper := [ao 0 3 (.box 26 (.t 1)),
  ao 1 4 (.alloc 26 [(.v (.s (.int .i64 0))), (.v (.s (.int .i64 0))), (.v (.s (.int .i64 0))), (.v (.s (.int .i64 0))), (.v (.s (.int .i64 0))), .nil0, .nil0, (.v (.s (.int .i64 0))), .nil0, (.v (.s (.int .i64 0))), .nil0, (.v (.s (.int .i64 0))), .nil0, (.v (.s (.int .i64 0))), .nil0, (.v (.s (.int .i64 0))), .nil0, (.v (.s (.int .i64 0)))])]
def r66_1 : List AOper := [ao 0 6 (.ld 18 true (.t 3)),
  ao 1 7 (.call (.k (.c (.fn 48 []))) [(.t 6)]),
  an 2 (.st 18 (.t 3) (.t 7))]
def r66_2 : List AOper := [ao 0 8 (.mv (.t 0)),
  ao 1 9 (.call (.k (.c (.fn 65 []))) [(.t 8), (.k (.i 4))]),
  ao 2 10 (.bin .sub (.t 9) (.k (.i 1))),
  ao 3 5 (.mv (.t 10))]
def r66_3 : List AOper := [ao 0 11 (.mv (.t 0)),
  ao 1 12 (.call (.k (.c (.fn 65 []))) [(.t 11), (.k (.i 18))])]
def r66_4 : List AOper := [ao 0 34 (.bin .eql (.t 12) (.k (.i 0))),
  ao 1 33 (.mv (.t 34))]
def r66_5 : List AOper := [ao 0 35 (.fa 3 (.t 3)),
  ao 1 36 (.ld 1 false (.t 35)),
  au 2 37 [0, 1] (.fa 3 (.t 3)),
  au 3 38 [0, 1] (.ld 1 false (.t 37)),
  au 4 39 [0, 1] (.bin .add (.t 38) (.k (.i 1))),
  ao 5 40 (.bsl 1 3 [(.k (.i (-1))), (.k (.i 61)), (.t 36), (.t 39)]),
  au 6 41 (ru 6) (.mv (.t 0)),
  au 7 42 (ru 6) (.call (.k (.c (.fn 65 []))) [(.t 41), (.k (.i 4))]),
  ao 8 43 (.ia 1 (.t 40) (.t 42)),
  ao 9 44 (.ld 1 false (.t 43)),
  ao 10 45 (.fa 0 (.t 3)),
  an 11 (.st 1 (.t 45) (.t 44))]
def r66_6 : List AOper := [ao 0 47 (.bin .eql (.t 12) (.k (.i 1))),
  ao 1 46 (.mv (.t 47))]
def r66_7 : List AOper := [ao 0 48 (.fa 1 (.t 3)),
  ao 1 49 (.ld 1 false (.t 48)),
  ao 2 50 (.bin .add (.t 49) (.k (.i 1))),
  ao 3 51 (.bsl 1 3 [(.k (.i 0)), (.k (.i 9)), (.t 50)]),
  au 4 52 (ru 4) (.mv (.t 0)),
  au 5 53 (ru 4) (.call (.k (.c (.fn 65 []))) [(.t 52), (.k (.i 3))]),
  ao 6 54 (.ia 1 (.t 51) (.t 53)),
  ao 7 55 (.ld 1 false (.t 54)),
  ao 8 56 (.fa 1 (.t 3)),
  an 9 (.st 1 (.t 56) (.t 55))]
def r66_8 : List AOper := [ao 0 58 (.bin .eql (.t 12) (.k (.i 2))),
  ao 1 57 (.mv (.t 58))]
def r66_9 : List AOper := [ao 0 59 (.fa 2 (.t 3)),
  ao 1 60 (.ld 1 false (.t 59)),
  ao 2 61 (.bin .add (.t 60) (.k (.i 1))),
  ao 3 62 (.bsl 1 3 [(.k (.i 0)), (.k (.i 17)), (.t 61)]),
  au 4 63 (ru 4) (.mv (.t 0)),
  au 5 64 (ru 4) (.call (.k (.c (.fn 65 []))) [(.t 63), (.k (.i 3))]),
  ao 6 65 (.ia 1 (.t 62) (.t 64)),
  ao 7 66 (.ld 1 false (.t 65)),
  ao 8 67 (.fa 2 (.t 3)),
  an 9 (.st 1 (.t 67) (.t 66))]
def r66_10 : List AOper := [ao 0 69 (.bin .eql (.t 12) (.k (.i 3))),
  ao 1 68 (.mv (.t 69))]
def r66_11 : List AOper := [ao 0 70 (.fa 3 (.t 3)),
  ao 1 71 (.ld 1 false (.t 70)),
  ao 2 72 (.mv (.t 5)),
  ao 3 73 (.bin .add (.t 71) (.t 72)),
  ao 4 74 (.fa 3 (.t 3)),
  an 5 (.st 1 (.t 74) (.t 73))]
def r66_12 : List AOper := [ao 0 76 (.bin .eql (.t 12) (.k (.i 4))),
  ao 1 75 (.mv (.t 76))]
def r66_13 : List AOper := [ao 0 77 (.mv (.t 0)),
  ao 1 78 (.call (.k (.c (.fn 65 []))) [(.t 77), (.k (.i 6))]),
  ao 2 79 (.bin .sub (.t 78) (.k (.i 1))),
  ao 3 80 (.fa 4 (.t 3)),
  an 4 (.st 1 (.t 80) (.t 79))]
def r66_14 : List AOper := [ao 0 82 (.bin .eql (.t 12) (.k (.i 5))),
  ao 1 81 (.mv (.t 82))]
def r66_15 : List AOper := [ao 0 83 (.fa 5 (.t 3)),
  ao 1 84 (.ld 1 false (.t 83)),
  ao 2 85 (.fa 11 (.t 3)),
  ao 3 86 (.ld 1 false (.t 85)),
  ao 4 87 (.mv (.t 5)),
  ao 5 88 (.bin .add (.t 86) (.t 87)),
  ao 6 89 (.bsl 1 3 [(.t 88)]),
  ao 7 90 (.app 1 3 8 (.t 84) (.t 89)),
  ao 8 91 (.fa 5 (.t 3)),
  an 9 (.st 1 (.t 91) (.t 90))]
def r66_16 : List AOper := [ao 0 93 (.bin .eql (.t 12) (.k (.i 6))),
  ao 1 92 (.mv (.t 93))]
def r66_17 : List AOper := [ao 0 94 (.fa 6 (.t 3)),
  ao 1 95 (.ld 1 false (.t 94)),
  au 2 96 [0, 1] (.mv (.t 0)),
  au 3 97 [0, 1] (.call (.k (.c (.fn 65 []))) [(.t 96), (.k (.i 6))]),
  au 4 98 [0, 1] (.bin .sub (.t 97) (.k (.i 1))),
  ao 5 99 (.ia 2 (.t 95) (.k (.i 0))),
  ao 6 100 (.fa 0 (.t 99)),
  an 7 (.st 1 (.t 100) (.t 98))]
def r66_18 : List AOper := [ao 0 102 (.bin .eql (.t 12) (.k (.i 7))),
  ao 1 101 (.mv (.t 102))]
def r66_19 : List AOper := [ao 0 103 (.fa 6 (.t 3)),
  ao 1 104 (.ld 1 false (.t 103)),
  ao 2 105 (.fa 11 (.t 3)),
  ao 3 106 (.ld 1 false (.t 105)),
  ao 4 107 (.mv (.t 5)),
  ao 5 108 (.bin .add (.t 106) (.t 107)),
  ao 6 109 (.ia 2 (.t 104) (.k (.i 0))),
  ao 7 110 (.fa 1 (.t 109)),
  an 8 (.st 1 (.t 110) (.t 108))]
def r66_20 : List AOper := [ao 0 112 (.bin .eql (.t 12) (.k (.i 8))),
  ao 1 111 (.mv (.t 112))]
def r66_21 : List AOper := [ao 0 113 (.mv (.t 0)),
  ao 1 114 (.call (.k (.c (.fn 65 []))) [(.t 113), (.k (.i 4))]),
  ao 2 115 (.bin .sub (.t 114) (.k (.i 1))),
  ao 3 116 (.fa 7 (.t 3)),
  an 4 (.st 1 (.t 116) (.t 115))]
def r66_22 : List AOper := [ao 0 118 (.bin .eql (.t 12) (.k (.i 9))),
  ao 1 117 (.mv (.t 118))]
def r66_23 : List AOper := [ao 0 119 (.fa 8 (.t 3)),
  ao 1 120 (.ld 1 false (.t 119)),
  ao 2 121 (.fa 11 (.t 3)),
  ao 3 122 (.ld 1 false (.t 121)),
  ao 4 123 (.mv (.t 5)),
  ao 5 124 (.bin .add (.t 122) (.t 123)),
  ao 6 125 (.bsl 1 3 [(.t 124)]),
  ao 7 126 (.app 1 3 8 (.t 120) (.t 125)),
  ao 8 127 (.fa 8 (.t 3)),
  an 9 (.st 1 (.t 127) (.t 126))]
def r66_24 : List AOper := [ao 0 129 (.bin .eql (.t 12) (.k (.i 10))),
  ao 1 128 (.mv (.t 129))]
def r66_25 : List AOper := [ao 0 130 (.mv (.t 0)),
  ao 1 131 (.call (.k (.c (.fn 65 []))) [(.t 130), (.k (.i 8))]),
  ao 2 132 (.bin .sub (.t 131) (.k (.i 1))),
  ao 3 133 (.fa 9 (.t 3)),
  an 4 (.st 1 (.t 133) (.t 132))]
def r66_26 : List AOper := [ao 0 135 (.bin .eql (.t 12) (.k (.i 11))),
  ao 1 134 (.mv (.t 135))]
def r66_27 : List AOper := [ao 0 136 (.fa 10 (.t 3)),
  ao 1 137 (.ld 1 false (.t 136)),
  au 2 138 [0, 1] (.mv (.t 0)),
  au 3 139 (ru 3) (.fa 10 (.t 3)),
  au 4 140 (ru 3) (.ld 1 false (.t 139)),
  au 5 141 (ru 3) (.len (.t 140)),
  au 6 142 [0, 1] (.call (.k (.c (.fn 65 []))) [(.t 138), (.t 141)]),
  au 7 143 (ru 7) (.fa 11 (.t 3)),
  au 8 144 (ru 7) (.ld 1 false (.t 143)),
  au 9 145 (ru 9) (.mv (.t 5)),
  au 10 146 (ru 7) (.bin .add (.t 144) (.t 145)),
  ao 11 147 (.ia 1 (.t 137) (.t 142)),
  an 12 (.st 1 (.t 147) (.t 146))]
def r66_28 : List AOper := [ao 0 149 (.bin .eql (.t 12) (.k (.i 12))),
  ao 1 148 (.mv (.t 149))]
def r66_29 : List AOper := [ao 0 150 (.fa 11 (.t 3)),
  ao 1 151 (.ld 1 false (.t 150)),
  ao 2 152 (.mv (.t 5)),
  ao 3 153 (.bin .add (.t 151) (.t 152)),
  ao 4 154 (.fa 11 (.t 3)),
  an 5 (.st 1 (.t 154) (.t 153))]
def r66_30 : List AOper := [ao 0 156 (.bin .eql (.t 12) (.k (.i 13))),
  ao 1 155 (.mv (.t 156))]
def r66_31 : List AOper := [ao 0 157 (.fa 12 (.t 3)),
  ao 1 158 (.ld 1 false (.t 157)),
  ao 2 159 (.fa 11 (.t 3)),
  ao 3 160 (.ld 1 false (.t 159)),
  ao 4 161 (.bin .sub (.t 160) (.k (.i 1))),
  ao 5 162 (.bsl 1 3 [(.t 161)]),
  ao 6 163 (.app 1 3 8 (.t 158) (.t 162)),
  ao 7 164 (.fa 12 (.t 3)),
  an 8 (.st 1 (.t 164) (.t 163))]
def r66_32 : List AOper := [ao 0 166 (.bin .eql (.t 12) (.k (.i 14))),
  ao 1 165 (.mv (.t 166))]
def r66_33 : List AOper := [ao 0 167 (.mv (.t 0)),
  ao 1 168 (.call (.k (.c (.fn 65 []))) [(.t 167), (.k (.i 4))]),
  ao 2 169 (.bin .sub (.t 168) (.k (.i 1))),
  ao 3 170 (.fa 13 (.t 3)),
  an 4 (.st 1 (.t 170) (.t 169))]
def r66_34 : List AOper := [ao 0 172 (.bin .eql (.t 12) (.k (.i 15))),
  ao 1 171 (.mv (.t 172))]
def r66_35 : List AOper := [ao 0 173 (.fa 14 (.t 3)),
  ao 1 174 (.ld 1 false (.t 173)),
  ao 2 175 (.fa 14 (.t 3)),
  ao 3 176 (.ld 1 false (.t 175)),
  ao 4 177 (.len (.t 176)),
  ao 5 178 (.mv (.t 5)),
  ao 6 179 (.bin .add (.t 177) (.t 178)),
  ao 7 180 (.bsl 1 3 [(.t 179)]),
  ao 8 181 (.app 1 3 8 (.t 174) (.t 180)),
  ao 9 182 (.fa 14 (.t 3)),
  an 10 (.st 1 (.t 182) (.t 181))]
def r66_36 : List AOper := [ao 0 184 (.bin .eql (.t 12) (.k (.i 16))),
  ao 1 183 (.mv (.t 184))]
def r66_37 : List AOper := [ao 0 185 (.fa 15 (.t 3)),
  ao 1 186 (.ld 1 false (.t 185)),
  ao 2 187 (.mv (.t 5)),
  ao 3 188 (.bin .add (.t 186) (.t 187)),
  ao 4 189 (.fa 15 (.t 3)),
  an 5 (.st 1 (.t 189) (.t 188))]
def r66_38 : List AOper := [ao 0 13 (.mv (.t 0)),
  ao 1 14 (.call (.k (.c (.fn 65 []))) [(.t 13), (.k (.i 2))]),
  ao 2 15 (.bin .eql (.t 14) (.k (.i 0)))]
def r66_39 : List AOper := [ao 0 16 (.fa 16 (.t 3)),
  ao 1 17 (.ld 1 false (.t 16)),
  au 2 18 [0, 1] (.mv (.t 0)),
  au 3 19 [0, 1] (.call (.k (.c (.fn 65 []))) [(.t 18), (.k (.i 4))]),
  au 4 20 (ru 4) (.mv (.t 0)),
  au 5 21 [0, 1] (.call (.k (.c (.fn 65 []))) [(.t 20), (.k (.i 4))]),
  au 6 22 [0, 1] (.bin .sub (.t 21) (.k (.i 1))),
  ao 7 23 (.ia 1 (.t 17) (.t 19)),
  an 8 (.st 1 (.t 23) (.t 22))]
def r66_40 : List AOper := [ao 0 24 (.fa 17 (.t 3)),
  ao 1 25 (.ld 1 false (.t 24)),
  ao 2 26 (.bin .add (.t 25) (.k (.i 1))),
  ao 3 27 (.bsl 1 3 [(.k (.i (-1))), (.k (.i 0)), (.k (.i 9999)), (.k (.i 10001)), (.t 26)]),
  au 4 28 (ru 4) (.mv (.t 0)),
  au 5 29 (ru 4) (.call (.k (.c (.fn 65 []))) [(.t 28), (.k (.i 5))]),
  ao 6 30 (.ia 1 (.t 27) (.t 29)),
  ao 7 31 (.ld 1 false (.t 30)),
  ao 8 32 (.fa 17 (.t 3)),
  an 9 (.st 1 (.t 32) (.t 31))]
def c66_41 : ACode := .cond (.t 15) (.reg r66_39) (.reg r66_40)
def c66_42 : ACode := .seq (.reg r66_38) c66_41
def c66_43 : ACode := .cond (.t 183) (.reg r66_37) c66_42
def c66_44 : ACode := .seq (.reg r66_36) c66_43
def c66_45 : ACode := .cond (.t 171) (.reg r66_35) c66_44
def c66_46 : ACode := .seq (.reg r66_34) c66_45
def c66_47 : ACode := .cond (.t 165) (.reg r66_33) c66_46
def c66_48 : ACode := .seq (.reg r66_32) c66_47
def c66_49 : ACode := .cond (.t 155) (.reg r66_31) c66_48
def c66_50 : ACode := .seq (.reg r66_30) c66_49
def c66_51 : ACode := .cond (.t 148) (.reg r66_29) c66_50
def c66_52 : ACode := .seq (.reg r66_28) c66_51
def c66_53 : ACode := .cond (.t 134) (.reg r66_27) c66_52
def c66_54 : ACode := .seq (.reg r66_26) c66_53
def c66_55 : ACode := .cond (.t 128) (.reg r66_25) c66_54
def c66_56 : ACode := .seq (.reg r66_24) c66_55
def c66_57 : ACode := .cond (.t 117) (.reg r66_23) c66_56
def c66_58 : ACode := .seq (.reg r66_22) c66_57
def c66_59 : ACode := .cond (.t 111) (.reg r66_21) c66_58
def c66_60 : ACode := .seq (.reg r66_20) c66_59
def c66_61 : ACode := .cond (.t 101) (.reg r66_19) c66_60
def c66_62 : ACode := .seq (.reg r66_18) c66_61
def c66_63 : ACode := .cond (.t 92) (.reg r66_17) c66_62
def c66_64 : ACode := .seq (.reg r66_16) c66_63
def c66_65 : ACode := .cond (.t 81) (.reg r66_15) c66_64
def c66_66 : ACode := .seq (.reg r66_14) c66_65
def c66_67 : ACode := .cond (.t 75) (.reg r66_13) c66_66
def c66_68 : ACode := .seq (.reg r66_12) c66_67
def c66_69 : ACode := .cond (.t 68) (.reg r66_11) c66_68
def c66_70 : ACode := .seq (.reg r66_10) c66_69
def c66_71 : ACode := .cond (.t 57) (.reg r66_9) c66_70
def c66_72 : ACode := .seq (.reg r66_8) c66_71
def c66_73 : ACode := .cond (.t 46) (.reg r66_7) c66_72
def c66_74 : ACode := .seq (.reg r66_6) c66_73
def c66_75 : ACode := .cond (.t 33) (.reg r66_5) c66_74
def c66_76 : ACode := .seq (.reg r66_4) c66_75
def c66_77 : ACode := .block 0 c66_76
def c66_78 : ACode := .seq (.reg r66_3) c66_77
def r66_79 : List AOper := [ao 0 190 (.ld 18 true (.t 3)),
  an 1 (.st 18 (.t 4) (.t 190))]
def c66 : ACode := .seq (.reg r66_0) (.seq (.reg r66_1) (.seq (.reg r66_2) (.seq c66_78 (.seq (.reg r66_79) .ret))))
def s66 : List ARes := [.cell 4 18 true]
theorem ok66 : okF Tryz.prog 66 191 c66 s66 := ⟨Tryz.f66, Tryz.func66, Tryz.ntmps66, by kernel_rfl, by kernel_rfl, by kernel_rfl⟩
def UEp_1 := Bx.mk <|
  aN (uA c66.eq_1) <| aN (uR r66_0.eq_1) <| aN (uR r66_1.eq_1) <| aN (uR r66_2.eq_1) <| aN (uA c66_78.eq_1) <| aN (uR r66_3.eq_1) <| aN (uA c66_77.eq_1) <| aN (uA c66_76.eq_1) <| aN (uR r66_4.eq_1) <| aN (uA c66_75.eq_1) <| aN (uR r66_5.eq_1) <| aN (uA c66_74.eq_1) <| aN (uR r66_6.eq_1) <| aN (uA c66_73.eq_1) <| aN (uR r66_7.eq_1) <| aN (uA c66_72.eq_1) <| aN (uR r66_8.eq_1) <| aN (uA c66_71.eq_1) <| aN (uR r66_9.eq_1) <| aN (uA c66_70.eq_1) <| aN (uR r66_10.eq_1) <| aN (uA c66_69.eq_1) <| aN (uR r66_11.eq_1) <| aN (uA c66_68.eq_1) <| aN (uR r66_12.eq_1) <| aN (uA c66_67.eq_1) <| aN (uR r66_13.eq_1) <| aN (uA c66_66.eq_1) <| aN (uR r66_14.eq_1) <| aN (uA c66_65.eq_1) <| aN (uR r66_15.eq_1) <| aN (uA c66_64.eq_1) <| aN (uR r66_16.eq_1) <| aN (uA c66_63.eq_1) <| aN (uR r66_17.eq_1) <| aN (uA c66_62.eq_1) <| aN (uR r66_18.eq_1) <| aN (uA c66_61.eq_1) <| aN (uR r66_19.eq_1) <| aN (uA c66_60.eq_1) <| aN (uR r66_20.eq_1) <| aN (uA c66_59.eq_1) <| aN (uR r66_21.eq_1) <| aN (uA c66_58.eq_1) <| aN (uR r66_22.eq_1) <| aN (uA c66_57.eq_1) <| aN (uR r66_23.eq_1) <| aN (uA c66_56.eq_1) <| aN (uR r66_24.eq_1) <| aN (uA c66_55.eq_1) <| aN (uR r66_25.eq_1) <| aN (uA c66_54.eq_1) <| aN (uR r66_26.eq_1) <| aN (uA c66_53.eq_1) <| aN (uR r66_27.eq_1) <| aN (uA c66_52.eq_1) <| aN (uR r66_28.eq_1) <| aN (uA c66_51.eq_1) <| aN (uR r66_29.eq_1) <| aN (uA c66_50.eq_1) <| aN (uR r66_30.eq_1) <| aN (uA c66_49.eq_1) <| aN (uR r66_31.eq_1) <| aN (uA c66_48.eq_1) <| aN (uR r66_32.eq_1) <| aN (uA c66_47.eq_1) <| aN (uR r66_33.eq_1) <| aN (uA c66_46.eq_1) <| aN (uR r66_34.eq_1) <| aN (uA c66_45.eq_1) <| aN (uR r66_35.eq_1) <| aN (uA c66_44.eq_1) <| aN (uR r66_36.eq_1) <| aN (uA c66_43.eq_1) <| aN (uR r66_37.eq_1) <| aN (uA c66_42.eq_1) <| aN (uR r66_38.eq_1) <| aN (uA c66_41.eq_1) <| aN (uR r66_39.eq_1) <| aN (uR r66_40.eq_1) <| aN (uR r66_79.eq_1) <| s66.eq_1
set_option maxRecDepth 8000 in
set_option maxHeartbeats 8000000 in
theorem l54Spoil_ok (bs : List UInt8) (hb : bs.length ≤ 2000) (p : Int) (hp : 0 ≤ p ∧ p ≤ 10000000000) {w : CW} (h : Wf w) : RC 66 [tCW w] bs p 10 Small (fun w => .pt (.agg (cwC w))) := by
  obtain ⟨a1, ha1, hb1, C1⟩ := pick_ok bs hb p 4 (by omega) (by omega)
  obtain ⟨a2, ha2, hb2, C2⟩ := pick_ok bs hb (p + 1) 18 (by omega) (by omega)
  obtain ⟨p1, hp1⟩ : ∃ p1, p + 1 + 1 = p1 := ⟨_, rfl⟩
  have hs := h.small
  have hh1 := h.h1
  have hg1 := h.g1
  have hls := h.s
  have z1 := h.q
  have z2 := h.r
  have z3 := h.o
  have z4 := h.t
  have z5 := h.h
  have z6 := h.g
  have eh := en_at eH (hdAt_at (w := w) (i := 0) (by omega))
  have gh : (0 : Int) < w.hands.length := by omega
  have q0 : (w.queue.length + 1) * 8 ≤ 140737488355328 := by omega
  have r0 : w.queue.length + 1 ≤ 9223372036854775807 := by omega
  have q1 : (w.results.length + 1) * 8 ≤ 140737488355328 := by omega
  have r1 : w.results.length + 1 ≤ 9223372036854775807 := by omega
  have q2 : (w.out.length + 1) * 8 ≤ 140737488355328 := by omega
  have r2 : w.out.length + 1 ≤ 9223372036854775807 := by omega
  have q3 : (w.got.length + 1) * 8 ≤ 140737488355328 := by omega
  have r3 : w.got.length + 1 ≤ 9223372036854775807 := by omega
  obtain ⟨x, hx⟩ : ∃ x, IntKind.i64.wrap (a1 - 1) = x := ⟨_, rfl⟩
  refine RC.intro ok66 rfl (fun _ => rfl) fun X => ?_
  simp only [RZ, reduceAdd, reduceIte, reduceEqDiff, reduceLT, reduceLeDiff, reduceCtorEq, Nat.reduceBEq, wnH, rH, rV, rdC, rdr, UEp_1.d]
  refine callW7 (m := 2000) (ws := []) (ns := []) (copy_ok hs 2000) rfl rfl rfl (by decide) ⟨rfl, ?_⟩
  simp only [RZ, reduceAdd, reduceIte, reduceEqDiff, reduceLT, reduceLeDiff, reduceCtorEq, Nat.reduceBEq, wnH, rH, rV, rdC, rdr, UEp_1.d]
  refine callRc (C1 0) rfl rfl rfl rfl rfl ⟨rfl, ?_⟩
  simp only [RZ, reduceAdd, reduceIte, reduceEqDiff, reduceLT, reduceLeDiff, reduceCtorEq, Nat.reduceBEq, wnH, rH, rV, rdC, rdr, UEp_1.d, hx]
  refine callRc (C2 0) rfl rfl rfl rfl rfl ⟨rfl, ?_⟩
  rw [hp1]
  by_cases d0 : a2 = 0
  · have k0 := eqb d0
    obtain ⟨c, hc, gc, Pc⟩ := pick_ok bs hb (p1) 4 (by omega) (by omega)
    have g2 : c < ((4 : Nat) : Int) := gc
    obtain ⟨y, ey⟩ := idx_ex [-1, 61, w.next, IntKind.i64.wrap (w.next + 1)] c hc gc
    simp only [en, eI, List.map_cons, List.map_nil] at ey
    simp only [RZ, reduceAdd, reduceIte, reduceEqDiff, reduceLT, reduceLeDiff, reduceCtorEq, Nat.reduceBEq, wnH, rH, rV, rdC, rdr, UEp_1.d, k0, hx]
    refine callRc (Pc 0) rfl rfl rfl rfl rfl ⟨rfl, ?_⟩
    simp only [RZ, reduceAdd, reduceIte, reduceEqDiff, reduceLT, reduceLeDiff, reduceCtorEq, Nat.reduceBEq, wnH, rH, rV, rdC, rdr, UEp_1.d, k0, hx, hc, g2, ey]
    refine ES.mk (p1 + 1, { w with jobs := y }) ⟨by omega, by omega, by refine ⟨?_, ?_, ?_, ?_, ?_, ?_, ?_⟩ <;> simp only [List.length_set, List.length_append, List.length_singleton] <;> omega⟩ ?_
    simp only [RZ, reduceAdd, reduceIte, reduceEqDiff, reduceLT, reduceLeDiff, reduceCtorEq, Nat.reduceBEq, wnH, rH, rV, rdC, rdr, UEp_1.d, k0, hx, hc, g2, ey]
  have k0 := neqb d0
  by_cases d1 : a2 = 1
  · have k1 := eqb d1
    obtain ⟨c, hc, gc, Pc⟩ := pick_ok bs hb (p1) 3 (by omega) (by omega)
    have g2 : c < ((3 : Nat) : Int) := gc
    obtain ⟨y, ey⟩ := idx_ex [0, 9, IntKind.i64.wrap (w.workers + 1)] c hc gc
    simp only [en, eI, List.map_cons, List.map_nil] at ey
    simp only [RZ, reduceAdd, reduceIte, reduceEqDiff, reduceLT, reduceLeDiff, reduceCtorEq, Nat.reduceBEq, wnH, rH, rV, rdC, rdr, UEp_1.d, k0, k1, hx]
    refine callRc (Pc 0) rfl rfl rfl rfl rfl ⟨rfl, ?_⟩
    simp only [RZ, reduceAdd, reduceIte, reduceEqDiff, reduceLT, reduceLeDiff, reduceCtorEq, Nat.reduceBEq, wnH, rH, rV, rdC, rdr, UEp_1.d, k0, k1, hx, hc, g2, ey]
    refine ES.mk (p1 + 1, { w with workers := y }) ⟨by omega, by omega, by refine ⟨?_, ?_, ?_, ?_, ?_, ?_, ?_⟩ <;> simp only [List.length_set, List.length_append, List.length_singleton] <;> omega⟩ ?_
    simp only [RZ, reduceAdd, reduceIte, reduceEqDiff, reduceLT, reduceLeDiff, reduceCtorEq, Nat.reduceBEq, wnH, rH, rV, rdC, rdr, UEp_1.d, k0, k1, hx, hc, g2, ey]
  have k1 := neqb d1
  by_cases d2 : a2 = 2
  · have k2 := eqb d2
    obtain ⟨c, hc, gc, Pc⟩ := pick_ok bs hb (p1) 3 (by omega) (by omega)
    have g2 : c < ((3 : Nat) : Int) := gc
    obtain ⟨y, ey⟩ := idx_ex [0, 17, IntKind.i64.wrap (w.window + 1)] c hc gc
    simp only [en, eI, List.map_cons, List.map_nil] at ey
    simp only [RZ, reduceAdd, reduceIte, reduceEqDiff, reduceLT, reduceLeDiff, reduceCtorEq, Nat.reduceBEq, wnH, rH, rV, rdC, rdr, UEp_1.d, k0, k1, k2, hx]
    refine callRc (Pc 0) rfl rfl rfl rfl rfl ⟨rfl, ?_⟩
    simp only [RZ, reduceAdd, reduceIte, reduceEqDiff, reduceLT, reduceLeDiff, reduceCtorEq, Nat.reduceBEq, wnH, rH, rV, rdC, rdr, UEp_1.d, k0, k1, k2, hx, hc, g2, ey]
    refine ES.mk (p1 + 1, { w with window := y }) ⟨by omega, by omega, by refine ⟨?_, ?_, ?_, ?_, ?_, ?_, ?_⟩ <;> simp only [List.length_set, List.length_append, List.length_singleton] <;> omega⟩ ?_
    simp only [RZ, reduceAdd, reduceIte, reduceEqDiff, reduceLT, reduceLeDiff, reduceCtorEq, Nat.reduceBEq, wnH, rH, rV, rdC, rdr, UEp_1.d, k0, k1, k2, hx, hc, g2, ey]
  have k2 := neqb d2
  by_cases d3 : a2 = 3
  · have k3 := eqb d3
    simp only [RZ, reduceAdd, reduceIte, reduceEqDiff, reduceLT, reduceLeDiff, reduceCtorEq, Nat.reduceBEq, wnH, rH, rV, rdC, rdr, UEp_1.d, k0, k1, k2, k3, hx]
    refine ES.mk (p1, { w with next := IntKind.i64.wrap (w.next + x) }) ⟨by omega, by omega, by refine ⟨?_, ?_, ?_, ?_, ?_, ?_, ?_⟩ <;> simp only [List.length_set, List.length_append, List.length_singleton] <;> omega⟩ ?_
    simp only [RZ, reduceAdd, reduceIte, reduceEqDiff, reduceLT, reduceLeDiff, reduceCtorEq, Nat.reduceBEq, wnH, rH, rV, rdC, rdr, UEp_1.d, k0, k1, k2, k3, hx]
  have k3 := neqb d3
  by_cases d4 : a2 = 4
  · have k4 := eqb d4
    obtain ⟨c, hc, gc, Pc⟩ := pick_ok bs hb (p1) 6 (by omega) (by omega)
    simp only [RZ, reduceAdd, reduceIte, reduceEqDiff, reduceLT, reduceLeDiff, reduceCtorEq, Nat.reduceBEq, wnH, rH, rV, rdC, rdr, UEp_1.d, k0, k1, k2, k3, k4, hx]
    refine callRc (Pc 0) rfl rfl rfl rfl rfl ⟨rfl, ?_⟩
    simp only [RZ, reduceAdd, reduceIte, reduceEqDiff, reduceLT, reduceLeDiff, reduceCtorEq, Nat.reduceBEq, wnH, rH, rV, rdC, rdr, UEp_1.d, k0, k1, k2, k3, k4, hx]
    refine ES.mk (p1 + 1, { w with reader := IntKind.i64.wrap (c - 1) }) ⟨by omega, by omega, by refine ⟨?_, ?_, ?_, ?_, ?_, ?_, ?_⟩ <;> simp only [List.length_set, List.length_append, List.length_singleton] <;> omega⟩ ?_
    simp only [RZ, reduceAdd, reduceIte, reduceEqDiff, reduceLT, reduceLeDiff, reduceCtorEq, Nat.reduceBEq, wnH, rH, rV, rdC, rdr, UEp_1.d, k0, k1, k2, k3, k4, hx]
  have k4 := neqb d4
  by_cases d5 : a2 = 5
  · have k5 := eqb d5
    simp only [RZ, reduceAdd, reduceIte, reduceEqDiff, reduceLT, reduceLeDiff, reduceCtorEq, Nat.reduceBEq, wnH, rH, rV, rdC, rdr, UEp_1.d, k0, k1, k2, k3, k4, k5, hx, q0, r0, SNT]
    refine ES.mk (p1, { w with queue := w.queue ++ [IntKind.i64.wrap (w.due + x)] }) ⟨by omega, by omega, by refine ⟨?_, ?_, ?_, ?_, ?_, ?_, ?_⟩ <;> simp only [List.length_set, List.length_append, List.length_singleton] <;> omega⟩ ?_
    simp only [RZ, reduceAdd, reduceIte, reduceEqDiff, reduceLT, reduceLeDiff, reduceCtorEq, Nat.reduceBEq, wnH, rH, rV, rdC, rdr, UEp_1.d, k0, k1, k2, k3, k4, k5, hx, q0, r0, SNT]
  have k5 := neqb d5
  by_cases d6 : a2 = 6
  · have k6 := eqb d6
    obtain ⟨c, hc, gc, Pc⟩ := pick_ok bs hb (p1) 6 (by omega) (by omega)
    simp only [RZ, reduceAdd, reduceIte, reduceEqDiff, reduceLT, reduceLeDiff, reduceCtorEq, Nat.reduceBEq, wnH, rH, rV, rdC, rdr, UEp_1.d, k0, k1, k2, k3, k4, k5, k6, hx]
    refine callRc (Pc 0) rfl rfl rfl rfl rfl ⟨rfl, ?_⟩
    simp only [RZ, reduceAdd, reduceIte, reduceEqDiff, reduceLT, reduceLeDiff, reduceCtorEq, Nat.reduceBEq, wnH, rH, rV, rdC, rdr, UEp_1.d, k0, k1, k2, k3, k4, k5, k6, hx, eh, gh, eH, SNT]
    refine ES.mk (p1 + 1, { w with hands := w.hands.set 0 ⟨IntKind.i64.wrap (c - 1), (hdAt w 0).job⟩ }) ⟨by omega, by omega, by refine ⟨?_, ?_, ?_, ?_, ?_, ?_, ?_⟩ <;> simp only [List.length_set, List.length_append, List.length_singleton] <;> omega⟩ ?_
    simp only [RZ, reduceAdd, reduceIte, reduceEqDiff, reduceLT, reduceLeDiff, reduceCtorEq, Nat.reduceBEq, wnH, rH, rV, rdC, rdr, UEp_1.d, k0, k1, k2, k3, k4, k5, k6, hx, eh, gh, eH, SNT]
  have k6 := neqb d6
  by_cases d7 : a2 = 7
  · have k7 := eqb d7
    simp only [RZ, reduceAdd, reduceIte, reduceEqDiff, reduceLT, reduceLeDiff, reduceCtorEq, Nat.reduceBEq, wnH, rH, rV, rdC, rdr, UEp_1.d, k0, k1, k2, k3, k4, k5, k6, k7, hx, eh, gh, eH, SNT]
    refine ES.mk (p1, { w with hands := w.hands.set 0 ⟨(hdAt w 0).state, IntKind.i64.wrap (w.due + x)⟩ }) ⟨by omega, by omega, by refine ⟨?_, ?_, ?_, ?_, ?_, ?_, ?_⟩ <;> simp only [List.length_set, List.length_append, List.length_singleton] <;> omega⟩ ?_
    simp only [RZ, reduceAdd, reduceIte, reduceEqDiff, reduceLT, reduceLeDiff, reduceCtorEq, Nat.reduceBEq, wnH, rH, rV, rdC, rdr, UEp_1.d, k0, k1, k2, k3, k4, k5, k6, k7, hx, eh, gh, eH, SNT]
  have k7 := neqb d7
  by_cases d8 : a2 = 8
  · have k8 := eqb d8
    obtain ⟨c, hc, gc, Pc⟩ := pick_ok bs hb (p1) 4 (by omega) (by omega)
    simp only [RZ, reduceAdd, reduceIte, reduceEqDiff, reduceLT, reduceLeDiff, reduceCtorEq, Nat.reduceBEq, wnH, rH, rV, rdC, rdr, UEp_1.d, k0, k1, k2, k3, k4, k5, k6, k7, k8, hx]
    refine callRc (Pc 0) rfl rfl rfl rfl rfl ⟨rfl, ?_⟩
    simp only [RZ, reduceAdd, reduceIte, reduceEqDiff, reduceLT, reduceLeDiff, reduceCtorEq, Nat.reduceBEq, wnH, rH, rV, rdC, rdr, UEp_1.d, k0, k1, k2, k3, k4, k5, k6, k7, k8, hx]
    refine ES.mk (p1 + 1, { w with closer := IntKind.i64.wrap (c - 1) }) ⟨by omega, by omega, by refine ⟨?_, ?_, ?_, ?_, ?_, ?_, ?_⟩ <;> simp only [List.length_set, List.length_append, List.length_singleton] <;> omega⟩ ?_
    simp only [RZ, reduceAdd, reduceIte, reduceEqDiff, reduceLT, reduceLeDiff, reduceCtorEq, Nat.reduceBEq, wnH, rH, rV, rdC, rdr, UEp_1.d, k0, k1, k2, k3, k4, k5, k6, k7, k8, hx]
  have k8 := neqb d8
  by_cases d9 : a2 = 9
  · have k9 := eqb d9
    simp only [RZ, reduceAdd, reduceIte, reduceEqDiff, reduceLT, reduceLeDiff, reduceCtorEq, Nat.reduceBEq, wnH, rH, rV, rdC, rdr, UEp_1.d, k0, k1, k2, k3, k4, k5, k6, k7, k8, k9, hx, q1, r1, SNT]
    refine ES.mk (p1, { w with results := w.results ++ [IntKind.i64.wrap (w.due + x)] }) ⟨by omega, by omega, by refine ⟨?_, ?_, ?_, ?_, ?_, ?_, ?_⟩ <;> simp only [List.length_set, List.length_append, List.length_singleton] <;> omega⟩ ?_
    simp only [RZ, reduceAdd, reduceIte, reduceEqDiff, reduceLT, reduceLeDiff, reduceCtorEq, Nat.reduceBEq, wnH, rH, rV, rdC, rdr, UEp_1.d, k0, k1, k2, k3, k4, k5, k6, k7, k8, k9, hx, q1, r1, SNT]
  have k9 := neqb d9
  by_cases d10 : a2 = 10
  · have k10 := eqb d10
    obtain ⟨c, hc, gc, Pc⟩ := pick_ok bs hb (p1) 8 (by omega) (by omega)
    simp only [RZ, reduceAdd, reduceIte, reduceEqDiff, reduceLT, reduceLeDiff, reduceCtorEq, Nat.reduceBEq, wnH, rH, rV, rdC, rdr, UEp_1.d, k0, k1, k2, k3, k4, k5, k6, k7, k8, k9, k10, hx]
    refine callRc (Pc 0) rfl rfl rfl rfl rfl ⟨rfl, ?_⟩
    simp only [RZ, reduceAdd, reduceIte, reduceEqDiff, reduceLT, reduceLeDiff, reduceCtorEq, Nat.reduceBEq, wnH, rH, rV, rdC, rdr, UEp_1.d, k0, k1, k2, k3, k4, k5, k6, k7, k8, k9, k10, hx]
    refine ES.mk (p1 + 1, { w with keeper := IntKind.i64.wrap (c - 1) }) ⟨by omega, by omega, by refine ⟨?_, ?_, ?_, ?_, ?_, ?_, ?_⟩ <;> simp only [List.length_set, List.length_append, List.length_singleton] <;> omega⟩ ?_
    simp only [RZ, reduceAdd, reduceIte, reduceEqDiff, reduceLT, reduceLeDiff, reduceCtorEq, Nat.reduceBEq, wnH, rH, rV, rdC, rdr, UEp_1.d, k0, k1, k2, k3, k4, k5, k6, k7, k8, k9, k10, hx]
  have k10 := neqb d10
  by_cases d11 : a2 = 11
  · have k11 := eqb d11
    obtain ⟨c, hc, gc, Pc⟩ := pick_ok bs hb (p1) w.ring.length (by omega) (by omega)
    obtain ⟨y, ey⟩ := idx_ex w.ring c hc gc
    simp only [RZ, reduceAdd, reduceIte, reduceEqDiff, reduceLT, reduceLeDiff, reduceCtorEq, Nat.reduceBEq, wnH, rH, rV, rdC, rdr, UEp_1.d, k0, k1, k2, k3, k4, k5, k6, k7, k8, k9, k10, k11, hx]
    refine callRc (Pc 0) rfl rfl rfl rfl rfl ⟨rfl, ?_⟩
    simp only [RZ, reduceAdd, reduceIte, reduceEqDiff, reduceLT, reduceLeDiff, reduceCtorEq, Nat.reduceBEq, wnH, rH, rV, rdC, rdr, UEp_1.d, k0, k1, k2, k3, k4, k5, k6, k7, k8, k9, k10, k11, hx, hc, gc, ey, eI, SNT]
    refine ES.mk (p1 + 1, { w with ring := w.ring.set c.toNat (IntKind.i64.wrap (w.due + x)) }) ⟨by omega, by omega, by refine ⟨?_, ?_, ?_, ?_, ?_, ?_, ?_⟩ <;> simp only [List.length_set, List.length_append, List.length_singleton] <;> omega⟩ ?_
    simp only [RZ, reduceAdd, reduceIte, reduceEqDiff, reduceLT, reduceLeDiff, reduceCtorEq, Nat.reduceBEq, wnH, rH, rV, rdC, rdr, UEp_1.d, k0, k1, k2, k3, k4, k5, k6, k7, k8, k9, k10, k11, hx, hc, gc, ey, eI, SNT]
  have k11 := neqb d11
  by_cases d12 : a2 = 12
  · have k12 := eqb d12
    simp only [RZ, reduceAdd, reduceIte, reduceEqDiff, reduceLT, reduceLeDiff, reduceCtorEq, Nat.reduceBEq, wnH, rH, rV, rdC, rdr, UEp_1.d, k0, k1, k2, k3, k4, k5, k6, k7, k8, k9, k10, k11, k12, hx]
    refine ES.mk (p1, { w with due := IntKind.i64.wrap (w.due + x) }) ⟨by omega, by omega, by refine ⟨?_, ?_, ?_, ?_, ?_, ?_, ?_⟩ <;> simp only [List.length_set, List.length_append, List.length_singleton] <;> omega⟩ ?_
    simp only [RZ, reduceAdd, reduceIte, reduceEqDiff, reduceLT, reduceLeDiff, reduceCtorEq, Nat.reduceBEq, wnH, rH, rV, rdC, rdr, UEp_1.d, k0, k1, k2, k3, k4, k5, k6, k7, k8, k9, k10, k11, k12, hx]
  have k12 := neqb d12
  by_cases d13 : a2 = 13
  · have k13 := eqb d13
    simp only [RZ, reduceAdd, reduceIte, reduceEqDiff, reduceLT, reduceLeDiff, reduceCtorEq, Nat.reduceBEq, wnH, rH, rV, rdC, rdr, UEp_1.d, k0, k1, k2, k3, k4, k5, k6, k7, k8, k9, k10, k11, k12, k13, hx, q2, r2, SNT]
    refine ES.mk (p1, { w with out := w.out ++ [IntKind.i64.wrap (w.due - 1)] }) ⟨by omega, by omega, by refine ⟨?_, ?_, ?_, ?_, ?_, ?_, ?_⟩ <;> simp only [List.length_set, List.length_append, List.length_singleton] <;> omega⟩ ?_
    simp only [RZ, reduceAdd, reduceIte, reduceEqDiff, reduceLT, reduceLeDiff, reduceCtorEq, Nat.reduceBEq, wnH, rH, rV, rdC, rdr, UEp_1.d, k0, k1, k2, k3, k4, k5, k6, k7, k8, k9, k10, k11, k12, k13, hx, q2, r2, SNT]
  have k13 := neqb d13
  by_cases d14 : a2 = 14
  · have k14 := eqb d14
    obtain ⟨c, hc, gc, Pc⟩ := pick_ok bs hb (p1) 4 (by omega) (by omega)
    simp only [RZ, reduceAdd, reduceIte, reduceEqDiff, reduceLT, reduceLeDiff, reduceCtorEq, Nat.reduceBEq, wnH, rH, rV, rdC, rdr, UEp_1.d, k0, k1, k2, k3, k4, k5, k6, k7, k8, k9, k10, k11, k12, k13, k14, hx]
    refine callRc (Pc 0) rfl rfl rfl rfl rfl ⟨rfl, ?_⟩
    simp only [RZ, reduceAdd, reduceIte, reduceEqDiff, reduceLT, reduceLeDiff, reduceCtorEq, Nat.reduceBEq, wnH, rH, rV, rdC, rdr, UEp_1.d, k0, k1, k2, k3, k4, k5, k6, k7, k8, k9, k10, k11, k12, k13, k14, hx]
    refine ES.mk (p1 + 1, { w with user := IntKind.i64.wrap (c - 1) }) ⟨by omega, by omega, by refine ⟨?_, ?_, ?_, ?_, ?_, ?_, ?_⟩ <;> simp only [List.length_set, List.length_append, List.length_singleton] <;> omega⟩ ?_
    simp only [RZ, reduceAdd, reduceIte, reduceEqDiff, reduceLT, reduceLeDiff, reduceCtorEq, Nat.reduceBEq, wnH, rH, rV, rdC, rdr, UEp_1.d, k0, k1, k2, k3, k4, k5, k6, k7, k8, k9, k10, k11, k12, k13, k14, hx]
  have k14 := neqb d14
  by_cases d15 : a2 = 15
  · have k15 := eqb d15
    simp only [RZ, reduceAdd, reduceIte, reduceEqDiff, reduceLT, reduceLeDiff, reduceCtorEq, Nat.reduceBEq, wnH, rH, rV, rdC, rdr, UEp_1.d, k0, k1, k2, k3, k4, k5, k6, k7, k8, k9, k10, k11, k12, k13, k14, k15, hx, q3, r3, SNT]
    refine ES.mk (p1, { w with got := w.got ++ [IntKind.i64.wrap (w.got.length + x)] }) ⟨by omega, by omega, by refine ⟨?_, ?_, ?_, ?_, ?_, ?_, ?_⟩ <;> simp only [List.length_set, List.length_append, List.length_singleton] <;> omega⟩ ?_
    simp only [RZ, reduceAdd, reduceIte, reduceEqDiff, reduceLT, reduceLeDiff, reduceCtorEq, Nat.reduceBEq, wnH, rH, rV, rdC, rdr, UEp_1.d, k0, k1, k2, k3, k4, k5, k6, k7, k8, k9, k10, k11, k12, k13, k14, k15, hx, q3, r3, SNT]
  have k15 := neqb d15
  by_cases d16 : a2 = 16
  · have k16 := eqb d16
    simp only [RZ, reduceAdd, reduceIte, reduceEqDiff, reduceLT, reduceLeDiff, reduceCtorEq, Nat.reduceBEq, wnH, rH, rV, rdC, rdr, UEp_1.d, k0, k1, k2, k3, k4, k5, k6, k7, k8, k9, k10, k11, k12, k13, k14, k15, k16, hx]
    refine ES.mk (p1, { w with room := IntKind.i64.wrap (w.room + x) }) ⟨by omega, by omega, by refine ⟨?_, ?_, ?_, ?_, ?_, ?_, ?_⟩ <;> simp only [List.length_set, List.length_append, List.length_singleton] <;> omega⟩ ?_
    simp only [RZ, reduceAdd, reduceIte, reduceEqDiff, reduceLT, reduceLeDiff, reduceCtorEq, Nat.reduceBEq, wnH, rH, rV, rdC, rdr, UEp_1.d, k0, k1, k2, k3, k4, k5, k6, k7, k8, k9, k10, k11, k12, k13, k14, k15, k16, hx]
  have k16 := neqb d16
  obtain ⟨c, hc, gc, Pc⟩ := pick_ok bs hb (p1) 2 (by omega) (by omega)
  simp only [RZ, reduceAdd, reduceIte, reduceEqDiff, reduceLT, reduceLeDiff, reduceCtorEq, Nat.reduceBEq, wnH, rH, rV, rdC, rdr, UEp_1.d, k0, k1, k2, k3, k4, k5, k6, k7, k8, k9, k10, k11, k12, k13, k14, k15, k16, hx]
  refine callRc (Pc 0) rfl rfl rfl rfl rfl ⟨rfl, ?_⟩
  by_cases c0 : c = 0
  · have kc := eqb c0
    obtain ⟨d, hd, gd, Pd⟩ := pick_ok bs hb (p1 + 1) 4 (by omega) (by omega)
    obtain ⟨e, he, ge, Pe⟩ := pick_ok bs hb (p1 + 1 + 1) 4 (by omega) (by omega)
    obtain ⟨y, ey⟩ := idx_ex w.shut d hd (by omega)
    have g2 : d < w.shut.length := by omega
    simp only [RZ, reduceAdd, reduceIte, reduceEqDiff, reduceLT, reduceLeDiff, reduceCtorEq, Nat.reduceBEq, wnH, rH, rV, rdC, rdr, UEp_1.d, k0, k1, k2, k3, k4, k5, k6, k7, k8, k9, k10, k11, k12, k13, k14, k15, k16, hx, kc]
    refine callRc (Pd 0) rfl rfl rfl rfl rfl ⟨rfl, ?_⟩
    simp only [RZ, reduceAdd, reduceIte, reduceEqDiff, reduceLT, reduceLeDiff, reduceCtorEq, Nat.reduceBEq, wnH, rH, rV, rdC, rdr, UEp_1.d, k0, k1, k2, k3, k4, k5, k6, k7, k8, k9, k10, k11, k12, k13, k14, k15, k16, hx, kc]
    refine callRc (Pe 0) rfl rfl rfl rfl rfl ⟨rfl, ?_⟩
    simp only [RZ, reduceAdd, reduceIte, reduceEqDiff, reduceLT, reduceLeDiff, reduceCtorEq, Nat.reduceBEq, wnH, rH, rV, rdC, rdr, UEp_1.d, k0, k1, k2, k3, k4, k5, k6, k7, k8, k9, k10, k11, k12, k13, k14, k15, k16, hx, kc, hd, g2, ey, eI, SNT]
    refine ES.mk (p1 + 1 + 1 + 1, { w with shut := w.shut.set d.toNat (IntKind.i64.wrap (e - 1)) }) ⟨by omega, by omega, by refine ⟨?_, ?_, ?_, ?_, ?_, ?_, ?_⟩ <;> simp only [List.length_set, List.length_append, List.length_singleton] <;> omega⟩ ?_
    simp only [RZ, reduceAdd, reduceIte, reduceEqDiff, reduceLT, reduceLeDiff, reduceCtorEq, Nat.reduceBEq, wnH, rH, rV, rdC, rdr, UEp_1.d, k0, k1, k2, k3, k4, k5, k6, k7, k8, k9, k10, k11, k12, k13, k14, k15, k16, hx, kc, hd, g2, ey, eI, SNT]
  · have kc := neqb c0
    obtain ⟨d, hd, gd, Pd⟩ := pick_ok bs hb (p1 + 1) 5 (by omega) (by omega)
    have g2 : d < ((5 : Nat) : Int) := gd
    obtain ⟨y, ey⟩ := idx_ex [-1, 0, 9999, 10001, IntKind.i64.wrap (w.ops + 1)] d hd gd
    simp only [en, eI, List.map_cons, List.map_nil] at ey
    simp only [RZ, reduceAdd, reduceIte, reduceEqDiff, reduceLT, reduceLeDiff, reduceCtorEq, Nat.reduceBEq, wnH, rH, rV, rdC, rdr, UEp_1.d, k0, k1, k2, k3, k4, k5, k6, k7, k8, k9, k10, k11, k12, k13, k14, k15, k16, hx, kc]
    refine callRc (Pd 0) rfl rfl rfl rfl rfl ⟨rfl, ?_⟩
    simp only [RZ, reduceAdd, reduceIte, reduceEqDiff, reduceLT, reduceLeDiff, reduceCtorEq, Nat.reduceBEq, wnH, rH, rV, rdC, rdr, UEp_1.d, k0, k1, k2, k3, k4, k5, k6, k7, k8, k9, k10, k11, k12, k13, k14, k15, k16, hx, kc, hd, g2, ey]
    refine ES.mk (p1 + 1 + 1, { w with ops := y }) ⟨by omega, by omega, by refine ⟨?_, ?_, ?_, ?_, ?_, ?_, ?_⟩ <;> simp only [List.length_set, List.length_append, List.length_singleton] <;> omega⟩ ?_
    simp only [RZ, reduceAdd, reduceIte, reduceEqDiff, reduceLT, reduceLeDiff, reduceCtorEq, Nat.reduceBEq, wnH, rH, rV, rdC, rdr, UEp_1.d, k0, k1, k2, k3, k4, k5, k6, k7, k8, k9, k10, k11, k12, k13, k14, k15, k16, hx, kc, hd, g2, ey]
end Go.V
set_option linter.unusedVariables false
set_option linter.unusedSimpArgs false
namespace Go.V
open Go.Proofs
open Nat (reduceAdd reduceEqDiff reduceLT reduceLeDiff)
/- loop.example/teagle/spec.l54Any -/
def r31_0 : List AOper := [ao 0 2 (.alloc 26 [(.v (.s (.int .i64 0))), (.v (.s (.int .i64 0))), (.v (.s (.int .i64 0))), (.v (.s (.int .i64 0))), (.v (.s (.int .i64 0))), .nil0, .nil0, (.v (.s (.int .i64 0))), .nil0, (.v (.s (.int .i64 0))), .nil0, (.v (.s (.int .i64 0))), .nil0, (.v (.s (.int .i64 0))), .nil0, (.v (.s (.int .i64 0))), .nil0, (.v (.s (.int .i64 0)))])]
def r31_1 : List AOper := [ao 0 4 (.mv (.t 0)),
  ao 1 5 (.call (.k (.c (.fn 64 []))) [(.t 4)]),
  ao 2 3 (.alloc 26 [(.v (.s (.int .i64 0))), (.v (.s (.int .i64 0))), (.v (.s (.int .i64 0))), (.v (.s (.int .i64 0))), (.v (.s (.int .i64 0))), .nil0, .nil0, (.v (.s (.int .i64 0))), .nil0, (.v (.s (.int .i64 0))), .nil0, (.v (.s (.int .i64 0))), .nil0, (.v (.s (.int .i64 0))), .nil0, (.v (.s (.int .i64 0))), .nil0, (.v (.s (.int .i64 0)))]),
  an 3 (.st 18 (.t 3) (.t 5))]
def r31_2 : List AOper := [ao 0 6 (.mv (.t 0)),
  ao 1 7 (.call (.k (.c (.fn 65 []))) [(.t 6), (.k (.i 6))]),
  ao 2 8 (.bin .eql (.t 7) (.k (.i 0)))]
def r31_3 : List AOper := [ao 0 9 (.mv (.t 0)),
  ao 1 10 (.ld 18 true (.t 3)),
  ao 2 11 (.call (.k (.c (.fn 66 []))) [(.t 9), (.t 10)]),
  an 3 (.st 18 (.t 2) (.t 11))]
def c31_4 : ACode := .seq (.reg r31_3) .ret
def c31_5 : ACode := .cond (.t 8) c31_4 .skip
def c31_6 : ACode := .seq (.reg r31_2) c31_5
def r31_7 : List AOper := [ao 0 12 (.ld 18 true (.t 3)),
  an 1 (.st 18 (.t 2) (.t 12))]
def c31 : ACode := .seq (.reg r31_0) (.seq (.reg r31_1) (.seq c31_6 (.seq (.reg r31_7) .ret)))
def s31 : List ARes := [.cell 2 18 true]
theorem ok31 : okF Tryz.prog 31 13 c31 s31 := ⟨Tryz.f31, Tryz.func31, Tryz.ntmps31, by kernel_rfl, by kernel_rfl, by kernel_rfl⟩
def UEq_1 := Bx.mk <|
  aN (uA c31.eq_1) <| aN (uR r31_0.eq_1) <| aN (uR r31_1.eq_1) <| aN (uA c31_6.eq_1) <| aN (uR r31_2.eq_1) <| aN (uA c31_5.eq_1) <| aN (uA c31_4.eq_1) <| aN (uR r31_3.eq_1) <| aN (uR r31_7.eq_1) <| s31.eq_1
set_option maxHeartbeats 1000000 in
theorem l54Any_ok (bs : List UInt8) (hb : bs.length ≤ 2000) (p : Int) (hp : 0 ≤ p ∧ p ≤ 1000000000) : RC 31 [] bs p 520 Small (fun w => .pt (.agg (cwC w))) := by
  obtain ⟨q, w, hq1, hq2, hw, C1⟩ := l54World_ok bs hb p hp
  obtain ⟨a, ha, hb1, C2⟩ := pick_ok bs hb q 6 (by omega) (by omega)
  obtain ⟨q2, w2, hq3, hq4, hw2, C3⟩ := l54Spoil_ok bs hb (q + 1) (by omega) hw
  refine RC.intro ok31 rfl (fun _ => rfl) fun X => ?_
  simp only [RZ, reduceAdd, reduceIte, reduceEqDiff, reduceLT, reduceLeDiff, reduceCtorEq, Nat.reduceBEq, rH, rV, rdC, rdr, UEq_1.d]
  refine callRc (C1 0) rfl rfl rfl rfl rfl ⟨rfl, ?_⟩
  simp only [RZ, reduceAdd, reduceIte, reduceEqDiff, reduceLT, reduceLeDiff, reduceCtorEq, Nat.reduceBEq, rH, rV, rdC, rdr, UEq_1.d]
  refine callRc (C2 0) rfl rfl rfl rfl rfl ⟨rfl, ?_⟩
  by_cases c0 : a = 0
  · have k0 := eqb c0
    simp only [RZ, reduceAdd, reduceIte, reduceEqDiff, reduceLT, reduceLeDiff, reduceCtorEq, Nat.reduceBEq, rH, rV, rdC, rdr, UEq_1.d, k0]
    refine callRc (C3 0) rfl rfl rfl rfl rfl ⟨rfl, ?_⟩
    simp only [RZ, reduceAdd, reduceIte, reduceEqDiff, reduceLT, reduceLeDiff, reduceCtorEq, Nat.reduceBEq, rH, rV, rdC, rdr, UEq_1.d, k0]
    refine ES.mk (q2, w2) ⟨by omega, by omega, hw2⟩ ?_
    simp only [RZ, reduceAdd, reduceIte, reduceEqDiff, reduceLT, reduceLeDiff, reduceCtorEq, Nat.reduceBEq, rH, rV, rdC, rdr, UEq_1.d, k0]
  · have k0 := neqb c0
    simp only [RZ, reduceAdd, reduceIte, reduceEqDiff, reduceLT, reduceLeDiff, reduceCtorEq, Nat.reduceBEq, rH, rV, rdC, rdr, UEq_1.d, k0]
    refine ES.mk (q + 1, w) ⟨by omega, by omega, hw.small⟩ ?_
    simp only [RZ, reduceAdd, reduceIte, reduceEqDiff, reduceLT, reduceLeDiff, reduceCtorEq, Nat.reduceBEq, rH, rV, rdC, rdr, UEq_1.d, k0]
end Go.V
set_option linter.unusedSimpArgs false
namespace Go.V
open Go.Proofs
open Nat (reduceAdd reduceEqDiff reduceLT reduceLeDiff)
theorem ne0' (x : Int) : (x != x) = false := by simp
/- loop.example/teagle/laws.lwInts -/
def r23_0 : List AOper := [ao 0 4 (.mv (.k (.b false)))]
def r23_1 : List AOper := [ao 0 6 (.mv (.t 0)),
  ao 1 7 (.len (.t 6)),
  ao 2 8 (.mv (.t 1)),
  ao 3 9 (.len (.t 8)),
  ao 4 10 (.bin .neq (.t 7) (.t 9))]
def r23_2 : List AOper := [ao 0 4 (.mv (.k (.b false)))]
def c23_3 : ACode := .seq (.reg r23_2) .ret
def c23_4 : ACode := .cond (.t 10) c23_3 .skip
def c23_5 : ACode := .seq (.reg r23_1) c23_4
def r23_6 : List AOper := [ao 0 5 (.mv (.k (.i 0)))]
def r23_7 : List AOper := [ao 0 11 (.mv (.t 5)),
  ao 1 12 (.mv (.t 0)),
  ao 2 13 (.len (.t 12)),
  ao 3 14 (.bin .lss (.t 11) (.t 13))]
def c23_8 : ACode := .cond (.t 14) .skip (.exit 0)
def c23_9 : ACode := .seq (.reg r23_7) c23_8
def r23_10 : List AOper := [ao 0 17 (.mv (.t 0)),
  au 1 18 [0] (.mv (.t 5)),
  ao 2 19 (.ia 1 (.t 17) (.t 18)),
  ao 3 20 (.ld 1 false (.t 19)),
  au 4 21 (ru 4) (.mv (.t 1)),
  au 5 22 (ru 5) (.mv (.t 5)),
  au 6 23 (ru 4) (.ia 1 (.t 21) (.t 22)),
  au 7 24 (ru 4) (.ld 1 false (.t 23)),
  ao 8 25 (.bin .neq (.t 20) (.t 24))]
def r23_11 : List AOper := [ao 0 4 (.mv (.k (.b false)))]
def c23_12 : ACode := .seq (.reg r23_11) .ret
def c23_13 : ACode := .cond (.t 25) c23_12 .skip
def c23_14 : ACode := .seq (.reg r23_10) c23_13
def c23_15 : ACode := .block 1 c23_14
def r23_16 : List AOper := [ao 0 15 (.mv (.t 5)),
  ao 1 16 (.bin .add (.t 15) (.k (.i 1))),
  ao 2 5 (.mv (.t 16))]
def c23_17 : ACode := .seq c23_9 (.seq c23_15 (.reg r23_16))
def c23_18 : ACode := .loop c23_17
def c23_19 : ACode := .block 0 c23_18
def c23_20 : ACode := .seq (.reg r23_6) c23_19
def r23_21 : List AOper := [ao 0 4 (.mv (.k (.b true)))]
def c23 : ACode := .seq (.reg r23_0) (.seq c23_5 (.seq c23_20 (.seq (.reg r23_21) .ret)))
def s23 : List ARes := [.tmp 4]
theorem ok23 : okF Tryz.prog 23 26 c23 s23 := ⟨Tryz.f23, Tryz.func23, Tryz.ntmps23, by kernel_rfl, by kernel_rfl, by kernel_rfl⟩
def inv23 (xs : List Int) (i : Nat) (σ : St) : Prop := σ.t 0 = tL (en eI xs) ∧ σ.t 1 = tL (en eI xs) ∧ σ.t 5 = .i i
def UEo_1 := Bx.mk <|
  aN (uA c23.eq_1) <| aN (uR r23_0.eq_1) <| aN (uA c23_5.eq_1) <| aN (uR r23_1.eq_1) <| aN (uA c23_4.eq_1) <| aN (uA c23_3.eq_1) <| aN (uR r23_2.eq_1) <| aN (uA c23_20.eq_1) <| aN (uR r23_6.eq_1) <| aN (uA c23_19.eq_1) <| aN (uA c23_18.eq_1) <| aN (uR r23_21.eq_1) <| s23.eq_1
def UEo_3 := Bx.mk <|
  aN (uA c23_17.eq_1) <| aN (uA c23_9.eq_1) <| aN (uR r23_7.eq_1) <| aN (uA c23_8.eq_1) <| aN (uA c23_15.eq_1) <| aN (uA c23_14.eq_1) <| aN (uR r23_10.eq_1) <| aN (uA c23_13.eq_1) <| aN (uA c23_12.eq_1) <| aN (uR r23_11.eq_1) <| aN (uR r23_16.eq_1) <| aN (uA c23.eq_1) <| aN (uR r23_0.eq_1) <| aN (uA c23_5.eq_1) <| aN (uR r23_1.eq_1) <| aN (uA c23_4.eq_1) <| aN (uA c23_3.eq_1) <| aN (uR r23_2.eq_1) <| aN (uA c23_20.eq_1) <| aN (uR r23_6.eq_1) <| aN (uA c23_19.eq_1) <| aN (uA c23_18.eq_1) <| aN (uR r23_21.eq_1) <| s23.eq_1
theorem lwInts_ok (xs : List Int) (hl : xs.length ≤ 2000000) : ACallsF Tryz.prog 23 [tL (en eI xs), tL (en eI xs)] [] (.b true) := by
  have n0 := ne0' (xs.length : Int)
  refine ACallsF.intro ok23 follows fun X c0 => ?_
  simp only [RZ, reduceAdd, reduceIte, reduceEqDiff, reduceLT, reduceLeDiff, reduceCtorEq, Nat.reduceBEq, UEo_1.d, n0]
  refine AW.upto xs.length (inv23 xs) ⟨rfl, rfl, rfl⟩ fun i t H c hi h => ?_
  obtain ⟨e0, e1, e5⟩ := h
  simp only [T.c, T.i, tL] at e0 e1 e5
  by_cases k1 : (i : Int) < xs.length
  · obtain ⟨x, hx⟩ : ∃ x, xs[i]? = some x := ⟨_, List.getElem?_eq_getElem (by omega)⟩
    have ex := en_at eI hx
    have gz : (0 : Int) ≤ i := by omega
    have gw := w1_ok (i := i) (by omega)
    simp only [RZ, reduceAdd, reduceIte, reduceEqDiff, reduceLT, reduceLeDiff, reduceCtorEq, Nat.reduceBEq, UEo_3.d, e0, e1, e5, en_len, k1, gz, ex, eI, ne0', gw]
    exact ⟨by omega, e0, e1, rfl⟩
  · simp only [RZ, reduceAdd, reduceIte, reduceEqDiff, reduceLT, reduceLeDiff, reduceCtorEq, Nat.reduceBEq, UEo_3.d, UEo_1.d, e0, e1, e5, en_len, k1]
/- loop.example/teagle/laws.lwWorld -/
def r22_0 : List AOper := [ao 0 2 (.box 26 (.t 0)),
  ao 1 3 (.box 26 (.t 1)),
  ao 2 4 (.mv (.k (.b false)))]
def r22_1 : List AOper := [ao 0 8 (.fa 6 (.t 2)),
  ao 1 9 (.ld 1 false (.t 8)),
  ao 2 10 (.len (.t 9)),
  ao 3 11 (.fa 6 (.t 3)),
  ao 4 12 (.ld 1 false (.t 11)),
  ao 5 13 (.len (.t 12)),
  ao 6 14 (.bin .neq (.t 10) (.t 13))]
def r22_2 : List AOper := [ao 0 4 (.mv (.k (.b false)))]
def c22_3 : ACode := .seq (.reg r22_2) .ret
def c22_4 : ACode := .cond (.t 14) c22_3 .skip
def c22_5 : ACode := .seq (.reg r22_1) c22_4
def r22_6 : List AOper := [ao 0 5 (.mv (.k (.i 0)))]
def r22_7 : List AOper := [ao 0 15 (.mv (.t 5)),
  ao 1 16 (.fa 6 (.t 2)),
  ao 2 17 (.ld 1 false (.t 16)),
  ao 3 18 (.len (.t 17)),
  ao 4 19 (.bin .lss (.t 15) (.t 18))]
def c22_8 : ACode := .cond (.t 19) .skip (.exit 0)
def c22_9 : ACode := .seq (.reg r22_7) c22_8
def r22_10 : List AOper := [ao 0 22 (.fa 6 (.t 2)),
  ao 1 23 (.ld 1 false (.t 22)),
  au 2 24 [0, 1] (.mv (.t 5)),
  ao 3 25 (.ia 2 (.t 23) (.t 24)),
  ao 4 26 (.ld 2 true (.t 25)),
  au 5 27 (ru 5) (.fa 6 (.t 3)),
  au 6 28 (ru 5) (.ld 1 false (.t 27)),
  au 7 29 (ru 7) (.mv (.t 5)),
  au 8 30 (ru 5) (.ia 2 (.t 28) (.t 29)),
  au 9 31 (ru 5) (.ld 2 true (.t 30)),
  ao 10 32 (.cmpA true [0, 0] (.t 26) (.t 31))]
def r22_11 : List AOper := [ao 0 4 (.mv (.k (.b false)))]
def c22_12 : ACode := .seq (.reg r22_11) .ret
def c22_13 : ACode := .cond (.t 32) c22_12 .skip
def c22_14 : ACode := .seq (.reg r22_10) c22_13
def c22_15 : ACode := .block 1 c22_14
def r22_16 : List AOper := [ao 0 20 (.mv (.t 5)),
  ao 1 21 (.bin .add (.t 20) (.k (.i 1))),
  ao 2 5 (.mv (.t 21))]
def c22_17 : ACode := .seq c22_9 (.seq c22_15 (.reg r22_16))
def c22_18 : ACode := .loop c22_17
def c22_19 : ACode := .block 0 c22_18
def c22_20 : ACode := .seq (.reg r22_6) c22_19
def r22_21 : List AOper := [ao 0 33 (.fa 0 (.t 2)),
  ao 1 34 (.ld 1 false (.t 33)),
  ao 2 35 (.fa 1 (.t 2)),
  ao 3 36 (.ld 1 false (.t 35)),
  ao 4 37 (.fa 2 (.t 2)),
  ao 5 38 (.ld 1 false (.t 37)),
  ao 6 39 (.fa 3 (.t 2)),
  ao 7 40 (.ld 1 false (.t 39)),
  ao 8 41 (.fa 4 (.t 2)),
  ao 9 42 (.ld 1 false (.t 41)),
  ao 10 43 (.fa 7 (.t 2)),
  ao 11 44 (.ld 1 false (.t 43)),
  ao 12 45 (.fa 9 (.t 2)),
  ao 13 46 (.ld 1 false (.t 45)),
  ao 14 47 (.fa 11 (.t 2)),
  ao 15 48 (.ld 1 false (.t 47)),
  ao 16 49 (.fa 13 (.t 2)),
  ao 17 50 (.ld 1 false (.t 49)),
  ao 18 51 (.fa 15 (.t 2)),
  ao 19 52 (.ld 1 false (.t 51)),
  ao 20 53 (.fa 17 (.t 2)),
  ao 21 54 (.ld 1 false (.t 53)),
  ao 22 55 (.bsl 1 3 [(.t 34), (.t 36), (.t 38), (.t 40), (.t 42), (.t 44), (.t 46), (.t 48), (.t 50), (.t 52), (.t 54)]),
  ao 23 6 (.mv (.t 55))]
def r22_22 : List AOper := [ao 0 56 (.fa 0 (.t 3)),
  ao 1 57 (.ld 1 false (.t 56)),
  ao 2 58 (.fa 1 (.t 3)),
  ao 3 59 (.ld 1 false (.t 58)),
  ao 4 60 (.fa 2 (.t 3)),
  ao 5 61 (.ld 1 false (.t 60)),
  ao 6 62 (.fa 3 (.t 3)),
  ao 7 63 (.ld 1 false (.t 62)),
  ao 8 64 (.fa 4 (.t 3)),
  ao 9 65 (.ld 1 false (.t 64)),
  ao 10 66 (.fa 7 (.t 3)),
  ao 11 67 (.ld 1 false (.t 66)),
  ao 12 68 (.fa 9 (.t 3)),
  ao 13 69 (.ld 1 false (.t 68)),
  ao 14 70 (.fa 11 (.t 3)),
  ao 15 71 (.ld 1 false (.t 70)),
  ao 16 72 (.fa 13 (.t 3)),
  ao 17 73 (.ld 1 false (.t 72)),
  ao 18 74 (.fa 15 (.t 3)),
  ao 19 75 (.ld 1 false (.t 74)),
  ao 20 76 (.fa 17 (.t 3)),
  ao 21 77 (.ld 1 false (.t 76)),
  ao 22 78 (.bsl 1 3 [(.t 57), (.t 59), (.t 61), (.t 63), (.t 65), (.t 67), (.t 69), (.t 71), (.t 73), (.t 75), (.t 77)]),
  ao 23 7 (.mv (.t 78))]
def r22_23 : List AOper := [ao 0 79 (.mv (.t 6)),
  ao 1 80 (.mv (.t 7)),
  ao 2 81 (.call (.k (.c (.fn 23 []))) [(.t 79), (.t 80)]),
  ao 3 82 (.mv (.t 81)),
  ag 4 83 82 true [] (.fa 5 (.t 2)),
  ag 5 84 82 true [] (.ld 1 false (.t 83)),
  ag 6 85 82 true [] (.fa 5 (.t 3)),
  ag 7 86 82 true [] (.ld 1 false (.t 85)),
  ag 8 87 82 true [] (.call (.k (.c (.fn 23 []))) [(.t 84), (.t 86)]),
  ao 9 88 (.pick (.t 82) (.t 87) (.k (.b false))),
  ao 10 89 (.mv (.t 88)),
  ag 11 90 89 true [] (.fa 8 (.t 2)),
  ag 12 91 89 true [] (.ld 1 false (.t 90)),
  ag 13 92 89 true [] (.fa 8 (.t 3)),
  ag 14 93 89 true [] (.ld 1 false (.t 92)),
  ag 15 94 89 true [] (.call (.k (.c (.fn 23 []))) [(.t 91), (.t 93)]),
  ao 16 95 (.pick (.t 89) (.t 94) (.k (.b false))),
  ao 17 96 (.mv (.t 95)),
  ag 18 97 96 true [] (.fa 10 (.t 2)),
  ag 19 98 96 true [] (.ld 1 false (.t 97)),
  ag 20 99 96 true [] (.fa 10 (.t 3)),
  ag 21 100 96 true [] (.ld 1 false (.t 99)),
  ag 22 101 96 true [] (.call (.k (.c (.fn 23 []))) [(.t 98), (.t 100)]),
  ao 23 102 (.pick (.t 96) (.t 101) (.k (.b false))),
  ao 24 103 (.mv (.t 102)),
  ag 25 104 103 true [] (.fa 12 (.t 2)),
  ag 26 105 103 true [] (.ld 1 false (.t 104)),
  ag 27 106 103 true [] (.fa 12 (.t 3)),
  ag 28 107 103 true [] (.ld 1 false (.t 106)),
  ag 29 108 103 true [] (.call (.k (.c (.fn 23 []))) [(.t 105), (.t 107)]),
  ao 30 109 (.pick (.t 103) (.t 108) (.k (.b false))),
  ao 31 110 (.mv (.t 109)),
  ag 32 111 110 true [] (.fa 14 (.t 2)),
  ag 33 112 110 true [] (.ld 1 false (.t 111)),
  ag 34 113 110 true [] (.fa 14 (.t 3)),
  ag 35 114 110 true [] (.ld 1 false (.t 113)),
  ag 36 115 110 true [] (.call (.k (.c (.fn 23 []))) [(.t 112), (.t 114)]),
  ao 37 116 (.pick (.t 110) (.t 115) (.k (.b false))),
  ao 38 117 (.mv (.t 116)),
  ag 39 118 117 true [] (.fa 16 (.t 2)),
  ag 40 119 117 true [] (.ld 1 false (.t 118)),
  ag 41 120 117 true [] (.fa 16 (.t 3)),
  ag 42 121 117 true [] (.ld 1 false (.t 120)),
  ag 43 122 117 true [] (.call (.k (.c (.fn 23 []))) [(.t 119), (.t 121)]),
  ao 44 123 (.pick (.t 117) (.t 122) (.k (.b false))),
  ao 45 4 (.mv (.t 123))]
def c22 : ACode := .seq (.reg r22_0) (.seq c22_5 (.seq c22_20 (.seq (.reg r22_21) (.seq (.reg r22_22) (.seq (.reg r22_23) .ret)))))
def s22 : List ARes := [.tmp 4]
theorem ok22 : okF Tryz.prog 22 124 c22 s22 := ⟨Tryz.f22, Tryz.func22, Tryz.ntmps22, by kernel_rfl, by kernel_rfl, by kernel_rfl⟩
def nums (w : CW) : List Int := [w.jobs, w.workers, w.window, w.next, w.reader, w.closer, w.keeper, w.due, w.user, w.room, w.ops]
def inv22 (w : CW) (i : Nat) (σ : St) : Prop := (∃ u v, σ.t 2 = .c (.ptr 2 u 0) ∧ σ.H 2 = some (cwB u w) ∧ σ.t 3 = .c (.ptr 3 v 0) ∧ σ.H 3 = some (cwB v w)) ∧ σ.t 5 = .i i
def UEo_2 := Bx.mk <|
  aN (uA c22.eq_1) <| aN (uR r22_0.eq_1) <| aN (uA c22_5.eq_1) <| aN (uR r22_1.eq_1) <| aN (uA c22_4.eq_1) <| aN (uA c22_3.eq_1) <| aN (uR r22_2.eq_1) <| aN (uA c22_20.eq_1) <| aN (uR r22_6.eq_1) <| aN (uA c22_19.eq_1) <| aN (uA c22_18.eq_1) <| aN (uR r22_21.eq_1) <| aN (uR r22_22.eq_1) <| aN (uR r22_23.eq_1) <| s22.eq_1
def UEo_4 := Bx.mk <|
  aN (uA c22_17.eq_1) <| aN (uA c22_9.eq_1) <| aN (uR r22_7.eq_1) <| aN (uA c22_8.eq_1) <| aN (uA c22_15.eq_1) <| aN (uA c22_14.eq_1) <| aN (uR r22_10.eq_1) <| aN (uA c22_13.eq_1) <| aN (uA c22_12.eq_1) <| aN (uR r22_11.eq_1) <| aN (uR r22_16.eq_1) <| aN (uA c22.eq_1) <| aN (uR r22_0.eq_1) <| aN (uA c22_5.eq_1) <| aN (uR r22_1.eq_1) <| aN (uA c22_4.eq_1) <| aN (uA c22_3.eq_1) <| aN (uR r22_2.eq_1) <| aN (uA c22_20.eq_1) <| aN (uR r22_6.eq_1) <| aN (uA c22_19.eq_1) <| aN (uA c22_18.eq_1) <| aN (uR r22_21.eq_1) <| aN (uR r22_22.eq_1) <| aN (uR r22_23.eq_1) <| s22.eq_1
set_option maxHeartbeats 2000000 in
theorem lwWorld_ok {w : CW} (h : Small w) : ACallsF Tryz.prog 22 [tCW w, tCW w] [] (.b true) := by
  have n0 := ne0' (w.hands.length : Int)
  have hh := h.h
  refine ACallsF.intro ok22 follows fun X c0 => ?_
  simp only [RZ, reduceAdd, reduceIte, reduceEqDiff, reduceLT, reduceLeDiff, reduceCtorEq, Nat.reduceBEq, UEo_2.d, en_len, n0]
  refine AW.upto w.hands.length (inv22 w) ⟨⟨_, _, rfl, rfl, rfl, rfl⟩, rfl⟩ fun i t H c hi h' => ?_
  obtain ⟨⟨u, v, e2, eH2, e3, eH3⟩, e5⟩ := h'
  simp only [T.c, T.i, tL] at e2 eH2 e3 eH3 e5
  by_cases k1 : (i : Int) < w.hands.length
  · obtain ⟨x, hx⟩ : ∃ x, w.hands[i]? = some x := ⟨_, List.getElem?_eq_getElem (by omega)⟩
    have ex := en_at eH hx
    have gz : (0 : Int) ≤ i := by omega
    have gw := w1_ok (i := i) (by omega)
    simp only [RZ, reduceAdd, reduceIte, reduceEqDiff, reduceLT, reduceLeDiff, reduceCtorEq, Nat.reduceBEq, UEo_4.d, e2, eH2, e3, eH3, e5, en_len, k1, gz, ex, eH, ne0', gw, eqK, Option.map_some, beq_self_eq_true, Bool.and_self, Bool.not_true]
    exact ⟨by omega, ⟨u, v, e2, eH2, e3, eH3⟩, rfl⟩
  · simp only [RZ, reduceAdd, reduceIte, reduceEqDiff, reduceLT, reduceLeDiff, reduceCtorEq, Nat.reduceBEq, UEo_4.d, UEo_2.d, e2, eH2, e3, eH3, e5, en_len, k1]
    refine callS (ws := [(55, .arr _ false 1 3 (en eI (nums w))), (78, .arr _ false 1 3 (en eI (nums w)))]) (ns := [55, 78]) (lwInts_ok (nums w) (by show 11 ≤ 2000000; decide)) rfl (by simp only [RUX, Nat.reduceAdd, reduceIte, Nat.reduceEqDiff, Nat.reduceLT, Nat.reduceLeDiff, reduceCtorEq, eq_self, FIX, forall_const, endE_n, endE_r, APT, APX, forall_eq, ALT, KI, lendTs, lendT, List.map_cons, List.map_nil]; rfl) rfl rfl rfl ⟨?_, ?_⟩
    · rfl
    simp only [RZ, reduceAdd, reduceIte, reduceEqDiff, reduceLT, reduceLeDiff, reduceCtorEq, Nat.reduceBEq, UEo_4.d, UEo_2.d, e2, eH2, e3, eH3, e5, en_len, k1]
    refine callC (lwInts_ok w.queue h.q) rfl rfl rfl rfl ?_
    simp only [RZ, reduceAdd, reduceIte, reduceEqDiff, reduceLT, reduceLeDiff, reduceCtorEq, Nat.reduceBEq, UEo_4.d, UEo_2.d, e2, eH2, e3, eH3, e5, en_len, k1]
    refine callC (lwInts_ok w.results h.r) rfl rfl rfl rfl ?_
    simp only [RZ, reduceAdd, reduceIte, reduceEqDiff, reduceLT, reduceLeDiff, reduceCtorEq, Nat.reduceBEq, UEo_4.d, UEo_2.d, e2, eH2, e3, eH3, e5, en_len, k1]
    refine callC (lwInts_ok w.ring h.g) rfl rfl rfl rfl ?_
    simp only [RZ, reduceAdd, reduceIte, reduceEqDiff, reduceLT, reduceLeDiff, reduceCtorEq, Nat.reduceBEq, UEo_4.d, UEo_2.d, e2, eH2, e3, eH3, e5, en_len, k1]
    refine callC (lwInts_ok w.out h.o) rfl rfl rfl rfl ?_
    simp only [RZ, reduceAdd, reduceIte, reduceEqDiff, reduceLT, reduceLeDiff, reduceCtorEq, Nat.reduceBEq, UEo_4.d, UEo_2.d, e2, eH2, e3, eH3, e5, en_len, k1]
    refine callC (lwInts_ok w.got h.t) rfl rfl rfl rfl ?_
    simp only [RZ, reduceAdd, reduceIte, reduceEqDiff, reduceLT, reduceLeDiff, reduceCtorEq, Nat.reduceBEq, UEo_4.d, UEo_2.d, e2, eH2, e3, eH3, e5, en_len, k1]
    refine callC (lwInts_ok w.shut h.s) rfl rfl rfl rfl ?_
    simp only [RZ, reduceAdd, reduceIte, reduceEqDiff, reduceLT, reduceLeDiff, reduceCtorEq, Nat.reduceBEq, UEo_4.d, UEo_2.d, e2, eH2, e3, eH3, e5, en_len, k1]
end Go.V
set_option linter.unusedVariables false
set_option linter.unusedSimpArgs false
namespace Go.V
open Go.Proofs
/-! A move of a world that is ok leaves it ok, and less is left. -/
theorem fm_split {α β : Type} (k : α → List β) : ∀ (xs : List α) (i : Nat) (x : α), xs[i]? = some x → ∃ rest, (∀ y, ((xs.set i y).flatMap k).Perm (k y ++ rest)) ∧ (xs.flatMap k).Perm (k x ++ rest)
  | [], i, x, h => by simp at h
  | a :: xs, 0, x, h => by
    simp at h; subst h
    exact ⟨xs.flatMap k, fun y => by simp, by simp⟩
  | a :: xs, i + 1, x, h => by
    obtain ⟨rest, h1, h2⟩ := fm_split k xs i x (by simpa using h)
    refine ⟨k a ++ rest, fun y => ?_, ?_⟩
    · rw [List.set_cons_succ, List.flatMap_cons]
      exact ((h1 y).append_left (k a)).trans (List.perm_append_comm_assoc _ _ _)
    · rw [List.flatMap_cons]
      exact (h2.append_left (k a)).trans (List.perm_append_comm_assoc _ _ _)
def jobL (h : Hd) : List Int := if h.state = 1 ∨ h.state = 2 then [h.job] else []
def ringL (x : Int) : List Int := if 0 ≤ x then [x] else []
theorem hJobs_fm : ∀ hs : List Hd, hJobs hs = hs.flatMap jobL
  | [] => rfl
  | h :: hs => by
    rw [List.flatMap_cons, ← hJobs_fm hs, hJobs, List.filterMap_cons, jobL]
    by_cases g : h.state = 1 ∨ h.state = 2
    · rw [if_pos g, if_pos g]; rfl
    · rw [if_neg g, if_neg g]; rfl
theorem rJobs_fm : ∀ rs : List Int, rJobs rs = rs.flatMap ringL
  | [] => rfl
  | h :: hs => by
    rw [List.flatMap_cons, ← rJobs_fm hs, rJobs, List.filter_cons, ringL]
    by_cases g : 0 ≤ h
    · rw [if_pos (decide_eq_true g), if_pos g]; rfl
    · rw [if_neg (by simpa using g), if_neg g]; rfl
theorem hJobs_split {hs : List Hd} {i : Nat} {h : Hd} (hi : hs[i]? = some h) : ∃ rest, (∀ y, (hJobs (hs.set i y)).Perm (jobL y ++ rest)) ∧ (hJobs hs).Perm (jobL h ++ rest) := by
  simp only [hJobs_fm]; exact fm_split jobL hs i h hi
theorem rJobs_split {rs : List Int} {i : Nat} {x : Int} (hi : rs[i]? = some x) : ∃ rest, (∀ y, (rJobs (rs.set i y)).Perm (ringL y ++ rest)) ∧ (rJobs rs).Perm (ringL x ++ rest) := by
  simp only [rJobs_fm]; exact fm_split ringL rs i x hi
theorem sumL_cons (h : Hd) (hs : List Hd) : sumL (h :: hs) = hdL h.state + sumL hs := by simp [sumL]
theorem sumL_set : ∀ (hs : List Hd) (i : Nat) (h y : Hd), hs[i]? = some h → sumL (hs.set i y) = sumL hs - hdL h.state + hdL y.state
  | [], i, h, y, hi => by simp at hi
  | a :: hs, 0, h, y, hi => by
    simp at hi; subst hi
    rw [List.set_cons_zero, sumL_cons, sumL_cons]; omega
  | a :: hs, i + 1, h, y, hi => by
    rw [List.set_cons_succ, sumL_cons, sumL_cons, sumL_set hs i h y (by simpa using hi)]; omega
theorem sh_put {w w' : CW} (f : Form w) {k : Nat} (hk : k < 4) (e : w'.shut = w.shut.set k 1) {i : Nat} (hi : i < 4) : sh w' i = if k = i then 1 else sh w i := by
  have hls := f.ls
  rw [sh, e, List.getD_eq_getElem?_getD, List.getElem?_set]
  by_cases g : k = i
  · subst g; rw [if_pos rfl, if_pos rfl, if_pos (by omega)]; rfl
  · rw [if_neg g, if_neg g, sh, List.getD_eq_getElem?_getD]
theorem shut_put {w : CW} (f : Form w) (k : Nat) : ∀ s ∈ w.shut.set k 1, 0 ≤ s ∧ s ≤ 1 := fun s hs => by
  rcases List.mem_or_eq_of_mem_set hs with h | h
  · exact f.shut s h
  · subst h; decide
theorem way3 {a b c : Bool} {n : Nat} (h : [a, b, c][n]? = some true) : (n = 0 ∧ a = true) ∨ (n = 1 ∧ b = true) ∨ (n = 2 ∧ c = true) := by
  match n, h with
  | 0, h => exact .inl ⟨rfl, by simpa using h⟩
  | 1, h => exact .inr (.inl ⟨rfl, by simpa using h⟩)
  | 2, h => exact .inr (.inr ⟨rfl, by simpa using h⟩)
  | n + 3, h => simp at h
theorem way2 {a b : Bool} {n : Nat} (h : [a, b][n]? = some true) : (n = 0 ∧ a = true) ∨ (n = 1 ∧ b = true) := by
  match n, h with
  | 0, h => exact .inl ⟨rfl, by simpa using h⟩
  | 1, h => exact .inr ⟨rfl, by simpa using h⟩
  | n + 2, h => simp at h
theorem way1 {a : Bool} {n : Nat} (h : [a][n]? = some true) : n = 0 ∧ a = true := by
  match n, h with
  | 0, h => exact ⟨rfl, by simpa using h⟩
  | n + 1, h => simp at h
/-- What is asked of the world behind a move. -/
structure Good (w w' : CW) : Prop where
  form : Form w'
  jobs : Jobs w'
  ends : Ends w'
  less : left w' + 1 ≤ left w
  sum : w'.ops + left w' ≤ w.ops + left w
  jb : w'.jobs = w.jobs
  wk : w'.workers = w.workers
theorem Good.ok {w w' : CW} (h : WOk w) (g : Good w w') : WOk w' := ⟨g.form, g.jobs, g.ends, by have := g.sum; have := h.ops; rw [g.jb, g.wk]; omega⟩
theorem ops_ok {w : CW} (h : WOk w) : w.ops + 1 ≤ 10000 := by
  have h1 := h.ops
  have h2 := h.form.st.j
  have h3 := h.form.st.k
  have h4 := left_bd h.form
  omega
theorem doR_good {w : CW} {m : Mv} (h : Can w m) (h0 : m.who = 0) : Good w (doR w m.way) := by
  have ok := h.ok
  have f := ok.form
  have j := ok.jobs
  have e := ok.ends
  have g := h.open'
  have hw := h.way
  have ho := f.ops0
  have ho2 := ops_ok ok
  have hr := f.room
  have hn := f.next
  have hd := f.due
  have hk := f.st.k
  have z3 := sh_01 f (i := 3) (by omega)
  have noAny : sh w 3 = 0 → w.reader ≠ 3 → ¬ Any w := fun a b c => b (e.an a c).1
  rw [ways, if_pos h0, waysR] at g
  by_cases c2 : w.reader = 2
  · rw [if_neg (by omega), if_neg (by omega), if_pos c2] at g
    obtain ⟨g1, _⟩ := way1 g
    have ew : doR w m.way = { w with reader := 3, shut := w.shut.set 0 1, ops := w.ops + 1 } := by rw [doR, if_pos c2]
    rw [ew]
    have s := fun (i : Nat) (hi : i < 4) => sh_put (w' := { w with reader := 3, shut := w.shut.set 0 1, ops := w.ops + 1 }) f (k := 0) (by omega) rfl hi
    have hp : places { w with reader := 3, shut := w.shut.set 0 1, ops := w.ops + 1 } = places w := by simp [places, sent, c2]
    have hl : left { w with reader := 3, shut := w.shut.set 0 1, ops := w.ops + 1 } = left w - 1 := by simp only [left, base, rdL, c2]; simp; omega
    have s3 := s 3 (by omega)
    rw [if_neg (by decide)] at s3
    refine ⟨{ f with ls := by show ((w.shut.set 0 1).length : Int) = 4; rw [List.length_set]; exact f.ls, shut := shut_put f 0, rd := ⟨show (0 : Int) ≤ 3 by decide, show (3 : Int) ≤ 3 by decide⟩, ops0 := by show 0 ≤ w.ops + 1; omega, ops1 := ho2 },
      { j with all := by rw [hp]; exact j.all, nd := by rw [hp]; exact j.nd, len := fun a => by rw [hp]; exact j.len (by rw [← s3]; exact a) },
      { e with rd := ⟨fun _ => rfl, fun _ => by rw [s 0 (by omega)]; rfl⟩, cl := by rw [s 1 (by omega)]; exact e.cl, kp := by rw [s 2 (by omega)]; exact e.kp, us := fun a => e.us (by rw [← s3]; exact a), rc := fun a _ => e.rc (by rw [← s3]; exact a) (by omega), an := fun a b => absurd b (noAny (by rw [← s3]; exact a) (by omega)), dn := fun a => e.dn (by rw [← s3]; exact a), en := fun a => e.en (by rw [← s3]; exact a) }, by rw [hl]; omega, by rw [hl]; show w.ops + 1 + (left w - 1) ≤ _; omega, rfl, rfl⟩
  have ndone : sh w 0 = 1 ↔ w.reader = 3 := e.rd
  have hre : w.reader = 0 ∨ w.reader = 1 := by
    by_cases c0 : w.reader = 0
    · exact .inl c0
    · by_cases c1 : w.reader = 1
      · exact .inr c1
      · rw [if_neg c0, if_neg c1, if_neg c2] at g; simp at g
  by_cases cw : m.way > 0
  · have ew : doR w m.way = { w with reader := 2 } := by rw [doR, if_neg c2, if_pos cw]
    rw [ew]
    have hst : sh w 3 = 1 ∨ (w.reader = 0 ∧ w.next = w.jobs) := by
      rcases hre with c0 | c1
      · rw [if_pos c0] at g
        split at g
        · rename_i hnj; exact .inr ⟨c0, hnj⟩
        · rcases way3 g with ⟨a, _⟩ | ⟨_, b⟩ | ⟨_, b⟩
          · omega
          · exact .inl (by simpa using b)
          · cases b
      · rw [if_neg (by omega), if_pos c1] at g
        rcases way2 g with ⟨a, _⟩ | ⟨_, b⟩
        · omega
        · exact .inl (by simpa using b)
    have hp : places w = sent w ++ places { w with reader := 2 } := by simp [places, sent, List.append_assoc]
    have hl : left { w with reader := 2 } ≤ left w - 1 := by
      simp only [left, base]
      rcases hre with c | c <;> simp only [rdL, c] <;> simp <;> omega
    refine ⟨{ f with rd := ⟨show (0 : Int) ≤ 2 by decide, show (2 : Int) ≤ 3 by decide⟩ },
      { j with all := fun x hx => j.all x (by rw [hp]; exact List.mem_append_right _ hx), nd := (List.nodup_append.1 (by rw [← hp]; exact j.nd)).2.1, len := fun a => ?_ },
      { e with rd := ⟨fun a => absurd (ndone.1 a) (by omega), fun a => absurd (show (2 : Int) = 3 from a) (by decide)⟩, rc := fun a _ => ?_, an := fun a b => absurd b (noAny a (by omega)) }, by omega, by show w.ops + _ ≤ _; omega, rfl, rfl⟩
    · have a' : sh w 3 = 0 := a
      have c0 : w.reader = 0 := by rcases hst with g | g; omega; exact g.1
      have := j.len a'
      rw [hp, sent, if_neg (by omega), List.nil_append] at this
      exact this
    · have a' : sh w 3 = 0 := a
      show w.next = w.jobs
      rcases hst with g | g
      · omega
      · exact g.2
  have hz : m.way.toNat = 0 := by omega
  rw [hz] at g
  rcases hre with c0 | c1
  · rw [if_pos c0] at g
    split at g
    · simp at g
    rename_i hnj
    have hroom : w.room > 0 := by simpa using g
    have ew : doR w m.way = { w with room := w.room - 1, next := w.next + 1, reader := 1, ops := w.ops + 1 } := by rw [doR, if_neg c2, if_neg cw, if_pos c0]
    rw [ew]
    have hp : places { w with room := w.room - 1, next := w.next + 1, reader := 1, ops := w.ops + 1 } = w.next :: places w := by
      simp only [places, sent, c0]
      simp
    have hl : left { w with room := w.room - 1, next := w.next + 1, reader := 1, ops := w.ops + 1 } = left w - 1 := by simp only [left, base, rdL, c0]; simp; omega
    have hnot : w.next ∉ places w := fun g => by have := (j.all _ g).2; omega
    refine ⟨{ f with room := ⟨by show 0 ≤ w.room - 1; omega, by show w.room - 1 ≤ w.window; omega⟩, next := ⟨by show 0 ≤ w.next + 1; omega, by show w.next + 1 ≤ w.jobs; omega⟩, due := ⟨hd.1, by show w.due ≤ w.next + 1; omega⟩, rd := ⟨show (0 : Int) ≤ 1 by decide, show (1 : Int) ≤ 3 by decide⟩, ops0 := by show 0 ≤ w.ops + 1; omega, ops1 := ho2 },
      { j with all := fun x hx => ?_, nd := by rw [hp]; exact List.nodup_cons.2 ⟨hnot, j.nd⟩, len := fun a => ?_, room := ?_ },
      { e with rd := ⟨fun a => absurd (ndone.1 a) (by omega), fun a => absurd (show (1 : Int) = 3 from a) (by decide)⟩, rc := fun a b => absurd (show (2 : Int) ≤ 1 from b) (by decide), an := fun a b => absurd b (noAny a (by omega)) }, by rw [hl]; omega, by rw [hl]; show w.ops + 1 + (left w - 1) ≤ _; omega, rfl, rfl⟩
    · rw [hp] at hx
      show w.due ≤ x ∧ x ≤ w.next + 1 - 1
      rcases List.mem_cons.1 hx with rfl | hx
      · omega
      · have := j.all x hx; omega
    · have := j.len a
      rw [hp, List.length_cons]
      show ((_ + 1 : Nat) : Int) = w.next + 1 - w.due
      omega
    · have := j.room
      show w.room - 1 + (w.next + 1) - w.due + (if w.keeper = 3 then 1 else 0) = w.window
      omega
  · rw [if_neg (by omega), if_pos c1] at g
    have hql : (w.queue.length : Int) < w.workers := by simpa using g
    have ew : doR w m.way = { w with queue := w.queue ++ [w.next - 1], reader := 0, ops := w.ops + 1 } := by rw [doR, if_neg c2, if_neg cw, if_neg (by omega)]
    rw [ew]
    have hp : (places { w with queue := w.queue ++ [w.next - 1], reader := 0, ops := w.ops + 1 }).Perm (places w) := by
      rw [List.perm_iff_count]; intro a
      simp only [places, sent, c1, List.count_append]
      simp
      omega
    have hl : left { w with queue := w.queue ++ [w.next - 1], reader := 0, ops := w.ops + 1 } = left w - 1 := by simp only [left, base, rdL, c1, List.length_append, List.length_singleton]; simp; omega
    refine ⟨{ f with lq := by show ((w.queue ++ [w.next - 1]).length : Int) ≤ w.workers; rw [List.length_append, List.length_singleton]; omega, rd := ⟨show (0 : Int) ≤ 0 by decide, show (0 : Int) ≤ 3 by decide⟩, ops0 := by show 0 ≤ w.ops + 1; omega, ops1 := ho2 },
      { j with all := fun x hx => j.all x (hp.mem_iff.1 hx), nd := hp.nodup_iff.2 j.nd, len := fun a => by rw [hp.length_eq]; exact j.len a },
      { e with rd := ⟨fun a => absurd (ndone.1 a) (by omega), fun a => absurd (show (0 : Int) = 3 from a) (by decide)⟩, rc := fun a b => absurd (show (2 : Int) ≤ 0 from b) (by decide), an := fun a b => absurd b (noAny a (by omega)) }, by rw [hl]; omega, by rw [hl]; show w.ops + 1 + (left w - 1) ≤ _; omega, rfl, rfl⟩
end Go.V
set_option linter.unusedVariables false
set_option linter.unusedSimpArgs false
namespace Go.V
open Go.Proofs
theorem doC_good {w : CW} {m : Mv} (h : Can w m) (h0 : m.who = w.workers + 1) : Good w (doC w) := by
  have ok := h.ok
  have f := ok.form
  have j := ok.jobs
  have e := ok.ends
  have g := h.open'
  have ho := f.ops0
  have ho2 := ops_ok ok
  have hk := f.st.k
  have hcl := f.cl
  rw [ways, if_neg (by omega), if_neg (by omega), if_pos h0] at g
  obtain ⟨_, g⟩ := way1 g
  rw [Bool.and_eq_true, beq_iff_eq] at g
  obtain ⟨g1, g2⟩ := g
  have hall : All w := (all_iff w.hands).1 g2
  have s := fun (i : Nat) (hi : i < 4) => sh_put (w' := doC w) f (k := 1) (by omega) rfl hi
  have s3 := s 3 (by omega)
  rw [if_neg (by decide)] at s3
  have hl : left (doC w) = left w - 1 := by simp only [left, base, doC, g1]; simp; omega
  refine ⟨{ f with ls := by show ((w.shut.set 1 1).length : Int) = 4; rw [List.length_set]; exact f.ls, shut := shut_put f 1, cl := ⟨show (0 : Int) ≤ 1 by decide, show (1 : Int) ≤ 1 by decide⟩, ops0 := by show 0 ≤ w.ops + 1; omega, ops1 := ho2 },
    { j with len := fun a => j.len (by rw [← s3]; exact a) },
    { e with rd := by rw [s 0 (by omega)]; exact e.rd, cl := ⟨fun _ => rfl, fun _ => by rw [s 1 (by omega)]; rfl⟩, kp := by rw [s 2 (by omega)]; exact e.kp, us := fun a => e.us (by rw [← s3]; exact a), rc := fun a => e.rc (by rw [← s3]; exact a), an := fun a => e.an (by rw [← s3]; exact a), al := fun _ => hall, dn := fun a b => ⟨rfl, (e.dn (by rw [← s3]; exact a) b).2⟩, en := fun a => e.en (by rw [← s3]; exact a) }, by rw [hl]; omega, by rw [hl]; show w.ops + 1 + (left w - 1) ≤ _; omega, rfl, rfl⟩
theorem doU_good {w : CW} {m : Mv} (h : Can w m) (h0 : w.workers + 2 < m.who) : Good w (doU w m.way) := by
  have ok := h.ok
  have f := ok.form
  have j := ok.jobs
  have e := ok.ends
  have g := h.open'
  have hw := h.way
  have ho := f.ops0
  have ho2 := ops_ok ok
  have hk := f.st.k
  have hus := f.us
  have hlo := f.lo
  have hn := f.next
  have hd := f.due
  rw [ways, if_neg (by omega), if_neg (by omega), if_neg (by omega), if_neg (by omega)] at g
  by_cases cu : w.user = 1
  · rw [if_pos cu] at g; simp at g
  rw [if_neg cu] at g
  have u0 : w.user = 0 := by omega
  rcases way2 g with ⟨a, b⟩ | ⟨a, b⟩
  · have hz : m.way = 0 := by omega
    have ho1 : 0 < w.out.length := by simpa using b
    obtain ⟨x, hx⟩ : ∃ x, w.out = [x] := by
      match hq : w.out, hlo, ho1 with
      | [x], _, _ => exact ⟨x, rfl⟩
      | [], _, h => exact absurd h (by simp)
      | _ :: _ :: _, h, _ => simp at h; omega
    have hxv := j.out x (by rw [hx]; rfl)
    have hdue := j.due
    rw [hx, List.length_singleton] at hdue
    have ew : doU w m.way = { w with got := w.got ++ [x], out := [], ops := w.ops + 1 } := by rw [doU, if_pos hz, hx]; rfl
    rw [ew]
    have hl : left { w with got := w.got ++ [x], out := [], ops := w.ops + 1 } = left w - 1 := by simp only [left, base, hx]; simp; omega
    refine ⟨{ f with lo := show (((0 : Nat) : Int)) ≤ 1 by decide, lg := by show ((w.got ++ [x]).length : Int) ≤ w.jobs; rw [List.length_append, List.length_singleton]; omega, ops0 := by show 0 ≤ w.ops + 1; omega, ops1 := ho2 },
      { j with got := fun i y hy => ?_, due := ?_, out := fun y hy => by cases hy },
      { e with en := fun a b => absurd (show w.user = 1 from b) cu }, by rw [hl]; omega, by rw [hl]; show w.ops + 1 + (left w - 1) ≤ _; omega, rfl, rfl⟩
    · have hy : (w.got ++ [x])[i]? = some y := hy
      rcases Nat.lt_or_ge i w.got.length with hi | hi
      · rw [List.getElem?_append_left hi] at hy; exact j.got i y hy
      · rw [List.getElem?_append_right hi] at hy
        have h2 := (List.getElem?_eq_some_iff.1 hy).1
        simp at h2
        have h3 : i - w.got.length = 0 := by omega
        rw [h3] at hy
        simp at hy
        omega
    · show w.due = ((w.got ++ [x]).length : Int) + ((0 : Nat) : Int)
      rw [List.length_append, List.length_singleton]; omega
  · have hz : ¬ m.way = 0 := by omega
    rw [Bool.and_eq_true, beq_iff_eq, beq_iff_eq] at b
    obtain ⟨b1, b2⟩ := b
    have ew : doU w m.way = { w with user := 1, ops := w.ops + 1 } := by rw [doU, if_neg hz]
    rw [ew]
    have hl : left { w with user := 1, ops := w.ops + 1 } = left w - 1 := by simp only [left, base, u0]; omega
    refine ⟨{ f with us := ⟨show (0 : Int) ≤ 1 by decide, show (1 : Int) ≤ 1 by decide⟩, ops0 := by show 0 ≤ w.ops + 1; omega, ops1 := ho2 }, { j with },
      { e with us := fun _ => rfl, en := fun _ _ => ⟨e.kp.1 b2, show w.out.length = 0 by omega⟩ }, by rw [hl]; omega, by rw [hl]; show w.ops + 1 + (left w - 1) ≤ _; omega, rfl, rfl⟩
theorem hands_ok {w : CW} (f : Form w) (i : Nat) {y : Hd} (hy : HdOk y) : ∀ h ∈ w.hands.set i y, HdOk h := fun h hh => by
  rcases List.mem_or_eq_of_mem_set hh with g | g
  · exact f.hand h g
  · subst g; exact hy
theorem any_set {w w' : CW} {i : Nat} {y : Hd} (e : w'.hands = w.hands.set i y) (hy : y.state ≠ 3) (h : Any w') : Any w := by
  obtain ⟨x, hx, h3⟩ := h
  rw [e] at hx
  rcases List.mem_or_eq_of_mem_set hx with g | g
  · exact ⟨x, g, h3⟩
  · subst g; exact absurd h3 hy
theorem doH_good {w : CW} {m : Mv} (h : Can w m) (h0 : ¬ m.who = 0) (h1 : m.who ≤ w.workers) : Good w (doH w (m.who - 1).toNat m.way) := by
  have ok := h.ok
  have f := ok.form
  have j := ok.jobs
  have e := ok.ends
  have g := h.open'
  have hw := h.way
  have hwho := h.who
  have ho := f.ops0
  have ho2 := ops_ok ok
  have hk := f.st.k
  have hlh := f.lh
  have z3 := sh_01 f (i := 3) (by omega)
  have hlq := f.lq
  have hle := f.le
  rw [ways, if_neg h0, if_pos h1] at g
  obtain ⟨i, hi⟩ : ∃ i : Nat, m.who - 1 = i := ⟨(m.who - 1).toNat, by omega⟩
  rw [hi, Int.toNat_natCast] at g ⊢
  have hil : i < w.hands.length := by omega
  have hx := hdAt_at hil
  obtain ⟨x, ex⟩ : ∃ x, hdAt w i = x := ⟨_, rfl⟩
  rw [ex] at g hx
  have hxm : x ∈ w.hands := List.mem_of_getElem? hx
  obtain ⟨rest, r1, r2⟩ := hJobs_split hx
  have sl := fun y => sumL_set w.hands i x y hx
  have notAll : x.state ≠ 3 → ¬ All w := fun a b => a (b x hxm)
  have ncl : x.state ≠ 3 → w.closer ≠ 1 := fun a b => notAll a (e.al b)
  have lhs : ∀ y, (((w.hands.set i y).length : Nat) : Int) = w.workers := fun y => by rw [List.length_set]; exact hlh
  have hs3 : x.state = 0 ∨ x.state = 1 ∨ x.state = 2 := by
    unfold waysH at g
    by_cases c0 : x.state = 0
    · exact .inl c0
    · by_cases c1 : x.state = 1
      · exact .inr (.inl c1)
      · by_cases c2 : x.state = 2
        · exact .inr (.inr c2)
        · rw [if_neg c0, if_neg c1, if_neg c2] at g; simp at g
  have hne : x.state ≠ 3 := by omega
  by_cases cw : m.way > 0
  · obtain ⟨oo, hoo⟩ : ∃ oo, (if m.way = 2 then w.ops + 1 else w.ops) = oo := ⟨_, rfl⟩
    have ew : doH w i m.way = { w with hands := w.hands.set i ⟨3, 0⟩, ops := oo } := by rw [doH, if_pos cw, hoo]
    rw [ew]
    have ho3 : 0 ≤ oo ∧ oo ≤ 10000 ∧ oo ≤ w.ops + 1 ∧ (m.way ≠ 2 → oo = w.ops) := by rw [← hoo]; split <;> omega
    have key : sh w 3 = 1 ∨ (x.state = 0 ∧ w.queue.length = 0 ∧ sh w 0 = 1) := by
      unfold waysH at g
      rcases hs3 with c | c | c
      · rw [if_pos c] at g
        rcases way3 g with ⟨a, _⟩ | ⟨_, b⟩ | ⟨_, b⟩
        · omega
        · exact .inl (by simpa using b)
        · rw [Bool.and_eq_true, beq_iff_eq, beq_iff_eq] at b
          exact .inr ⟨c, by omega, b.2⟩
      · rw [if_neg (by omega), if_pos c] at g
        have := (way1 g).1; omega
      · rw [if_neg (by omega), if_neg (by omega), if_pos c] at g
        rcases way2 g with ⟨a, _⟩ | ⟨_, b⟩
        · omega
        · exact .inl (by simpa using b)
    have hl : left { w with hands := w.hands.set i ⟨3, 0⟩, ops := oo } = left w - hdL x.state := by simp only [left, base, sl, hdL]; simp; omega
    have hdpos : 1 ≤ hdL x.state := by rcases hs3 with c | c | c <;> rw [c] <;> decide
    have hj3 : jobL ⟨3, 0⟩ = [] := by simp [jobL]
    have hp : (places w).Perm (jobL x ++ places { w with hands := w.hands.set i ⟨3, 0⟩, ops := oo }) := by
      have q1 := r1 ⟨3, 0⟩
      rw [hj3, List.nil_append] at q1
      rw [List.perm_iff_count]; intro a
      have q3 := q1.count_eq a
      have q4 := r2.count_eq a
      simp only [places, sent, List.count_append] at q3 q4 ⊢
      omega
    refine ⟨{ f with lh := lhs _, hand := hands_ok f i ⟨⟨by decide, by decide⟩, .inr (.inr rfl)⟩, ops0 := ho3.1, ops1 := ho3.2.1 },
      { j with all := fun y hy => j.all y (hp.mem_iff.2 (List.mem_append_right _ hy)), nd := (List.nodup_append.1 (hp.nodup_iff.1 j.nd)).2.1, len := fun a => ?_ },
      { e with an := fun a b => ?_, al := fun a => absurd a (ncl hne) }, by rw [hl]; omega, by rw [hl]; show oo + _ ≤ _; omega, rfl, rfl⟩
    · have a' : sh w 3 = 0 := a
      have c : x.state = 0 := by rcases key with k | k; omega; exact k.1
      have hj : jobL x = [] := by simp [jobL, c]
      rw [hj, List.nil_append] at hp
      rw [← hp.length_eq]; exact j.len a'
    · have a' : sh w 3 = 0 := a
      rcases key with k | k
      · omega
      · exact ⟨e.rd.1 k.2.2, k.2.1⟩
  have hz : m.way.toNat = 0 := by omega
  rw [hz] at g
  unfold waysH at g
  rcases hs3 with c | c | c
  · rw [if_pos c] at g
    have hq : 0 < w.queue.length := by simpa using g
    obtain ⟨q, qs, hqs⟩ : ∃ q qs, w.queue = q :: qs := by
      cases hh : w.queue with
      | nil => rw [hh] at hq; cases hq
      | cons a b => exact ⟨a, b, rfl⟩
    have ew : doH w i m.way = { w with hands := w.hands.set i ⟨1, q⟩, queue := qs, ops := w.ops + 1 } := by rw [doH, if_neg cw, ex, if_pos c, hqs]; rfl
    rw [ew]
    have hl : left { w with hands := w.hands.set i ⟨1, q⟩, queue := qs, ops := w.ops + 1 } = left w - 1 := by simp only [left, base, sl, hdL, c, hqs]; simp; omega
    have hp : (places { w with hands := w.hands.set i ⟨1, q⟩, queue := qs, ops := w.ops + 1 }).Perm (places w) := by
      rw [List.perm_iff_count]; intro a
      have q3 := (r1 ⟨1, q⟩).count_eq a
      have q4 := r2.count_eq a
      simp only [jobL, c] at q3 q4
      simp only [places, sent, hqs, List.count_append, List.count_cons] at q3 q4 ⊢
      simp [List.count_cons] at q3 q4 ⊢
      omega
    refine ⟨{ f with lh := lhs _, lq := by show (qs.length : Int) ≤ w.workers; rw [hqs, List.length_cons] at hlq; omega, hand := hands_ok f i ⟨⟨show (0 : Int) ≤ 1 by decide, show (1 : Int) ≤ 3 by decide⟩, .inl rfl⟩, ops0 := by show 0 ≤ w.ops + 1; omega, ops1 := ho2 },
      { j with all := fun y hy => j.all y (hp.mem_iff.1 hy), nd := hp.nodup_iff.2 j.nd, len := fun a => by rw [hp.length_eq]; exact j.len a },
      { e with an := fun a b => ?_, al := fun a => absurd a (ncl hne) }, by rw [hl]; omega, by rw [hl]; show w.ops + 1 + (left w - 1) ≤ _; omega, rfl, rfl⟩
    have := (e.an a (any_set (w := w) rfl (by show (1 : Int) ≠ 3; decide) b)).2
    omega
  · have ew : doH w i m.way = { w with hands := w.hands.set i ⟨2, x.job⟩ } := by rw [doH, if_neg cw, ex, if_neg (by omega), if_pos c]
    rw [ew]
    have hl : left { w with hands := w.hands.set i ⟨2, x.job⟩ } = left w - 1 := by simp only [left, base, sl, hdL, c]; simp; omega
    have hp : (places { w with hands := w.hands.set i ⟨2, x.job⟩ }).Perm (places w) := by
      rw [List.perm_iff_count]; intro a
      have q3 := (r1 ⟨2, x.job⟩).count_eq a
      have q4 := r2.count_eq a
      simp only [jobL, c] at q3 q4
      simp only [places, sent, List.count_append] at q3 q4 ⊢
      simp [List.count_cons] at q3 q4 ⊢
      omega
    refine ⟨{ f with lh := lhs _, hand := hands_ok f i ⟨⟨show (0 : Int) ≤ 2 by decide, show (2 : Int) ≤ 3 by decide⟩, .inr (.inl rfl)⟩ },
      { j with all := fun y hy => j.all y (hp.mem_iff.1 hy), nd := hp.nodup_iff.2 j.nd, len := fun a => by rw [hp.length_eq]; exact j.len a },
      { e with an := fun a b => e.an a (any_set (w := w) rfl (by show (2 : Int) ≠ 3; decide) b), al := fun a => absurd a (ncl hne) }, by rw [hl]; omega, by rw [hl]; show w.ops + (left w - 1) ≤ _; omega, rfl, rfl⟩
  · rw [if_neg (by omega), if_neg (by omega), if_pos c] at g
    have hrl : (w.results.length : Int) < w.workers := by simpa using g
    have ew : doH w i m.way = { w with results := w.results ++ [x.job], hands := w.hands.set i ⟨0, 0⟩, ops := w.ops + 1 } := by rw [doH, if_neg cw, ex, if_neg (by omega), if_neg (by omega)]
    rw [ew]
    have hl : left { w with results := w.results ++ [x.job], hands := w.hands.set i ⟨0, 0⟩, ops := w.ops + 1 } = left w - 1 := by simp only [left, base, sl, hdL, c, List.length_append, List.length_singleton]; simp; omega
    have hp : (places { w with results := w.results ++ [x.job], hands := w.hands.set i ⟨0, 0⟩, ops := w.ops + 1 }).Perm (places w) := by
      rw [List.perm_iff_count]; intro a
      have q3 := (r1 ⟨0, 0⟩).count_eq a
      have q4 := r2.count_eq a
      simp only [jobL, c] at q3 q4
      simp only [places, sent, List.count_append] at q3 q4 ⊢
      simp [List.count_cons] at q3 q4 ⊢
      omega
    refine ⟨{ f with lh := lhs _, le := by show ((w.results ++ [x.job]).length : Int) ≤ w.workers; rw [List.length_append, List.length_singleton]; omega, hand := hands_ok f i ⟨⟨by decide, by decide⟩, .inr (.inr rfl)⟩, ops0 := by show 0 ≤ w.ops + 1; omega, ops1 := ho2 },
      { j with all := fun y hy => j.all y (hp.mem_iff.1 hy), nd := hp.nodup_iff.2 j.nd, len := fun a => by rw [hp.length_eq]; exact j.len a },
      { e with an := fun a b => e.an a (any_set (w := w) rfl (by show (0 : Int) ≠ 3; decide) b), al := fun a => absurd a (ncl hne), dn := fun a b => absurd (e.dn a b).1 (ncl hne) }, by rw [hl]; omega, by rw [hl]; show w.ops + 1 + (left w - 1) ≤ _; omega, rfl, rfl⟩
end Go.V
set_option linter.unusedVariables false
set_option linter.unusedSimpArgs false
namespace Go.V
open Go.Proofs
theorem mod_eq {a b n : Int} (hn : 0 < n) (h : a % n = b % n) (h1 : -n < a - b) (h2 : a - b < n) : a = b := by
  have e1 := Int.emod_add_mul_ediv a n
  have e2 := Int.emod_add_mul_ediv b n
  have e3 : a - b = n * (a / n - b / n) := by rw [Int.mul_sub]; omega
  generalize a / n - b / n = k at e3
  rcases (by omega : k ≤ -1 ∨ k = 0 ∨ 1 ≤ k) with g | g | g
  · have : n * k ≤ n * (-1) := Int.mul_le_mul_of_nonneg_left g (by omega)
    omega
  · subst g; omega
  · have : n * 1 ≤ n * k := Int.mul_le_mul_of_nonneg_left g (by omega)
    omega
/-- Where a job that is under way may lie in the ring there lies no other. -/
theorem slot_free {w : CW} (h : WOk w) {x : Int} (hx : x ∈ w.results) : 0 ≤ x ∧ w.ring[(x % w.window).toNat]? = some (-1) := by
  have f := h.form
  have j := h.jobs
  have hn := f.st.n
  have hr := f.room
  have hd := f.due
  have hroom := j.room
  have hb : 0 ≤ (if w.keeper = 3 then (1 : Int) else 0) := by split <;> omega
  have hxp : x ∈ places w := by simp [places, hx]
  have hxa := j.all x hxp
  have h0 := Int.emod_nonneg x (show w.window ≠ 0 by omega)
  have h1 := Int.emod_lt_of_pos x (show 0 < w.window by omega)
  have hlr := f.lr
  obtain ⟨y, hy⟩ : ∃ y, w.ring[(x % w.window).toNat]? = some y := ⟨_, List.getElem?_eq_getElem (by omega)⟩
  obtain ⟨g1, g2⟩ := j.ring _ y hy
  refine ⟨by omega, ?_⟩
  rw [hy]
  by_cases c : 0 ≤ y
  · exfalso
    have hyr : y ∈ rJobs w.ring := List.mem_filter.2 ⟨List.mem_of_getElem? hy, decide_eq_true c⟩
    have hya := j.all y (by simp [places, hyr])
    have hm : y % w.window = x % w.window := by rw [g2 c]; omega
    have hxy := mod_eq (show 0 < w.window by omega) hm (by omega) (by omega)
    subst hxy
    have hc := List.nodup_iff_count.1 j.nd y
    have c1 := List.count_pos_iff.2 hx
    have c2 := List.count_pos_iff.2 hyr
    simp only [places, List.count_append] at hc
    omega
  · rw [show y = -1 by omega]
theorem doK_good {w : CW} {m : Mv} (h : Can w m) (h0 : m.who = w.workers + 2) : Good w (doK w m.way) := by
  have ok := h.ok
  have f := ok.form
  have j := ok.jobs
  have e := ok.ends
  have g := h.open'
  have hw := h.way
  have ho := f.ops0
  have ho2 := ops_ok ok
  have hk := f.st.k
  have hkp := f.kp
  have hroom := j.room
  have hn := f.st.n
  have hd := f.due
  have hnx := f.next
  have hrm := f.room
  have hlr := f.lr
  have hle := f.le
  have z3 := sh_01 f (i := 3) (by omega)
  have noEn : w.keeper ≠ 5 → sh w 3 = 0 → ¬ w.user = 1 := fun a b c => a (e.en b c).1
  rw [ways, if_neg (by omega), if_neg (by omega), if_neg (by omega), if_pos h0] at g
  have k5 : w.keeper ≠ 5 := fun c => by rw [waysK, if_neg (by omega), if_neg (by omega), if_pos c] at g; simp at g
  have sh2 : ¬ sh w 2 = 1 := fun c => k5 (e.kp.1 c)
  by_cases cw : m.way > 0
  · obtain ⟨oo, hoo⟩ : ∃ oo, (if m.way = 2 then w.ops + 1 else w.ops) = oo := ⟨_, rfl⟩
    have ew : doK w m.way = { w with keeper := 4, ops := oo } := by rw [doK, if_pos cw, hoo]
    rw [ew]
    have ho3 : 0 ≤ oo ∧ oo ≤ 10000 ∧ oo ≤ w.ops + 1 := by rw [← hoo]; split <;> omega
    have key : (w.keeper = 0 ∨ w.keeper = 2) ∧ (sh w 3 = 1 ∨ (w.results.length = 0 ∧ sh w 1 = 1)) := by
      unfold waysK at g
      by_cases c0 : w.keeper = 0
      · rw [if_pos c0] at g
        rcases way3 g with ⟨a, _⟩ | ⟨_, b⟩ | ⟨_, b⟩
        · omega
        · exact ⟨.inl c0, .inl (by simpa using b)⟩
        · rw [Bool.and_eq_true, beq_iff_eq, beq_iff_eq] at b
          exact ⟨.inl c0, .inr ⟨by omega, b.2⟩⟩
      · rw [if_neg c0] at g
        by_cases c2 : w.keeper = 2
        · rw [if_pos c2] at g
          rcases way2 g with ⟨a, _⟩ | ⟨_, b⟩
          · omega
          · exact ⟨.inr c2, .inl (by simpa using b)⟩
        · rw [if_neg c2, if_neg k5] at g
          have := (way1 g).1; omega
    obtain ⟨kk, key⟩ := key
    have hl : left { w with keeper := 4, ops := oo } = left w - 1 := by
      simp only [left, base]
      rcases kk with c | c <;> simp only [kpL, c] <;> simp <;> omega
    have hk3 : ¬ w.keeper = 3 := by omega
    refine ⟨{ f with kp := ⟨show (0 : Int) ≤ 4 by decide, show (4 : Int) ≤ 5 by decide⟩, ops0 := ho3.1, ops1 := ho3.2.1 },
      { j with room := by rw [if_neg hk3] at hroom; show w.room + w.next - w.due + (if (4 : Int) = 3 then 1 else 0) = w.window; rw [if_neg (by decide)]; exact hroom },
      { e with kp := ⟨fun a => absurd a sh2, fun a => absurd (show (4 : Int) = 5 from a) (by decide)⟩, dn := fun a _ => ?_, en := fun a b => absurd b (noEn k5 a), tk := fun a => absurd (show (4 : Int) = 0 from a) (by decide), gv := fun a => absurd (show (4 : Int) = 2 from a) (by decide) }, by rw [hl]; omega, by rw [hl]; show oo + (left w - 1) ≤ _; omega, rfl, rfl⟩
    have a' : sh w 3 = 0 := a
    rcases key with k | k
    · omega
    · exact ⟨e.cl.1 k.2, k.1⟩
  have hz : m.way.toNat = 0 := by omega
  rw [hz] at g
  unfold waysK at g
  by_cases c0 : w.keeper = 0
  · rw [if_pos c0] at g
    have hr0 : 0 < w.results.length := by simpa using g
    obtain ⟨x, xs, hxs⟩ : ∃ q qs, w.results = q :: qs := by
      cases hh : w.results with
      | nil => rw [hh] at hr0; cases hr0
      | cons a b => exact ⟨a, b, rfl⟩
    obtain ⟨hx0, hfree⟩ := slot_free ok (x := x) (by rw [hxs]; simp)
    obtain ⟨sl, hsl⟩ : ∃ sl, (x % w.window).toNat = sl := ⟨_, rfl⟩
    rw [hsl] at hfree
    have ew : doK w m.way = { w with results := xs, ring := w.ring.set sl x, keeper := 1, ops := w.ops + 1 } := by
      rw [doK, if_neg cw, if_pos c0, rslot, hxs]
      show { w with results := xs, ring := w.ring.set (x % w.window).toNat x, keeper := 1, ops := w.ops + 1 } = _
      rw [hsl]
    rw [ew]
    obtain ⟨rest, r1, r2⟩ := rJobs_split hfree
    have hrl : (rJobs (w.ring.set sl x)).length = (rJobs w.ring).length + 1 := by
      rw [(r1 x).length_eq, r2.length_eq, ringL, if_pos hx0, ringL, if_neg (by decide)]; simp
    have hl : left { w with results := xs, ring := w.ring.set sl x, keeper := 1, ops := w.ops + 1 } = left w - 1 := by
      simp only [left, base, kpL, c0, hxs, hrl]; simp; omega
    have hp : (places { w with results := xs, ring := w.ring.set sl x, keeper := 1, ops := w.ops + 1 }).Perm (places w) := by
      rw [List.perm_iff_count]; intro a
      have q3 := (r1 x).count_eq a
      have q4 := r2.count_eq a
      rw [ringL, if_pos hx0] at q3
      rw [ringL, if_neg (by decide)] at q4
      simp only [places, sent, hxs, List.count_append] at q3 q4 ⊢
      simp [List.count_cons] at q3 q4 ⊢
      omega
    have hk3 : ¬ w.keeper = 3 := by omega
    refine ⟨{ f with lr := by show ((w.ring.set sl x).length : Int) = w.window; rw [List.length_set]; exact hlr, le := by show (xs.length : Int) ≤ w.workers; rw [hxs, List.length_cons] at hle; omega, kp := ⟨show (0 : Int) ≤ 1 by decide, show (1 : Int) ≤ 5 by decide⟩, ops0 := by show 0 ≤ w.ops + 1; omega, ops1 := ho2 },
      { j with all := fun y hy => j.all y (hp.mem_iff.1 hy), nd := hp.nodup_iff.2 j.nd, len := fun a => by rw [hp.length_eq]; exact j.len a, ring := fun i y hy => ?_, room := by rw [if_neg hk3] at hroom; show w.room + w.next - w.due + (if (1 : Int) = 3 then 1 else 0) = w.window; rw [if_neg (by decide)]; exact hroom },
      { e with kp := ⟨fun a => absurd a sh2, fun a => absurd (show (1 : Int) = 5 from a) (by decide)⟩, dn := fun a b => absurd b (by show ¬ ((1 : Int) = 4 ∨ (1 : Int) = 5); decide), en := fun a b => absurd b (noEn k5 a), tk := fun a => absurd (show (1 : Int) = 0 from a) (by decide), gv := fun a => absurd (show (1 : Int) = 2 from a) (by decide) }, by rw [hl]; omega, by rw [hl]; show w.ops + 1 + (left w - 1) ≤ _; omega, rfl, rfl⟩
    have hy : (w.ring.set sl x)[i]? = some y := hy
    rw [List.getElem?_set] at hy
    by_cases q : sl = i
    · rw [if_pos q] at hy
      split at hy
      · cases hy
        have := Int.emod_nonneg x (show w.window ≠ 0 by omega)
        exact ⟨by omega, fun _ => by rw [← q]; show x % w.window = (sl : Int); omega⟩
      · cases hy
    · rw [if_neg q] at hy; exact j.ring i y hy
  rw [if_neg c0] at g
  by_cases c1 : w.keeper = 1
  · have ew : doK w m.way = { w with keeper := if Due w then 2 else 0 } := by rw [doK, if_neg cw, if_neg c0, if_pos c1]
    rw [ew]
    have hk3 : ¬ w.keeper = 3 := by omega
    have hdd : ∀ x, Due { w with keeper := x } ↔ Due w := fun x => Iff.rfl
    obtain ⟨x, hx, hx2⟩ : ∃ x : Int, (if Due w then (2 : Int) else 0) = x ∧ ((x = 2 ∧ Due w) ∨ (x = 0 ∧ ¬ Due w)) := by
      by_cases c : Due w
      · exact ⟨2, by rw [if_pos c], .inl ⟨rfl, c⟩⟩
      · exact ⟨0, by rw [if_neg c], .inr ⟨rfl, c⟩⟩
    rw [hx]
    have hl : left { w with keeper := x } = left w - 1 := by
      simp only [left, base]
      rcases hx2 with ⟨c, _⟩ | ⟨c, _⟩ <;> simp only [kpL, c, c1] <;> simp <;> omega
    refine ⟨{ f with kp := by show 0 ≤ x ∧ x ≤ 5; omega }, { j with room := by rw [if_neg hk3] at hroom; show w.room + w.next - w.due + (if x = 3 then 1 else 0) = w.window; rw [if_neg (by omega)]; exact hroom },
      { e with kp := ⟨fun a => absurd a sh2, fun a => by have : x = 5 := a; omega⟩, dn := fun a b => by have : x = 4 ∨ x = 5 := b; omega, en := fun a b => absurd b (noEn k5 a), tk := fun a => ?_, gv := fun a => ?_ }, by rw [hl]; omega, by rw [hl]; show w.ops + (left w - 1) ≤ _; omega, rfl, rfl⟩
    · have a : x = 0 := a
      rcases hx2 with ⟨c, _⟩ | ⟨_, d⟩
      · omega
      · exact d
    · have a : x = 2 := a
      rcases hx2 with ⟨_, d⟩ | ⟨c, _⟩
      · exact d
      · omega
  by_cases c2 : w.keeper = 2
  · rw [if_pos c2] at g
    have hout : w.out.length = 0 := by simpa using g
    have hout2 : w.out = [] := List.eq_nil_of_length_eq_zero hout
    have hdue : w.ring[slot w]? = some w.due := e.gv c2
    obtain ⟨rest, r1, r2⟩ := rJobs_split hdue
    have ew : doK w m.way = { w with ring := w.ring.set (slot w) (-1), out := w.out ++ [w.due], due := w.due + 1, keeper := 3, ops := w.ops + 1 } := by rw [doK, if_neg cw, if_neg c0, if_neg c1, if_pos c2]
    rw [ew]
    have hrl : (rJobs w.ring).length = (rJobs (w.ring.set (slot w) (-1))).length + 1 := by
      rw [(r1 (-1)).length_eq, r2.length_eq, ringL, if_pos hd.1, ringL, if_neg (by decide)]; simp
    have hl : left { w with ring := w.ring.set (slot w) (-1), out := w.out ++ [w.due], due := w.due + 1, keeper := 3, ops := w.ops + 1 } = left w - 1 := by
      simp only [left, base, kpL, c2, hrl, List.length_append, List.length_singleton]; simp; omega
    have hp : (places w).Perm (w.due :: places { w with ring := w.ring.set (slot w) (-1), out := w.out ++ [w.due], due := w.due + 1, keeper := 3, ops := w.ops + 1 }) := by
      rw [List.perm_iff_count]; intro a
      have q3 := (r1 (-1)).count_eq a
      have q4 := r2.count_eq a
      rw [ringL, if_neg (by decide)] at q3
      rw [ringL, if_pos hd.1] at q4
      simp only [places, sent, List.count_append] at q3 q4 ⊢
      simp [List.count_cons] at q3 q4 ⊢
      omega
    have nd := List.nodup_cons.1 (hp.nodup_iff.1 j.nd)
    have hdm := j.all w.due (hp.mem_iff.2 (List.mem_cons_self ..))
    have hk3 : ¬ w.keeper = 3 := by omega
    have hjd := j.due
    refine ⟨{ f with lr := by show ((w.ring.set (slot w) (-1)).length : Int) = w.window; rw [List.length_set]; exact hlr, lo := by show ((w.out ++ [w.due]).length : Int) ≤ 1; rw [List.length_append, List.length_singleton]; omega, due := by show 0 ≤ w.due + 1 ∧ w.due + 1 ≤ w.next; omega, kp := ⟨show (0 : Int) ≤ 3 by decide, show (3 : Int) ≤ 5 by decide⟩, ops0 := by show 0 ≤ w.ops + 1; omega, ops1 := ho2 },
      { j with all := fun y hy => ?_, nd := nd.2, len := fun a => ?_, ring := fun i y hy => ?_, due := ?_, out := fun y hy => ?_, room := ?_ },
      { e with kp := ⟨fun a => absurd a sh2, fun a => absurd (show (3 : Int) = 5 from a) (by decide)⟩, dn := fun a b => absurd b (by show ¬ ((3 : Int) = 4 ∨ (3 : Int) = 5); decide), en := fun a b => absurd b (noEn k5 a), tk := fun a => absurd (show (3 : Int) = 0 from a) (by decide), gv := fun a => absurd (show (3 : Int) = 2 from a) (by decide) }, by rw [hl]; omega, by rw [hl]; show w.ops + 1 + (left w - 1) ≤ _; omega, rfl, rfl⟩
    · have g1 := j.all y (hp.mem_iff.2 (List.mem_cons_of_mem _ hy))
      have g2 : y ≠ w.due := fun q => nd.1 (q ▸ hy)
      show w.due + 1 ≤ y ∧ y ≤ w.next - 1
      omega
    · have g1 := j.len a
      rw [hp.length_eq, List.length_cons] at g1
      show _ = w.next - (w.due + 1)
      omega
    · have hy : (w.ring.set (slot w) (-1))[i]? = some y := hy
      rw [List.getElem?_set] at hy
      by_cases q : slot w = i
      · rw [if_pos q] at hy
        split at hy
        · cases hy; exact ⟨by decide, fun q => absurd q (by decide)⟩
        · cases hy
      · rw [if_neg q] at hy; exact j.ring i y hy
    · show w.due + 1 = (w.got.length : Int) + ((w.out ++ [w.due]).length : Int)
      rw [List.length_append, List.length_singleton]; omega
    · have hy : (w.out ++ [w.due])[0]? = some y := hy
      rw [hout2] at hy
      simp at hy
      show y = (w.got.length : Int)
      omega
    · rw [if_neg hk3] at hroom
      show w.room + w.next - (w.due + 1) + (if (3 : Int) = 3 then 1 else 0) = w.window
      rw [if_pos rfl]; omega
  by_cases c3 : w.keeper = 3
  · have ew : doK w m.way = { w with room := w.room + 1, keeper := 1, ops := w.ops + 1 } := by rw [doK, if_neg cw, if_neg c0, if_neg c1, if_neg c2, if_pos c3]
    rw [ew]
    rw [if_pos c3] at hroom
    have hl : left { w with room := w.room + 1, keeper := 1, ops := w.ops + 1 } = left w - 1 := by simp only [left, base, kpL, c3]; simp; omega
    refine ⟨{ f with room := by show 0 ≤ w.room + 1 ∧ w.room + 1 ≤ w.window; omega, kp := ⟨show (0 : Int) ≤ 1 by decide, show (1 : Int) ≤ 5 by decide⟩, ops0 := by show 0 ≤ w.ops + 1; omega, ops1 := ho2 },
      { j with room := by show w.room + 1 + w.next - w.due + (if (1 : Int) = 3 then 1 else 0) = w.window; rw [if_neg (by decide)]; omega },
      { e with kp := ⟨fun a => absurd a sh2, fun a => absurd (show (1 : Int) = 5 from a) (by decide)⟩, dn := fun a b => absurd b (by show ¬ ((1 : Int) = 4 ∨ (1 : Int) = 5); decide), en := fun a b => absurd b (noEn k5 a), tk := fun a => absurd (show (1 : Int) = 0 from a) (by decide), gv := fun a => absurd (show (1 : Int) = 2 from a) (by decide) }, by rw [hl]; omega, by rw [hl]; show w.ops + 1 + (left w - 1) ≤ _; omega, rfl, rfl⟩
  have c4 : w.keeper = 4 := by omega
  have ew : doK w m.way = { w with keeper := 5, shut := w.shut.set 2 1, ops := w.ops + 1 } := by rw [doK, if_neg cw, if_neg c0, if_neg c1, if_neg c2, if_neg c3]
  rw [ew]
  have s := fun (i : Nat) (hi : i < 4) => sh_put (w' := { w with keeper := 5, shut := w.shut.set 2 1, ops := w.ops + 1 }) f (k := 2) (by omega) rfl hi
  have s3 := s 3 (by omega)
  rw [if_neg (by decide)] at s3
  rw [if_neg c3] at hroom
  have hl : left { w with keeper := 5, shut := w.shut.set 2 1, ops := w.ops + 1 } = left w - 1 := by simp only [left, base, kpL, c4]; simp; omega
  refine ⟨{ f with ls := by show ((w.shut.set 2 1).length : Int) = 4; rw [List.length_set]; exact f.ls, shut := shut_put f 2, kp := ⟨show (0 : Int) ≤ 5 by decide, show (5 : Int) ≤ 5 by decide⟩, ops0 := by show 0 ≤ w.ops + 1; omega, ops1 := ho2 },
    { j with len := fun a => j.len (by rw [← s3]; exact a), room := by show w.room + w.next - w.due + (if (5 : Int) = 3 then 1 else 0) = w.window; rw [if_neg (by decide)]; exact hroom },
    { e with rd := by rw [s 0 (by omega)]; exact e.rd, cl := by rw [s 1 (by omega)]; exact e.cl, kp := ⟨fun _ => rfl, fun _ => by rw [s 2 (by omega)]; rfl⟩, us := fun a => e.us (by rw [← s3]; exact a), rc := fun a => e.rc (by rw [← s3]; exact a), an := fun a => e.an (by rw [← s3]; exact a), dn := fun a b => e.dn (by rw [← s3]; exact a) (.inl c4), en := fun a b => absurd b (noEn k5 (by rw [← s3]; exact a)), tk := fun a => absurd (show (5 : Int) = 0 from a) (by decide), gv := fun a => absurd (show (5 : Int) = 2 from a) (by decide) }, by rw [hl]; omega, by rw [hl]; show w.ops + 1 + (left w - 1) ≤ _; omega, rfl, rfl⟩
/-- Each move that is ready leaves the world ok, and less is left. -/
theorem step_good {w : CW} {m : Mv} (h : Can w m) : Good w (stepW w m) := by
  have hw := h.who
  have hk := h.ok.form.st.k
  by_cases c0 : m.who = 0
  · rw [stepW, if_pos c0]; exact doR_good h c0
  by_cases c1 : m.who ≤ w.workers
  · rw [stepW, if_neg c0, if_pos c1]; exact doH_good h c0 c1
  by_cases c2 : m.who = w.workers + 1
  · rw [stepW, if_neg c0, if_neg c1, if_pos c2]; exact doC_good h c2
  by_cases c3 : m.who = w.workers + 2
  · rw [stepW, if_neg c0, if_neg c1, if_neg c2, if_pos c3]; exact doK_good h c3
  · rw [stepW, if_neg c0, if_neg c1, if_neg c2, if_neg c3]; exact doU_good h (by omega)
end Go.V
set_option linter.unusedVariables false
set_option linter.unusedSimpArgs false
namespace Go.V
open Go.Proofs
theorem cancel_good {w : CW} (ok : WOk w) (hu : w.user ≠ 1) : Good w (cancelW w) := by
  have f := ok.form
  have j := ok.jobs
  have e := ok.ends
  have ho := f.ops0
  have ho2 := ops_ok ok
  have hus := f.us
  have u0 : w.user = 0 := by omega
  have s := fun (i : Nat) (hi : i < 4) => sh_put (w' := cancelW w) f (k := 3) (by omega) rfl hi
  have s3 : sh (cancelW w) 3 = 1 := s 3 (by omega)
  have no : ¬ sh (cancelW w) 3 = 0 := by omega
  have hl : left (cancelW w) = left w - 1 := by simp only [left, base, cancelW, shutW, u0]; omega
  exact ⟨{ f with ls := by show ((w.shut.set 3 1).length : Int) = 4; rw [List.length_set]; exact f.ls, shut := shut_put f 3, us := ⟨show (0 : Int) ≤ 1 by decide, show (1 : Int) ≤ 1 by decide⟩, ops0 := by show 0 ≤ w.ops + 1; omega, ops1 := ho2 },
    { j with len := fun a => absurd a no },
    { e with rd := by rw [s 0 (by omega)]; exact e.rd, cl := by rw [s 1 (by omega)]; exact e.cl, kp := by rw [s 2 (by omega)]; exact e.kp, us := fun _ => rfl, rc := fun a => absurd a no, an := fun a => absurd a no, dn := fun a => absurd a no, en := fun a => absurd a no }, by rw [hl]; omega, by rw [hl]; show w.ops + 1 + (left w - 1) ≤ _; omega, rfl, rfl⟩
/-- All have ended. -/
structure Over (w : CW) : Prop where
  rd : w.reader = 3
  al : All w
  cl : w.closer = 1
  kp : w.keeper = 5
  us : w.user = 1
theorem can_mem {w : CW} {m : Mv} (h : Can w m) : m ∈ moves w := by
  have hk := h.ok.form.st.k
  have h1 := h.who
  have h2 := h.way
  simp only [moves, amoves, List.mem_flatMap, List.mem_range]
  refine ⟨m.who.toNat, by omega, ?_⟩
  have e : ((m.who.toNat : Nat) : Int) = m.who := by omega
  rw [e]
  simp only [wmoves, List.mem_map, List.mem_filter, List.mem_range]
  refine ⟨m.way.toNat, ⟨can_way h, ?_⟩, ?_⟩
  · rw [List.getD_eq_getElem?_getD, h.open']; rfl
  · obtain ⟨a, b⟩ := m
    show (⟨a, ((b.toNat : Nat) : Int)⟩ : Mv) = ⟨a, b⟩
    rw [show ((b.toNat : Nat) : Int) = b from by have : 0 ≤ b := h2; omega]
/-- So many numbers between two, none of them twice, are no more than there are. -/
theorem few_in (a : Int) : ∀ (n : Nat) (L : List Int), L.Nodup → (∀ x ∈ L, a ≤ x ∧ x < a + n) → L.length ≤ n
  | 0, L, _, h => by
    cases L with
    | nil => exact Nat.le_refl _
    | cons x l => have := h x (List.mem_cons_self ..); omega
  | n + 1, L, nd, h => by
    by_cases g : a + n ∈ L
    · have h1 := few_in a n (L.erase (a + n)) (nd.erase _) fun x hx => by
        obtain ⟨g1, g2⟩ := (nd.mem_erase_iff).1 hx
        have := h x g2; omega
      rw [List.length_erase_of_mem g] at h1
      omega
    · have := few_in a n L nd fun x hx => by
        have h1 := h x hx
        have h2 : x ≠ a + n := fun e => g (e ▸ hx)
        omega
      omega
/-- As long as not all have ended, somebody can go on. -/
theorem stuck {w : CW} (ok : WOk w) (hno : ∀ m, ¬ Can w m) : Over w := by
  have f := ok.form
  have j := ok.jobs
  have e := ok.ends
  have hk := f.st.k
  have hlh := f.lh
  have hlq := f.lq
  have hle := f.le
  have hrd := f.rd
  have hcl := f.cl
  have hkp := f.kp
  have hus := f.us
  have z3 := sh_01 f (i := 3) (by omega)
  have no : ∀ (who : Int) (n : Nat), 0 ≤ who → who ≤ w.workers + 3 → ¬ (ways w who)[n]? = some true := fun who n h1 h2 h3 => hno ⟨who, n⟩ ⟨ok, ⟨h1, h2⟩, by show (0 : Int) ≤ n; omega, by rw [Int.toNat_natCast]; exact h3⟩
  have noR : ∀ n, ¬ (waysR w)[n]? = some true := fun n g => no 0 n (by omega) (by omega) (by rw [ways, if_pos rfl]; exact g)
  have noH : ∀ h ∈ w.hands, ∀ n, ¬ (waysH w h)[n]? = some true := fun h hh n g => by
    obtain ⟨i, hi⟩ := List.mem_iff_getElem?.1 hh
    have hl := (List.getElem?_eq_some_iff.1 hi).1
    have e1 : hdAt w i = h := by have := hdAt_at hl; rw [hi] at this; exact (Option.some.inj this).symm
    refine no (i + 1) n (by omega) (by omega) ?_
    rw [ways, if_neg (by omega), if_pos (by omega), show ((i : Int) + 1 - 1).toNat = i by omega, e1]; exact g
  have noC : ¬ ((w.closer == 0) && allB w) = true := fun g => no (w.workers + 1) 0 (by omega) (by omega) (by rw [ways, if_neg (by omega), if_neg (by omega), if_pos rfl]; simp only [List.getElem?_cons_zero, g])
  have noK : ∀ n, ¬ (waysK w)[n]? = some true := fun n g => no (w.workers + 2) n (by omega) (by omega) (by rw [ways, if_neg (by omega), if_neg (by omega), if_neg (by omega), if_pos rfl]; exact g)
  have noU : w.user ≠ 1 → ¬ (0 < w.out.length) ∧ ¬ (w.out.length = 0 ∧ sh w 2 = 1) := fun hu => by
    have g := fun n => no (w.workers + 3) n (by omega) (by omega)
    rw [ways, if_neg (by omega), if_neg (by omega), if_neg (by omega), if_neg (by omega), if_neg hu] at g
    refine ⟨fun a => g 0 ?_, fun a => g 1 ?_⟩
    · simp only [List.getElem?_cons_zero]; rw [decide_eq_true (by omega)]
    · simp only [List.getElem?_cons_succ, List.getElem?_cons_zero]
      rw [show ((w.out.length : Int) == 0) = true from eqb (by omega), eqb a.2]; rfl
  have hall : All w → w.closer = 1 := fun a => by
    by_cases c : w.closer = 0
    · exfalso; apply noC; rw [eqb c, show allB w = true from (all_iff w.hands).2 a]; rfl
    · omega
  have k3 : w.keeper = 0 ∨ w.keeper = 2 ∨ w.keeper = 5 := by
    have g := noK 0
    unfold waysK at g
    by_cases c0 : w.keeper = 0
    · exact .inl c0
    by_cases c2 : w.keeper = 2
    · exact .inr (.inl c2)
    by_cases c5 : w.keeper = 5
    · exact .inr (.inr c5)
    rw [if_neg c0, if_neg c2, if_neg c5] at g
    simp at g
  have r2 : w.reader ≠ 2 := fun c => by
    have g := noR 0
    rw [waysR, if_neg (by omega), if_neg (by omega), if_pos c] at g
    simp at g
  have h1 : ∀ h ∈ w.hands, h.state ≠ 1 := fun h hh c => by
    have g := noH h hh 0
    rw [waysH, if_neg (by omega), if_pos c] at g
    simp at g
  rcases z3 with st | st
  · -- nobody has stopped
    have nst : ((sh w 3) == 1) = false := neqb (by omega)
    rcases k3 with c | c | c
    · -- the keeper waits
      exfalso
      have g0 := noK 0
      have g2 := noK 2
      rw [waysK, if_pos c] at g0 g2
      simp only [List.getElem?_cons_zero, List.getElem?_cons_succ, Option.some.injEq] at g0 g2
      have hr0 : w.results.length = 0 := by
        rcases Nat.eq_zero_or_pos w.results.length with h | h
        · exact h
        · exact absurd (decide_eq_true (show (w.results.length : Int) > 0 by omega)) g0
      have hs1 : ¬ sh w 1 = 1 := fun a => g2 (by rw [show ((w.results.length : Int) == 0) = true from eqb (by omega), eqb a]; rfl)
      have hc0 : w.closer ≠ 1 := fun a => hs1 (e.cl.2 a)
      have hna : ¬ All w := fun a => hc0 (hall a)
      obtain ⟨x, hx, hx3⟩ : ∃ x ∈ w.hands, x.state ≠ 3 := Classical.byContradiction fun q => hna fun x hx => Classical.byContradiction fun q2 => q ⟨x, hx, q2⟩
      have all0 : ∀ h ∈ w.hands, h.state = 0 ∨ h.state = 3 := fun h hh => by
        have a1 := h1 h hh
        have a2 := (f.hand h hh).state
        by_cases c2 : h.state = 2
        · exfalso
          have g := noH h hh 0
          rw [waysH, if_neg (by omega), if_neg (by omega), if_pos c2] at g
          simp only [List.getElem?_cons_zero, Option.some.injEq] at g
          exact g (decide_eq_true (by omega))
        · omega
      have hx0 : x.state = 0 := by rcases all0 x hx with h | h; exact h; exact absurd h hx3
      have gq0 := noH x hx 0
      have gq2 := noH x hx 2
      rw [waysH, if_pos hx0] at gq0 gq2
      simp only [List.getElem?_cons_zero, List.getElem?_cons_succ, Option.some.injEq] at gq0 gq2
      have hq0 : w.queue.length = 0 := by
        rcases Nat.eq_zero_or_pos w.queue.length with h | h
        · exact h
        · exact absurd (decide_eq_true (show (w.queue.length : Int) > 0 by omega)) gq0
      have hs0 : ¬ sh w 0 = 1 := fun a => gq2 (by rw [show ((w.queue.length : Int) == 0) = true from eqb (by omega), eqb a]; rfl)
      have hr3 : w.reader ≠ 3 := fun a => hs0 (e.rd.2 a)
      have noAny : ¬ Any w := fun a => hr3 (e.an st a).1
      have hr1 : w.reader ≠ 1 := fun c1 => by
        have g := noR 0
        rw [waysR, if_neg (by omega), if_pos c1] at g
        simp only [List.getElem?_cons_zero, Option.some.injEq] at g
        exact g (decide_eq_true (by omega))
      have hr : w.reader = 0 := by omega
      have gr0 := noR 0
      have gr2 := noR 2
      rw [waysR, if_pos hr] at gr0 gr2
      by_cases hnj : w.next = w.jobs
      · rw [if_pos hnj] at gr2; exact gr2 rfl
      rw [if_neg hnj] at gr0
      simp only [List.getElem?_cons_zero, Option.some.injEq] at gr0
      have hroom0 := f.room
      have hroom : w.room = 0 := by
        by_cases q : w.room > 0
        · exact absurd (decide_eq_true q) gr0
        · omega
      have hj := j.room
      rw [hroom, if_neg (by omega)] at hj
      have hhj : hJobs w.hands = [] := by
        rw [hJobs, List.filterMap_eq_nil_iff]
        intro h hh
        rcases all0 h hh with a | a <;> simp [a]
      have hpl : places w = rJobs w.ring := by
        rw [places, sent, if_neg hr1, List.eq_nil_of_length_eq_zero hq0, hhj, List.eq_nil_of_length_eq_zero hr0]; simp
      have hlen := j.len st
      have hnd := j.nd
      have hal := j.all
      rw [hpl] at hlen hnd hal
      have hw := f.st.n
      have hmem : w.due ∈ rJobs w.ring := Classical.byContradiction fun q => by
        have := few_in (w.due + 1) (w.window - 1).toNat _ hnd fun y hy => by
          have h1 := hal y hy
          have h2 : y ≠ w.due := fun e => q (e ▸ hy)
          omega
        omega
      have hring := (List.mem_filter.1 hmem).1
      obtain ⟨i, hi⟩ := List.mem_iff_getElem?.1 hring
      have hd0 := f.due
      have hm := (j.ring i w.due hi).2 hd0.1
      refine e.tk c ?_
      rw [Due, slot, hm, Int.toNat_natCast]; exact hi
    · -- the keeper has one to give, and cannot
      exfalso
      have g0 := noK 0
      rw [waysK, if_neg (by omega), if_pos c] at g0
      simp only [List.getElem?_cons_zero, Option.some.injEq] at g0
      have ho : ¬ w.out.length = 0 := fun a => g0 (eqb (by omega))
      by_cases hu : w.user = 1
      · have := (e.en st hu).1; omega
      · exact (noU hu).1 (by omega)
    · obtain ⟨d1, d2⟩ := e.dn st (.inr c)
      have ha := e.al d1
      have hany : Any w := by
        obtain ⟨x, hx⟩ : ∃ x, w.hands[0]? = some x := ⟨_, List.getElem?_eq_getElem (by omega)⟩
        have hm := List.mem_of_getElem? hx
        exact ⟨x, hm, ha x hm⟩
      refine ⟨(e.an st hany).1, ha, d1, c, ?_⟩
      by_cases hu : w.user = 1
      · exact hu
      · exfalso
        have s2 := e.kp.2 c
        have h2 := noU hu
        rcases Nat.eq_zero_or_pos w.out.length with q | q
        · exact h2.2 ⟨q, s2⟩
        · exact h2.1 q
  · have est : ((sh w 3) == 1) = true := eqb st
    have hk5 : w.keeper = 5 := by
      have g := noK 1
      unfold waysK at g
      rcases k3 with c | c | c
      · rw [if_pos c, est] at g; exact absurd rfl g
      · rw [if_neg (by omega), if_pos c, est] at g; exact absurd rfl g
      · exact c
    have ha : All w := fun h hh => by
      have a1 := h1 h hh
      have a2 := (f.hand h hh).state
      have g := noH h hh 1
      by_cases c0 : h.state = 0
      · rw [waysH, if_pos c0, est] at g; exact absurd rfl g
      by_cases c2 : h.state = 2
      · rw [waysH, if_neg (by omega), if_neg (by omega), if_pos c2, est] at g; exact absurd rfl g
      omega
    have hr : w.reader = 3 := by
      have g1 := noR 1
      have g2 := noR 2
      by_cases c0 : w.reader = 0
      · rw [waysR, if_pos c0, est] at g1 g2
        by_cases hnj : w.next = w.jobs
        · rw [if_pos hnj] at g2; exact absurd rfl g2
        · rw [if_neg hnj] at g1; exact absurd rfl g1
      by_cases c1 : w.reader = 1
      · rw [waysR, if_neg (by omega), if_pos c1, est] at g1; exact absurd rfl g1
      omega
    exact ⟨hr, ha, hall ha, hk5, e.us st⟩
/-- Where all have ended nobody goes on. -/
theorem over_no {w : CW} (o : Over w) (m : Mv) : ¬ Can w m := fun h => by
  have g := h.open'
  have hw := h.who
  have hk := h.ok.form.st.k
  have hlh := h.ok.form.lh
  unfold ways at g
  by_cases c0 : m.who = 0
  · rw [if_pos c0, waysR, if_neg (by rw [o.rd]; decide), if_neg (by rw [o.rd]; decide), if_neg (by rw [o.rd]; decide)] at g
    simp at g
  rw [if_neg c0] at g
  by_cases c1 : m.who ≤ w.workers
  · rw [if_pos c1] at g
    have hs : (hdAt w (m.who - 1).toNat).state = 3 := o.al _ (List.mem_of_getElem? (hdAt_at (by omega)))
    rw [waysH, if_neg (by omega), if_neg (by omega), if_neg (by omega)] at g
    simp at g
  rw [if_neg c1] at g
  by_cases c2 : m.who = w.workers + 1
  · rw [if_pos c2, show (w.closer == 0) = false from neqb (by have := o.cl; omega), Bool.false_and] at g
    have := (way1 g).2; cases this
  rw [if_neg c2] at g
  by_cases c3 : m.who = w.workers + 2
  · rw [if_pos c3, waysK, if_neg (by have := o.kp; omega), if_neg (by have := o.kp; omega), if_pos o.kp] at g
    simp at g
  · rw [if_neg c3, if_pos o.us] at g
    simp at g
theorem moves_nil {w : CW} (ok : WOk w) : moves w = [] ↔ Over w := by
  constructor
  · intro h
    exact stuck ok fun m hm => by have := can_mem hm; rw [h] at this; cases this
  · intro o
    exact List.eq_nil_iff_forall_not_mem.2 fun m hm => over_no o m (moves_can ok hm)
end Go.V
set_option linter.unusedVariables false
set_option linter.unusedSimpArgs false
namespace Go.V
open Go.Proofs
open Nat (reduceAdd reduceEqDiff reduceLT reduceLeDiff)
/- loop.example/teagle/impl.CrewOk -/
def r12_0 : List AOper := [ao 0 1 (.box 26 (.t 0)),
  ao 1 2 (.mv (.k (.b false)))]
def r12_1 : List AOper := [ao 0 3 (.call (.k (.c (.fn 38 []))) [(.t 1)]),
  ao 1 2 (.mv (.t 3))]
def c12 : ACode := .seq (.reg r12_0) (.seq (.reg r12_1) .ret)
def s12 : List ARes := [.tmp 2]
theorem ok12 : okF Tryz.prog 12 4 c12 s12 := ⟨Tryz.f12, Tryz.func12, Tryz.ntmps12, by kernel_rfl, by kernel_rfl, by kernel_rfl⟩
def UGf_1 := Bx.mk <|
  aN (uA c12.eq_1) <| aN (uR r12_0.eq_1) <| aN (uR r12_1.eq_1) <| s12.eq_1
theorem crewOkI_ok {w : CW} (hs : Small w) : YN 12 [tCW w] (WOk w) := by
  obtain ⟨b, hb, C⟩ := isOk_ok w hs.t
  refine PC.intro ok12 rfl (fun _ => rfl) fun X => ?_
  simp only [RZ, reduceAdd, reduceIte, reduceEqDiff, reduceLT, reduceLeDiff, reduceCtorEq, Nat.reduceBEq, UGf_1.d]
  refine callP (m := 1) (w := w) C rfl rfl rfl rfl rfl ⟨rfl, ?_⟩
  simp only [RZ, reduceAdd, reduceIte, reduceEqDiff, reduceLT, reduceLeDiff, reduceCtorEq, Nat.reduceBEq, UGf_1.d]
  refine ES.mk b hb ?_
  simp only [RZ, reduceAdd, reduceIte, reduceEqDiff, reduceLT, reduceLeDiff, reduceCtorEq, Nat.reduceBEq, UGf_1.d]
/- loop.example/teagle/impl.CrewLeft -/
def r13_0 : List AOper := [ao 0 1 (.box 26 (.t 0)),
  ao 1 2 (.mv (.k (.i 0)))]
def r13_1 : List AOper := [ao 0 3 (.call (.k (.c (.fn 38 []))) [(.t 1)]),
  ao 1 4 (.un .not (.t 3))]
def r13_2 : List AOper := [ao 0 2 (.mv (.k (.i 0)))]
def c13_3 : ACode := .seq (.reg r13_2) .ret
def c13_4 : ACode := .cond (.t 4) c13_3 .skip
def c13_5 : ACode := .seq (.reg r13_1) c13_4
def r13_6 : List AOper := [ao 0 5 (.call (.k (.c (.fn 40 []))) [(.t 1)]),
  ao 1 2 (.mv (.t 5))]
def c13 : ACode := .seq (.reg r13_0) (.seq c13_5 (.seq (.reg r13_6) .ret))
def s13 : List ARes := [.tmp 2]
theorem ok13 : okF Tryz.prog 13 6 c13 s13 := ⟨Tryz.f13, Tryz.func13, Tryz.ntmps13, by kernel_rfl, by kernel_rfl, by kernel_rfl⟩
def UGf_2 := Bx.mk <|
  aN (uA c13.eq_1) <| aN (uR r13_0.eq_1) <| aN (uA c13_5.eq_1) <| aN (uR r13_1.eq_1) <| aN (uA c13_4.eq_1) <| aN (uA c13_3.eq_1) <| aN (uR r13_2.eq_1) <| aN (uR r13_6.eq_1) <| s13.eq_1
theorem crewLeftI_ok {w : CW} (hs : Small w) : PC 13 [tCW w] (fun x : Int => (WOk w → x = left w) ∧ (¬ WOk w → x = 0)) T.i := by
  obtain ⟨b, hb, C⟩ := isOk_ok w hs.t
  refine PC.intro ok13 rfl (fun _ => rfl) fun X => ?_
  simp only [RZ, reduceAdd, reduceIte, reduceEqDiff, reduceLT, reduceLeDiff, reduceCtorEq, Nat.reduceBEq, UGf_2.d]
  refine callP (m := 1) (w := w) C rfl rfl rfl rfl rfl ⟨rfl, ?_⟩
  cases b with
  | false =>
    simp only [RZ, reduceAdd, reduceIte, reduceEqDiff, reduceLT, reduceLeDiff, reduceCtorEq, Nat.reduceBEq, UGf_2.d]
    refine ES.mk 0 ⟨fun g => (by cases hb.2 g), fun _ => rfl⟩ ?_
    simp only [RZ, reduceAdd, reduceIte, reduceEqDiff, reduceLT, reduceLeDiff, reduceCtorEq, Nat.reduceBEq, UGf_2.d]
  | true =>
    have ok := hb.1 rfl
    obtain ⟨lf, rfl, Cf⟩ := pleft_ok ok.form
    simp only [RZ, reduceAdd, reduceIte, reduceEqDiff, reduceLT, reduceLeDiff, reduceCtorEq, Nat.reduceBEq, UGf_2.d]
    refine callP (m := 1) (w := w) Cf rfl rfl rfl rfl rfl ⟨rfl, ?_⟩
    simp only [RZ, reduceAdd, reduceIte, reduceEqDiff, reduceLT, reduceLeDiff, reduceCtorEq, Nat.reduceBEq, UGf_2.d]
    refine ES.mk (left w) ⟨fun _ => rfl, fun g => absurd ok g⟩ ?_
    simp only [RZ, reduceAdd, reduceIte, reduceEqDiff, reduceLT, reduceLeDiff, reduceCtorEq, Nat.reduceBEq, UGf_2.d]
/- loop.example/teagle/spec.CrewLeft -/
def r10_0 : List AOper := [ao 0 1 (.box 26 (.t 0)),
  ao 1 2 (.mv (.k (.i 0)))]
def r10_1 : List AOper := [ao 0 3 (.ld 18 true (.t 1)),
  ao 1 4 (.call (.k (.c (.fn 9 []))) [(.t 3)]),
  ao 2 5 (.un .not (.t 4))]
def r10_2 : List AOper := [ao 0 2 (.mv (.k (.i 0)))]
def c10_3 : ACode := .seq (.reg r10_2) .ret
def c10_4 : ACode := .cond (.t 5) c10_3 .skip
def c10_5 : ACode := .seq (.reg r10_1) c10_4
def r10_6 : List AOper := [ao 0 6 (.ld 18 true (.t 1)),
  ao 1 7 (.call (.k (.c (.fn 37 []))) [(.t 6)]),
  ao 2 2 (.mv (.t 7))]
def c10 : ACode := .seq (.reg r10_0) (.seq c10_5 (.seq (.reg r10_6) .ret))
def s10 : List ARes := [.tmp 2]
theorem ok10 : okF Tryz.prog 10 8 c10 s10 := ⟨Tryz.f10, Tryz.func10, Tryz.ntmps10, by kernel_rfl, by kernel_rfl, by kernel_rfl⟩
def UGf_3 := Bx.mk <|
  aN (uA c10.eq_1) <| aN (uR r10_0.eq_1) <| aN (uA c10_5.eq_1) <| aN (uR r10_1.eq_1) <| aN (uA c10_4.eq_1) <| aN (uA c10_3.eq_1) <| aN (uR r10_2.eq_1) <| aN (uR r10_6.eq_1) <| s10.eq_1
theorem crewLeftS_ok (w : CW) : PC 10 [tCW w] (fun x : Int => (WOk w → x = left w) ∧ (¬ WOk w → x = 0)) T.i := by
  obtain ⟨b, hb, C⟩ := crewOk_ok w
  refine PC.intro ok10 rfl (fun _ => rfl) fun X => ?_
  simp only [RZ, reduceAdd, reduceIte, reduceEqDiff, reduceLT, reduceLeDiff, reduceCtorEq, Nat.reduceBEq, UGf_3.d]
  refine callC C rfl rfl rfl rfl ?_
  cases b with
  | false =>
    simp only [RZ, reduceAdd, reduceIte, reduceEqDiff, reduceLT, reduceLeDiff, reduceCtorEq, Nat.reduceBEq, UGf_3.d]
    refine ES.mk 0 ⟨fun g => (by cases hb.2 g), fun _ => rfl⟩ ?_
    simp only [RZ, reduceAdd, reduceIte, reduceEqDiff, reduceLT, reduceLeDiff, reduceCtorEq, Nat.reduceBEq, UGf_3.d]
  | true =>
    have ok := hb.1 rfl
    simp only [RZ, reduceAdd, reduceIte, reduceEqDiff, reduceLT, reduceLeDiff, reduceCtorEq, Nat.reduceBEq, UGf_3.d]
    refine callC (left_ok ok.form) rfl rfl rfl rfl ?_
    simp only [RZ, reduceAdd, reduceIte, reduceEqDiff, reduceLT, reduceLeDiff, reduceCtorEq, Nat.reduceBEq, UGf_3.d]
    refine ES.mk (left w) ⟨fun _ => rfl, fun g => absurd ok g⟩ ?_
    simp only [RZ, reduceAdd, reduceIte, reduceEqDiff, reduceLT, reduceLeDiff, reduceCtorEq, Nat.reduceBEq, UGf_3.d]
/- loop.example/teagle/impl.CrewEnded -/
def r14_0 : List AOper := [ao 0 1 (.box 26 (.t 0)),
  ao 1 2 (.mv (.k (.b false)))]
def r14_1 : List AOper := [ao 0 3 (.call (.k (.c (.fn 38 []))) [(.t 1)]),
  ao 1 4 (.mv (.t 3)),
  ag 2 5 4 true [] (.fa 4 (.t 1)),
  ag 3 6 4 true [] (.ld 1 false (.t 5)),
  ag 4 7 4 true [] (.bin .eql (.t 6) (.k (.i 3))),
  ao 5 8 (.pick (.t 4) (.t 7) (.k (.b false))),
  ao 6 9 (.mv (.t 8)),
  ag 7 10 9 true [] (.call (.k (.c (.fn 41 []))) [(.t 1)]),
  ao 8 11 (.pick (.t 9) (.t 10) (.k (.b false))),
  ao 9 12 (.mv (.t 11)),
  ag 10 13 12 true [] (.fa 7 (.t 1)),
  ag 11 14 12 true [] (.ld 1 false (.t 13)),
  ag 12 15 12 true [] (.bin .eql (.t 14) (.k (.i 1))),
  ao 13 16 (.pick (.t 12) (.t 15) (.k (.b false))),
  ao 14 17 (.mv (.t 16)),
  ag 15 18 17 true [] (.fa 9 (.t 1)),
  ag 16 19 17 true [] (.ld 1 false (.t 18)),
  ag 17 20 17 true [] (.bin .eql (.t 19) (.k (.i 5))),
  ao 18 21 (.pick (.t 17) (.t 20) (.k (.b false))),
  ao 19 22 (.mv (.t 21)),
  ag 20 23 22 true [] (.fa 13 (.t 1)),
  ag 21 24 22 true [] (.ld 1 false (.t 23)),
  ag 22 25 22 true [] (.bin .eql (.t 24) (.k (.i 1))),
  ao 23 26 (.pick (.t 22) (.t 25) (.k (.b false))),
  ao 24 2 (.mv (.t 26))]
def c14 : ACode := .seq (.reg r14_0) (.seq (.reg r14_1) .ret)
def s14 : List ARes := [.tmp 2]
theorem ok14 : okF Tryz.prog 14 27 c14 s14 := ⟨Tryz.f14, Tryz.func14, Tryz.ntmps14, by kernel_rfl, by kernel_rfl, by kernel_rfl⟩
def UGf_4 := Bx.mk <|
  aN (uA c14.eq_1) <| aN (uR r14_0.eq_1) <| aN (uR r14_1.eq_1) <| s14.eq_1
set_option maxHeartbeats 1000000 in
theorem crewEnded_ok {w : CW} (hs : Small w) : YN 14 [tCW w] (WOk w ∧ Over w) := by
  obtain ⟨b, hb, C⟩ := isOk_ok w hs.t
  refine PC.intro ok14 rfl (fun _ => rfl) fun X => ?_
  simp only [RZ, reduceAdd, reduceIte, reduceEqDiff, reduceLT, reduceLeDiff, reduceCtorEq, Nat.reduceBEq, UGf_4.d]
  refine callP (m := 1) (w := w) C rfl rfl rfl rfl rfl ⟨rfl, ?_⟩
  cases b with
  | false =>
    simp only [RZ, reduceAdd, reduceIte, reduceEqDiff, reduceLT, reduceLeDiff, reduceCtorEq, Nat.reduceBEq, UGf_4.d]
    refine ES.mk false (no fun g => by cases hb.2 g.1) ?_
    simp only [RZ, reduceAdd, reduceIte, reduceEqDiff, reduceLT, reduceLeDiff, reduceCtorEq, Nat.reduceBEq, UGf_4.d]
  | true =>
  have ok := hb.1 rfl
  obtain ⟨ba, hba, Ca⟩ := haveEnded_ok ok.form
  by_cases c0 : w.reader = 3
  rotate_left
  · have k0 := neqb c0
    simp only [RZ, reduceAdd, reduceIte, reduceEqDiff, reduceLT, reduceLeDiff, reduceCtorEq, Nat.reduceBEq, UGf_4.d, k0]
    refine ES.mk false (no fun g => c0 g.2.rd) ?_
    simp only [RZ, reduceAdd, reduceIte, reduceEqDiff, reduceLT, reduceLeDiff, reduceCtorEq, Nat.reduceBEq, UGf_4.d, k0]
  have k0 := eqb c0
  simp only [RZ, reduceAdd, reduceIte, reduceEqDiff, reduceLT, reduceLeDiff, reduceCtorEq, Nat.reduceBEq, UGf_4.d, k0]
  refine callP (m := 1) (w := w) Ca rfl rfl rfl rfl rfl ⟨rfl, ?_⟩
  cases ba with
  | false =>
    simp only [RZ, reduceAdd, reduceIte, reduceEqDiff, reduceLT, reduceLeDiff, reduceCtorEq, Nat.reduceBEq, UGf_4.d, k0]
    refine ES.mk false (no fun g => by cases hba.2 g.2.al) ?_
    simp only [RZ, reduceAdd, reduceIte, reduceEqDiff, reduceLT, reduceLeDiff, reduceCtorEq, Nat.reduceBEq, UGf_4.d, k0]
  | true =>
  by_cases c1 : w.closer = 1
  rotate_left
  · have k1 := neqb c1
    simp only [RZ, reduceAdd, reduceIte, reduceEqDiff, reduceLT, reduceLeDiff, reduceCtorEq, Nat.reduceBEq, UGf_4.d, k0, k1]
    refine ES.mk false (no fun g => c1 g.2.cl) ?_
    simp only [RZ, reduceAdd, reduceIte, reduceEqDiff, reduceLT, reduceLeDiff, reduceCtorEq, Nat.reduceBEq, UGf_4.d, k0, k1]
  have k1 := eqb c1
  by_cases c2 : w.keeper = 5
  rotate_left
  · have k2 := neqb c2
    simp only [RZ, reduceAdd, reduceIte, reduceEqDiff, reduceLT, reduceLeDiff, reduceCtorEq, Nat.reduceBEq, UGf_4.d, k0, k1, k2]
    refine ES.mk false (no fun g => c2 g.2.kp) ?_
    simp only [RZ, reduceAdd, reduceIte, reduceEqDiff, reduceLT, reduceLeDiff, reduceCtorEq, Nat.reduceBEq, UGf_4.d, k0, k1, k2]
  have k2 := eqb c2
  by_cases c3 : w.user = 1
  rotate_left
  · have k3 := neqb c3
    simp only [RZ, reduceAdd, reduceIte, reduceEqDiff, reduceLT, reduceLeDiff, reduceCtorEq, Nat.reduceBEq, UGf_4.d, k0, k1, k2, k3]
    refine ES.mk false (no fun g => c3 g.2.us) ?_
    simp only [RZ, reduceAdd, reduceIte, reduceEqDiff, reduceLT, reduceLeDiff, reduceCtorEq, Nat.reduceBEq, UGf_4.d, k0, k1, k2, k3]
  have k3 := eqb c3
  simp only [RZ, reduceAdd, reduceIte, reduceEqDiff, reduceLT, reduceLeDiff, reduceCtorEq, Nat.reduceBEq, UGf_4.d, k0, k1, k2, k3]
  refine ES.mk true (yes ⟨ok, c0, hba.1 rfl, c1, c2, c3⟩) ?_
  simp only [RZ, reduceAdd, reduceIte, reduceEqDiff, reduceLT, reduceLeDiff, reduceCtorEq, Nat.reduceBEq, UGf_4.d, k0, k1, k2, k3]
theorem wm_opn (who : Int) (bs : List Bool) (h : bs.length ≤ 3) : wmoves who bs bs.length = (opn bs).map fun k => ⟨who, k⟩ := by
  match bs, h with
  | [], _ => rfl
  | [a], _ => cases a <;> rfl
  | [a, b], _ => cases a <;> cases b <;> rfl
  | [a, b, c], _ => cases a <;> cases b <;> cases c <;> rfl
/- (*loop.example/teagle/impl.CrewWorld).moves -/
def r39_0 : List AOper := [ao 0 2 (.mv (.k (.c .nil0)))]
def r39_1 : List AOper := [ao 0 7 (.bsl 2 35 []),
  ao 1 3 (.mv (.t 7))]
def r39_2 : List AOper := [ao 0 8 (.mv (.t 0)),
  ao 1 9 (.nck (.t 8)),
  ao 2 10 (.fa 1 (.t 9)),
  ao 3 11 (.ld 1 false (.t 10)),
  ao 4 12 (.bin .add (.t 11) (.k (.i 4))),
  ao 5 13 (.mv (.k (.i 0)))]
def r39_3 : List AOper := [ao 0 14 (.bin .lss (.t 13) (.t 12))]
def c39_4 : ACode := .cond (.t 14) .skip (.exit 0)
def r39_5 : List AOper := [ao 0 15 (.mv (.t 13)),
  ao 1 4 (.mv (.t 15))]
def r39_6 : List AOper := [ao 0 16 (.mv (.t 0)),
  ao 1 17 (.mv (.t 4)),
  ao 2 18 (.call (.k (.c (.fn 44 []))) [(.t 16), (.t 17)]),
  ao 3 19 (.len (.t 18)),
  ao 4 20 (.mv (.k (.i 0)))]
def r39_7 : List AOper := [ao 0 21 (.bin .lss (.t 20) (.t 19))]
def c39_8 : ACode := .cond (.t 21) .skip (.exit 2)
def r39_9 : List AOper := [ao 0 22 (.ia 1 (.t 18) (.t 20)),
  ao 1 23 (.ld 1 false (.t 22)),
  ao 2 6 (.mv (.t 23))]
def r39_10 : List AOper := [ao 0 24 (.mv (.t 3)),
  ao 1 25 (.mv (.t 4)),
  ao 2 26 (.mv (.t 6)),
  ao 3 27 (.build [(.v (.s (.int .i64 0))), (.v (.s (.int .i64 0)))] [(0, 1, (.t 25)), (1, 1, (.t 26))]),
  ao 4 28 (.bsl 2 35 [(.t 27)]),
  ao 5 29 (.app 2 35 16 (.t 24) (.t 28)),
  ao 6 3 (.mv (.t 29))]
def c39_11 : ACode := .seq (.reg r39_9) (.reg r39_10)
def c39_12 : ACode := .block 3 c39_11
def r39_13 : List AOper := [ao 0 30 (.bin .add (.t 20) (.k (.i 1))),
  ao 1 20 (.mv (.t 30))]
def c39_14 : ACode := .seq (.reg r39_7) (.seq c39_8 (.seq c39_12 (.reg r39_13)))
def c39_15 : ACode := .loop c39_14
def c39_16 : ACode := .block 2 c39_15
def c39_17 : ACode := .seq (.reg r39_5) (.seq (.reg r39_6) c39_16)
def c39_18 : ACode := .block 1 c39_17
def r39_19 : List AOper := [ao 0 31 (.bin .add (.t 13) (.k (.i 1))),
  ao 1 13 (.mv (.t 31))]
def c39_20 : ACode := .seq (.reg r39_3) (.seq c39_4 (.seq c39_18 (.reg r39_19)))
def c39_21 : ACode := .loop c39_20
def c39_22 : ACode := .block 0 c39_21
def c39_23 : ACode := .seq (.reg r39_2) c39_22
def r39_24 : List AOper := [ao 0 32 (.mv (.t 3)),
  ao 1 2 (.mv (.t 32))]
def c39 : ACode := .seq (.reg r39_0) (.seq (.reg r39_1) (.seq c39_23 (.seq (.reg r39_24) .ret)))
def s39 : List ARes := [.tmp 2]
theorem ok39 : okF Tryz.prog 39 33 c39 s39 := ⟨Tryz.f39, Tryz.func39, Tryz.ntmps39, by kernel_rfl, by kernel_rfl, by kernel_rfl⟩
def inv39a (w : CW) (i : Nat) (σ : St) : Prop := σ.t 0 = wP 1000 0 ∧ σ.H 1000 = some (cwB 0 w) ∧ (∃ v, σ.t 3 = .c (.own 7 v (amoves w i).length) ∧ σ.H 7 = some (.arr v true 2 35 (en eM (amoves w i)))) ∧ σ.t 12 = .i (w.workers + 4) ∧ σ.t 13 = .i i
def inv39b (w : CW) (i : Nat) (A : List Mv) (ks : List Int) (j : Nat) (σ : St) : Prop := σ.t 0 = wP 1000 0 ∧ σ.H 1000 = some (cwB 0 w) ∧ (∃ v, σ.t 3 = .c (.own 7 v (A ++ (ks.take j).map fun k => (⟨i, k⟩ : Mv)).length) ∧ σ.H 7 = some (.arr v true 2 35 (en eM (A ++ (ks.take j).map fun k => (⟨i, k⟩ : Mv))))) ∧ σ.t 12 = .i (w.workers + 4) ∧ σ.t 13 = .i i ∧ σ.t 4 = .i i ∧ σ.t 18 = tL (en eI ks) ∧ σ.t 19 = .i ks.length ∧ σ.t 20 = .i j
def UGf_5 := Bx.mk <|
  aN (uA c39.eq_1) <| aN (uR r39_0.eq_1) <| aN (uR r39_1.eq_1) <| aN (uA c39_23.eq_1) <| aN (uR r39_2.eq_1) <| aN (uA c39_22.eq_1) <| aN (uA c39_21.eq_1) <| aN (uR r39_24.eq_1) <| s39.eq_1
def UGf_7 := Bx.mk <|
  aN (uA c39_20.eq_1) <| aN (uR r39_3.eq_1) <| aN (uA c39_4.eq_1) <| aN (uA c39_18.eq_1) <| aN (uA c39_17.eq_1) <| aN (uR r39_5.eq_1) <| aN (uR r39_6.eq_1) <| aN (uA c39_16.eq_1) <| aN (uA c39_15.eq_1) <| aN (uR r39_19.eq_1) <| aN (uA c39.eq_1) <| aN (uR r39_0.eq_1) <| aN (uR r39_1.eq_1) <| aN (uA c39_23.eq_1) <| aN (uR r39_2.eq_1) <| aN (uA c39_22.eq_1) <| aN (uA c39_21.eq_1) <| aN (uR r39_24.eq_1) <| s39.eq_1
def UGf_8 := Bx.mk <|
  aN (uA c39_14.eq_1) <| aN (uR r39_7.eq_1) <| aN (uA c39_8.eq_1) <| aN (uA c39_12.eq_1) <| aN (uA c39_11.eq_1) <| aN (uR r39_9.eq_1) <| aN (uR r39_10.eq_1) <| aN (uR r39_13.eq_1) <| aN (uA c39.eq_1) <| aN (uR r39_0.eq_1) <| aN (uR r39_1.eq_1) <| aN (uA c39_23.eq_1) <| aN (uR r39_2.eq_1) <| aN (uA c39_22.eq_1) <| aN (uA c39_21.eq_1) <| aN (uR r39_24.eq_1) <| s39.eq_1
set_option maxHeartbeats 1000000 in
theorem pmoves_ok {w : CW} (f : Form w) : WC 39 [] w (fun ms : List Mv => ms = moves w) (fun ms => tL (en eM ms)) := by
  have hk := f.st.k
  have hw4 : IntKind.i64.wrap (w.workers + 4) = w.workers + 4 := wrap64 ⟨by omega, by omega⟩
  refine WC.intro ok39 rfl (fun _ => rfl) fun X => ?_
  simp only [RZ, reduceAdd, reduceIte, reduceEqDiff, reduceLT, reduceLeDiff, reduceCtorEq, Nat.reduceBEq, rV, UGf_5.d, hw4]
  refine AW.upto (w.workers.toNat + 4) (inv39a w) ⟨rfl, rfl, ⟨_, rfl, rfl⟩, rfl, rfl⟩ fun i t H c hi h' => ?_
  obtain ⟨e0, eW, ⟨v, e3, eH7⟩, e12, e13⟩ := h'
  simp only [T.c, T.i, wP] at e0 eW e3 eH7 e12 e13
  have hla := amoves_len w i
  by_cases k1 : (i : Int) < w.workers + 4
  · have gw := w1_ok (i := i) (by omega)
    obtain ⟨ks, hks, Ck⟩ := cases_ok f i (by omega) (by omega)
    simp only [RZ, reduceAdd, reduceIte, reduceEqDiff, reduceLT, reduceLeDiff, reduceCtorEq, Nat.reduceBEq, rV, UGf_7.d, e0, eW, e3, eH7, e12, e13, k1]
    refine callP (v := 0) (w := w) Ck rfl rfl rfl rfl eW ⟨rfl, ?_⟩
    have hwl := ways_len w (i : Int)
    have hm := wm_opn i (ways w (i : Int)) hwl
    rw [← hks] at hm
    have hkl : ks.length ≤ 3 := by rw [hks]; exact opnN_len _ 3
    obtain ⟨A, hA⟩ : ∃ A, amoves w i = A := ⟨_, rfl⟩
    rw [hA] at e3 eH7 hla
    simp only [RZ, reduceAdd, reduceIte, reduceEqDiff, reduceLT, reduceLeDiff, reduceCtorEq, Nat.reduceBEq, rV, UGf_7.d, e0, eW, e3, eH7, e12, e13, k1, en_len]
    refine AW.upto ks.length (inv39b w i A ks) ⟨e0, eW, ⟨v, by show t 3 = _; rw [e3, List.take_zero, List.map_nil, List.append_nil], by show H 7 = _; rw [eH7, List.take_zero, List.map_nil, List.append_nil]⟩, e12, e13, rfl, rfl, rfl, rfl⟩ fun j t H c hj h' => ?_
    clear e0 eW e3 eH7 e12 e13 v
    obtain ⟨e0, eW, ⟨v, e3, eH7⟩, e12, e13, e4, e18, e19, e20⟩ := h'
    simp only [T.c, T.i, tL, wP] at e0 eW e3 eH7 e12 e13 e4 e18 e19 e20
    have hlB : (A ++ (ks.take j).map fun k => (⟨i, k⟩ : Mv)).length ≤ 100 := by rw [List.length_append, List.length_map, List.length_take]; omega
    obtain ⟨D, hD⟩ : ∃ D, (A ++ (ks.take j).map fun k => (⟨i, k⟩ : Mv)) = D := ⟨_, rfl⟩
    rw [hD] at e3 eH7 hlB
    by_cases k2 : (j : Int) < ks.length
    · obtain ⟨x, hx⟩ : ∃ x, ks[j]? = some x := ⟨_, List.getElem?_eq_getElem (by omega)⟩
      have ex := en_at eI hx
      have gz : (0 : Int) ≤ j := by omega
      have gw2 := w1_ok (i := j) (by omega)
      have q1 : (D.length + 1) * 16 ≤ 140737488355328 := by omega
      have q2 : D.length + 1 ≤ 9223372036854775807 := by omega
      have hn2 : (A ++ (ks.take (j + 1)).map fun k => (⟨i, k⟩ : Mv)) = D ++ [⟨(i : Int), x⟩] := by rw [List.take_add_one, hx, List.map_append, ← List.append_assoc, hD]; rfl
      simp only [RZ, reduceAdd, reduceIte, reduceEqDiff, reduceLT, reduceLeDiff, reduceCtorEq, Nat.reduceBEq, rV, UGf_8.d, e0, eW, e3, eH7, e12, e13, e4, e18, e19, e20, k2, gz, ex, gw2, eI, q1, q2, Int.toNat_natCast]
      exact ⟨by omega, e0, eW, ⟨_, own_lenM (by rw [hn2, List.length_append]; rfl), arr_snocM hn2⟩, e12, e13, e4, e18, e19, rfl⟩
    · have hj2 : j = ks.length := by omega
      subst hj2
      have hn2 : amoves w (i + 1) = D := by rw [amoves_next, hA, hm, ← hD, List.take_length]
      simp only [RZ, reduceAdd, reduceIte, reduceEqDiff, reduceLT, reduceLeDiff, reduceCtorEq, Nat.reduceBEq, rV, UGf_8.d, UGf_7.d, e0, eW, e3, eH7, e12, e13, e4, e18, e19, e20, k2, gw]
      refine ⟨by omega, e0, eW, ⟨v, ?_, ?_⟩, e12, rfl⟩
      · show t 3 = _
        rw [hn2]; exact e3
      · show H 7 = _
        rw [hn2]; exact eH7
  · have hi2 : i = w.workers.toNat + 4 := by omega
    subst hi2
    simp only [RZ, reduceAdd, reduceIte, reduceEqDiff, reduceLT, reduceLeDiff, reduceCtorEq, Nat.reduceBEq, rV, UGf_7.d, UGf_5.d, e0, eW, e3, eH7, e12, e13, k1]
    refine ES.mk (moves w) rfl ?_
    simp only [RZ, reduceAdd, reduceIte, reduceEqDiff, reduceLT, reduceLeDiff, reduceCtorEq, Nat.reduceBEq, rV, UGf_7.d, UGf_5.d, e0, eW, e3, eH7, e12, e13, k1, moves]
/- loop.example/teagle/impl.CrewMoves -/
def r11_0 : List AOper := [ao 0 1 (.box 26 (.t 0)),
  ao 1 2 (.mv (.k (.c .nil0)))]
def r11_1 : List AOper := [ao 0 3 (.call (.k (.c (.fn 38 []))) [(.t 1)]),
  ao 1 4 (.un .not (.t 3))]
def r11_2 : List AOper := [ao 0 2 (.mv (.k (.c .nil0)))]
def c11_3 : ACode := .seq (.reg r11_2) .ret
def c11_4 : ACode := .cond (.t 4) c11_3 .skip
def c11_5 : ACode := .seq (.reg r11_1) c11_4
def r11_6 : List AOper := [ao 0 5 (.call (.k (.c (.fn 39 []))) [(.t 1)]),
  ao 1 2 (.mv (.t 5))]
def c11 : ACode := .seq (.reg r11_0) (.seq c11_5 (.seq (.reg r11_6) .ret))
def s11 : List ARes := [.tmp 2]
theorem ok11 : okF Tryz.prog 11 6 c11 s11 := ⟨Tryz.f11, Tryz.func11, Tryz.ntmps11, by kernel_rfl, by kernel_rfl, by kernel_rfl⟩
def UGf_6 := Bx.mk <|
  aN (uA c11.eq_1) <| aN (uR r11_0.eq_1) <| aN (uA c11_5.eq_1) <| aN (uR r11_1.eq_1) <| aN (uA c11_4.eq_1) <| aN (uA c11_3.eq_1) <| aN (uR r11_2.eq_1) <| aN (uR r11_6.eq_1) <| s11.eq_1
theorem crewMovesI_ok {w : CW} (hs : Small w) : PC 11 [tCW w] (fun ms : List Mv => (WOk w → ms = moves w) ∧ (¬ WOk w → ms = [])) (fun ms => tL (en eM ms)) := by
  obtain ⟨b, hb, C⟩ := isOk_ok w hs.t
  refine PC.intro ok11 rfl (fun _ => rfl) fun X => ?_
  simp only [RZ, reduceAdd, reduceIte, reduceEqDiff, reduceLT, reduceLeDiff, reduceCtorEq, Nat.reduceBEq, UGf_6.d]
  refine callP (m := 1) (w := w) C rfl rfl rfl rfl rfl ⟨rfl, ?_⟩
  cases b with
  | false =>
    simp only [RZ, reduceAdd, reduceIte, reduceEqDiff, reduceLT, reduceLeDiff, reduceCtorEq, Nat.reduceBEq, UGf_6.d]
    refine ES.mk [] ⟨fun g => (by cases hb.2 g), fun _ => rfl⟩ ?_
    simp only [RZ, reduceAdd, reduceIte, reduceEqDiff, reduceLT, reduceLeDiff, reduceCtorEq, Nat.reduceBEq, UGf_6.d, en_nil]
  | true =>
    have ok := hb.1 rfl
    obtain ⟨ms, rfl, Cm⟩ := pmoves_ok ok.form
    simp only [RZ, reduceAdd, reduceIte, reduceEqDiff, reduceLT, reduceLeDiff, reduceCtorEq, Nat.reduceBEq, UGf_6.d]
    refine callP (m := 1) (w := w) Cm rfl rfl rfl rfl rfl ⟨rfl, ?_⟩
    simp only [RZ, reduceAdd, reduceIte, reduceEqDiff, reduceLT, reduceLeDiff, reduceCtorEq, Nat.reduceBEq, UGf_6.d]
    refine ES.mk (moves w) ⟨fun _ => rfl, fun g => absurd ok g⟩ ?_
    simp only [RZ, reduceAdd, reduceIte, reduceEqDiff, reduceLT, reduceLeDiff, reduceCtorEq, Nat.reduceBEq, UGf_6.d]
end Go.V
set_option linter.unusedVariables false
set_option linter.unusedSimpArgs false
namespace Go.V
open Go.Proofs
open Nat (reduceAdd reduceEqDiff reduceLT reduceLeDiff)
/- loop.example/teagle/impl.CrewCancel -/
def r21_0 : List AOper := [ao 0 1 (.box 26 (.t 0)),
  ao 1 2 (.alloc 26 [(.v (.s (.int .i64 0))), (.v (.s (.int .i64 0))), (.v (.s (.int .i64 0))), (.v (.s (.int .i64 0))), (.v (.s (.int .i64 0))), .nil0, .nil0, (.v (.s (.int .i64 0))), .nil0, (.v (.s (.int .i64 0))), .nil0, (.v (.s (.int .i64 0))), .nil0, (.v (.s (.int .i64 0))), .nil0, (.v (.s (.int .i64 0))), .nil0, (.v (.s (.int .i64 0)))]),
  ao 2 3 (.mv (.k (.b false)))]
def r21_1 : List AOper := [ao 0 5 (.call (.k (.c (.fn 38 []))) [(.t 1)]),
  ao 1 6 (.un .not (.t 5)),
  ao 2 7 (.mv (.t 6)),
  ag 3 8 7 false [] (.fa 13 (.t 1)),
  ag 4 9 7 false [] (.ld 1 false (.t 8)),
  ag 5 10 7 false [] (.bin .eql (.t 9) (.k (.i 1))),
  ao 6 11 (.pick (.t 7) (.k (.b true)) (.t 10))]
def r21_2 : List AOper := [ao 0 12 (.build [(.v (.s (.int .i64 0))), (.v (.s (.int .i64 0))), (.v (.s (.int .i64 0))), (.v (.s (.int .i64 0))), (.v (.s (.int .i64 0))), .nil0, .nil0, (.v (.s (.int .i64 0))), .nil0, (.v (.s (.int .i64 0))), .nil0, (.v (.s (.int .i64 0))), .nil0, (.v (.s (.int .i64 0))), .nil0, (.v (.s (.int .i64 0))), .nil0, (.v (.s (.int .i64 0)))] []),
  an 1 (.st 18 (.t 2) (.t 12)),
  ao 2 3 (.mv (.k (.b false)))]
def c21_3 : ACode := .seq (.reg r21_2) .ret
def c21_4 : ACode := .cond (.t 11) c21_3 .skip
def c21_5 : ACode := .seq (.reg r21_1) c21_4
def r21_6 : List AOper := [ao 0 13 (.call (.k (.c (.fn 45 []))) [(.t 1)]),
  ao 1 4 (.alloc 26 [(.v (.s (.int .i64 0))), (.v (.s (.int .i64 0))), (.v (.s (.int .i64 0))), (.v (.s (.int .i64 0))), (.v (.s (.int .i64 0))), .nil0, .nil0, (.v (.s (.int .i64 0))), .nil0, (.v (.s (.int .i64 0))), .nil0, (.v (.s (.int .i64 0))), .nil0, (.v (.s (.int .i64 0))), .nil0, (.v (.s (.int .i64 0))), .nil0, (.v (.s (.int .i64 0)))]),
  an 2 (.st 18 (.t 4) (.t 13))]
def r21_7 : List AOper := [ao 0 14 (.call (.k (.c (.fn 49 []))) [(.t 4)])]
def r21_8 : List AOper := [ao 0 15 (.ld 18 true (.t 4)),
  an 1 (.st 18 (.t 2) (.t 15)),
  ao 2 3 (.mv (.k (.b true)))]
def c21 : ACode := .seq (.reg r21_0) (.seq c21_5 (.seq (.reg r21_6) (.seq (.reg r21_7) (.seq (.reg r21_8) .ret))))
def s21 : List ARes := [.cell 2 18 true, .tmp 3]
theorem ok21 : okF Tryz.prog 21 16 c21 s21 := ⟨Tryz.f21, Tryz.func21, Tryz.ntmps21, by kernel_rfl, by kernel_rfl, by kernel_rfl⟩
def UGj_1 := Bx.mk <|
  aN (uA c21.eq_1) <| aN (uR r21_0.eq_1) <| aN (uA c21_5.eq_1) <| aN (uR r21_1.eq_1) <| aN (uA c21_4.eq_1) <| aN (uA c21_3.eq_1) <| aN (uR r21_2.eq_1) <| aN (uR r21_6.eq_1) <| aN (uR r21_7.eq_1) <| aN (uR r21_8.eq_1) <| s21.eq_1
set_option maxHeartbeats 1000000 in
theorem cancelI_no {w : CW} (hs : Small w) (h : ¬ (WOk w ∧ w.user ≠ 1)) : ACallsF Tryz.prog 21 [tCW w] [] (.tup [.agg czC, .one (.v (.s (.bool false)))]) := by
  obtain ⟨b, hb, C⟩ := isOk_ok w hs.t
  refine ACallsF.intro ok21 follows fun X c0 => ?_
  simp only [RZ, reduceAdd, reduceIte, reduceEqDiff, reduceLT, reduceLeDiff, reduceCtorEq, Nat.reduceBEq, UGj_1.d]
  refine callP (m := 1) (w := w) C rfl rfl rfl rfl rfl ⟨rfl, ?_⟩
  cases b with
  | false =>
    simp only [RZ, reduceAdd, reduceIte, reduceEqDiff, reduceLT, reduceLeDiff, reduceCtorEq, Nat.reduceBEq, UGj_1.d]
  | true =>
    have hu : w.user = 1 := Decidable.not_not.1 fun g => h ⟨hb.1 rfl, g⟩
    have k1 := eqb hu
    simp only [RZ, reduceAdd, reduceIte, reduceEqDiff, reduceLT, reduceLeDiff, reduceCtorEq, Nat.reduceBEq, UGj_1.d, k1]
set_option maxHeartbeats 1000000 in
theorem cancelI_yesC {w : CW} (h : WOk w) (hu : w.user ≠ 1) : ACallsF Tryz.prog 21 [tCW w] [] (.tup [.agg (cwC (cancelW w)), .one (.v (.s (.bool true)))]) := by
  have f := h.form
  obtain ⟨b, hb, C⟩ := isOk_ok w f.small.t
  have k1 := neqb hu
  have hls : w.shut.length = 4 := by have := f.ls; omega
  have ho := f.ops0
  have ho2 := f.ops1
  refine ACallsF.intro ok21 follows fun X c0 => ?_
  simp only [RZ, reduceAdd, reduceIte, reduceEqDiff, reduceLT, reduceLeDiff, reduceCtorEq, Nat.reduceBEq, wnH, UGj_1.d]
  refine callP (m := 1) (w := w) C rfl rfl rfl rfl rfl ⟨rfl, ?_⟩
  cases b with
  | false => cases hb.2 h
  | true =>
  simp only [RZ, reduceAdd, reduceIte, reduceEqDiff, reduceLT, reduceLeDiff, reduceCtorEq, Nat.reduceBEq, wnH, UGj_1.d, k1]
  refine callP7 (m0 := 1) (m := 2000) (fun m0 v m => clone_ok f.small m0 v m) rfl rfl rfl (by decide) (by decide) (by decide) ⟨rfl, ?_⟩
  simp only [RZ, reduceAdd, reduceIte, reduceEqDiff, reduceLT, reduceLeDiff, reduceCtorEq, Nat.reduceBEq, wnH, UGj_1.d, k1]
  refine callIn (m0 := 4) (m := 2000) (fun v a1 a2 a3 a4 a5 a6 a7 m0 m => cancel_ok hls ⟨ho, ho2⟩ v a1 a2 a3 a4 a5 a6 a7 m0 m) rfl rfl rfl (fun _ _ => rfl) rfl rfl rfl rfl rfl rfl rfl rfl (by decide) ⟨rfl, ?_⟩
  simp only [RZ, reduceAdd, reduceIte, reduceEqDiff, reduceLT, reduceLeDiff, reduceCtorEq, Nat.reduceBEq, wnH, cancelW, shutW, UGj_1.d, SNT]
theorem ne0'' (x : Int) : (x != x) = false := by simp
/- loop.example/teagle/spec.DrawCrewCancel -/
def r19_0 : List AOper := [ao 0 2 (.alloc 26 [(.v (.s (.int .i64 0))), (.v (.s (.int .i64 0))), (.v (.s (.int .i64 0))), (.v (.s (.int .i64 0))), (.v (.s (.int .i64 0))), .nil0, .nil0, (.v (.s (.int .i64 0))), .nil0, (.v (.s (.int .i64 0))), .nil0, (.v (.s (.int .i64 0))), .nil0, (.v (.s (.int .i64 0))), .nil0, (.v (.s (.int .i64 0))), .nil0, (.v (.s (.int .i64 0)))])]
def r19_1 : List AOper := [ao 0 3 (.mv (.t 0)),
  ao 1 4 (.call (.k (.c (.fn 32 []))) [(.t 3)]),
  ao 2 5 (.call (.k (.c (.fn 31 []))) [(.t 4)]),
  an 3 (.st 18 (.t 2) (.t 5))]
def c19 : ACode := .seq (.reg r19_0) (.seq (.reg r19_1) .ret)
def s19 : List ARes := [.cell 2 18 true]
theorem ok19 : okF Tryz.prog 19 6 c19 s19 := ⟨Tryz.f19, Tryz.func19, Tryz.ntmps19, by kernel_rfl, by kernel_rfl, by kernel_rfl⟩
def UGj_2 := Bx.mk <|
  aN (uA c19.eq_1) <| aN (uR r19_0.eq_1) <| aN (uR r19_1.eq_1) <| s19.eq_1
theorem drawCancel_ok (bs : List UInt8) : PC 19 [.c (.v (.sl (encB bs)))] Small (fun w => .pt (.agg (cwC w))) := by
  have hb : (bs.take 2000).length ≤ 2000 := by rw [List.length_take]; omega
  obtain ⟨q, w, hq1, hq2, hw, C1⟩ := l54Any_ok (bs.take 2000) hb 0 (by omega)
  refine PC.intro ok19 rfl (fun _ => rfl) fun X => ?_
  simp only [RZ, reduceAdd, reduceIte, reduceEqDiff, reduceLT, reduceLeDiff, reduceCtorEq, Nat.reduceBEq, rH, rV, rdC, rdr, UGj_2.d]
  refine callOpen rfl rfl ⟨rfl, ?_⟩
  simp only [RZ, reduceAdd, reduceIte, reduceEqDiff, reduceLT, reduceLeDiff, reduceCtorEq, Nat.reduceBEq, rH, rV, rdC, rdr, UGj_2.d]
  refine callRc (C1 _) rfl rfl rfl rfl rfl ⟨rfl, ?_⟩
  simp only [RZ, reduceAdd, reduceIte, reduceEqDiff, reduceLT, reduceLeDiff, reduceCtorEq, Nat.reduceBEq, rH, rV, rdC, rdr, UGj_2.d]
  refine ES.mk w hw ?_
  simp only [RZ, reduceAdd, reduceIte, reduceEqDiff, reduceLT, reduceLeDiff, reduceCtorEq, Nat.reduceBEq, rH, rV, rdC, rdr, UGj_2.d]
/- loop.example/teagle/spec.l54Picks -/
def r47_0 : List AOper := [ao 0 2 (.mv (.k (.c .nil0)))]
def r47_1 : List AOper := [ao 0 6 (.bsl 1 3 []),
  ao 1 3 (.mv (.t 6))]
def r47_2 : List AOper := [ao 0 7 (.mv (.t 0)),
  ao 1 8 (.call (.k (.c (.fn 65 []))) [(.t 7), (.k (.i 40))]),
  ao 2 4 (.mv (.t 8))]
def r47_3 : List AOper := [ao 0 9 (.mv (.t 0)),
  ao 1 10 (.call (.k (.c (.fn 65 []))) [(.t 9), (.k (.i 24))]),
  ao 2 11 (.bin .eql (.t 10) (.k (.i 0)))]
def r47_4 : List AOper := [ao 0 12 (.mv (.t 0)),
  ao 1 13 (.call (.k (.c (.fn 65 []))) [(.t 12), (.k (.i 2))]),
  ao 2 14 (.bin .add (.k (.i 2000)) (.t 13)),
  ao 3 4 (.mv (.t 14))]
def c47_5 : ACode := .cond (.t 11) (.reg r47_4) .skip
def c47_6 : ACode := .seq (.reg r47_3) c47_5
def r47_7 : List AOper := [ao 0 5 (.mv (.k (.i 0)))]
def r47_8 : List AOper := [ao 0 15 (.mv (.t 5)),
  ao 1 16 (.mv (.t 4)),
  ao 2 17 (.bin .lss (.t 15) (.t 16))]
def c47_9 : ACode := .cond (.t 17) .skip (.exit 0)
def c47_10 : ACode := .seq (.reg r47_8) c47_9
def r47_11 : List AOper := [ao 0 20 (.mv (.t 3)),
  ao 1 21 (.mv (.t 0)),
  ao 2 22 (.call (.k (.c (.fn 65 []))) [(.t 21), (.k (.i 9))]),
  ao 3 23 (.mv (.t 0)),
  ao 4 24 (.call (.k (.c (.fn 65 []))) [(.t 23), (.k (.i 100))]),
  ao 5 25 (.bin .sub (.t 24) (.k (.i 50))),
  ao 6 26 (.bsl 1 3 [(.t 22), (.t 25), (.k (.i 0)), (.k (.i 4611686018427387904))]),
  ao 7 27 (.mv (.t 0)),
  ao 8 28 (.call (.k (.c (.fn 65 []))) [(.t 27), (.k (.i 4))]),
  ao 9 29 (.ia 1 (.t 26) (.t 28)),
  ao 10 30 (.ld 1 false (.t 29)),
  ao 11 31 (.bsl 1 3 [(.t 30)]),
  ao 12 32 (.app 1 3 8 (.t 20) (.t 31)),
  ao 13 3 (.mv (.t 32))]
def c47_12 : ACode := .block 1 (.reg r47_11)
def r47_13 : List AOper := [ao 0 18 (.mv (.t 5)),
  ao 1 19 (.bin .add (.t 18) (.k (.i 1))),
  ao 2 5 (.mv (.t 19))]
def c47_14 : ACode := .seq c47_10 (.seq c47_12 (.reg r47_13))
def c47_15 : ACode := .loop c47_14
def c47_16 : ACode := .block 0 c47_15
def c47_17 : ACode := .seq (.reg r47_7) c47_16
def r47_18 : List AOper := [ao 0 33 (.mv (.t 3)),
  ao 1 2 (.mv (.t 33))]
def c47 : ACode := .seq (.reg r47_0) (.seq (.reg r47_1) (.seq (.reg r47_2) (.seq c47_6 (.seq c47_17 (.seq (.reg r47_18) .ret)))))
def s47 : List ARes := [.tmp 2]
theorem ok47 : okF Tryz.prog 47 34 c47 s47 := ⟨Tryz.f47, Tryz.func47, Tryz.ntmps47, by kernel_rfl, by kernel_rfl, by kernel_rfl⟩
def inv47 (bs : List UInt8) (p1 n : Int) (i : Nat) (σ : St) : Prop := ∃ (ps : List Int) (q : Int) (v : Nat), ps.length = i ∧ (p1 ≤ q ∧ q ≤ p1 + 3 * i) ∧ σ.t 0 = rP 0 ∧ σ.H 1000 = some (rdr 0 bs q) ∧ σ.t 3 = .c (.own 6 v ps.length) ∧ σ.H 6 = some (.arr v true 1 3 (en eI ps)) ∧ σ.t 4 = .i n ∧ σ.t 5 = .i i
def UGj_3 := Bx.mk <|
  aN (uA c47.eq_1) <| aN (uR r47_0.eq_1) <| aN (uR r47_1.eq_1) <| aN (uR r47_2.eq_1) <| aN (uA c47_6.eq_1) <| aN (uR r47_3.eq_1) <| aN (uA c47_5.eq_1) <| aN (uR r47_4.eq_1) <| aN (uA c47_17.eq_1) <| aN (uR r47_7.eq_1) <| aN (uA c47_16.eq_1) <| aN (uA c47_15.eq_1) <| aN (uR r47_18.eq_1) <| s47.eq_1
def UGj_4 := Bx.mk <|
  aN (uA c47.eq_1) <| aN (uR r47_0.eq_1) <| aN (uR r47_1.eq_1) <| aN (uR r47_2.eq_1) <| aN (uA c47_6.eq_1) <| aN (uR r47_3.eq_1) <| aN (uA c47_5.eq_1) <| aN (uR r47_4.eq_1) <| aN (uA c47_17.eq_1) <| aN (uA c47_16.eq_1) <| aN (uA c47_15.eq_1) <| aN (uR r47_18.eq_1) <| s47.eq_1
def UGj_8 := Bx.mk <|
  aN (uA c47_14.eq_1) <| aN (uA c47_10.eq_1) <| aN (uR r47_8.eq_1) <| aN (uA c47_9.eq_1) <| aN (uA c47_12.eq_1) <| aN (uR r47_11.eq_1) <| aN (uR r47_13.eq_1) <| aN (uA c47.eq_1) <| aN (uR r47_0.eq_1) <| aN (uR r47_1.eq_1) <| aN (uR r47_2.eq_1) <| aN (uA c47_6.eq_1) <| aN (uR r47_3.eq_1) <| aN (uA c47_5.eq_1) <| aN (uR r47_4.eq_1) <| aN (uA c47_17.eq_1) <| aN (uR r47_7.eq_1) <| aN (uA c47_16.eq_1) <| aN (uA c47_15.eq_1) <| aN (uR r47_18.eq_1) <| s47.eq_1
set_option maxHeartbeats 2000000 in
theorem l54Picks_ok (bs : List UInt8) (hb : bs.length ≤ 2000) (p : Int) (hp : 0 ≤ p ∧ p ≤ 1000000000) : RC 47 [] bs p 7000 (fun ps : List Int => ps.length ≤ 2001) (fun ps => tL (en eI ps)) := by
  obtain ⟨n0, ha1, hb1, C1⟩ := pick_ok bs hb p 40 (by omega) (by omega)
  obtain ⟨z, ha2, hb2, C2⟩ := pick_ok bs hb (p + 1) 24 (by omega) (by omega)
  obtain ⟨y, ha3, hb3, C3⟩ := pick_ok bs hb (p + 1 + 1) 2 (by omega) (by omega)
  have w2 : IntKind.i64.wrap (2000 + y) = 2000 + y := wrap64 ⟨by omega, by omega⟩
  refine RC.intro ok47 rfl (fun _ => rfl) fun X => ?_
  have loop : ∀ (n p1 : Int), (0 ≤ n ∧ n ≤ 2001) → (p ≤ p1 ∧ p1 ≤ p + 3) → ∀ (t : Nat → T) (H : HMap) (c v : Nat), t 0 = rP 0 → H 1000 = some (rdr 0 bs p1) → t 3 = .c (.own 6 v 0) → H 6 = some (.arr v true 1 3 []) → t 4 = .i n → DRun Tryz.prog r47_7 [] (Kont (thenW Tryz.prog X c47_16 (thenW Tryz.prog X (.seq (.reg r47_18) .ret) (endR p 7000 (fun ps : List Int => ps.length ≤ 2001) (fun ps => tL (en eI ps)) bs [.tmp 2]))) r47_7) ⟨t, H, c⟩ := by
    intro n p1 hn hp1 t H c v e0 eR e3 eH6 e4
    simp only [T.c, T.i, rP, rdr, rdC] at e0 eR e3 eH6 e4
    simp only [RZ, reduceAdd, reduceIte, reduceEqDiff, reduceLT, reduceLeDiff, reduceCtorEq, Nat.reduceBEq, rH, rV, rdC, rdr, UGj_3.d, e0, eR, e3, eH6, e4]
    refine AW.upto n.toNat (inv47 bs p1 n) ⟨[], p1, v, rfl, by omega, e0, eR, e3, eH6, e4, rfl⟩ fun i t H c hi h' => ?_
    clear e0 eR e3 eH6 e4
    obtain ⟨ps, q, v, hps, hq, e0, eR, e3, eH6, e4, e5⟩ := h'
    simp only [T.c, T.i, rP, rdr, rdC] at e0 eR e3 eH6 e4 e5
    by_cases k1 : (i : Int) < n
    · have gw := w1_ok (i := i) (by omega)
      obtain ⟨a, hza, hzb, D1⟩ := pick_ok bs hb q 9 (by omega) (by omega)
      obtain ⟨b, hzc, hzd, D2⟩ := pick_ok bs hb (q + 1) 100 (by omega) (by omega)
      obtain ⟨k, hk, gk, D3⟩ := pick_ok bs hb (q + 1 + 1) 4 (by omega) (by omega)
      obtain ⟨y, ey⟩ := idx_ex [a, IntKind.i64.wrap (b - 50), 0, 4611686018427387904] k hk gk
      simp only [en, eI, List.map_cons, List.map_nil] at ey
      have g2 : k < ((4 : Nat) : Int) := gk
      have q1 : (ps.length + 1) * 8 ≤ 140737488355328 := by omega
      have q2 : ps.length + 1 ≤ 9223372036854775807 := by omega
      simp only [RZ, reduceAdd, reduceIte, reduceEqDiff, reduceLT, reduceLeDiff, reduceCtorEq, Nat.reduceBEq, rH, rV, rdC, rdr, UGj_8.d, e0, eR, e3, eH6, e4, e5, k1]
      refine callRc (D1 0) rfl rfl rfl rfl eR ⟨rfl, ?_⟩
      simp only [RZ, reduceAdd, reduceIte, reduceEqDiff, reduceLT, reduceLeDiff, reduceCtorEq, Nat.reduceBEq, rH, rV, rdC, rdr, UGj_8.d, e0, eR, e3, eH6, e4, e5, k1]
      refine callRc (D2 0) rfl rfl rfl rfl rfl ⟨rfl, ?_⟩
      simp only [RZ, reduceAdd, reduceIte, reduceEqDiff, reduceLT, reduceLeDiff, reduceCtorEq, Nat.reduceBEq, rH, rV, rdC, rdr, UGj_8.d, e0, eR, e3, eH6, e4, e5, k1]
      refine callRc (D3 0) rfl rfl rfl rfl rfl ⟨rfl, ?_⟩
      simp only [RZ, reduceAdd, reduceIte, reduceEqDiff, reduceLT, reduceLeDiff, reduceCtorEq, Nat.reduceBEq, rH, rV, rdC, rdr, UGj_8.d, e0, eR, e3, eH6, e4, e5, k1, hk, g2, ey, q1, q2, en_len, SNT, gw]
      exact ⟨by omega, ps ++ [y], q + 1 + 1 + 1, _, by rw [List.length_append, hps]; rfl, by omega, e0, rfl, own_len (by rw [List.length_append]; rfl), rfl, e4, rfl⟩
    · simp only [RZ, reduceAdd, reduceIte, reduceEqDiff, reduceLT, reduceLeDiff, reduceCtorEq, Nat.reduceBEq, rH, rV, rdC, rdr, UGj_8.d, UGj_3.d, e0, eR, e3, eH6, e4, e5, k1]
      refine ES.mk (q, ps) ⟨by omega, by omega, by show ps.length ≤ 2001; omega⟩ ?_
      simp only [RZ, reduceAdd, reduceIte, reduceEqDiff, reduceLT, reduceLeDiff, reduceCtorEq, Nat.reduceBEq, rH, rV, rdC, rdr, UGj_8.d, UGj_3.d, e0, eR, e3, eH6, e4, e5, k1, en_len]
  simp only [RZ, reduceAdd, reduceIte, reduceEqDiff, reduceLT, reduceLeDiff, reduceCtorEq, Nat.reduceBEq, rH, rV, rdC, rdr, UGj_4.d]
  refine callRc (C1 0) rfl rfl rfl rfl rfl ⟨rfl, ?_⟩
  simp only [RZ, reduceAdd, reduceIte, reduceEqDiff, reduceLT, reduceLeDiff, reduceCtorEq, Nat.reduceBEq, rH, rV, rdC, rdr, UGj_4.d]
  refine callRc (C2 0) rfl rfl rfl rfl rfl ⟨rfl, ?_⟩
  by_cases c0 : z = 0
  · have k0 := eqb c0
    simp only [RZ, reduceAdd, reduceIte, reduceEqDiff, reduceLT, reduceLeDiff, reduceCtorEq, Nat.reduceBEq, rH, rV, rdC, rdr, UGj_4.d, k0]
    refine callRc (C3 0) rfl rfl rfl rfl rfl ⟨rfl, ?_⟩
    simp only [RZ, reduceAdd, reduceIte, reduceEqDiff, reduceLT, reduceLeDiff, reduceCtorEq, Nat.reduceBEq, rH, rV, rdC, rdr, UGj_4.d, k0, w2]
    refine loop (2000 + y) (p + 1 + 1 + 1) (by omega) (by omega) _ _ _ 2 ?_ ?_ ?_ ?_ ?_ <;> rfl
  · have k0 := neqb c0
    simp only [RZ, reduceAdd, reduceIte, reduceEqDiff, reduceLT, reduceLeDiff, reduceCtorEq, Nat.reduceBEq, rH, rV, rdC, rdr, UGj_4.d, k0]
    refine loop n0 (p + 1 + 1) (by omega) (by omega) _ _ _ 2 ?_ ?_ ?_ ?_ ?_ <;> rfl
/- loop.example/teagle/spec.DrawCrewPicks -/
def r17_0 : List AOper := [ao 0 2 (.mv (.k (.c .nil0)))]
def r17_1 : List AOper := [ao 0 3 (.mv (.t 0)),
  ao 1 4 (.call (.k (.c (.fn 32 []))) [(.t 3)]),
  ao 2 5 (.call (.k (.c (.fn 47 []))) [(.t 4)]),
  ao 3 2 (.mv (.t 5))]
def c17 : ACode := .seq (.reg r17_0) (.seq (.reg r17_1) .ret)
def s17 : List ARes := [.tmp 2]
theorem ok17 : okF Tryz.prog 17 6 c17 s17 := ⟨Tryz.f17, Tryz.func17, Tryz.ntmps17, by kernel_rfl, by kernel_rfl, by kernel_rfl⟩
def UGj_5 := Bx.mk <|
  aN (uA c17.eq_1) <| aN (uR r17_0.eq_1) <| aN (uR r17_1.eq_1) <| s17.eq_1
theorem drawPicks_ok (bs : List UInt8) : PC 17 [.c (.v (.sl (encB bs)))] (fun ps : List Int => ps.length ≤ 2001) (fun ps => tL (en eI ps)) := by
  have hb : (bs.take 2000).length ≤ 2000 := by rw [List.length_take]; omega
  obtain ⟨q, w, hq1, hq2, hw, C1⟩ := l54Picks_ok (bs.take 2000) hb 0 (by omega)
  refine PC.intro ok17 rfl (fun _ => rfl) fun X => ?_
  simp only [RZ, reduceAdd, reduceIte, reduceEqDiff, reduceLT, reduceLeDiff, reduceCtorEq, Nat.reduceBEq, rH, rV, rdC, rdr, UGj_5.d]
  refine callOpen rfl rfl ⟨rfl, ?_⟩
  simp only [RZ, reduceAdd, reduceIte, reduceEqDiff, reduceLT, reduceLeDiff, reduceCtorEq, Nat.reduceBEq, rH, rV, rdC, rdr, UGj_5.d]
  refine callRc (C1 _) rfl rfl rfl rfl rfl ⟨rfl, ?_⟩
  simp only [RZ, reduceAdd, reduceIte, reduceEqDiff, reduceLT, reduceLeDiff, reduceCtorEq, Nat.reduceBEq, rH, rV, rdC, rdr, UGj_5.d]
  refine ES.mk w hw ?_
  simp only [RZ, reduceAdd, reduceIte, reduceEqDiff, reduceLT, reduceLeDiff, reduceCtorEq, Nat.reduceBEq, rH, rV, rdC, rdr, UGj_5.d]
theorem can_user {w : CW} {m : Mv} (h : Can w m) (hu : w.user = 1) : (stepW w m).user = 1 ∧ (stepW w m).got = w.got := by
  have g := h.open'
  have hw := h.who
  by_cases c3 : w.workers + 2 < m.who
  · have hk := h.ok.form.st.k
    rw [ways, if_neg (by omega), if_neg (by omega), if_neg (by omega), if_neg (by omega), if_pos hu] at g
    simp at g
  · unfold stepW doR doH doC doK
    obtain ⟨y, hy⟩ : ∃ y, stepW w m = y := ⟨_, rfl⟩
    have goal : (stepW w m).user = 1 ∧ (stepW w m).got = w.got := by
      rw [hy]
      unfold stepW doR doH doC doK at hy
      repeat' split at hy
      all_goals first | (subst hy; exact ⟨hu, rfl⟩) | (exfalso; omega)
    unfold stepW doR doH doC doK at goal
    exact goal
/- loop.example/teagle/laws.lwEnd -/
def r18_0 : List AOper := [ao 0 3 (.box 26 (.t 0)),
  ao 1 6 (.alloc 26 [(.v (.s (.int .i64 0))), (.v (.s (.int .i64 0))), (.v (.s (.int .i64 0))), (.v (.s (.int .i64 0))), (.v (.s (.int .i64 0))), .nil0, .nil0, (.v (.s (.int .i64 0))), .nil0, (.v (.s (.int .i64 0))), .nil0, (.v (.s (.int .i64 0))), .nil0, (.v (.s (.int .i64 0))), .nil0, (.v (.s (.int .i64 0))), .nil0, (.v (.s (.int .i64 0)))])]
def r18_1 : List AOper := [ao 0 7 (.mv (.k (.i 0)))]
def r18_2 : List AOper := [ao 0 10 (.mv (.t 7)),
  ao 1 11 (.mv (.t 2)),
  ao 2 12 (.bin .lss (.t 10) (.t 11))]
def c18_3 : ACode := .cond (.t 12) .skip (.exit 0)
def c18_4 : ACode := .seq (.reg r18_2) c18_3
def r18_5 : List AOper := [ao 0 15 (.ld 18 true (.t 3)),
  ao 1 16 (.call (.k (.c (.fn 11 []))) [(.t 15)]),
  ao 2 8 (.mv (.t 16))]
def r18_6 : List AOper := [ao 0 17 (.mv (.t 8)),
  ao 1 18 (.len (.t 17)),
  ao 2 19 (.bin .eql (.t 18) (.k (.i 0)))]
def r18_7 : List AOper := [ao 0 20 (.ld 18 true (.t 3)),
  an 1 (.st 18 (.t 6) (.t 20))]
def c18_8 : ACode := .seq (.reg r18_7) .ret
def c18_9 : ACode := .cond (.t 19) c18_8 .skip
def c18_10 : ACode := .seq (.reg r18_6) c18_9
def r18_11 : List AOper := [ao 0 9 (.mv (.k (.i 0)))]
def r18_12 : List AOper := [ao 0 21 (.mv (.t 1)),
  ao 1 22 (.len (.t 21)),
  ao 2 23 (.bin .gtr (.t 22) (.k (.i 0)))]
def r18_13 : List AOper := [ao 0 24 (.mv (.t 1)),
  ao 1 25 (.mv (.t 7)),
  ao 2 26 (.mv (.t 1)),
  ao 3 27 (.len (.t 26)),
  ao 4 28 (.bin .rem (.t 25) (.t 27)),
  ao 5 29 (.ia 1 (.t 24) (.t 28)),
  ao 6 30 (.ld 1 false (.t 29)),
  ao 7 31 (.mv (.t 8)),
  ao 8 32 (.len (.t 31)),
  ao 9 33 (.bin .rem (.t 30) (.t 32)),
  ao 10 9 (.mv (.t 33))]
def c18_14 : ACode := .cond (.t 23) (.reg r18_13) .skip
def c18_15 : ACode := .seq (.reg r18_12) c18_14
def r18_16 : List AOper := [ao 0 34 (.mv (.t 9)),
  ao 1 35 (.bin .lss (.t 34) (.k (.i 0)))]
def r18_17 : List AOper := [ao 0 36 (.mv (.t 9)),
  ao 1 37 (.mv (.t 8)),
  ao 2 38 (.len (.t 37)),
  ao 3 39 (.bin .add (.t 36) (.t 38)),
  ao 4 9 (.mv (.t 39))]
def c18_18 : ACode := .cond (.t 35) (.reg r18_17) .skip
def c18_19 : ACode := .seq (.reg r18_16) c18_18
def r18_20 : List AOper := [ao 0 41 (.ld 18 true (.t 3)),
  au 1 42 [0] (.mv (.t 8)),
  au 2 43 [0, 1] (.mv (.t 9)),
  au 3 44 [0] (.ia 2 (.t 42) (.t 43)),
  au 4 45 [0] (.ld 2 true (.t 44)),
  ao 5 46 (.call (.k (.c (.fn 15 []))) [(.t 41), (.t 45)]),
  ao 6 40 (.mv (.t 46)),
  ao 7 47 (.ext 0 (.t 40)),
  au 8 48 [7] (.ext 1 (.t 40)),
  ax 9 none none [8] (.st 18 (.t 3) (.t 47))]
def c18_21 : ACode := .seq (.reg r18_5) (.seq c18_10 (.seq (.reg r18_11) (.seq c18_15 (.seq c18_19 (.reg r18_20)))))
def c18_22 : ACode := .block 1 c18_21
def r18_23 : List AOper := [ao 0 13 (.mv (.t 7)),
  ao 1 14 (.bin .add (.t 13) (.k (.i 1))),
  ao 2 7 (.mv (.t 14))]
def c18_24 : ACode := .seq c18_4 (.seq c18_22 (.reg r18_23))
def c18_25 : ACode := .loop c18_24
def c18_26 : ACode := .block 0 c18_25
def c18_27 : ACode := .seq (.reg r18_1) c18_26
def r18_28 : List AOper := [ao 0 49 (.ld 18 true (.t 3)),
  an 1 (.st 18 (.t 6) (.t 49))]
def c18 : ACode := .seq (.reg r18_0) (.seq c18_27 (.seq (.reg r18_28) .ret))
def s18 : List ARes := [.cell 6 18 true]
theorem ok18 : okF Tryz.prog 18 50 c18 s18 := ⟨Tryz.f18, Tryz.func18, Tryz.ntmps18, by kernel_rfl, by kernel_rfl, by kernel_rfl⟩
def inv18 (w : CW) (ps : List Int) (most : Int) (i : Nat) (σ : St) : Prop := ∃ w' u v, WOk w' ∧ left w' ≤ most - i ∧ (w.user = 1 → w'.user = 1 ∧ w'.got = w.got) ∧ σ.t 1 = tL (en eI ps) ∧ σ.t 2 = .i most ∧ σ.t 3 = .c (.ptr 3 u 0) ∧ σ.H 3 = some (cwB u w') ∧ σ.t 6 = .c (.ptr 6 v 0) ∧ σ.H 6 = some (.var v 26 czC) ∧ σ.t 7 = .i i
def UGj_6 := Bx.mk <|
  aN (uA c18.eq_1) <| aN (uR r18_0.eq_1) <| aN (uA c18_27.eq_1) <| aN (uR r18_1.eq_1) <| aN (uA c18_26.eq_1) <| aN (uA c18_25.eq_1) <| aN (uR r18_28.eq_1) <| s18.eq_1
def UGj_9 := Bx.mk <|
  aN (uA c18_24.eq_1) <| aN (uA c18_4.eq_1) <| aN (uR r18_2.eq_1) <| aN (uA c18_3.eq_1) <| aN (uA c18_22.eq_1) <| aN (uA c18_21.eq_1) <| aN (uR r18_5.eq_1) <| aN (uA c18_10.eq_1) <| aN (uR r18_6.eq_1) <| aN (uA c18_9.eq_1) <| aN (uA c18_8.eq_1) <| aN (uR r18_7.eq_1) <| aN (uR r18_11.eq_1) <| aN (uA c18_15.eq_1) <| aN (uR r18_12.eq_1) <| aN (uA c18_14.eq_1) <| aN (uR r18_13.eq_1) <| aN (uA c18_19.eq_1) <| aN (uR r18_16.eq_1) <| aN (uA c18_18.eq_1) <| aN (uR r18_17.eq_1) <| aN (uR r18_20.eq_1) <| aN (uR r18_23.eq_1) <| aN (uA c18.eq_1) <| aN (uR r18_0.eq_1) <| aN (uA c18_27.eq_1) <| aN (uR r18_1.eq_1) <| aN (uA c18_26.eq_1) <| aN (uA c18_25.eq_1) <| aN (uR r18_28.eq_1) <| s18.eq_1
def UGj_10 := Bx.mk <|
  aN (uA c18_24.eq_1) <| aN (uA c18_4.eq_1) <| aN (uR r18_2.eq_1) <| aN (uA c18_3.eq_1) <| aN (uA c18_22.eq_1) <| aN (uA c18_21.eq_1) <| aN (uR r18_5.eq_1) <| aN (uA c18_10.eq_1) <| aN (uR r18_6.eq_1) <| aN (uA c18_9.eq_1) <| aN (uA c18_8.eq_1) <| aN (uR r18_7.eq_1) <| aN (uR r18_11.eq_1) <| aN (uA c18_15.eq_1) <| aN (uR r18_12.eq_1) <| aN (uA c18_14.eq_1) <| aN (uR r18_13.eq_1) <| aN (uA c18_19.eq_1) <| aN (uR r18_16.eq_1) <| aN (uA c18_18.eq_1) <| aN (uR r18_17.eq_1) <| aN (uR r18_23.eq_1) <| aN (uA c18.eq_1) <| aN (uR r18_0.eq_1) <| aN (uA c18_27.eq_1) <| aN (uR r18_1.eq_1) <| aN (uA c18_26.eq_1) <| aN (uA c18_25.eq_1) <| aN (uR r18_28.eq_1) <| s18.eq_1
set_option maxRecDepth 8000 in
set_option maxHeartbeats 4000000 in
theorem lwEnd_ok {w : CW} (ok : WOk w) (ps : List Int) (hp : ps.length ≤ 5000) (most : Int) (hm : left w ≤ most ∧ most ≤ 100000) : PC 18 [tCW w, tL (en eI ps), .i most] (fun e : CW => WOk e ∧ Over e ∧ (w.user = 1 → e.got = w.got)) (fun e => .pt (.agg (cwC e))) := by
  have hl0 := left_bd ok.form
  refine PC.intro ok18 rfl (fun _ => rfl) fun X => ?_
  simp only [RZ, reduceAdd, reduceIte, reduceEqDiff, reduceLT, reduceLeDiff, reduceCtorEq, Nat.reduceBEq, UGj_6.d]
  refine AW.upto most.toNat (inv18 w ps most) ⟨w, _, _, ok, by omega, fun hu => ⟨hu, rfl⟩, rfl, rfl, rfl, rfl, rfl, rfl, rfl⟩ fun i t H c hi h' => ?_
  obtain ⟨w', u, v, ok', hl, hu, e1, e2, e3, eH3, e6, eH6, e7⟩ := h'
  simp only [T.c, T.i, tL] at e1 e2 e3 eH3 e6 eH6 e7
  have hlb := left_bd ok'.form
  have hs := ok'.form.small
  by_cases k1 : (i : Int) < most
  rotate_left
  · simp only [RZ, reduceAdd, reduceIte, reduceEqDiff, reduceLT, reduceLeDiff, reduceCtorEq, Nat.reduceBEq, UGj_9.d, UGj_6.d, e1, e2, e3, eH3, e6, eH6, e7, k1]
    refine ES.mk w' ⟨ok', stuck ok' fun m hm => ?_, fun a => (hu a).2⟩ ?_
    · have g := step_good hm
      have := left_bd (g.ok ok').form
      have := g.less
      omega
    simp only [RZ, reduceAdd, reduceIte, reduceEqDiff, reduceLT, reduceLeDiff, reduceCtorEq, Nat.reduceBEq, UGj_9.d, UGj_6.d, e1, e2, e3, eH3, e6, eH6, e7, k1]
  have gw := w1_ok (i := i) (by omega)
  obtain ⟨ms, hms, Cm⟩ := crewMovesI_ok hs
  obtain rfl := hms.1 ok'
  have hml : (moves w').length ≤ 1000 := by
    have h1 := amoves_len w' (w'.workers.toNat + 4)
    have h2 := ok'.form.st.k
    rw [moves]; omega
  have hcan : ∀ m ∈ moves w', Can w' m := fun m hm => moves_can ok' hm
  have hnil := moves_nil ok'
  generalize moves w' = ms at *
  have last : ∀ (j : Nat), j < ms.length → ∀ (t : Nat → T) (H : HMap) (c : Nat), t 1 = tL (en eI ps) → t 2 = .i most → t 3 = .c (.ptr 3 u 0) → H 3 = some (cwB u w') → t 6 = .c (.ptr 6 v 0) → H 6 = some (.var v 26 czC) → t 7 = .i i → t 8 = tL (en eM ms) → t 9 = .i j → DRun Tryz.prog r18_20 [] (Kont (inW 1 (thenW Tryz.prog X (.reg r18_23) (thenA (fun σ => i < most.toNat ∧ inv18 w ps most (i + 1) σ) (inW 0 (thenW Tryz.prog X (.seq (.reg r18_28) .ret) (endE (fun e : CW => WOk e ∧ Over e ∧ (w.user = 1 → e.got = w.got)) (fun e => .pt (.agg (cwC e))) (fun _ => []) [.cell 6 18 true])))))) r18_20) ⟨t, H, c⟩ := by
    intro j hj t H c e1 e2 e3 eH3 e6 eH6 e7 e8 e9
    simp only [T.c, T.i, tL] at e1 e2 e3 eH3 e6 eH6 e7 e8 e9
    obtain ⟨m, hm⟩ : ∃ m, ms[j]? = some m := ⟨_, List.getElem?_eq_getElem hj⟩
    have em := en_at eM hm
    have gz : (0 : Int) ≤ j := by omega
    have hc := hcan m (List.mem_of_getElem? hm)
    have hg := step_good hc
    have hy := stepW_wf ok'.form m
    have hcu := can_user hc
    have oky := hg.ok ok'
    have hless := hg.less
    have CS := stepI_yesC hc hy.small
    generalize stepW w' m = y at *
    simp only [RZ, reduceAdd, reduceIte, reduceEqDiff, reduceLT, reduceLeDiff, reduceCtorEq, Nat.reduceBEq, UGj_9.d, e1, e2, e3, eH3, e6, eH6, e7, e8, e9, em, gz, Int.toNat_natCast, eM]
    refine callC CS rfl rfl rfl rfl ?_
    simp only [RZ, reduceAdd, reduceIte, reduceEqDiff, reduceLT, reduceLeDiff, reduceCtorEq, Nat.reduceBEq, UGj_9.d, e1, e2, e3, eH3, e6, eH6, e7, e8, e9, em, gz, Int.toNat_natCast, eM, gw]
    exact ⟨by omega, y, u, v, oky, by omega, fun a => ⟨(hcu (hu a).1).1, (hcu (hu a).1).2.trans (hu a).2⟩, e1, e2, e3, rfl, e6, eH6, rfl⟩
  simp only [RZ, reduceAdd, reduceIte, reduceEqDiff, reduceLT, reduceLeDiff, reduceCtorEq, Nat.reduceBEq, UGj_10.d, e1, e2, e3, eH3, e6, eH6, e7, k1]
  refine callC Cm rfl rfl rfl rfl ?_
  by_cases k2 : ms.length = 0
  · have k3 : ((ms.length : Int) == 0) = true := eqb (by omega)
    simp only [RZ, reduceAdd, reduceIte, reduceEqDiff, reduceLT, reduceLeDiff, reduceCtorEq, Nat.reduceBEq, UGj_10.d, e1, e2, e3, eH3, e6, eH6, e7, k1, en_len, k3]
    refine ES.mk w' ⟨ok', hnil.1 (List.eq_nil_of_length_eq_zero k2), fun a => (hu a).2⟩ ?_
    simp only [RZ, reduceAdd, reduceIte, reduceEqDiff, reduceLT, reduceLeDiff, reduceCtorEq, Nat.reduceBEq, UGj_10.d, e1, e2, e3, eH3, e6, eH6, e7, k1, en_len, k3]
  have k3 : ((ms.length : Int) == 0) = false := neqb (by omega)
  by_cases k4 : (ps.length : Int) > 0
  rotate_left
  · simp only [RZ, reduceAdd, reduceIte, reduceEqDiff, reduceLT, reduceLeDiff, reduceCtorEq, Nat.reduceBEq, UGj_10.d, e1, e2, e3, eH3, e6, eH6, e7, k1, en_len, k3, k4, Int.reduceLT]
    refine last 0 (by omega) _ _ _ ?_ ?_ ?_ ?_ ?_ ?_ ?_ ?_ ?_ <;> first | rfl | assumption
  have hz : ¬ (ps.length : Int) = 0 := by omega
  have hz2 : ¬ (ms.length : Int) = 0 := by omega
  have t1 : (i : Int).tmod ps.length = ((i % ps.length : Nat) : Int) := rfl
  obtain ⟨y, hy⟩ : ∃ y, ps[i % ps.length]? = some y := ⟨_, List.getElem?_eq_getElem (Nat.mod_lt _ (by omega))⟩
  have ey := en_at eI hy
  have gz : (0 : Int) ≤ ((i % ps.length : Nat) : Int) := by omega
  obtain ⟨r, hr⟩ : ∃ r, y.tmod (ms.length : Int) = r := ⟨_, rfl⟩
  have hr1 : r < ms.length := by rw [← hr]; exact Int.tmod_lt_of_pos y (by omega)
  have hr2 : -(ms.length : Int) < r := by rw [← hr]; exact Int.lt_tmod_of_pos y (by omega)
  generalize i % ps.length = i' at *
  by_cases k5 : r < 0
  · have w3 : IntKind.i64.wrap (r + ms.length) = ((r + ms.length).toNat : Int) := by rw [wrap64 ⟨by omega, by omega⟩]; omega
    simp only [RZ, reduceAdd, reduceIte, reduceEqDiff, reduceLT, reduceLeDiff, reduceCtorEq, Nat.reduceBEq, UGj_10.d, e1, e2, e3, eH3, e6, eH6, e7, k1, en_len, k3, k4, hz, hz2, t1, gz, Int.toNat_natCast, ey, eI, hr, k5, w3]
    refine last (r + ms.length).toNat (by omega) _ _ _ ?_ ?_ ?_ ?_ ?_ ?_ ?_ ?_ ?_ <;> first | rfl | assumption
  · obtain ⟨j, rfl⟩ : ∃ j : Nat, r = j := ⟨r.toNat, by omega⟩
    simp only [RZ, reduceAdd, reduceIte, reduceEqDiff, reduceLT, reduceLeDiff, reduceCtorEq, Nat.reduceBEq, UGj_10.d, e1, e2, e3, eH3, e6, eH6, e7, k1, en_len, k3, k4, hz, hz2, t1, gz, Int.toNat_natCast, ey, eI, hr, k5]
    refine last j (by omega) _ _ _ ?_ ?_ ?_ ?_ ?_ ?_ ?_ ?_ ?_ <;> first | rfl | assumption
/- loop.example/teagle/laws.FnCrewCancel -/
def r5_0 : List AOper := [ao 0 4 (.mv (.k (.b false)))]
def r5_1 : List AOper := [ao 0 13 (.mv (.t 0)),
  ao 1 14 (.len (.t 13)),
  ao 2 15 (.bin .gtr (.t 14) (.k (.i 1048576))),
  ao 3 16 (.mv (.t 15)),
  ag 4 17 16 false [] (.mv (.t 1)),
  ag 5 18 16 false [] (.len (.t 17)),
  ag 6 19 16 false [] (.bin .gtr (.t 18) (.k (.i 1048576))),
  ao 7 20 (.pick (.t 16) (.k (.b true)) (.t 19))]
def r5_2 : List AOper := [ao 0 4 (.mv (.k (.b true)))]
def c5_3 : ACode := .seq (.reg r5_2) .ret
def c5_4 : ACode := .cond (.t 20) c5_3 .skip
def c5_5 : ACode := .seq (.reg r5_1) c5_4
def r5_6 : List AOper := [ao 0 21 (.mv (.t 0)),
  ao 1 22 (.call (.k (.c (.fn 19 []))) [(.t 21)]),
  ao 2 5 (.alloc 26 [(.v (.s (.int .i64 0))), (.v (.s (.int .i64 0))), (.v (.s (.int .i64 0))), (.v (.s (.int .i64 0))), (.v (.s (.int .i64 0))), .nil0, .nil0, (.v (.s (.int .i64 0))), .nil0, (.v (.s (.int .i64 0))), .nil0, (.v (.s (.int .i64 0))), .nil0, (.v (.s (.int .i64 0))), .nil0, (.v (.s (.int .i64 0))), .nil0, (.v (.s (.int .i64 0)))]),
  an 3 (.st 18 (.t 5) (.t 22))]
def r5_7 : List AOper := [ao 0 23 (.mv (.t 1)),
  ao 1 24 (.call (.k (.c (.fn 17 []))) [(.t 23)]),
  ao 2 6 (.mv (.t 24))]
def r5_8 : List AOper := [ao 0 26 (.ld 18 true (.t 5)),
  ao 1 27 (.call (.k (.c (.fn 20 []))) [(.t 26)]),
  ao 2 25 (.mv (.t 27)),
  ao 3 28 (.ext 0 (.t 25)),
  ao 4 29 (.ext 1 (.t 25)),
  ao 5 7 (.alloc 26 [(.v (.s (.int .i64 0))), (.v (.s (.int .i64 0))), (.v (.s (.int .i64 0))), (.v (.s (.int .i64 0))), (.v (.s (.int .i64 0))), .nil0, .nil0, (.v (.s (.int .i64 0))), .nil0, (.v (.s (.int .i64 0))), .nil0, (.v (.s (.int .i64 0))), .nil0, (.v (.s (.int .i64 0))), .nil0, (.v (.s (.int .i64 0))), .nil0, (.v (.s (.int .i64 0)))]),
  an 6 (.st 18 (.t 7) (.t 28)),
  ao 7 8 (.mv (.t 29))]
def r5_9 : List AOper := [ao 0 30 (.ld 18 true (.t 5)),
  ao 1 31 (.call (.k (.c (.fn 10 []))) [(.t 30)]),
  ao 2 9 (.mv (.t 31))]
def r5_10 : List AOper := [ao 0 33 (.ld 18 true (.t 5)),
  ao 1 34 (.call (.k (.c (.fn 21 []))) [(.t 33)]),
  ao 2 32 (.mv (.t 34)),
  ao 3 35 (.ext 0 (.t 32)),
  ao 4 36 (.ext 1 (.t 32)),
  ao 5 10 (.alloc 26 [(.v (.s (.int .i64 0))), (.v (.s (.int .i64 0))), (.v (.s (.int .i64 0))), (.v (.s (.int .i64 0))), (.v (.s (.int .i64 0))), .nil0, .nil0, (.v (.s (.int .i64 0))), .nil0, (.v (.s (.int .i64 0))), .nil0, (.v (.s (.int .i64 0))), .nil0, (.v (.s (.int .i64 0))), .nil0, (.v (.s (.int .i64 0))), .nil0, (.v (.s (.int .i64 0)))]),
  an 6 (.st 18 (.t 10) (.t 35)),
  ao 7 11 (.mv (.t 36))]
def r5_11 : List AOper := [ao 0 37 (.mv (.t 11)),
  ao 1 38 (.mv (.t 8)),
  ao 2 39 (.binB .neq (.t 37) (.t 38)),
  ao 3 40 (.mv (.t 39)),
  ag 4 41 40 false [] (.ld 18 true (.t 10)),
  ag 5 42 40 false [] (.ld 18 true (.t 7)),
  ag 6 43 40 false [] (.call (.k (.c (.fn 22 []))) [(.t 41), (.t 42)]),
  ag 7 44 40 false [] (.un .not (.t 43)),
  ao 8 45 (.pick (.t 40) (.k (.b true)) (.t 44))]
def r5_12 : List AOper := [ao 0 4 (.mv (.k (.b false)))]
def c5_13 : ACode := .seq (.reg r5_12) .ret
def c5_14 : ACode := .cond (.t 45) c5_13 .skip
def c5_15 : ACode := .seq (.reg r5_11) c5_14
def r5_16 : List AOper := [ao 0 46 (.mv (.t 11)),
  ao 1 47 (.un .not (.t 46))]
def r5_17 : List AOper := [ao 0 48 (.fa 0 (.t 10)),
  ao 1 49 (.ld 1 false (.t 48)),
  ao 2 50 (.bin .eql (.t 49) (.k (.i 0))),
  ao 3 4 (.mv (.t 50))]
def c5_18 : ACode := .seq (.reg r5_17) .ret
def c5_19 : ACode := .cond (.t 47) c5_18 .skip
def c5_20 : ACode := .seq (.reg r5_16) c5_19
def r5_21 : List AOper := [ao 0 51 (.ld 18 true (.t 10)),
  ao 1 52 (.call (.k (.c (.fn 12 []))) [(.t 51)]),
  ao 2 53 (.un .not (.t 52)),
  ao 3 54 (.mv (.t 53)),
  ag 4 55 54 false [] (.ld 18 true (.t 10)),
  ag 5 56 54 false [] (.call (.k (.c (.fn 13 []))) [(.t 55)]),
  ag 6 57 54 false [] (.mv (.t 9)),
  ag 7 58 54 false [] (.bin .geq (.t 56) (.t 57)),
  ao 8 59 (.pick (.t 54) (.k (.b true)) (.t 58))]
def r5_22 : List AOper := [ao 0 4 (.mv (.k (.b false)))]
def c5_23 : ACode := .seq (.reg r5_22) .ret
def c5_24 : ACode := .cond (.t 59) c5_23 .skip
def c5_25 : ACode := .seq (.reg r5_21) c5_24
def r5_26 : List AOper := [ao 0 60 (.ld 18 true (.t 10)),
  ao 1 61 (.mv (.t 6)),
  ao 2 62 (.mv (.t 9)),
  ao 3 63 (.call (.k (.c (.fn 18 []))) [(.t 60), (.t 61), (.t 62)]),
  ao 4 12 (.alloc 26 [(.v (.s (.int .i64 0))), (.v (.s (.int .i64 0))), (.v (.s (.int .i64 0))), (.v (.s (.int .i64 0))), (.v (.s (.int .i64 0))), .nil0, .nil0, (.v (.s (.int .i64 0))), .nil0, (.v (.s (.int .i64 0))), .nil0, (.v (.s (.int .i64 0))), .nil0, (.v (.s (.int .i64 0))), .nil0, (.v (.s (.int .i64 0))), .nil0, (.v (.s (.int .i64 0)))]),
  an 5 (.st 18 (.t 12) (.t 63))]
def r5_27 : List AOper := [ao 0 64 (.ld 18 true (.t 12)),
  ao 1 65 (.call (.k (.c (.fn 14 []))) [(.t 64)]),
  ao 2 66 (.mv (.t 65)),
  ag 3 67 66 true [] (.fa 14 (.t 12)),
  ag 4 68 66 true [] (.ld 1 false (.t 67)),
  ag 5 69 66 true [] (.fa 14 (.t 5)),
  ag 6 70 66 true [] (.ld 1 false (.t 69)),
  ag 7 71 66 true [] (.call (.k (.c (.fn 23 []))) [(.t 68), (.t 70)]),
  ao 8 72 (.pick (.t 66) (.t 71) (.k (.b false))),
  ao 9 4 (.mv (.t 72))]
def c5 : ACode := .seq (.reg r5_0) (.seq c5_5 (.seq (.reg r5_6) (.seq (.reg r5_7) (.seq (.reg r5_8) (.seq (.reg r5_9) (.seq (.reg r5_10) (.seq c5_15 (.seq c5_20 (.seq c5_25 (.seq (.reg r5_26) (.seq (.reg r5_27) .ret)))))))))))
def s5 : List ARes := [.tmp 4]
theorem ok5 : okF Tryz.prog 5 73 c5 s5 := ⟨Tryz.f5, Tryz.func5, Tryz.ntmps5, by kernel_rfl, by kernel_rfl, by kernel_rfl⟩
def UGj_7 := Bx.mk <|
  aN (uA c5.eq_1) <| aN (uR r5_0.eq_1) <| aN (uA c5_5.eq_1) <| aN (uR r5_1.eq_1) <| aN (uA c5_4.eq_1) <| aN (uA c5_3.eq_1) <| aN (uR r5_2.eq_1) <| aN (uR r5_6.eq_1) <| aN (uR r5_7.eq_1) <| aN (uR r5_8.eq_1) <| aN (uR r5_9.eq_1) <| aN (uR r5_10.eq_1) <| aN (uA c5_15.eq_1) <| aN (uR r5_11.eq_1) <| aN (uA c5_14.eq_1) <| aN (uA c5_13.eq_1) <| aN (uR r5_12.eq_1) <| aN (uA c5_20.eq_1) <| aN (uR r5_16.eq_1) <| aN (uA c5_19.eq_1) <| aN (uA c5_18.eq_1) <| aN (uR r5_17.eq_1) <| aN (uA c5_25.eq_1) <| aN (uR r5_21.eq_1) <| aN (uA c5_24.eq_1) <| aN (uA c5_23.eq_1) <| aN (uR r5_22.eq_1) <| aN (uR r5_26.eq_1) <| aN (uR r5_27.eq_1) <| s5.eq_1
set_option maxRecDepth 8000 in
set_option maxHeartbeats 4000000 in
theorem lawCa_ok (bs more : List UInt8) : ACallsF Tryz.prog 5 [.c (.v (.sl (encB bs))), .c (.v (.sl (encB more)))] [] (.b true) := by
  obtain ⟨w, hs, Cd⟩ := drawCancel_ok bs
  obtain ⟨ps, hps, Cp⟩ := drawPicks_ok more
  obtain ⟨x, hx, C3⟩ := crewLeftS_ok w
  refine ACallsF.intro ok5 follows fun X c0 => ?_
  by_cases hl : (bs.length : Int) > 1048576
  · simp only [RZ, reduceAdd, reduceIte, reduceEqDiff, reduceLT, reduceLeDiff, reduceCtorEq, Nat.reduceBEq, UGj_7.d, encB_len, hl]
  by_cases hl2 : (more.length : Int) > 1048576
  · simp only [RZ, reduceAdd, reduceIte, reduceEqDiff, reduceLT, reduceLeDiff, reduceCtorEq, Nat.reduceBEq, UGj_7.d, encB_len, hl, hl2]
  simp only [RZ, reduceAdd, reduceIte, reduceEqDiff, reduceLT, reduceLeDiff, reduceCtorEq, Nat.reduceBEq, UGj_7.d, encB_len, hl, hl2]
  refine callC Cd rfl rfl rfl rfl ?_
  simp only [RZ, reduceAdd, reduceIte, reduceEqDiff, reduceLT, reduceLeDiff, reduceCtorEq, Nat.reduceBEq, UGj_7.d, encB_len, hl, hl2]
  refine callC Cp rfl rfl rfl rfl ?_
  simp only [RZ, reduceAdd, reduceIte, reduceEqDiff, reduceLT, reduceLeDiff, reduceCtorEq, Nat.reduceBEq, UGj_7.d, encB_len, hl, hl2]
  by_cases hc : WOk w ∧ w.user ≠ 1
  rotate_left
  · refine callC (cancelS_no hc) rfl rfl rfl rfl ?_
    simp only [RZ, reduceAdd, reduceIte, reduceEqDiff, reduceLT, reduceLeDiff, reduceCtorEq, Nat.reduceBEq, UGj_7.d, encB_len, hl, hl2]
    refine callC C3 rfl rfl rfl rfl ?_
    simp only [RZ, reduceAdd, reduceIte, reduceEqDiff, reduceLT, reduceLeDiff, reduceCtorEq, Nat.reduceBEq, UGj_7.d, encB_len, hl, hl2]
    refine callZ (ws := []) (ns := []) (cancelI_no hs hc) rfl rfl rfl (fun _ => rfl) rfl ⟨rfl, ?_⟩
    simp only [RZ, reduceAdd, reduceIte, reduceEqDiff, reduceLT, reduceLeDiff, reduceCtorEq, Nat.reduceBEq, UGj_7.d, encB_len, hl, hl2, Bool.not_true, Bool.not_false]
    refine callS (ws := []) (ns := []) (lwWorld_ok (w := cw0) ⟨by decide, by decide, by decide, by decide, by decide, by decide, by decide⟩) rfl rfl rfl rfl rfl ⟨rfl, ?_⟩
    simp only [RZ, reduceAdd, reduceIte, reduceEqDiff, reduceLT, reduceLeDiff, reduceCtorEq, Nat.reduceBEq, UGj_7.d, encB_len, hl, hl2, Bool.not_true, Bool.not_false]
  obtain ⟨ok, hu⟩ := hc
  obtain rfl := hx.1 ok
  have hg := cancel_good ok hu
  have ok2 := hg.ok ok
  have hless := hg.less
  have hsm := ok2.form.small
  have hlb := left_bd ok.form
  have CS := cancelS_yes ok hu
  have CI := cancelI_yesC ok hu
  have hgot : (cancelW w).got = w.got := rfl
  have husr : (cancelW w).user = 1 := rfl
  obtain ⟨b1, hb1, D1⟩ := crewOkI_ok hsm
  obtain rfl : b1 = true := hb1.2 ok2
  obtain ⟨x1, hx1, D2⟩ := crewLeftI_ok hsm
  obtain rfl := hx1.1 ok2
  obtain ⟨e, he, D3⟩ := lwEnd_ok ok2 ps (by omega) (left w) (by omega)
  have hes := he.1.form.small
  obtain ⟨b2, hb2, D4⟩ := crewEnded_ok hes
  obtain rfl : b2 = true := hb2.2 ⟨he.1, he.2.1⟩
  have hgg : e.got = w.got := (he.2.2 husr).trans hgot
  have D5 := lwInts_ok e.got hes.t
  generalize cancelW w = y at *
  have k2 : ¬ left y ≥ left w := by omega
  refine callC CS rfl rfl rfl rfl ?_
  simp only [RZ, reduceAdd, reduceIte, reduceEqDiff, reduceLT, reduceLeDiff, reduceCtorEq, Nat.reduceBEq, UGj_7.d, encB_len, hl, hl2]
  refine callC C3 rfl rfl rfl rfl ?_
  simp only [RZ, reduceAdd, reduceIte, reduceEqDiff, reduceLT, reduceLeDiff, reduceCtorEq, Nat.reduceBEq, UGj_7.d, encB_len, hl, hl2]
  refine callC CI rfl rfl rfl rfl ?_
  simp only [RZ, reduceAdd, reduceIte, reduceEqDiff, reduceLT, reduceLeDiff, reduceCtorEq, Nat.reduceBEq, UGj_7.d, encB_len, hl, hl2, Bool.not_true, Bool.not_false]
  refine callC (lwWorld_ok hsm) rfl rfl rfl rfl ?_
  simp only [RZ, reduceAdd, reduceIte, reduceEqDiff, reduceLT, reduceLeDiff, reduceCtorEq, Nat.reduceBEq, UGj_7.d, encB_len, hl, hl2, Bool.not_true, Bool.not_false]
  refine callC D1 rfl rfl rfl rfl ?_
  simp only [RZ, reduceAdd, reduceIte, reduceEqDiff, reduceLT, reduceLeDiff, reduceCtorEq, Nat.reduceBEq, UGj_7.d, encB_len, hl, hl2, Bool.not_true, Bool.not_false]
  refine callC D2 rfl rfl rfl rfl ?_
  simp only [RZ, reduceAdd, reduceIte, reduceEqDiff, reduceLT, reduceLeDiff, reduceCtorEq, Nat.reduceBEq, UGj_7.d, encB_len, hl, hl2, Bool.not_true, Bool.not_false, k2]
  refine callC D3 rfl rfl rfl rfl ?_
  simp only [RZ, reduceAdd, reduceIte, reduceEqDiff, reduceLT, reduceLeDiff, reduceCtorEq, Nat.reduceBEq, UGj_7.d, encB_len, hl, hl2, Bool.not_true, Bool.not_false]
  refine callC D4 rfl rfl rfl rfl ?_
  simp only [RZ, reduceAdd, reduceIte, reduceEqDiff, reduceLT, reduceLeDiff, reduceCtorEq, Nat.reduceBEq, UGj_7.d, encB_len, hl, hl2, Bool.not_true, Bool.not_false]
  refine callC D5 rfl (by rw [hgg]; rfl) rfl rfl ?_
  simp only [RZ, reduceAdd, reduceIte, reduceEqDiff, reduceLT, reduceLeDiff, reduceCtorEq, Nat.reduceBEq, UGj_7.d, encB_len, hl, hl2, Bool.not_true, Bool.not_false]
end Go.V

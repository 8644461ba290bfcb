/- It is proved that the law FnCrewStep returns true for every input and leaves its input as it was; no condition. -/
import Derived.Test.YtlajnafcfngkaaaSC5
set_option linter.unusedSimpArgs false
namespace Go.V
open Go.Proofs
/- (*loop.example/teagle/spec.l6Rd).pick -/
def r35_0 : List AOper := [ao 0 4 (.mv (.k (.i 0)))]
def r35_1 : List AOper := [ao 0 7 (.mv (.t 0)),
  ao 1 8 (.mv (.t 0)),
  ao 2 9 (.nck (.t 8)),
  ao 3 10 (.fa 1 (.t 9)),
  ao 4 11 (.ld 1 false (.t 10)),
  ao 5 12 (.bin .add (.t 11) (.k (.i 1))),
  ao 6 13 (.nck (.t 7)),
  ao 7 14 (.fa 1 (.t 13)),
  an 8 (.st 1 (.t 14) (.t 12))]
def r35_2 : List AOper := [ao 0 15 (.mv (.t 1)),
  ao 1 16 (.bin .lss (.t 15) (.k (.i 1))),
  ao 2 17 (.mv (.t 16)),
  ag 3 18 17 false [] (.mv (.t 0)),
  ag 4 19 17 false [] (.nck (.t 18)),
  ag 5 20 17 false [] (.fa 0 (.t 19)),
  ag 6 21 17 false [] (.ld 1 false (.t 20)),
  ag 7 22 17 false [] (.len (.t 21)),
  ag 8 23 17 false [] (.bin .eql (.t 22) (.k (.i 0))),
  ao 9 24 (.pick (.t 17) (.k (.b true)) (.t 23))]
def r35_3 : List AOper := [ao 0 4 (.mv (.k (.i 0)))]
def c35_4 : ACode := .seq (.reg r35_3) .ret
def c35_5 : ACode := .cond (.t 24) c35_4 .skip
def c35_6 : ACode := .seq (.reg r35_2) c35_5
def r35_7 : List AOper := [ao 0 25 (.mv (.t 0)),
  ao 1 26 (.nck (.t 25)),
  ao 2 27 (.fa 1 (.t 26)),
  ao 3 28 (.ld 1 false (.t 27)),
  ao 4 29 (.bin .sub (.t 28) (.k (.i 1))),
  ao 5 5 (.mv (.t 29))]
def r35_8 : List AOper := [ao 0 30 (.mv (.t 5)),
  ao 1 31 (.mv (.t 0)),
  ao 2 32 (.nck (.t 31)),
  ao 3 33 (.fa 0 (.t 32)),
  ao 4 34 (.ld 1 false (.t 33)),
  ao 5 35 (.len (.t 34)),
  ao 6 36 (.bin .lss (.t 30) (.t 35))]
def r35_9 : List AOper := [ao 0 37 (.mv (.t 0)),
  ao 1 38 (.nck (.t 37)),
  ao 2 39 (.fa 0 (.t 38)),
  ao 3 40 (.ld 1 false (.t 39)),
  ao 4 41 (.mv (.t 5)),
  ao 5 42 (.ia 1 (.t 40) (.t 41)),
  ao 6 43 (.ld 1 false (.t 42)),
  ao 7 44 (.cnvI .i64 (.t 43)),
  ao 8 45 (.mv (.t 1)),
  ao 9 46 (.bin .rem (.t 44) (.t 45)),
  ao 10 4 (.mv (.t 46))]
def c35_10 : ACode := .seq (.reg r35_9) .ret
def c35_11 : ACode := .cond (.t 36) c35_10 .skip
def c35_12 : ACode := .seq (.reg r35_8) c35_11
def r35_13 : List AOper := [ao 0 47 (.mv (.t 0)),
  ao 1 48 (.nck (.t 47)),
  ao 2 49 (.fa 0 (.t 48)),
  ao 3 50 (.ld 1 false (.t 49)),
  au 4 51 (ru 4) (.mv (.t 5)),
  au 5 52 (ru 5) (.mv (.t 0)),
  au 6 53 (ru 5) (.nck (.t 52)),
  au 7 54 (ru 5) (.fa 0 (.t 53)),
  au 8 55 (ru 5) (.ld 1 false (.t 54)),
  au 9 56 (ru 5) (.len (.t 55)),
  au 10 57 (ru 4) (.bin .rem (.t 51) (.t 56)),
  ao 11 58 (.ia 1 (.t 50) (.t 57)),
  ao 12 59 (.ld 1 false (.t 58)),
  ao 13 60 (.cnvI .i64 (.t 59)),
  ao 14 61 (.bin .mul (.t 60) (.k (.i 131))),
  au 15 62 (ru 15) (.mv (.t 0)),
  au 16 63 (ru 15) (.nck (.t 62)),
  au 17 64 (ru 15) (.fa 0 (.t 63)),
  au 18 65 (ru 15) (.ld 1 false (.t 64)),
  au 19 66 (ru 19) (.mv (.t 5)),
  au 20 67 (ru 19) (.bin .mul (.t 66) (.k (.i 7))),
  au 21 68 (ru 19) (.bin .add (.t 67) (.k (.i 3))),
  au 22 69 (ru 22) (.mv (.t 0)),
  au 23 70 (ru 22) (.nck (.t 69)),
  au 24 71 (ru 22) (.fa 0 (.t 70)),
  au 25 72 (ru 22) (.ld 1 false (.t 71)),
  au 26 73 (ru 22) (.len (.t 72)),
  au 27 74 (ru 19) (.bin .rem (.t 68) (.t 73)),
  au 28 75 (ru 15) (.ia 1 (.t 65) (.t 74)),
  au 29 76 (ru 15) (.ld 1 false (.t 75)),
  au 30 77 (ru 15) (.cnvI .i64 (.t 76)),
  au 31 78 (ru 15) (.bin .mul (.t 77) (.k (.i 1117))),
  ao 32 79 (.bin .add (.t 61) (.t 78)),
  au 33 80 (ru 33) (.mv (.t 5)),
  au 34 81 (ru 33) (.bin .mul (.t 80) (.k (.i 29))),
  ao 35 82 (.bin .add (.t 79) (.t 81)),
  au 36 83 (ru 36) (.mv (.t 5)),
  au 37 84 (ru 37) (.mv (.t 0)),
  au 38 85 (ru 37) (.nck (.t 84)),
  au 39 86 (ru 37) (.fa 0 (.t 85)),
  au 40 87 (ru 37) (.ld 1 false (.t 86)),
  au 41 88 (ru 37) (.len (.t 87)),
  au 42 89 (ru 36) (.bin .quo (.t 83) (.t 88)),
  au 43 90 (ru 36) (.bin .mul (.t 89) (.k (.i 53))),
  ao 44 91 (.bin .add (.t 82) (.t 90)),
  ao 45 6 (.mv (.t 91))]
def r35_14 : List AOper := [ao 0 92 (.mv (.t 6)),
  ao 1 93 (.mv (.t 6)),
  ao 2 94 (.bin .quo (.t 93) (.k (.i 64))),
  ao 3 95 (.bin .xor (.t 92) (.t 94)),
  ao 4 6 (.mv (.t 95))]
def r35_15 : List AOper := [ao 0 96 (.mv (.t 6)),
  ao 1 97 (.mv (.t 1)),
  ao 2 98 (.bin .rem (.t 96) (.t 97)),
  ao 3 4 (.mv (.t 98))]
def c35 : ACode := .seq (.reg r35_0) (.seq (.reg r35_1) (.seq c35_6 (.seq (.reg r35_7) (.seq c35_12 (.seq (.reg r35_13) (.seq (.reg r35_14) (.seq (.reg r35_15) .ret)))))))
def s35 : List ARes := [.tmp 4]
theorem ok35 : okF Try.prog 35 99 c35 s35 := ⟨Try.f35, Try.func35, Try.ntmps35, by kernel_rfl, by kernel_rfl, by kernel_rfl⟩
def encB (bs : List UInt8) : List (List V) := bs.map fun b => [.s (.int .u8 b.toNat)]
theorem encB_len (bs : List UInt8) : (encB bs).length = bs.length := by simp [encB]
theorem encB_at {bs : List UInt8} {i : Nat} {b : UInt8} (h : bs[i]? = some b) : (encB bs)[i]? = some [.s (.int .u8 b.toNat)] := by simp [encB, h]
/-- The reader: its bytes, and the place. -/
abbrev rdC (bs : List UInt8) (p : Int) : List C := [.v (.sl (encB bs)), .v (.s (.int .i64 p))]
abbrev rdr (v : Nat) (bs : List UInt8) (p : Int) : Blk := .var v 80 (rdC bs p)
abbrev rH (v : Nat) (bs : List UInt8) (p p' : Int) : Hand := rV v 80 (rdC bs p) (rdC bs p')
theorem xor_nonneg {a b : Int} (ha : 0 ≤ a ∧ a ≤ 9223372022854775807) (hb : 0 ≤ b ∧ b ≤ 9223372022854775807) : 0 ≤ IntKind.i64.wrap ((BitVec.ofInt IntKind.i64.bits a ^^^ BitVec.ofInt IntKind.i64.bits b).toNat : Int) := by
  have h1 : (BitVec.ofInt 64 a).toNat < 2 ^ 63 := by rw [BitVec.toNat_ofInt]; omega
  have h2 : (BitVec.ofInt 64 b).toNat < 2 ^ 63 := by rw [BitVec.toNat_ofInt]; omega
  have h3 : (BitVec.ofInt 64 a ^^^ BitVec.ofInt 64 b).toNat < 2 ^ 63 := by rw [BitVec.toNat_xor]; exact Nat.xor_lt_two_pow h1 h2
  show 0 ≤ IntKind.i64.wrap ((BitVec.ofInt 64 a ^^^ BitVec.ofInt 64 b).toNat : Int)
  rw [wrap64 (by omega)]
  omega
def UEm_1 := Bx.mk <|
  aN (uA c35.eq_1) <| aN (uR r35_0.eq_1) <| aN (uR r35_1.eq_1) <| aN (uA c35_6.eq_1) <| aN (uR r35_2.eq_1) <| aN (uA c35_5.eq_1) <| aN (uA c35_4.eq_1) <| aN (uR r35_3.eq_1) <| aN (uR r35_7.eq_1) <| aN (uA c35_12.eq_1) <| aN (uR r35_8.eq_1) <| aN (uA c35_11.eq_1) <| aN (uA c35_10.eq_1) <| aN (uR r35_9.eq_1) <| aN (uR r35_13.eq_1) <| aN (uR r35_14.eq_1) <| aN (uR r35_15.eq_1) <| s35.eq_1
set_option maxRecDepth 100000 in
theorem pick_ok (bs : List UInt8) (hb : bs.length ≤ 2000) (p n : Int) (hp : 0 ≤ p ∧ p ≤ 1000000000000) (hn : 0 < n ∧ n ≤ 9223372022854775807) : ∃ k : Int, 0 ≤ k ∧ k < n ∧ ∀ v, ACallsF Try.prog 35 [rP v, .i n] [rH v bs p (p + 1)] (.i k) := by
  have hw : IntKind.i64.wrap (p + 1) = p + 1 := wrap64 (by omega)
  have hw2 : IntKind.i64.wrap (p + 1 - 1) = p := (wrap64 (x := p + 1 - 1) ⟨by omega, by omega⟩).trans (by omega)
  have h1 : ¬ n < 1 := by omega
  have hn0 : ¬ n = 0 := by omega
  by_cases hb0 : bs.length = 0
  · refine ⟨0, by omega, by omega, fun v => ACallsF.intro ok35 follows fun X c0 => ?_⟩
    have hbz : ((bs.length : Int) == 0) = true := by simp [hb0]
    simp only [RUX, Nat.reduceAdd, reduceIte, Nat.reduceEqDiff, Nat.reduceLT, Nat.reduceLeDiff, reduceCtorEq, eq_self, FIX, forall_const, endE_n, endE_r, rH, rV, rdC, rdr, UEm_1.d, encB_len, hw, hw2, h1, hbz]
  · have hbz : ((bs.length : Int) == 0) = false := beq_eq_false_iff_ne.2 (by omega)
    by_cases hlt : p < bs.length
    · have hp0 := hp.1
      obtain ⟨i, rfl⟩ : ∃ i : Nat, p = i := ⟨p.toNat, (Int.toNat_of_nonneg hp0).symm⟩
      have hi : i < bs.length := by omega
      have e1 := encB_at (List.getElem?_eq_getElem hi)
      have hr := Int.emod_lt_of_pos (bs[i].toNat : Int) hn.1
      have hr2 := Int.emod_nonneg (bs[i].toNat : Int) hn0
      have hu : ((bs[i].toNat : Int)) < 256 := by have := bs[i].toNat_lt; omega
      have hwu : IntKind.i64.wrap (bs[i].toNat : Int) = bs[i].toNat := wrap64 (by omega)
      refine ⟨(bs[i].toNat : Int) % n, hr2, hr, fun v => ACallsF.intro ok35 follows fun X c0 => ?_⟩
      have ht : (bs[i].toNat : Int).tmod n = (bs[i].toNat : Int) % n := Int.tmod_eq_emod_of_nonneg (by omega)
      simp only [RUX, Nat.reduceAdd, reduceIte, Nat.reduceEqDiff, Nat.reduceLT, Nat.reduceLeDiff, reduceCtorEq, eq_self, FIX, forall_const, endE_n, endE_r, rH, rV, rdC, rdr, UEm_1.d, encB_len, hw, hw2, h1, hbz, hlt, e1, hp0, Int.toNat_natCast, hwu, hn0, ht]
    · have hp0 := hp.1
      obtain ⟨k, rfl⟩ : ∃ i : Nat, p = i := ⟨p.toNat, (Int.toNat_of_nonneg hp0).symm⟩
      obtain ⟨l, hl⟩ : ∃ l : Nat, bs.length = l := ⟨_, rfl⟩
      rw [hl] at hb hb0 hbz hlt
      obtain ⟨q, hq⟩ : ∃ q : Nat, k / l = q := ⟨_, rfl⟩
      have hql : q ≤ k := by rw [← hq]; exact Nat.div_le_self _ _
      have t1 : (k : Int).tmod l = ((k % l : Nat) : Int) := rfl
      have t2 : ((k : Int) * 7 + 3).tmod l = (((k * 7 + 3) % l : Nat) : Int) := rfl
      have t3 : (k : Int).tdiv l = (q : Int) := by rw [← hq]; rfl
      have hl0 : ¬ (l : Int) = 0 := by omega
      obtain ⟨i, hi⟩ : ∃ i : Nat, k % l = i := ⟨_, rfl⟩
      obtain ⟨j, hj⟩ : ∃ j : Nat, (k * 7 + 3) % l = j := ⟨_, rfl⟩
      rw [hi] at t1
      rw [hj] at t2
      have hi2 : i < bs.length := by rw [← hi, hl]; exact Nat.mod_lt _ (by omega)
      have hj2 : j < bs.length := by rw [← hj, hl]; exact Nat.mod_lt _ (by omega)
      have e1 := encB_at (List.getElem?_eq_getElem hi2)
      have e2 := encB_at (List.getElem?_eq_getElem hj2)
      have hu1 := bs[i].toNat_lt
      have hu2 := bs[j].toNat_lt
      generalize bs[i].toNat = a at e1 hu1
      generalize bs[j].toNat = b at e2 hu2
      obtain ⟨x, hx⟩ : ∃ x : Int, (a : Int) * 131 + (b : Int) * 1117 + (k : Int) * 29 + (q : Int) * 53 = x := ⟨_, rfl⟩
      have hx0 : 0 ≤ x ∧ x ≤ 100000000000000 := by omega
      have t4 : IntKind.i64.wrap (x.tdiv 64) = x / 64 := IntWalk.i64_quo x 64 (by omega)
      obtain ⟨y, hy⟩ : ∃ y : Int, IntKind.i64.wrap ((BitVec.ofInt IntKind.i64.bits x ^^^ BitVec.ofInt IntKind.i64.bits (x / 64)).toNat : Int) = y := ⟨_, rfl⟩
      have hy0 : 0 ≤ y := by rw [← hy]; exact xor_nonneg (by omega) (by omega)
      have t5 : y.tmod n = y % n := Int.tmod_eq_emod_of_nonneg hy0
      have hz1 : (0 : Int) ≤ i := by omega
      have hz2 : (0 : Int) ≤ j := by omega
      have hz3 : ¬ (64 : Int) = 0 := by omega
      obtain ⟨p0, hp1⟩ : ∃ p0 : Int, (k : Int) + 1 = p0 := ⟨_, rfl⟩
      rw [hp1] at hw
      have w0 : IntKind.i64.wrap (p0 - 1) = k := by rw [← hp1]; exact (wrap64 ⟨by omega, by omega⟩).trans (by omega)
      have w1 : IntKind.i64.wrap (a : Int) = a := wrap64 ⟨by omega, by omega⟩
      have w2 : IntKind.i64.wrap ((a : Int) * 131) = (a : Int) * 131 := wrap64 ⟨by omega, by omega⟩
      have w3 : IntKind.i64.wrap ((k : Int) * 7) = (k : Int) * 7 := wrap64 ⟨by omega, by omega⟩
      have w4 : IntKind.i64.wrap ((k : Int) * 7 + 3) = (k : Int) * 7 + 3 := wrap64 ⟨by omega, by omega⟩
      have w5 : IntKind.i64.wrap (b : Int) = b := wrap64 ⟨by omega, by omega⟩
      have w6 : IntKind.i64.wrap ((b : Int) * 1117) = (b : Int) * 1117 := wrap64 ⟨by omega, by omega⟩
      have w7 : IntKind.i64.wrap ((a : Int) * 131 + (b : Int) * 1117) = (a : Int) * 131 + (b : Int) * 1117 := wrap64 ⟨by omega, by omega⟩
      have w8 : IntKind.i64.wrap ((k : Int) * 29) = (k : Int) * 29 := wrap64 ⟨by omega, by omega⟩
      have w9 : IntKind.i64.wrap ((a : Int) * 131 + (b : Int) * 1117 + (k : Int) * 29) = (a : Int) * 131 + (b : Int) * 1117 + (k : Int) * 29 := wrap64 ⟨by omega, by omega⟩
      have w10 : IntKind.i64.wrap (q : Int) = q := wrap64 ⟨by omega, by omega⟩
      have w11 : IntKind.i64.wrap ((q : Int) * 53) = (q : Int) * 53 := wrap64 ⟨by omega, by omega⟩
      have w12 : IntKind.i64.wrap x = x := wrap64 ⟨by omega, by omega⟩
      refine ⟨y % n, Int.emod_nonneg _ hn0, Int.emod_lt_of_pos _ hn.1, fun v => ACallsF.intro ok35 follows fun X c0 => ?_⟩
      simp only [RUX, Nat.reduceAdd, reduceIte, Nat.reduceEqDiff, Nat.reduceLT, Nat.reduceLeDiff, reduceCtorEq, eq_self, FIX, forall_const, endE_n, endE_r, rH, rV, rdC, rdr, UEm_1.d, encB_len, hl, hw, w0, hp1, h1, hbz, hlt, hl0, t1, t2, t3, e1, e2, hz1, hz2, Int.toNat_natCast, w1, w2, w3, w4, w5, w6, w7, w8, w9, w10, w11, hn0, hx, w12, t4, hy, t5, hz3]

section
variable {t : Nat → T} {H : HMap} {c : Nat} {f : Opd} {args : List Opd} {fid : FuncId} {v : Nat} {bs : List UInt8} {p p' : Int} {argsC : List T} {ws : List (Nat × Blk)} {ns : List Nat} {r : T} {k : Nat} {d : Option Nat} {un : List Nat} {l : List AOper} {prev : List (Nat × List Nat × List Nat)} {K : St → Prop}
theorem callR (hC : ACallsF Try.prog fid (rP v :: argsC) [rH v bs p p'] r) (hf : ev t f = .pt (.one (.fn fid []))) (hl : lendTs H (rP v :: argsC) (args.map (ev t)) = some (rP v :: argsC, ws, ns))
    (ha : argsC.all closedA = true) (hr : closedT r = true) (hH : updH H ws 1000 = some (rdr v bs p))
    (hk : chk prev un ⟨r, ws ++ [(1000, rdr v bs p')], ns ++ [1000], ns ++ [1000]⟩ = true ∧ DRun Try.prog l ((k, ns ++ [1000], ns ++ [1000]) :: prev) K ⟨updD t d r, updH H (ws ++ [(1000, rdr v bs p')]), c⟩) :
    step Try.prog k d un (.call f args) l prev K t H c :=
  callV (n := 1000) (v := v) (ty := 80) (xs := [.sl (encB bs), .s (.int .i64 p)]) (ys := [.sl (encB bs), .s (.int .i64 p')]) hC hf hl ha hr hH hk
/-- .. where the arguments are closed already. -/
theorem callRc (hC : ACallsF Try.prog fid (rP v :: argsC) [rH v bs p p'] r) (hf : ev t f = .pt (.one (.fn fid []))) (hl : args.map (ev t) = rP v :: argsC)
    (ha : argsC.all closedA = true) (hr : closedT r = true) (hH : H 1000 = some (rdr v bs p))
    (hk : chk prev un ⟨r, [(1000, rdr v bs p')], [1000], [1000]⟩ = true ∧ DRun Try.prog l ((k, [1000], [1000]) :: prev) K ⟨updD t d r, upd H 1000 (some (rdr v bs p')), c⟩) :
    step Try.prog k d un (.call f args) l prev K t H c := by
  refine callR (ws := []) (ns := []) hC hf ?_ ha hr hH hk
  rw [hl]
  simp only [lendTs, rP, lendT, lendC, Option.map_some, (closed_As [] H argsC ha).1, List.append_nil]
end
/-- What comes of a function that draws: so many bytes are read at most, the result is such as S says. -/
def RC (f : Nat) (args : List T) (bs : List UInt8) (p k : Int) {α : Type} (S : α → Prop) (r : α → T) : Prop := ∃ (q : Int) (a : α), p ≤ q ∧ q ≤ p + k ∧ S a ∧ ∀ v, ACallsF Try.prog f (rP v :: args) [rH v bs p q] (r a)
abbrev endR {α : Type} (p k : Int) (S : α → Prop) (r : α → T) (bs : List UInt8) (rs : List ARes) : Exit → St → Prop := endE (α := Int × α) (fun x => p ≤ x.1 ∧ x.1 ≤ p + k ∧ S x.2) (fun x => r x.2) (fun x => [rH 0 bs p x.1]) rs
theorem RC.intro {f n : Nat} {ac : ACode} {rs : List ARes} {args : List T} {bs : List UInt8} {p k : Int} {α : Type} {S : α → Prop} {r : α → T} (ho : okF Try.prog f n ac rs) (ha : args.all closedA = true) (hr : ∀ a, closedT (r a) = true)
    (h : ∀ X : Ctx, wpa Try.prog X ac (endR p k S r bs rs) ⟨argsT (rP 0 :: args), hinOf [rH 0 bs p p], 1⟩) : RC f args bs p k S r := by
  obtain ⟨⟨q, a⟩, ⟨h1, h2, h3⟩, h4⟩ := ACallsF.exR (α := Int × α) (cs' := fun x => rdC bs x.1) (fun x => p ≤ x.1 ∧ x.1 ≤ p + k ∧ S x.2) ho follows ha (fun a _ => hr a.2) rfl (fun _ _ => rfl) h
  exact ⟨q, a, h1, h2, h3, h4⟩
/- loop.example/teagle/spec.l6Open -/
def r32_0 : List AOper := [ao 0 2 (.mv (.k (.s (.pointer none))))]
def r32_1 : List AOper := [ao 0 3 (.mv (.t 0)),
  ao 1 4 (.len (.t 3)),
  ao 2 5 (.bin .gtr (.t 4) (.k (.i 2000)))]
def r32_2 : List AOper := [ao 0 6 (.mv (.t 0)),
  ao 1 7 (.slc 1 (.t 6) none (some (.k (.i 2000)))),
  ao 2 0 (.mv (.t 7))]
def c32_3 : ACode := .cond (.t 5) (.reg r32_2) .skip
def c32_4 : ACode := .seq (.reg r32_1) c32_3
def r32_5 : List AOper := [ao 0 8 (.mv (.t 0)),
  ao 1 9 (.build [.nil0, (.v (.s (.int .i64 0)))] [(0, 1, (.t 8))]),
  ao 2 10 (.box 80 (.t 9)),
  ao 3 2 (.mv (.t 10))]
def c32 : ACode := .seq (.reg r32_0) (.seq c32_4 (.seq (.reg r32_5) .ret))
def s32 : List ARes := [.tmp 2]
theorem ok32 : okF Try.prog 32 11 c32 s32 := ⟨Try.f32, Try.func32, Try.ntmps32, by kernel_rfl, by kernel_rfl, by kernel_rfl⟩
theorem encB_all1 (bs : List UInt8) : (∀ e ∈ encB bs, e.length = 1) = True := eq_true fun e he => by simp only [encB, List.mem_map] at he; obtain ⟨_, _, rfl⟩ := he; rfl
theorem take_encB (bs : List UInt8) (n : Nat) : (encB bs).take n = encB (bs.take n) := by simp [encB, List.map_take]
def UEm_2 := Bx.mk <|
  aN (uA c32.eq_1) <| aN (uR r32_0.eq_1) <| aN (uA c32_4.eq_1) <| aN (uR r32_1.eq_1) <| aN (uA c32_3.eq_1) <| aN (uR r32_2.eq_1) <| aN (uR r32_5.eq_1) <| s32.eq_1
theorem open_ok (bs : List UInt8) : ACallsF Try.prog 32 [.c (.v (.sl (encB bs)))] [⟨10, 1000, none, rdr 0 (bs.take 2000) 0, false⟩] (.c (.ptr 10 0 0)) := by
  refine ACallsF.intro ok32 follows fun X c0 => ?_
  by_cases h : (bs.length : Int) > 2000
  · have h0 : (0 : Int) ≤ 2000 := by omega
    have h1 : (2000 : Int) ≤ bs.length := by omega
    simp only [RUX, Nat.reduceAdd, reduceIte, Nat.reduceEqDiff, Nat.reduceLT, Nat.reduceLeDiff, reduceCtorEq, eq_self, FIX, forall_const, endE_n, endE_r, CHT, disj, Nat.reduceBEq, beq_self_eq_true, APT, APX, forall_eq, ALT, KI, UEm_2.d, encB_len, h, lohi, h0, h1, encB_all1, Int.reduceToNat, Nat.sub_zero, take_encB, rdr, rdC, Int.le_refl, List.drop_zero]
    exact id
  · have ht : bs.take 2000 = bs := List.take_of_length_le (by omega)
    simp only [RUX, Nat.reduceAdd, reduceIte, Nat.reduceEqDiff, Nat.reduceLT, Nat.reduceLeDiff, reduceCtorEq, eq_self, FIX, forall_const, endE_n, endE_r, CHT, disj, Nat.reduceBEq, beq_self_eq_true, APT, APX, forall_eq, ALT, KI, UEm_2.d, encB_len, h, ht, rdr, rdC]
    exact id
theorem callOpen {t : Nat → T} {H : HMap} {c : Nat} {f : Opd} {args : List Opd} {bs : List UInt8} {k : Nat} {d : Option Nat} {un : List Nat} {l : List AOper} {prev : List (Nat × List Nat × List Nat)} {K : St → Prop}
    (hf : ev t f = .pt (.one (.fn 32 []))) (hl : args.map (ev t) = [.c (.v (.sl (encB bs)))])
    (hk : chk prev un ⟨rP (c + k), [(1000, rdr (c + k) (bs.take 2000) 0)], [1000], [1000]⟩ = true ∧ DRun Try.prog l ((k, [1000], [1000]) :: prev) K ⟨updD t d (rP (c + k)), upd H 1000 (some (rdr (c + k) (bs.take 2000) 0)), c⟩) :
    step Try.prog k d un (.call f args) l prev K t H c :=
  callW (r' := rP (c + k)) (ob := [(1000, rdr (c + k) (bs.take 2000) 0)]) [⟨10, 1000, none, rdr 0 (bs.take 2000) 0, false⟩] (open_ok bs) hf (show lendTs H [.c (.v (.sl (encB bs)))] (args.map (ev t) ++ [].map capT) = some ([.c (.v (.sl (encB bs)))], [], []) from by rw [hl]; rfl) rfl (by simp [handsIn]) (by simp) (by simp) rfl rfl hk
end Go.V
set_option linter.unusedVariables false
set_option linter.unusedSimpArgs false
namespace Go.V
open Go.Proofs
/-- The lists of a world are short, and those that must be are not empty. -/
structure Wf (w : CW) : Prop where
  h1 : 1 ≤ w.hands.length
  h : w.hands.length ≤ 200
  g1 : 1 ≤ w.ring.length
  g : w.ring.length ≤ 200
  s : w.shut.length = 4
  q : w.queue.length ≤ 200
  r : w.results.length ≤ 200
  o : w.out.length ≤ 200
  t : w.got.length ≤ 200
theorem Wf.small {w : CW} (h : Wf w) : Small w := by
  obtain ⟨h1, h2, h3, h4, h5, h6, h7, h8, h9⟩ := h
  exact ⟨by omega, by omega, by omega, by omega, by omega, by omega, by omega⟩
theorem Form.wf {w : CW} (h : Form w) : Wf w := by
  have h1 := h.lq
  have h2 := h.lh
  have h3 := h.le
  have h4 := h.lr
  have h5 := h.lo
  have h6 := h.lg
  have h7 := h.ls
  have h8 := h.st.k
  have h9 := h.st.n
  have h10 := h.st.j
  exact ⟨by omega, by omega, by omega, by omega, by omega, by omega, by omega, by omega, by omega⟩
theorem start_wf {j k n : Int} (h : StartOk j k n) : Wf (start j k n) := by
  have hk := h.k
  have hn := h.n
  exact ⟨by simp [start]; omega, by simp [start]; omega, by simp [start]; omega, by simp [start]; omega, rfl, by simp [start], by simp [start], by simp [start], by simp [start]⟩
theorem stepW_wf {w : CW} (f : Form w) (m : Mv) : Wf (stepW w m) := by
  have h1 := f.lq
  have h2 := f.lh
  have h3 := f.le
  have h4 := f.lr
  have h5 := f.lo
  have h6 := f.lg
  have h7 := f.ls
  have h8 := f.st.k
  have h9 := f.st.n
  have h10 := f.st.j
  unfold stepW doR doH doK doC doU
  repeat' split
  all_goals
    constructor <;> simp only [List.length_set, List.length_append, List.length_drop, List.length_singleton, List.length_nil] <;> omega
theorem cancel_wf {w : CW} (f : Form w) : Wf (cancelW w) := by
  obtain ⟨h1, h2, h3, h4, h5, h6, h7, h8, h9⟩ := f.wf
  exact ⟨h1, h2, h3, h4, by show (w.shut.set 3 1).length = 4; rw [List.length_set]; exact h5, h6, h7, h8, h9⟩
theorem wmoves_mem {who : Int} {bs : List Bool} {n : Nat} {m : Mv} (h : m ∈ wmoves who bs n) : m.who = who ∧ 0 ≤ m.way ∧ bs[m.way.toNat]? = some true := by
  simp only [wmoves, List.mem_map, List.mem_filter, List.mem_range] at h
  obtain ⟨k, ⟨h1, h2⟩, rfl⟩ := h
  refine ⟨rfl, by show (0 : Int) ≤ (k : Int); omega, ?_⟩
  rw [Int.toNat_natCast]
  rw [List.getD_eq_getElem?_getD] at h2
  cases hq : bs[k]? with
  | none => rw [hq] at h2; cases h2
  | some b => rw [hq] at h2; rw [show b = true from h2]
theorem moves_can {w : CW} (ok : WOk w) {m : Mv} (h : m ∈ moves w) : Can w m := by
  have hk := ok.form.st.k
  simp only [moves, amoves, List.mem_flatMap, List.mem_range] at h
  obtain ⟨k, h1, h2⟩ := h
  obtain ⟨e1, e2, e3⟩ := wmoves_mem h2
  exact ⟨ok, by rw [e1]; omega, e2, by rw [e1]; exact e3⟩
/- loop.example/teagle/spec.l54World -/
def r59_0 : List AOper := [ao 0 2 (.alloc 29 [(.v (.s (.int .i64 0))), (.v (.s (.int .i64 0))), (.v (.s (.int .i64 0))), (.v (.s (.int .i64 0))), (.v (.s (.int .i64 0))), .nil0, .nil0, (.v (.s (.int .i64 0))), .nil0, (.v (.s (.int .i64 0))), .nil0, (.v (.s (.int .i64 0))), .nil0, (.v (.s (.int .i64 0))), .nil0, (.v (.s (.int .i64 0))), .nil0, (.v (.s (.int .i64 0)))])]
def r59_1 : List AOper := [ao 0 16 (.mv (.t 0)),
  ao 1 17 (.call (.k (.c (.fn 35 []))) [(.t 16), (.k (.i 12))]),
  ao 2 3 (.mv (.t 17))]
def r59_2 : List AOper := [ao 0 18 (.mv (.t 0)),
  ao 1 19 (.call (.k (.c (.fn 35 []))) [(.t 18), (.k (.i 4))]),
  ao 2 20 (.bin .add (.k (.i 1)) (.t 19)),
  ao 3 4 (.mv (.t 20))]
def r59_3 : List AOper := [ao 0 21 (.mv (.t 0)),
  ao 1 22 (.call (.k (.c (.fn 35 []))) [(.t 21), (.k (.i 5))]),
  ao 2 23 (.bin .add (.k (.i 1)) (.t 22)),
  ao 3 5 (.mv (.t 23))]
def r59_4 : List AOper := [ao 0 24 (.mv (.t 0)),
  ao 1 25 (.call (.k (.c (.fn 35 []))) [(.t 24), (.k (.i 12))]),
  ao 2 26 (.bin .eql (.t 25) (.k (.i 0)))]
def r59_5 : List AOper := [ao 0 3 (.mv (.k (.i 60)))]
def r59_6 : List AOper := [ao 0 4 (.mv (.k (.i 8)))]
def r59_7 : List AOper := [ao 0 5 (.mv (.k (.i 16)))]
def c59_8 : ACode := .seq (.reg r59_5) (.seq (.reg r59_6) (.reg r59_7))
def c59_9 : ACode := .cond (.t 26) c59_8 .skip
def c59_10 : ACode := .seq (.reg r59_4) c59_9
def r59_11 : List AOper := [ao 0 28 (.mv (.t 3)),
  ao 1 29 (.mv (.t 4)),
  ao 2 30 (.mv (.t 5)),
  ao 3 31 (.call (.k (.c (.fn 79 []))) [(.t 28), (.t 29), (.t 30)]),
  ao 4 27 (.mv (.t 31)),
  ao 5 32 (.ext 0 (.t 27)),
  ao 6 33 (.ext 1 (.t 27)),
  ao 7 6 (.alloc 29 [(.v (.s (.int .i64 0))), (.v (.s (.int .i64 0))), (.v (.s (.int .i64 0))), (.v (.s (.int .i64 0))), (.v (.s (.int .i64 0))), .nil0, .nil0, (.v (.s (.int .i64 0))), .nil0, (.v (.s (.int .i64 0))), .nil0, (.v (.s (.int .i64 0))), .nil0, (.v (.s (.int .i64 0))), .nil0, (.v (.s (.int .i64 0))), .nil0, (.v (.s (.int .i64 0)))]),
  an 8 (.st 18 (.t 6) (.t 32)),
  ao 9 7 (.mv (.t 33))]
def r59_12 : List AOper := [ao 0 34 (.mv (.t 0)),
  ao 1 35 (.call (.k (.c (.fn 35 []))) [(.t 34), (.k (.i 140))]),
  ao 2 8 (.mv (.t 35))]
def r59_13 : List AOper := [ao 0 36 (.mv (.t 0)),
  ao 1 37 (.call (.k (.c (.fn 35 []))) [(.t 36), (.k (.i 150))]),
  ao 2 9 (.mv (.t 37))]
def r59_14 : List AOper := [ao 0 38 (.mv (.t 0)),
  ao 1 39 (.call (.k (.c (.fn 35 []))) [(.t 38), (.k (.i 4))]),
  ao 2 10 (.mv (.t 39))]
def r59_15 : List AOper := [ao 0 11 (.mv (.k (.i 0)))]
def r59_16 : List AOper := [ao 0 40 (.mv (.t 11)),
  ao 1 41 (.mv (.t 8)),
  ao 2 42 (.bin .lss (.t 40) (.t 41))]
def c59_17 : ACode := .cond (.t 42) .skip (.exit 0)
def c59_18 : ACode := .seq (.reg r59_16) c59_17
def r59_19 : List AOper := [ao 0 45 (.mv (.t 11)),
  ao 1 46 (.mv (.t 9)),
  ao 2 47 (.bin .eql (.t 45) (.t 46))]
def r59_20 : List AOper := [ao 0 49 (.ld 18 true (.t 6)),
  ao 1 50 (.call (.k (.c (.fn 6 []))) [(.t 49)]),
  ao 2 48 (.mv (.t 50)),
  ao 3 51 (.ext 0 (.t 48)),
  ao 4 52 (.ext 1 (.t 48)),
  ao 5 12 (.alloc 29 [(.v (.s (.int .i64 0))), (.v (.s (.int .i64 0))), (.v (.s (.int .i64 0))), (.v (.s (.int .i64 0))), (.v (.s (.int .i64 0))), .nil0, .nil0, (.v (.s (.int .i64 0))), .nil0, (.v (.s (.int .i64 0))), .nil0, (.v (.s (.int .i64 0))), .nil0, (.v (.s (.int .i64 0))), .nil0, (.v (.s (.int .i64 0))), .nil0, (.v (.s (.int .i64 0)))]),
  an 6 (.st 18 (.t 12) (.t 51)),
  ao 7 13 (.mv (.t 52))]
def r59_21 : List AOper := [ao 0 53 (.mv (.t 13))]
def r59_22 : List AOper := [ao 0 54 (.ld 18 true (.t 12)),
  an 1 (.st 18 (.t 6) (.t 54))]
def c59_23 : ACode := .cond (.t 53) (.reg r59_22) .skip
def c59_24 : ACode := .seq (.reg r59_20) (.seq (.reg r59_21) c59_23)
def c59_25 : ACode := .cond (.t 47) c59_24 .skip
def c59_26 : ACode := .seq (.reg r59_19) c59_25
def r59_27 : List AOper := [ao 0 55 (.ld 18 true (.t 6)),
  ao 1 56 (.call (.k (.c (.fn 34 []))) [(.t 55)]),
  ao 2 14 (.mv (.t 56))]
def r59_28 : List AOper := [ao 0 57 (.mv (.t 14)),
  ao 1 58 (.len (.t 57)),
  ao 2 59 (.bin .eql (.t 58) (.k (.i 0)))]
def r59_29 : List AOper := [ao 0 60 (.ld 18 true (.t 6)),
  an 1 (.st 18 (.t 2) (.t 60))]
def c59_30 : ACode := .seq (.reg r59_29) .ret
def c59_31 : ACode := .cond (.t 59) c59_30 .skip
def c59_32 : ACode := .seq (.reg r59_28) c59_31
def r59_33 : List AOper := [ao 0 61 (.mv (.t 0)),
  ao 1 62 (.mv (.t 14)),
  ao 2 63 (.len (.t 62)),
  ao 3 64 (.call (.k (.c (.fn 35 []))) [(.t 61), (.t 63)]),
  ao 4 15 (.mv (.t 64))]
def r59_34 : List AOper := [ao 0 65 (.mv (.t 10)),
  ao 1 66 (.bin .eql (.t 65) (.k (.i 1))),
  ao 2 67 (.mv (.t 66)),
  ag 3 68 67 true [] (.mv (.t 0)),
  ag 4 69 67 true [] (.call (.k (.c (.fn 35 []))) [(.t 68), (.k (.i 3))]),
  ag 5 70 67 true [] (.bin .gtr (.t 69) (.k (.i 0))),
  ao 6 71 (.pick (.t 67) (.t 70) (.k (.b false)))]
def r59_35 : List AOper := [ao 0 15 (.mv (.k (.i 0)))]
def c59_36 : ACode := .cond (.t 71) (.reg r59_35) .skip
def c59_37 : ACode := .seq (.reg r59_34) c59_36
def r59_38 : List AOper := [ao 0 72 (.mv (.t 10)),
  ao 1 73 (.bin .eql (.t 72) (.k (.i 2))),
  ao 2 74 (.mv (.t 73)),
  ag 3 75 74 true [] (.mv (.t 0)),
  ag 4 76 74 true [] (.call (.k (.c (.fn 35 []))) [(.t 75), (.k (.i 3))]),
  ag 5 77 74 true [] (.bin .gtr (.t 76) (.k (.i 0))),
  ao 6 78 (.pick (.t 74) (.t 77) (.k (.b false)))]
def r59_39 : List AOper := [ao 0 79 (.mv (.t 14)),
  ao 1 80 (.len (.t 79)),
  ao 2 81 (.bin .sub (.t 80) (.k (.i 1))),
  ao 3 15 (.mv (.t 81))]
def c59_40 : ACode := .cond (.t 78) (.reg r59_39) .skip
def c59_41 : ACode := .seq (.reg r59_38) c59_40
def r59_42 : List AOper := [ao 0 83 (.ld 18 true (.t 6)),
  au 1 84 [0] (.mv (.t 14)),
  au 2 85 [0, 1] (.mv (.t 15)),
  au 3 86 [0] (.ia 2 (.t 84) (.t 85)),
  au 4 87 [0] (.ld 2 true (.t 86)),
  ao 5 88 (.call (.k (.c (.fn 13 []))) [(.t 83), (.t 87)]),
  ao 6 82 (.mv (.t 88)),
  ao 7 89 (.ext 0 (.t 82)),
  au 8 90 [7] (.ext 1 (.t 82)),
  ax 9 none none [8] (.st 18 (.t 6) (.t 89))]
def c59_43 : ACode := .seq c59_26 (.seq (.reg r59_27) (.seq c59_32 (.seq (.reg r59_33) (.seq c59_37 (.seq c59_41 (.reg r59_42))))))
def c59_44 : ACode := .block 1 c59_43
def r59_45 : List AOper := [ao 0 43 (.mv (.t 11)),
  ao 1 44 (.bin .add (.t 43) (.k (.i 1))),
  ao 2 11 (.mv (.t 44))]
def c59_46 : ACode := .seq c59_18 (.seq c59_44 (.reg r59_45))
def c59_47 : ACode := .loop c59_46
def c59_48 : ACode := .block 0 c59_47
def c59_49 : ACode := .seq (.reg r59_15) c59_48
def r59_50 : List AOper := [ao 0 91 (.ld 18 true (.t 6)),
  an 1 (.st 18 (.t 2) (.t 91))]
def c59 : ACode := .seq (.reg r59_0) (.seq (.reg r59_1) (.seq (.reg r59_2) (.seq (.reg r59_3) (.seq c59_10 (.seq (.reg r59_11) (.seq (.reg r59_12) (.seq (.reg r59_13) (.seq (.reg r59_14) (.seq c59_49 (.seq (.reg r59_50) .ret))))))))))
def s59 : List ARes := [.cell 2 18 true]
theorem ok59 : okF Try.prog 59 92 c59 s59 := ⟨Try.f59, Try.func59, Try.ntmps59, by kernel_rfl, by kernel_rfl, by kernel_rfl⟩
def inv59 (bs : List UInt8) (p0 n ca le : Int) (i : Nat) (σ : St) : Prop := ∃ w p u v, Wf w ∧ (p0 ≤ p ∧ p ≤ p0 + 3 * i) ∧ σ.t 0 = rP 0 ∧ σ.H 1000 = some (rdr 0 bs p) ∧ σ.t 8 = .i n ∧ σ.t 9 = .i ca ∧ σ.t 10 = .i le ∧ σ.t 11 = .i i ∧ σ.t 6 = .c (.ptr 6 u 0) ∧ σ.H 6 = some (cwB u w) ∧ σ.t 2 = .c (.ptr 2 v 0) ∧ σ.H 2 = some (.var v 29 czC)
def UEn_1 := Bx.mk <|
  aN (uA c59.eq_1) <| aN (uR r59_0.eq_1) <| aN (uR r59_1.eq_1) <| aN (uR r59_2.eq_1) <| aN (uR r59_3.eq_1) <| aN (uA c59_10.eq_1) <| aN (uR r59_4.eq_1) <| aN (uA c59_9.eq_1) <| aN (uA c59_8.eq_1) <| aN (uR r59_5.eq_1) <| aN (uR r59_6.eq_1) <| aN (uR r59_7.eq_1) <| aN (uR r59_11.eq_1) <| aN (uR r59_12.eq_1) <| aN (uR r59_13.eq_1) <| aN (uR r59_14.eq_1) <| aN (uA c59_49.eq_1) <| aN (uR r59_15.eq_1) <| aN (uA c59_48.eq_1) <| aN (uA c59_47.eq_1) <| aN (uR r59_50.eq_1) <| s59.eq_1
def UEn_2 := Bx.mk <|
  aN (uA c59.eq_1) <| aN (uR r59_0.eq_1) <| aN (uR r59_1.eq_1) <| aN (uR r59_2.eq_1) <| aN (uR r59_3.eq_1) <| aN (uA c59_10.eq_1) <| aN (uR r59_4.eq_1) <| aN (uA c59_9.eq_1) <| aN (uA c59_8.eq_1) <| aN (uR r59_5.eq_1) <| aN (uR r59_6.eq_1) <| aN (uR r59_7.eq_1) <| aN (uR r59_12.eq_1) <| aN (uR r59_13.eq_1) <| aN (uR r59_14.eq_1) <| aN (uA c59_49.eq_1) <| aN (uR r59_15.eq_1) <| aN (uA c59_48.eq_1) <| aN (uA c59_47.eq_1) <| aN (uR r59_50.eq_1) <| s59.eq_1
def UEn_3 := Bx.mk <|
  aN (uA c59_46.eq_1) <| aN (uA c59_18.eq_1) <| aN (uR r59_16.eq_1) <| aN (uA c59_17.eq_1) <| aN (uA c59_44.eq_1) <| aN (uA c59_43.eq_1) <| aN (uA c59_26.eq_1) <| aN (uR r59_19.eq_1) <| aN (uA c59_25.eq_1) <| aN (uA c59_24.eq_1) <| aN (uR r59_20.eq_1) <| aN (uR r59_21.eq_1) <| aN (uA c59_23.eq_1) <| aN (uR r59_22.eq_1) <| aN (uR r59_27.eq_1) <| aN (uA c59_32.eq_1) <| aN (uR r59_28.eq_1) <| aN (uA c59_31.eq_1) <| aN (uA c59_30.eq_1) <| aN (uR r59_29.eq_1) <| aN (uR r59_33.eq_1) <| aN (uA c59_37.eq_1) <| aN (uR r59_34.eq_1) <| aN (uA c59_36.eq_1) <| aN (uR r59_35.eq_1) <| aN (uA c59_41.eq_1) <| aN (uR r59_38.eq_1) <| aN (uA c59_40.eq_1) <| aN (uR r59_39.eq_1) <| aN (uR r59_42.eq_1) <| aN (uR r59_45.eq_1) <| aN (uA c59.eq_1) <| aN (uR r59_0.eq_1) <| aN (uR r59_1.eq_1) <| aN (uR r59_2.eq_1) <| aN (uR r59_3.eq_1) <| aN (uA c59_10.eq_1) <| aN (uR r59_4.eq_1) <| aN (uA c59_9.eq_1) <| aN (uA c59_8.eq_1) <| aN (uR r59_5.eq_1) <| aN (uR r59_6.eq_1) <| aN (uR r59_7.eq_1) <| aN (uR r59_11.eq_1) <| aN (uR r59_12.eq_1) <| aN (uR r59_13.eq_1) <| aN (uR r59_14.eq_1) <| aN (uA c59_49.eq_1) <| aN (uR r59_15.eq_1) <| aN (uA c59_48.eq_1) <| aN (uA c59_47.eq_1) <| aN (uR r59_50.eq_1) <| s59.eq_1
def UEn_4 := Bx.mk <|
  aN (uA c59_46.eq_1) <| aN (uA c59_18.eq_1) <| aN (uR r59_16.eq_1) <| aN (uA c59_17.eq_1) <| aN (uA c59_44.eq_1) <| aN (uA c59_43.eq_1) <| aN (uA c59_26.eq_1) <| aN (uR r59_19.eq_1) <| aN (uA c59_25.eq_1) <| aN (uA c59_24.eq_1) <| aN (uR r59_20.eq_1) <| aN (uR r59_21.eq_1) <| aN (uA c59_23.eq_1) <| aN (uR r59_22.eq_1) <| aN (uR r59_27.eq_1) <| aN (uA c59_32.eq_1) <| aN (uR r59_28.eq_1) <| aN (uA c59_31.eq_1) <| aN (uA c59_30.eq_1) <| aN (uR r59_29.eq_1) <| aN (uR r59_33.eq_1) <| aN (uA c59_37.eq_1) <| aN (uR r59_34.eq_1) <| aN (uA c59_36.eq_1) <| aN (uR r59_35.eq_1) <| aN (uA c59_41.eq_1) <| aN (uR r59_38.eq_1) <| aN (uA c59_40.eq_1) <| aN (uR r59_39.eq_1) <| aN (uR r59_45.eq_1) <| aN (uA c59.eq_1) <| aN (uR r59_0.eq_1) <| aN (uR r59_1.eq_1) <| aN (uR r59_2.eq_1) <| aN (uR r59_3.eq_1) <| aN (uA c59_10.eq_1) <| aN (uR r59_4.eq_1) <| aN (uA c59_9.eq_1) <| aN (uA c59_8.eq_1) <| aN (uR r59_5.eq_1) <| aN (uR r59_6.eq_1) <| aN (uR r59_7.eq_1) <| aN (uR r59_11.eq_1) <| aN (uR r59_12.eq_1) <| aN (uR r59_13.eq_1) <| aN (uR r59_14.eq_1) <| aN (uA c59_49.eq_1) <| aN (uR r59_15.eq_1) <| aN (uA c59_48.eq_1) <| aN (uA c59_47.eq_1) <| aN (uR r59_50.eq_1) <| s59.eq_1
def UEn_5 := Bx.mk <|
  aN (uA c59_46.eq_1) <| aN (uA c59_18.eq_1) <| aN (uR r59_16.eq_1) <| aN (uA c59_17.eq_1) <| aN (uA c59_44.eq_1) <| aN (uA c59_43.eq_1) <| aN (uA c59_26.eq_1) <| aN (uR r59_19.eq_1) <| aN (uA c59_25.eq_1) <| aN (uA c59_24.eq_1) <| aN (uR r59_20.eq_1) <| aN (uR r59_21.eq_1) <| aN (uA c59_23.eq_1) <| aN (uR r59_22.eq_1) <| aN (uA c59_32.eq_1) <| aN (uR r59_28.eq_1) <| aN (uA c59_31.eq_1) <| aN (uA c59_30.eq_1) <| aN (uR r59_29.eq_1) <| aN (uR r59_33.eq_1) <| aN (uA c59_37.eq_1) <| aN (uR r59_34.eq_1) <| aN (uA c59_36.eq_1) <| aN (uR r59_35.eq_1) <| aN (uA c59_41.eq_1) <| aN (uR r59_38.eq_1) <| aN (uA c59_40.eq_1) <| aN (uR r59_39.eq_1) <| aN (uR r59_42.eq_1) <| aN (uR r59_45.eq_1) <| aN (uA c59.eq_1) <| aN (uR r59_0.eq_1) <| aN (uR r59_1.eq_1) <| aN (uR r59_2.eq_1) <| aN (uR r59_3.eq_1) <| aN (uA c59_10.eq_1) <| aN (uR r59_4.eq_1) <| aN (uA c59_9.eq_1) <| aN (uA c59_8.eq_1) <| aN (uR r59_5.eq_1) <| aN (uR r59_6.eq_1) <| aN (uR r59_7.eq_1) <| aN (uR r59_11.eq_1) <| aN (uR r59_12.eq_1) <| aN (uR r59_13.eq_1) <| aN (uR r59_14.eq_1) <| aN (uA c59_49.eq_1) <| aN (uR r59_15.eq_1) <| aN (uA c59_48.eq_1) <| aN (uA c59_47.eq_1) <| aN (uR r59_50.eq_1) <| s59.eq_1
set_option maxRecDepth 8000 in
set_option maxHeartbeats 4000000 in
theorem l54World_ok (bs : List UInt8) (hb : bs.length ≤ 2000) (p : Int) (hp : 0 ≤ p ∧ p ≤ 1000000000) : RC 59 [] bs p 500 Wf (fun w => .pt (.agg (cwC w))) := by
  obtain ⟨a1, ha1, hb1, C1⟩ := pick_ok bs hb p 12 (by omega) (by omega)
  obtain ⟨a2, ha2, hb2, C2⟩ := pick_ok bs hb (p + 1) 4 (by omega) (by omega)
  obtain ⟨a3, ha3, hb3, C3⟩ := pick_ok bs hb (p + 1 + 1) 5 (by omega) (by omega)
  obtain ⟨a4, ha4, hb4, C4⟩ := pick_ok bs hb (p + 1 + 1 + 1) 12 (by omega) (by omega)
  obtain ⟨p1, hp1⟩ : ∃ p1, p + 1 + 1 + 1 + 1 = p1 := ⟨_, rfl⟩
  obtain ⟨n, hn0, hn1, C5⟩ := pick_ok bs hb p1 140 (by omega) (by omega)
  obtain ⟨ca, ha6, hb6, C6⟩ := pick_ok bs hb (p1 + 1) 150 (by omega) (by omega)
  obtain ⟨le, ha7, hb7, C7⟩ := pick_ok bs hb (p1 + 1 + 1) 4 (by omega) (by omega)
  have w2 : IntKind.i64.wrap (1 + a2) = 1 + a2 := wrap64 ⟨by omega, by omega⟩
  have w3 : IntKind.i64.wrap (1 + a3) = 1 + a3 := wrap64 ⟨by omega, by omega⟩
  refine RC.intro ok59 rfl (fun _ => rfl) fun X => ?_
  have fin : ∀ (j k nn : Int), StartOk j k nn → ∀ (t : Nat → T) (H : HMap) (c v : Nat), t 0 = rP 0 → H 1000 = some (rdr 0 bs p1) → t 3 = .i j → t 4 = .i k → t 5 = .i nn → t 2 = .c (.ptr 2 v 0) → H 2 = some (.var v 29 czC) → DRun Try.prog r59_11 [] (Kont (thenW Try.prog X (.seq (.reg r59_12) (.seq (.reg r59_13) (.seq (.reg r59_14) (.seq c59_49 (.seq (.reg r59_50) .ret))))) (endR p 500 Wf (fun w => .pt (.agg (cwC w))) bs [.cell 2 18 true])) r59_11) ⟨t, H, c⟩ := by
    intro j k nn hst t H c v e0 eR e3 e4 e5 e2 eH2
    simp only [T.c, T.i, rP, rdr, rdC] at e0 eR e3 e4 e5 e2 eH2
    simp only [RUX, Nat.reduceAdd, reduceIte, Nat.reduceEqDiff, Nat.reduceLT, Nat.reduceLeDiff, reduceCtorEq, eq_self, rH, rV, rdC, rdr, FIX, forall_const, endE_n, endE_r, CHT, disj, Nat.reduceBEq, beq_self_eq_true, APT, APX, forall_eq, ALT, KI, UEn_1.d, e0, eR, e3, e4, e5, e2, eH2]
    refine callC (start_yes hst) rfl rfl rfl rfl ?_
    simp only [RUX, Nat.reduceAdd, reduceIte, Nat.reduceEqDiff, Nat.reduceLT, Nat.reduceLeDiff, reduceCtorEq, eq_self, rH, rV, rdC, rdr, FIX, forall_const, endE_n, endE_r, CHT, disj, Nat.reduceBEq, beq_self_eq_true, APT, APX, forall_eq, ALT, KI, UEn_1.d, e0, eR, e3, e4, e5, e2, eH2]
    refine callRc (C5 0) rfl rfl rfl rfl eR ⟨rfl, ?_⟩
    simp only [RUX, Nat.reduceAdd, reduceIte, Nat.reduceEqDiff, Nat.reduceLT, Nat.reduceLeDiff, reduceCtorEq, eq_self, rH, rV, rdC, rdr, FIX, forall_const, endE_n, endE_r, CHT, disj, Nat.reduceBEq, beq_self_eq_true, APT, APX, forall_eq, ALT, KI, UEn_1.d, e0, eR, e3, e4, e5, e2, eH2]
    refine callRc (C6 0) rfl rfl rfl rfl rfl ⟨rfl, ?_⟩
    simp only [RUX, Nat.reduceAdd, reduceIte, Nat.reduceEqDiff, Nat.reduceLT, Nat.reduceLeDiff, reduceCtorEq, eq_self, rH, rV, rdC, rdr, FIX, forall_const, endE_n, endE_r, CHT, disj, Nat.reduceBEq, beq_self_eq_true, APT, APX, forall_eq, ALT, KI, UEn_1.d, e0, eR, e3, e4, e5, e2, eH2]
    refine callRc (C7 0) rfl rfl rfl rfl rfl ⟨rfl, ?_⟩
    simp only [RUX, Nat.reduceAdd, reduceIte, Nat.reduceEqDiff, Nat.reduceLT, Nat.reduceLeDiff, reduceCtorEq, eq_self, rH, rV, rdC, rdr, FIX, forall_const, endE_n, endE_r, CHT, disj, Nat.reduceBEq, beq_self_eq_true, APT, APX, forall_eq, ALT, KI, UEn_1.d, e0, eR, e3, e4, e5, e2, eH2]
    refine AW.upto n.toNat (inv59 bs (p1 + 1 + 1 + 1) n ca le) ⟨start j k nn, _, _, v, start_wf hst, ⟨Int.le_refl _, by omega⟩, e0, rfl, rfl, rfl, rfl, rfl, rfl, rfl, e2, eH2⟩ fun i t H c hi h' => ?_
    clear e0 eR e3 e4 e5 e2 eH2
    obtain ⟨w, q, u, v, hw, hq, e0, eR, e8, e9, e10, e11, e6, eH6, e2, eH2⟩ := h'
    simp only [T.c, T.i, rP, rdr, rdC] at e0 eR e8 e9 e10 e11 e6 eH6 e2 eH2
    by_cases k1 : (i : Int) < n
    rotate_left
    · simp only [RUX, Nat.reduceAdd, reduceIte, Nat.reduceEqDiff, Nat.reduceLT, Nat.reduceLeDiff, reduceCtorEq, eq_self, rH, rV, rdC, rdr, FIX, forall_const, endE_n, endE_r, CHT, disj, Nat.reduceBEq, beq_self_eq_true, APT, APX, forall_eq, ALT, KI, UEn_3.d, e0, eR, e8, e9, e10, e11, e6, eH6, e2, eH2, k1]
      refine ES.mk (q, w) ⟨by omega, by omega, hw⟩ ?_
      simp only [RUX, Nat.reduceAdd, reduceIte, Nat.reduceEqDiff, Nat.reduceLT, Nat.reduceLeDiff, reduceCtorEq, eq_self, rH, rV, rdC, rdr, FIX, forall_const, endE_n, endE_r, CHT, disj, Nat.reduceBEq, beq_self_eq_true, APT, APX, forall_eq, ALT, KI, UEn_3.d, e0, eR, e8, e9, e10, e11, e6, eH6, e2, eH2, k1]
    have gw := w1_ok (i := i) (by omega)
    have last : ∀ (w : CW) (ms : List Mv) (j : Nat) (m : Mv), ms[j]? = some m → ms.length ≤ 1000 → Can w m → ∀ (q : Int), p1 + 1 + 1 + 1 ≤ q ∧ q ≤ p1 + 1 + 1 + 1 + 3 * (i + 1) → ∀ (t : Nat → T) (H : HMap) (c u v : Nat), t 0 = rP 0 → H 1000 = some (rdr 0 bs q) → t 8 = .i n → t 9 = .i ca → t 10 = .i le → t 11 = .i i → t 6 = .c (.ptr 6 u 0) → H 6 = some (cwB u w) → t 2 = .c (.ptr 2 v 0) → H 2 = some (.var v 29 czC) → t 14 = tL (en eM ms) → t 15 = .i j → DRun Try.prog r59_42 [] (Kont (inW 1 (thenW Try.prog X (.reg r59_45) (thenA (fun σ => i < n.toNat ∧ inv59 bs (p1 + 1 + 1 + 1) n ca le (i + 1) σ) (inW 0 (thenW Try.prog X (.seq (.reg r59_50) .ret) (endR p 500 Wf (fun w => .pt (.agg (cwC w))) bs [.cell 2 18 true])))))) r59_42) ⟨t, H, c⟩ := by
      intro w ms j m hm hl hc q hq t H c u v e0 eR e8 e9 e10 e11 e6 eH6 e2 eH2 e14 e15
      simp only [T.c, T.i, tL, rP, rdr, rdC] at e0 eR e8 e9 e10 e11 e6 eH6 e2 eH2 e14 e15
      have em := en_at eM hm
      have gz : (0 : Int) ≤ j := by omega
      simp only [RUX, Nat.reduceAdd, reduceIte, Nat.reduceEqDiff, Nat.reduceLT, Nat.reduceLeDiff, reduceCtorEq, eq_self, rH, rV, rdC, rdr, FIX, forall_const, endE_n, endE_r, CHT, disj, Nat.reduceBEq, beq_self_eq_true, APT, APX, forall_eq, ALT, KI, UEn_3.d, e0, eR, e8, e9, e10, e11, e6, eH6, e2, eH2, e14, e15, em, gz, Int.toNat_natCast, eM]
      refine callC (stepS_yes hc (stepW_wf hc.ok.form m).small) rfl rfl rfl rfl ?_
      simp only [RUX, Nat.reduceAdd, reduceIte, Nat.reduceEqDiff, Nat.reduceLT, Nat.reduceLeDiff, reduceCtorEq, eq_self, rH, rV, rdC, rdr, FIX, forall_const, endE_n, endE_r, CHT, disj, Nat.reduceBEq, beq_self_eq_true, APT, APX, forall_eq, ALT, KI, UEn_3.d, e0, eR, e8, e9, e10, e11, e6, eH6, e2, eH2, e14, e15, em, gz, Int.toNat_natCast, eM, gw]
      exact ⟨by omega, stepW w m, q, u, v, stepW_wf hc.ok.form m, by omega, e0, eR, e8, e9, e10, rfl, e6, rfl, e2, eH2⟩
    have rest : ∀ (w : CW), Wf w → ∀ (t : Nat → T) (H : HMap) (c u v : Nat), t 0 = rP 0 → H 1000 = some (rdr 0 bs q) → t 8 = .i n → t 9 = .i ca → t 10 = .i le → t 11 = .i i → t 6 = .c (.ptr 6 u 0) → H 6 = some (cwB u w) → t 2 = .c (.ptr 2 v 0) → H 2 = some (.var v 29 czC) → DRun Try.prog r59_27 [] (Kont (thenW Try.prog X (.seq c59_32 (.seq (.reg r59_33) (.seq c59_37 (.seq c59_41 (.reg r59_42))))) (inW 1 (thenW Try.prog X (.reg r59_45) (thenA (fun σ => i < n.toNat ∧ inv59 bs (p1 + 1 + 1 + 1) n ca le (i + 1) σ) (inW 0 (thenW Try.prog X (.seq (.reg r59_50) .ret) (endR p 500 Wf (fun w => .pt (.agg (cwC w))) bs [.cell 2 18 true]))))))) r59_27) ⟨t, H, c⟩ := by
      intro w hw t H c u v e0 eR e8 e9 e10 e11 e6 eH6 e2 eH2
      simp only [T.c, T.i, rP, rdr, rdC] at e0 eR e8 e9 e10 e11 e6 eH6 e2 eH2
      obtain ⟨ms, hms, Cm⟩ := crewMoves_ok w
      simp only [RUX, Nat.reduceAdd, reduceIte, Nat.reduceEqDiff, Nat.reduceLT, Nat.reduceLeDiff, reduceCtorEq, eq_self, rH, rV, rdC, rdr, FIX, forall_const, endE_n, endE_r, CHT, disj, Nat.reduceBEq, beq_self_eq_true, APT, APX, forall_eq, ALT, KI, UEn_4.d, e0, eR, e8, e9, e10, e11, e6, eH6, e2, eH2]
      refine callC Cm rfl rfl rfl rfl ?_
      by_cases k3 : ms.length = 0
      · have k4 : ((ms.length : Int) == 0) = true := eqb (by omega)
        simp only [RUX, Nat.reduceAdd, reduceIte, Nat.reduceEqDiff, Nat.reduceLT, Nat.reduceLeDiff, reduceCtorEq, eq_self, rH, rV, rdC, rdr, FIX, forall_const, endE_n, endE_r, CHT, disj, Nat.reduceBEq, beq_self_eq_true, APT, APX, forall_eq, ALT, KI, UEn_4.d, e0, eR, e8, e9, e10, e11, e6, eH6, e2, eH2, k4]
        refine ES.mk (q, w) ⟨by omega, by omega, hw⟩ ?_
        simp only [RUX, Nat.reduceAdd, reduceIte, Nat.reduceEqDiff, Nat.reduceLT, Nat.reduceLeDiff, reduceCtorEq, eq_self, rH, rV, rdC, rdr, FIX, forall_const, endE_n, endE_r, CHT, disj, Nat.reduceBEq, beq_self_eq_true, APT, APX, forall_eq, ALT, KI, UEn_4.d, e0, eR, e8, e9, e10, e11, e6, eH6, e2, eH2, k4]
      have k4 : ((ms.length : Int) == 0) = false := neqb (by omega)
      have ok : WOk w := Classical.byContradiction fun g => k3 (by rw [hms.2 g]; rfl)
      have hmm := hms.1 ok
      have hml : ms.length ≤ 1000 := by
        have h1 := amoves_len w (w.workers.toNat + 4)
        have h2 := ok.form.st.k
        rw [hmm, moves]; omega
      have hcan : ∀ m ∈ ms, Can w m := fun m hm => moves_can ok (by rw [← hmm]; exact hm)
      obtain ⟨kk, hk0, hk1, D1⟩ := pick_ok bs hb q ms.length (by omega) (by omega)
      obtain ⟨dd, hd0, hd1, D2⟩ := pick_ok bs hb (q + 1) 3 (by omega) (by omega)
      have w4 : IntKind.i64.wrap ((ms.length : Int) - 1) = ((ms.length - 1 : Nat) : Int) := by rw [wrap64 ⟨by omega, by omega⟩]; omega
      simp only [RUX, Nat.reduceAdd, reduceIte, Nat.reduceEqDiff, Nat.reduceLT, Nat.reduceLeDiff, reduceCtorEq, eq_self, rH, rV, rdC, rdr, FIX, forall_const, endE_n, endE_r, CHT, disj, Nat.reduceBEq, beq_self_eq_true, APT, APX, forall_eq, ALT, KI, UEn_4.d, e0, eR, e8, e9, e10, e11, e6, eH6, e2, eH2, k4]
      refine callRc (D1 0) rfl rfl rfl rfl eR ⟨rfl, ?_⟩
      obtain ⟨j, rfl⟩ : ∃ j : Nat, kk = j := ⟨kk.toNat, by omega⟩
      have hj : ms[j]? = some ms[j] := List.getElem?_eq_getElem (by omega)
      have hz : ms[0]? = some ms[0] := List.getElem?_eq_getElem (by omega)
      have he : ms[ms.length - 1]? = some ms[ms.length - 1] := List.getElem?_eq_getElem (by omega)
      by_cases l1 : le = 1
      · have k5 := eqb l1
        have k6 : (le == 2) = false := neqb (by omega)
        simp only [RUX, Nat.reduceAdd, reduceIte, Nat.reduceEqDiff, Nat.reduceLT, Nat.reduceLeDiff, reduceCtorEq, eq_self, rH, rV, rdC, rdr, FIX, forall_const, endE_n, endE_r, CHT, disj, Nat.reduceBEq, beq_self_eq_true, APT, APX, forall_eq, ALT, KI, UEn_4.d, e0, eR, e8, e9, e10, e11, e6, eH6, e2, eH2, k4, k5]
        refine callRc (D2 0) rfl rfl rfl rfl rfl ⟨rfl, ?_⟩
        by_cases d1 : dd > 0
        · simp only [RUX, Nat.reduceAdd, reduceIte, Nat.reduceEqDiff, Nat.reduceLT, Nat.reduceLeDiff, reduceCtorEq, eq_self, rH, rV, rdC, rdr, FIX, forall_const, endE_n, endE_r, CHT, disj, Nat.reduceBEq, beq_self_eq_true, APT, APX, forall_eq, ALT, KI, UEn_4.d, e0, eR, e8, e9, e10, e11, e6, eH6, e2, eH2, k4, k5, k6, d1]
          refine last w ms 0 _ hz hml (hcan _ (List.getElem_mem _)) (q + 1 + 1) (by omega) _ _ _ u v ?_ ?_ ?_ ?_ ?_ ?_ ?_ ?_ ?_ ?_ ?_ ?_ <;> first | rfl | assumption
        · simp only [RUX, Nat.reduceAdd, reduceIte, Nat.reduceEqDiff, Nat.reduceLT, Nat.reduceLeDiff, reduceCtorEq, eq_self, rH, rV, rdC, rdr, FIX, forall_const, endE_n, endE_r, CHT, disj, Nat.reduceBEq, beq_self_eq_true, APT, APX, forall_eq, ALT, KI, UEn_4.d, e0, eR, e8, e9, e10, e11, e6, eH6, e2, eH2, k4, k5, k6, d1]
          refine last w ms j _ hj hml (hcan _ (List.getElem_mem _)) (q + 1 + 1) (by omega) _ _ _ u v ?_ ?_ ?_ ?_ ?_ ?_ ?_ ?_ ?_ ?_ ?_ ?_ <;> first | rfl | assumption
      have k5 := neqb l1
      by_cases l2 : le = 2
      · have k6 := eqb l2
        simp only [RUX, Nat.reduceAdd, reduceIte, Nat.reduceEqDiff, Nat.reduceLT, Nat.reduceLeDiff, reduceCtorEq, eq_self, rH, rV, rdC, rdr, FIX, forall_const, endE_n, endE_r, CHT, disj, Nat.reduceBEq, beq_self_eq_true, APT, APX, forall_eq, ALT, KI, UEn_4.d, e0, eR, e8, e9, e10, e11, e6, eH6, e2, eH2, k4, k5, k6]
        refine callRc (D2 0) rfl rfl rfl rfl rfl ⟨rfl, ?_⟩
        by_cases d1 : dd > 0
        · simp only [RUX, Nat.reduceAdd, reduceIte, Nat.reduceEqDiff, Nat.reduceLT, Nat.reduceLeDiff, reduceCtorEq, eq_self, rH, rV, rdC, rdr, FIX, forall_const, endE_n, endE_r, CHT, disj, Nat.reduceBEq, beq_self_eq_true, APT, APX, forall_eq, ALT, KI, UEn_4.d, e0, eR, e8, e9, e10, e11, e6, eH6, e2, eH2, k4, k5, k6, d1, w4]
          refine last w ms (ms.length - 1) _ he hml (hcan _ (List.getElem_mem _)) (q + 1 + 1) (by omega) _ _ _ u v ?_ ?_ ?_ ?_ ?_ ?_ ?_ ?_ ?_ ?_ ?_ ?_ <;> first | rfl | assumption
        · simp only [RUX, Nat.reduceAdd, reduceIte, Nat.reduceEqDiff, Nat.reduceLT, Nat.reduceLeDiff, reduceCtorEq, eq_self, rH, rV, rdC, rdr, FIX, forall_const, endE_n, endE_r, CHT, disj, Nat.reduceBEq, beq_self_eq_true, APT, APX, forall_eq, ALT, KI, UEn_4.d, e0, eR, e8, e9, e10, e11, e6, eH6, e2, eH2, k4, k5, k6, d1]
          refine last w ms j _ hj hml (hcan _ (List.getElem_mem _)) (q + 1 + 1) (by omega) _ _ _ u v ?_ ?_ ?_ ?_ ?_ ?_ ?_ ?_ ?_ ?_ ?_ ?_ <;> first | rfl | assumption
      have k6 := neqb l2
      simp only [RUX, Nat.reduceAdd, reduceIte, Nat.reduceEqDiff, Nat.reduceLT, Nat.reduceLeDiff, reduceCtorEq, eq_self, rH, rV, rdC, rdr, FIX, forall_const, endE_n, endE_r, CHT, disj, Nat.reduceBEq, beq_self_eq_true, APT, APX, forall_eq, ALT, KI, UEn_4.d, e0, eR, e8, e9, e10, e11, e6, eH6, e2, eH2, k4, k5, k6]
      refine last w ms j _ hj hml (hcan _ (List.getElem_mem _)) (q + 1) (by omega) _ _ _ u v ?_ ?_ ?_ ?_ ?_ ?_ ?_ ?_ ?_ ?_ ?_ ?_ <;> first | rfl | assumption
    by_cases k2 : (i : Int) = ca
    · have k3 := eqb k2
      by_cases hc : WOk w ∧ w.user ≠ 1
      · simp only [RUX, Nat.reduceAdd, reduceIte, Nat.reduceEqDiff, Nat.reduceLT, Nat.reduceLeDiff, reduceCtorEq, eq_self, rH, rV, rdC, rdr, FIX, forall_const, endE_n, endE_r, CHT, disj, Nat.reduceBEq, beq_self_eq_true, APT, APX, forall_eq, ALT, KI, UEn_5.d, e0, eR, e8, e9, e10, e11, e6, eH6, e2, eH2, k1, k3]
        refine callC (cancelS_yes hc.1 hc.2) rfl rfl rfl rfl ?_
        simp only [RUX, Nat.reduceAdd, reduceIte, Nat.reduceEqDiff, Nat.reduceLT, Nat.reduceLeDiff, reduceCtorEq, eq_self, rH, rV, rdC, rdr, FIX, forall_const, endE_n, endE_r, CHT, disj, Nat.reduceBEq, beq_self_eq_true, APT, APX, forall_eq, ALT, KI, UEn_5.d, e0, eR, e8, e9, e10, e11, e6, eH6, e2, eH2, k1, k3]
        refine rest (cancelW w) (cancel_wf hc.1.form) _ _ _ u v ?_ ?_ ?_ ?_ ?_ ?_ ?_ ?_ ?_ ?_ <;> first | rfl | assumption
      · simp only [RUX, Nat.reduceAdd, reduceIte, Nat.reduceEqDiff, Nat.reduceLT, Nat.reduceLeDiff, reduceCtorEq, eq_self, rH, rV, rdC, rdr, FIX, forall_const, endE_n, endE_r, CHT, disj, Nat.reduceBEq, beq_self_eq_true, APT, APX, forall_eq, ALT, KI, UEn_5.d, e0, eR, e8, e9, e10, e11, e6, eH6, e2, eH2, k1, k3]
        refine callC (cancelS_no hc) rfl rfl rfl rfl ?_
        simp only [RUX, Nat.reduceAdd, reduceIte, Nat.reduceEqDiff, Nat.reduceLT, Nat.reduceLeDiff, reduceCtorEq, eq_self, rH, rV, rdC, rdr, FIX, forall_const, endE_n, endE_r, CHT, disj, Nat.reduceBEq, beq_self_eq_true, APT, APX, forall_eq, ALT, KI, UEn_5.d, e0, eR, e8, e9, e10, e11, e6, eH6, e2, eH2, k1, k3]
        refine rest w hw _ _ _ u v ?_ ?_ ?_ ?_ ?_ ?_ ?_ ?_ ?_ ?_ <;> first | rfl | assumption
    · have k3 := neqb k2
      simp only [RUX, Nat.reduceAdd, reduceIte, Nat.reduceEqDiff, Nat.reduceLT, Nat.reduceLeDiff, reduceCtorEq, eq_self, rH, rV, rdC, rdr, FIX, forall_const, endE_n, endE_r, CHT, disj, Nat.reduceBEq, beq_self_eq_true, APT, APX, forall_eq, ALT, KI, UEn_5.d, e0, eR, e8, e9, e10, e11, e6, eH6, e2, eH2, k1, k3]
      refine rest w hw _ _ _ u v ?_ ?_ ?_ ?_ ?_ ?_ ?_ ?_ ?_ ?_ <;> first | rfl | assumption
  simp only [RUX, Nat.reduceAdd, reduceIte, Nat.reduceEqDiff, Nat.reduceLT, Nat.reduceLeDiff, reduceCtorEq, eq_self, rH, rV, rdC, rdr, FIX, forall_const, endE_n, endE_r, CHT, disj, Nat.reduceBEq, beq_self_eq_true, APT, APX, forall_eq, ALT, KI, UEn_2.d]
  refine callRc (C1 0) rfl rfl rfl rfl rfl ⟨rfl, ?_⟩
  simp only [RUX, Nat.reduceAdd, reduceIte, Nat.reduceEqDiff, Nat.reduceLT, Nat.reduceLeDiff, reduceCtorEq, eq_self, rH, rV, rdC, rdr, FIX, forall_const, endE_n, endE_r, CHT, disj, Nat.reduceBEq, beq_self_eq_true, APT, APX, forall_eq, ALT, KI, UEn_2.d]
  refine callRc (C2 0) rfl rfl rfl rfl rfl ⟨rfl, ?_⟩
  simp only [RUX, Nat.reduceAdd, reduceIte, Nat.reduceEqDiff, Nat.reduceLT, Nat.reduceLeDiff, reduceCtorEq, eq_self, rH, rV, rdC, rdr, FIX, forall_const, endE_n, endE_r, CHT, disj, Nat.reduceBEq, beq_self_eq_true, APT, APX, forall_eq, ALT, KI, UEn_2.d, w2]
  refine callRc (C3 0) rfl rfl rfl rfl rfl ⟨rfl, ?_⟩
  simp only [RUX, Nat.reduceAdd, reduceIte, Nat.reduceEqDiff, Nat.reduceLT, Nat.reduceLeDiff, reduceCtorEq, eq_self, rH, rV, rdC, rdr, FIX, forall_const, endE_n, endE_r, CHT, disj, Nat.reduceBEq, beq_self_eq_true, APT, APX, forall_eq, ALT, KI, UEn_2.d, w2, w3]
  refine callRc (C4 0) rfl rfl rfl rfl rfl ⟨rfl, ?_⟩
  rw [hp1]
  by_cases c1 : a4 = 0
  · have k1 := eqb c1
    simp only [RUX, Nat.reduceAdd, reduceIte, Nat.reduceEqDiff, Nat.reduceLT, Nat.reduceLeDiff, reduceCtorEq, eq_self, rH, rV, rdC, rdr, FIX, forall_const, endE_n, endE_r, CHT, disj, Nat.reduceBEq, beq_self_eq_true, APT, APX, forall_eq, ALT, KI, UEn_2.d, w2, w3, k1]
    refine fin 60 8 16 ⟨by omega, by omega, by omega⟩ _ _ _ 1 ?_ ?_ ?_ ?_ ?_ ?_ ?_ <;> rfl
  · have k1 := neqb c1
    simp only [RUX, Nat.reduceAdd, reduceIte, Nat.reduceEqDiff, Nat.reduceLT, Nat.reduceLeDiff, reduceCtorEq, eq_self, rH, rV, rdC, rdr, FIX, forall_const, endE_n, endE_r, CHT, disj, Nat.reduceBEq, beq_self_eq_true, APT, APX, forall_eq, ALT, KI, UEn_2.d, w2, w3, k1]
    refine fin a1 (1 + a2) (1 + a3) ⟨by omega, by omega, by omega⟩ _ _ _ 1 ?_ ?_ ?_ ?_ ?_ ?_ ?_ <;> rfl
end Go.V
set_option linter.unusedVariables false
set_option linter.unusedSimpArgs false
namespace Go.V
open Go.Proofs
theorem idx_ex (xs : List Int) (k : Int) (h0 : 0 ≤ k) (h1 : k < xs.length) : ∃ y, (en eI xs)[k.toNat]? = some (eI y) := by
  have h2 : k.toNat < xs.length := by omega
  exact ⟨xs[k.toNat], en_at eI (List.getElem?_eq_getElem h2)⟩
/- loop.example/teagle/spec.l54Spoil -/
def r60_0 : List AOper := [ao 0 3 (.box 29 (.t 1)),
  ao 1 4 (.alloc 29 [(.v (.s (.int .i64 0))), (.v (.s (.int .i64 0))), (.v (.s (.int .i64 0))), (.v (.s (.int .i64 0))), (.v (.s (.int .i64 0))), .nil0, .nil0, (.v (.s (.int .i64 0))), .nil0, (.v (.s (.int .i64 0))), .nil0, (.v (.s (.int .i64 0))), .nil0, (.v (.s (.int .i64 0))), .nil0, (.v (.s (.int .i64 0))), .nil0, (.v (.s (.int .i64 0)))])]
def r60_1 : List AOper := [ao 0 6 (.ld 18 true (.t 3)),
  ao 1 7 (.call (.k (.c (.fn 20 []))) [(.t 6)]),
  an 2 (.st 18 (.t 3) (.t 7))]
def r60_2 : List AOper := [ao 0 8 (.mv (.t 0)),
  ao 1 9 (.call (.k (.c (.fn 35 []))) [(.t 8), (.k (.i 4))]),
  ao 2 10 (.bin .sub (.t 9) (.k (.i 1))),
  ao 3 5 (.mv (.t 10))]
def r60_3 : List AOper := [ao 0 11 (.mv (.t 0)),
  ao 1 12 (.call (.k (.c (.fn 35 []))) [(.t 11), (.k (.i 18))])]
def r60_4 : List AOper := [ao 0 34 (.bin .eql (.t 12) (.k (.i 0))),
  ao 1 33 (.mv (.t 34))]
def r60_5 : List AOper := [ao 0 35 (.fa 3 (.t 3)),
  ao 1 36 (.ld 1 false (.t 35)),
  au 2 37 [0, 1] (.fa 3 (.t 3)),
  au 3 38 [0, 1] (.ld 1 false (.t 37)),
  au 4 39 [0, 1] (.bin .add (.t 38) (.k (.i 1))),
  ao 5 40 (.bsl 1 3 [(.k (.i (-1))), (.k (.i 61)), (.t 36), (.t 39)]),
  au 6 41 (ru 6) (.mv (.t 0)),
  au 7 42 (ru 6) (.call (.k (.c (.fn 35 []))) [(.t 41), (.k (.i 4))]),
  ao 8 43 (.ia 1 (.t 40) (.t 42)),
  ao 9 44 (.ld 1 false (.t 43)),
  ao 10 45 (.fa 0 (.t 3)),
  an 11 (.st 1 (.t 45) (.t 44))]
def r60_6 : List AOper := [ao 0 47 (.bin .eql (.t 12) (.k (.i 1))),
  ao 1 46 (.mv (.t 47))]
def r60_7 : List AOper := [ao 0 48 (.fa 1 (.t 3)),
  ao 1 49 (.ld 1 false (.t 48)),
  ao 2 50 (.bin .add (.t 49) (.k (.i 1))),
  ao 3 51 (.bsl 1 3 [(.k (.i 0)), (.k (.i 9)), (.t 50)]),
  au 4 52 (ru 4) (.mv (.t 0)),
  au 5 53 (ru 4) (.call (.k (.c (.fn 35 []))) [(.t 52), (.k (.i 3))]),
  ao 6 54 (.ia 1 (.t 51) (.t 53)),
  ao 7 55 (.ld 1 false (.t 54)),
  ao 8 56 (.fa 1 (.t 3)),
  an 9 (.st 1 (.t 56) (.t 55))]
def r60_8 : List AOper := [ao 0 58 (.bin .eql (.t 12) (.k (.i 2))),
  ao 1 57 (.mv (.t 58))]
def r60_9 : List AOper := [ao 0 59 (.fa 2 (.t 3)),
  ao 1 60 (.ld 1 false (.t 59)),
  ao 2 61 (.bin .add (.t 60) (.k (.i 1))),
  ao 3 62 (.bsl 1 3 [(.k (.i 0)), (.k (.i 17)), (.t 61)]),
  au 4 63 (ru 4) (.mv (.t 0)),
  au 5 64 (ru 4) (.call (.k (.c (.fn 35 []))) [(.t 63), (.k (.i 3))]),
  ao 6 65 (.ia 1 (.t 62) (.t 64)),
  ao 7 66 (.ld 1 false (.t 65)),
  ao 8 67 (.fa 2 (.t 3)),
  an 9 (.st 1 (.t 67) (.t 66))]
def r60_10 : List AOper := [ao 0 69 (.bin .eql (.t 12) (.k (.i 3))),
  ao 1 68 (.mv (.t 69))]
def r60_11 : List AOper := [ao 0 70 (.fa 3 (.t 3)),
  ao 1 71 (.ld 1 false (.t 70)),
  ao 2 72 (.mv (.t 5)),
  ao 3 73 (.bin .add (.t 71) (.t 72)),
  ao 4 74 (.fa 3 (.t 3)),
  an 5 (.st 1 (.t 74) (.t 73))]
def r60_12 : List AOper := [ao 0 76 (.bin .eql (.t 12) (.k (.i 4))),
  ao 1 75 (.mv (.t 76))]
def r60_13 : List AOper := [ao 0 77 (.mv (.t 0)),
  ao 1 78 (.call (.k (.c (.fn 35 []))) [(.t 77), (.k (.i 6))]),
  ao 2 79 (.bin .sub (.t 78) (.k (.i 1))),
  ao 3 80 (.fa 4 (.t 3)),
  an 4 (.st 1 (.t 80) (.t 79))]
def r60_14 : List AOper := [ao 0 82 (.bin .eql (.t 12) (.k (.i 5))),
  ao 1 81 (.mv (.t 82))]
def r60_15 : List AOper := [ao 0 83 (.fa 5 (.t 3)),
  ao 1 84 (.ld 1 false (.t 83)),
  ao 2 85 (.fa 11 (.t 3)),
  ao 3 86 (.ld 1 false (.t 85)),
  ao 4 87 (.mv (.t 5)),
  ao 5 88 (.bin .add (.t 86) (.t 87)),
  ao 6 89 (.bsl 1 3 [(.t 88)]),
  ao 7 90 (.app 1 3 8 (.t 84) (.t 89)),
  ao 8 91 (.fa 5 (.t 3)),
  an 9 (.st 1 (.t 91) (.t 90))]
def r60_16 : List AOper := [ao 0 93 (.bin .eql (.t 12) (.k (.i 6))),
  ao 1 92 (.mv (.t 93))]
def r60_17 : List AOper := [ao 0 94 (.fa 6 (.t 3)),
  ao 1 95 (.ld 1 false (.t 94)),
  au 2 96 [0, 1] (.mv (.t 0)),
  au 3 97 [0, 1] (.call (.k (.c (.fn 35 []))) [(.t 96), (.k (.i 6))]),
  au 4 98 [0, 1] (.bin .sub (.t 97) (.k (.i 1))),
  ao 5 99 (.ia 2 (.t 95) (.k (.i 0))),
  ao 6 100 (.fa 0 (.t 99)),
  an 7 (.st 1 (.t 100) (.t 98))]
def r60_18 : List AOper := [ao 0 102 (.bin .eql (.t 12) (.k (.i 7))),
  ao 1 101 (.mv (.t 102))]
def r60_19 : List AOper := [ao 0 103 (.fa 6 (.t 3)),
  ao 1 104 (.ld 1 false (.t 103)),
  ao 2 105 (.fa 11 (.t 3)),
  ao 3 106 (.ld 1 false (.t 105)),
  ao 4 107 (.mv (.t 5)),
  ao 5 108 (.bin .add (.t 106) (.t 107)),
  ao 6 109 (.ia 2 (.t 104) (.k (.i 0))),
  ao 7 110 (.fa 1 (.t 109)),
  an 8 (.st 1 (.t 110) (.t 108))]
def r60_20 : List AOper := [ao 0 112 (.bin .eql (.t 12) (.k (.i 8))),
  ao 1 111 (.mv (.t 112))]
def r60_21 : List AOper := [ao 0 113 (.mv (.t 0)),
  ao 1 114 (.call (.k (.c (.fn 35 []))) [(.t 113), (.k (.i 4))]),
  ao 2 115 (.bin .sub (.t 114) (.k (.i 1))),
  ao 3 116 (.fa 7 (.t 3)),
  an 4 (.st 1 (.t 116) (.t 115))]
def r60_22 : List AOper := [ao 0 118 (.bin .eql (.t 12) (.k (.i 9))),
  ao 1 117 (.mv (.t 118))]
def r60_23 : List AOper := [ao 0 119 (.fa 8 (.t 3)),
  ao 1 120 (.ld 1 false (.t 119)),
  ao 2 121 (.fa 11 (.t 3)),
  ao 3 122 (.ld 1 false (.t 121)),
  ao 4 123 (.mv (.t 5)),
  ao 5 124 (.bin .add (.t 122) (.t 123)),
  ao 6 125 (.bsl 1 3 [(.t 124)]),
  ao 7 126 (.app 1 3 8 (.t 120) (.t 125)),
  ao 8 127 (.fa 8 (.t 3)),
  an 9 (.st 1 (.t 127) (.t 126))]
def r60_24 : List AOper := [ao 0 129 (.bin .eql (.t 12) (.k (.i 10))),
  ao 1 128 (.mv (.t 129))]
def r60_25 : List AOper := [ao 0 130 (.mv (.t 0)),
  ao 1 131 (.call (.k (.c (.fn 35 []))) [(.t 130), (.k (.i 8))]),
  ao 2 132 (.bin .sub (.t 131) (.k (.i 1))),
  ao 3 133 (.fa 9 (.t 3)),
  an 4 (.st 1 (.t 133) (.t 132))]
def r60_26 : List AOper := [ao 0 135 (.bin .eql (.t 12) (.k (.i 11))),
  ao 1 134 (.mv (.t 135))]
def r60_27 : List AOper := [ao 0 136 (.fa 10 (.t 3)),
  ao 1 137 (.ld 1 false (.t 136)),
  au 2 138 [0, 1] (.mv (.t 0)),
  au 3 139 (ru 3) (.fa 10 (.t 3)),
  au 4 140 (ru 3) (.ld 1 false (.t 139)),
  au 5 141 (ru 3) (.len (.t 140)),
  au 6 142 [0, 1] (.call (.k (.c (.fn 35 []))) [(.t 138), (.t 141)]),
  au 7 143 (ru 7) (.fa 11 (.t 3)),
  au 8 144 (ru 7) (.ld 1 false (.t 143)),
  au 9 145 (ru 9) (.mv (.t 5)),
  au 10 146 (ru 7) (.bin .add (.t 144) (.t 145)),
  ao 11 147 (.ia 1 (.t 137) (.t 142)),
  an 12 (.st 1 (.t 147) (.t 146))]
def r60_28 : List AOper := [ao 0 149 (.bin .eql (.t 12) (.k (.i 12))),
  ao 1 148 (.mv (.t 149))]
def r60_29 : List AOper := [ao 0 150 (.fa 11 (.t 3)),
  ao 1 151 (.ld 1 false (.t 150)),
  ao 2 152 (.mv (.t 5)),
  ao 3 153 (.bin .add (.t 151) (.t 152)),
  ao 4 154 (.fa 11 (.t 3)),
  an 5 (.st 1 (.t 154) (.t 153))]
def r60_30 : List AOper := [ao 0 156 (.bin .eql (.t 12) (.k (.i 13))),
  ao 1 155 (.mv (.t 156))]
def r60_31 : List AOper := [ao 0 157 (.fa 12 (.t 3)),
  ao 1 158 (.ld 1 false (.t 157)),
  ao 2 159 (.fa 11 (.t 3)),
  ao 3 160 (.ld 1 false (.t 159)),
  ao 4 161 (.bin .sub (.t 160) (.k (.i 1))),
  ao 5 162 (.bsl 1 3 [(.t 161)]),
  ao 6 163 (.app 1 3 8 (.t 158) (.t 162)),
  ao 7 164 (.fa 12 (.t 3)),
  an 8 (.st 1 (.t 164) (.t 163))]
def r60_32 : List AOper := [ao 0 166 (.bin .eql (.t 12) (.k (.i 14))),
  ao 1 165 (.mv (.t 166))]
def r60_33 : List AOper := [ao 0 167 (.mv (.t 0)),
  ao 1 168 (.call (.k (.c (.fn 35 []))) [(.t 167), (.k (.i 4))]),
  ao 2 169 (.bin .sub (.t 168) (.k (.i 1))),
  ao 3 170 (.fa 13 (.t 3)),
  an 4 (.st 1 (.t 170) (.t 169))]
def r60_34 : List AOper := [ao 0 172 (.bin .eql (.t 12) (.k (.i 15))),
  ao 1 171 (.mv (.t 172))]
def r60_35 : List AOper := [ao 0 173 (.fa 14 (.t 3)),
  ao 1 174 (.ld 1 false (.t 173)),
  ao 2 175 (.fa 14 (.t 3)),
  ao 3 176 (.ld 1 false (.t 175)),
  ao 4 177 (.len (.t 176)),
  ao 5 178 (.mv (.t 5)),
  ao 6 179 (.bin .add (.t 177) (.t 178)),
  ao 7 180 (.bsl 1 3 [(.t 179)]),
  ao 8 181 (.app 1 3 8 (.t 174) (.t 180)),
  ao 9 182 (.fa 14 (.t 3)),
  an 10 (.st 1 (.t 182) (.t 181))]
def r60_36 : List AOper := [ao 0 184 (.bin .eql (.t 12) (.k (.i 16))),
  ao 1 183 (.mv (.t 184))]
def r60_37 : List AOper := [ao 0 185 (.fa 15 (.t 3)),
  ao 1 186 (.ld 1 false (.t 185)),
  ao 2 187 (.mv (.t 5)),
  ao 3 188 (.bin .add (.t 186) (.t 187)),
  ao 4 189 (.fa 15 (.t 3)),
  an 5 (.st 1 (.t 189) (.t 188))]
def r60_38 : List AOper := [ao 0 13 (.mv (.t 0)),
  ao 1 14 (.call (.k (.c (.fn 35 []))) [(.t 13), (.k (.i 2))]),
  ao 2 15 (.bin .eql (.t 14) (.k (.i 0)))]
def r60_39 : List AOper := [ao 0 16 (.fa 16 (.t 3)),
  ao 1 17 (.ld 1 false (.t 16)),
  au 2 18 [0, 1] (.mv (.t 0)),
  au 3 19 [0, 1] (.call (.k (.c (.fn 35 []))) [(.t 18), (.k (.i 4))]),
  au 4 20 (ru 4) (.mv (.t 0)),
  au 5 21 [0, 1] (.call (.k (.c (.fn 35 []))) [(.t 20), (.k (.i 4))]),
  au 6 22 [0, 1] (.bin .sub (.t 21) (.k (.i 1))),
  ao 7 23 (.ia 1 (.t 17) (.t 19)),
  an 8 (.st 1 (.t 23) (.t 22))]
def r60_40 : List AOper := [ao 0 24 (.fa 17 (.t 3)),
  ao 1 25 (.ld 1 false (.t 24)),
  ao 2 26 (.bin .add (.t 25) (.k (.i 1))),
  ao 3 27 (.bsl 1 3 [(.k (.i (-1))), (.k (.i 0)), (.k (.i 9999)), (.k (.i 10001)), (.t 26)]),
  au 4 28 (ru 4) (.mv (.t 0)),
  au 5 29 (ru 4) (.call (.k (.c (.fn 35 []))) [(.t 28), (.k (.i 5))]),
  ao 6 30 (.ia 1 (.t 27) (.t 29)),
  ao 7 31 (.ld 1 false (.t 30)),
  ao 8 32 (.fa 17 (.t 3)),
  an 9 (.st 1 (.t 32) (.t 31))]
def c60_41 : ACode := .cond (.t 15) (.reg r60_39) (.reg r60_40)
def c60_42 : ACode := .seq (.reg r60_38) c60_41
def c60_43 : ACode := .cond (.t 183) (.reg r60_37) c60_42
def c60_44 : ACode := .seq (.reg r60_36) c60_43
def c60_45 : ACode := .cond (.t 171) (.reg r60_35) c60_44
def c60_46 : ACode := .seq (.reg r60_34) c60_45
def c60_47 : ACode := .cond (.t 165) (.reg r60_33) c60_46
def c60_48 : ACode := .seq (.reg r60_32) c60_47
def c60_49 : ACode := .cond (.t 155) (.reg r60_31) c60_48
def c60_50 : ACode := .seq (.reg r60_30) c60_49
def c60_51 : ACode := .cond (.t 148) (.reg r60_29) c60_50
def c60_52 : ACode := .seq (.reg r60_28) c60_51
def c60_53 : ACode := .cond (.t 134) (.reg r60_27) c60_52
def c60_54 : ACode := .seq (.reg r60_26) c60_53
def c60_55 : ACode := .cond (.t 128) (.reg r60_25) c60_54
def c60_56 : ACode := .seq (.reg r60_24) c60_55
def c60_57 : ACode := .cond (.t 117) (.reg r60_23) c60_56
def c60_58 : ACode := .seq (.reg r60_22) c60_57
def c60_59 : ACode := .cond (.t 111) (.reg r60_21) c60_58
def c60_60 : ACode := .seq (.reg r60_20) c60_59
def c60_61 : ACode := .cond (.t 101) (.reg r60_19) c60_60
def c60_62 : ACode := .seq (.reg r60_18) c60_61
def c60_63 : ACode := .cond (.t 92) (.reg r60_17) c60_62
def c60_64 : ACode := .seq (.reg r60_16) c60_63
def c60_65 : ACode := .cond (.t 81) (.reg r60_15) c60_64
def c60_66 : ACode := .seq (.reg r60_14) c60_65
def c60_67 : ACode := .cond (.t 75) (.reg r60_13) c60_66
def c60_68 : ACode := .seq (.reg r60_12) c60_67
def c60_69 : ACode := .cond (.t 68) (.reg r60_11) c60_68
def c60_70 : ACode := .seq (.reg r60_10) c60_69
def c60_71 : ACode := .cond (.t 57) (.reg r60_9) c60_70
def c60_72 : ACode := .seq (.reg r60_8) c60_71
def c60_73 : ACode := .cond (.t 46) (.reg r60_7) c60_72
def c60_74 : ACode := .seq (.reg r60_6) c60_73
def c60_75 : ACode := .cond (.t 33) (.reg r60_5) c60_74
def c60_76 : ACode := .seq (.reg r60_4) c60_75
def c60_77 : ACode := .block 0 c60_76
def c60_78 : ACode := .seq (.reg r60_3) c60_77
def r60_79 : List AOper := [ao 0 190 (.ld 18 true (.t 3)),
  an 1 (.st 18 (.t 4) (.t 190))]
def c60 : ACode := .seq (.reg r60_0) (.seq (.reg r60_1) (.seq (.reg r60_2) (.seq c60_78 (.seq (.reg r60_79) .ret))))
def s60 : List ARes := [.cell 4 18 true]
theorem ok60 : okF Try.prog 60 191 c60 s60 := ⟨Try.f60, Try.func60, Try.ntmps60, by kernel_rfl, by kernel_rfl, by kernel_rfl⟩
def UEp_1 := Bx.mk <|
  aN (uA c60.eq_1) <| aN (uR r60_0.eq_1) <| aN (uR r60_1.eq_1) <| aN (uR r60_2.eq_1) <| aN (uA c60_78.eq_1) <| aN (uR r60_3.eq_1) <| aN (uA c60_77.eq_1) <| aN (uA c60_76.eq_1) <| aN (uR r60_4.eq_1) <| aN (uA c60_75.eq_1) <| aN (uR r60_5.eq_1) <| aN (uA c60_74.eq_1) <| aN (uR r60_6.eq_1) <| aN (uA c60_73.eq_1) <| aN (uR r60_7.eq_1) <| aN (uA c60_72.eq_1) <| aN (uR r60_8.eq_1) <| aN (uA c60_71.eq_1) <| aN (uR r60_9.eq_1) <| aN (uA c60_70.eq_1) <| aN (uR r60_10.eq_1) <| aN (uA c60_69.eq_1) <| aN (uR r60_11.eq_1) <| aN (uA c60_68.eq_1) <| aN (uR r60_12.eq_1) <| aN (uA c60_67.eq_1) <| aN (uR r60_13.eq_1) <| aN (uA c60_66.eq_1) <| aN (uR r60_14.eq_1) <| aN (uA c60_65.eq_1) <| aN (uR r60_15.eq_1) <| aN (uA c60_64.eq_1) <| aN (uR r60_16.eq_1) <| aN (uA c60_63.eq_1) <| aN (uR r60_17.eq_1) <| aN (uA c60_62.eq_1) <| aN (uR r60_18.eq_1) <| aN (uA c60_61.eq_1) <| aN (uR r60_19.eq_1) <| aN (uA c60_60.eq_1) <| aN (uR r60_20.eq_1) <| aN (uA c60_59.eq_1) <| aN (uR r60_21.eq_1) <| aN (uA c60_58.eq_1) <| aN (uR r60_22.eq_1) <| aN (uA c60_57.eq_1) <| aN (uR r60_23.eq_1) <| aN (uA c60_56.eq_1) <| aN (uR r60_24.eq_1) <| aN (uA c60_55.eq_1) <| aN (uR r60_25.eq_1) <| aN (uA c60_54.eq_1) <| aN (uR r60_26.eq_1) <| aN (uA c60_53.eq_1) <| aN (uR r60_27.eq_1) <| aN (uA c60_52.eq_1) <| aN (uR r60_28.eq_1) <| aN (uA c60_51.eq_1) <| aN (uR r60_29.eq_1) <| aN (uA c60_50.eq_1) <| aN (uR r60_30.eq_1) <| aN (uA c60_49.eq_1) <| aN (uR r60_31.eq_1) <| aN (uA c60_48.eq_1) <| aN (uR r60_32.eq_1) <| aN (uA c60_47.eq_1) <| aN (uR r60_33.eq_1) <| aN (uA c60_46.eq_1) <| aN (uR r60_34.eq_1) <| aN (uA c60_45.eq_1) <| aN (uR r60_35.eq_1) <| aN (uA c60_44.eq_1) <| aN (uR r60_36.eq_1) <| aN (uA c60_43.eq_1) <| aN (uR r60_37.eq_1) <| aN (uA c60_42.eq_1) <| aN (uR r60_38.eq_1) <| aN (uA c60_41.eq_1) <| aN (uR r60_39.eq_1) <| aN (uR r60_40.eq_1) <| aN (uR r60_79.eq_1) <| s60.eq_1
set_option maxRecDepth 8000 in
set_option maxHeartbeats 8000000 in
theorem l54Spoil_ok (bs : List UInt8) (hb : bs.length ≤ 2000) (p : Int) (hp : 0 ≤ p ∧ p ≤ 10000000000) {w : CW} (h : Wf w) : RC 60 [tCW w] bs p 10 Small (fun w => .pt (.agg (cwC w))) := by
  obtain ⟨a1, ha1, hb1, C1⟩ := pick_ok bs hb p 4 (by omega) (by omega)
  obtain ⟨a2, ha2, hb2, C2⟩ := pick_ok bs hb (p + 1) 18 (by omega) (by omega)
  obtain ⟨p1, hp1⟩ : ∃ p1, p + 1 + 1 = p1 := ⟨_, rfl⟩
  have hs := h.small
  have hh1 := h.h1
  have hg1 := h.g1
  have hls := h.s
  have z1 := h.q
  have z2 := h.r
  have z3 := h.o
  have z4 := h.t
  have z5 := h.h
  have z6 := h.g
  have eh := en_at eH (hdAt_at (w := w) (i := 0) (by omega))
  have gh : (0 : Int) < w.hands.length := by omega
  have q0 : (w.queue.length + 1) * 8 ≤ 140737488355328 := by omega
  have r0 : w.queue.length + 1 ≤ 9223372036854775807 := by omega
  have q1 : (w.results.length + 1) * 8 ≤ 140737488355328 := by omega
  have r1 : w.results.length + 1 ≤ 9223372036854775807 := by omega
  have q2 : (w.out.length + 1) * 8 ≤ 140737488355328 := by omega
  have r2 : w.out.length + 1 ≤ 9223372036854775807 := by omega
  have q3 : (w.got.length + 1) * 8 ≤ 140737488355328 := by omega
  have r3 : w.got.length + 1 ≤ 9223372036854775807 := by omega
  obtain ⟨x, hx⟩ : ∃ x, IntKind.i64.wrap (a1 - 1) = x := ⟨_, rfl⟩
  refine RC.intro ok60 rfl (fun _ => rfl) fun X => ?_
  simp only [RUX, Nat.reduceAdd, reduceIte, Nat.reduceEqDiff, Nat.reduceLT, Nat.reduceLeDiff, reduceCtorEq, eq_self, wnH, rH, rV, rdC, rdr, FIX, forall_const, endE_n, endE_r, CHT, disj, Nat.reduceBEq, beq_self_eq_true, APT, APX, forall_eq, ALT, KI, UEp_1.d]
  refine callW7 (m := 2000) (ws := []) (ns := []) (copy_ok hs 2000) rfl rfl rfl (by decide) ⟨rfl, ?_⟩
  simp only [RUX, Nat.reduceAdd, reduceIte, Nat.reduceEqDiff, Nat.reduceLT, Nat.reduceLeDiff, reduceCtorEq, eq_self, wnH, rH, rV, rdC, rdr, FIX, forall_const, endE_n, endE_r, CHT, disj, Nat.reduceBEq, beq_self_eq_true, APT, APX, forall_eq, ALT, KI, UEp_1.d]
  refine callRc (C1 0) rfl rfl rfl rfl rfl ⟨rfl, ?_⟩
  simp only [RUX, Nat.reduceAdd, reduceIte, Nat.reduceEqDiff, Nat.reduceLT, Nat.reduceLeDiff, reduceCtorEq, eq_self, wnH, rH, rV, rdC, rdr, FIX, forall_const, endE_n, endE_r, CHT, disj, Nat.reduceBEq, beq_self_eq_true, APT, APX, forall_eq, ALT, KI, UEp_1.d, hx]
  refine callRc (C2 0) rfl rfl rfl rfl rfl ⟨rfl, ?_⟩
  rw [hp1]
  by_cases d0 : a2 = 0
  · have k0 := eqb d0
    obtain ⟨c, hc, gc, Pc⟩ := pick_ok bs hb (p1) 4 (by omega) (by omega)
    have g2 : c < ((4 : Nat) : Int) := gc
    obtain ⟨y, ey⟩ := idx_ex [-1, 61, w.next, IntKind.i64.wrap (w.next + 1)] c hc gc
    simp only [en, eI, List.map_cons, List.map_nil] at ey
    simp only [RUX, Nat.reduceAdd, reduceIte, Nat.reduceEqDiff, Nat.reduceLT, Nat.reduceLeDiff, reduceCtorEq, eq_self, wnH, rH, rV, rdC, rdr, FIX, forall_const, endE_n, endE_r, CHT, disj, Nat.reduceBEq, beq_self_eq_true, APT, APX, forall_eq, ALT, KI, UEp_1.d, k0, hx]
    refine callRc (Pc 0) rfl rfl rfl rfl rfl ⟨rfl, ?_⟩
    simp only [RUX, Nat.reduceAdd, reduceIte, Nat.reduceEqDiff, Nat.reduceLT, Nat.reduceLeDiff, reduceCtorEq, eq_self, wnH, rH, rV, rdC, rdr, FIX, forall_const, endE_n, endE_r, CHT, disj, Nat.reduceBEq, beq_self_eq_true, APT, APX, forall_eq, ALT, KI, UEp_1.d, k0, hx, hc, g2, ey]
    refine ES.mk (p1 + 1, { w with jobs := y }) ⟨by omega, by omega, by refine ⟨?_, ?_, ?_, ?_, ?_, ?_, ?_⟩ <;> simp only [List.length_set, List.length_append, List.length_singleton] <;> omega⟩ ?_
    simp only [RUX, Nat.reduceAdd, reduceIte, Nat.reduceEqDiff, Nat.reduceLT, Nat.reduceLeDiff, reduceCtorEq, eq_self, wnH, rH, rV, rdC, rdr, FIX, forall_const, endE_n, endE_r, CHT, disj, Nat.reduceBEq, beq_self_eq_true, APT, APX, forall_eq, ALT, KI, UEp_1.d, k0, hx, hc, g2, ey]
  have k0 := neqb d0
  by_cases d1 : a2 = 1
  · have k1 := eqb d1
    obtain ⟨c, hc, gc, Pc⟩ := pick_ok bs hb (p1) 3 (by omega) (by omega)
    have g2 : c < ((3 : Nat) : Int) := gc
    obtain ⟨y, ey⟩ := idx_ex [0, 9, IntKind.i64.wrap (w.workers + 1)] c hc gc
    simp only [en, eI, List.map_cons, List.map_nil] at ey
    simp only [RUX, Nat.reduceAdd, reduceIte, Nat.reduceEqDiff, Nat.reduceLT, Nat.reduceLeDiff, reduceCtorEq, eq_self, wnH, rH, rV, rdC, rdr, FIX, forall_const, endE_n, endE_r, CHT, disj, Nat.reduceBEq, beq_self_eq_true, APT, APX, forall_eq, ALT, KI, UEp_1.d, k0, k1, hx]
    refine callRc (Pc 0) rfl rfl rfl rfl rfl ⟨rfl, ?_⟩
    simp only [RUX, Nat.reduceAdd, reduceIte, Nat.reduceEqDiff, Nat.reduceLT, Nat.reduceLeDiff, reduceCtorEq, eq_self, wnH, rH, rV, rdC, rdr, FIX, forall_const, endE_n, endE_r, CHT, disj, Nat.reduceBEq, beq_self_eq_true, APT, APX, forall_eq, ALT, KI, UEp_1.d, k0, k1, hx, hc, g2, ey]
    refine ES.mk (p1 + 1, { w with workers := y }) ⟨by omega, by omega, by refine ⟨?_, ?_, ?_, ?_, ?_, ?_, ?_⟩ <;> simp only [List.length_set, List.length_append, List.length_singleton] <;> omega⟩ ?_
    simp only [RUX, Nat.reduceAdd, reduceIte, Nat.reduceEqDiff, Nat.reduceLT, Nat.reduceLeDiff, reduceCtorEq, eq_self, wnH, rH, rV, rdC, rdr, FIX, forall_const, endE_n, endE_r, CHT, disj, Nat.reduceBEq, beq_self_eq_true, APT, APX, forall_eq, ALT, KI, UEp_1.d, k0, k1, hx, hc, g2, ey]
  have k1 := neqb d1
  by_cases d2 : a2 = 2
  · have k2 := eqb d2
    obtain ⟨c, hc, gc, Pc⟩ := pick_ok bs hb (p1) 3 (by omega) (by omega)
    have g2 : c < ((3 : Nat) : Int) := gc
    obtain ⟨y, ey⟩ := idx_ex [0, 17, IntKind.i64.wrap (w.window + 1)] c hc gc
    simp only [en, eI, List.map_cons, List.map_nil] at ey
    simp only [RUX, Nat.reduceAdd, reduceIte, Nat.reduceEqDiff, Nat.reduceLT, Nat.reduceLeDiff, reduceCtorEq, eq_self, wnH, rH, rV, rdC, rdr, FIX, forall_const, endE_n, endE_r, CHT, disj, Nat.reduceBEq, beq_self_eq_true, APT, APX, forall_eq, ALT, KI, UEp_1.d, k0, k1, k2, hx]
    refine callRc (Pc 0) rfl rfl rfl rfl rfl ⟨rfl, ?_⟩
    simp only [RUX, Nat.reduceAdd, reduceIte, Nat.reduceEqDiff, Nat.reduceLT, Nat.reduceLeDiff, reduceCtorEq, eq_self, wnH, rH, rV, rdC, rdr, FIX, forall_const, endE_n, endE_r, CHT, disj, Nat.reduceBEq, beq_self_eq_true, APT, APX, forall_eq, ALT, KI, UEp_1.d, k0, k1, k2, hx, hc, g2, ey]
    refine ES.mk (p1 + 1, { w with window := y }) ⟨by omega, by omega, by refine ⟨?_, ?_, ?_, ?_, ?_, ?_, ?_⟩ <;> simp only [List.length_set, List.length_append, List.length_singleton] <;> omega⟩ ?_
    simp only [RUX, Nat.reduceAdd, reduceIte, Nat.reduceEqDiff, Nat.reduceLT, Nat.reduceLeDiff, reduceCtorEq, eq_self, wnH, rH, rV, rdC, rdr, FIX, forall_const, endE_n, endE_r, CHT, disj, Nat.reduceBEq, beq_self_eq_true, APT, APX, forall_eq, ALT, KI, UEp_1.d, k0, k1, k2, hx, hc, g2, ey]
  have k2 := neqb d2
  by_cases d3 : a2 = 3
  · have k3 := eqb d3
    simp only [RUX, Nat.reduceAdd, reduceIte, Nat.reduceEqDiff, Nat.reduceLT, Nat.reduceLeDiff, reduceCtorEq, eq_self, wnH, rH, rV, rdC, rdr, FIX, forall_const, endE_n, endE_r, CHT, disj, Nat.reduceBEq, beq_self_eq_true, APT, APX, forall_eq, ALT, KI, UEp_1.d, k0, k1, k2, k3, hx]
    refine ES.mk (p1, { w with next := IntKind.i64.wrap (w.next + x) }) ⟨by omega, by omega, by refine ⟨?_, ?_, ?_, ?_, ?_, ?_, ?_⟩ <;> simp only [List.length_set, List.length_append, List.length_singleton] <;> omega⟩ ?_
    simp only [RUX, Nat.reduceAdd, reduceIte, Nat.reduceEqDiff, Nat.reduceLT, Nat.reduceLeDiff, reduceCtorEq, eq_self, wnH, rH, rV, rdC, rdr, FIX, forall_const, endE_n, endE_r, CHT, disj, Nat.reduceBEq, beq_self_eq_true, APT, APX, forall_eq, ALT, KI, UEp_1.d, k0, k1, k2, k3, hx]
  have k3 := neqb d3
  by_cases d4 : a2 = 4
  · have k4 := eqb d4
    obtain ⟨c, hc, gc, Pc⟩ := pick_ok bs hb (p1) 6 (by omega) (by omega)
    simp only [RUX, Nat.reduceAdd, reduceIte, Nat.reduceEqDiff, Nat.reduceLT, Nat.reduceLeDiff, reduceCtorEq, eq_self, wnH, rH, rV, rdC, rdr, FIX, forall_const, endE_n, endE_r, CHT, disj, Nat.reduceBEq, beq_self_eq_true, APT, APX, forall_eq, ALT, KI, UEp_1.d, k0, k1, k2, k3, k4, hx]
    refine callRc (Pc 0) rfl rfl rfl rfl rfl ⟨rfl, ?_⟩
    simp only [RUX, Nat.reduceAdd, reduceIte, Nat.reduceEqDiff, Nat.reduceLT, Nat.reduceLeDiff, reduceCtorEq, eq_self, wnH, rH, rV, rdC, rdr, FIX, forall_const, endE_n, endE_r, CHT, disj, Nat.reduceBEq, beq_self_eq_true, APT, APX, forall_eq, ALT, KI, UEp_1.d, k0, k1, k2, k3, k4, hx]
    refine ES.mk (p1 + 1, { w with reader := IntKind.i64.wrap (c - 1) }) ⟨by omega, by omega, by refine ⟨?_, ?_, ?_, ?_, ?_, ?_, ?_⟩ <;> simp only [List.length_set, List.length_append, List.length_singleton] <;> omega⟩ ?_
    simp only [RUX, Nat.reduceAdd, reduceIte, Nat.reduceEqDiff, Nat.reduceLT, Nat.reduceLeDiff, reduceCtorEq, eq_self, wnH, rH, rV, rdC, rdr, FIX, forall_const, endE_n, endE_r, CHT, disj, Nat.reduceBEq, beq_self_eq_true, APT, APX, forall_eq, ALT, KI, UEp_1.d, k0, k1, k2, k3, k4, hx]
  have k4 := neqb d4
  by_cases d5 : a2 = 5
  · have k5 := eqb d5
    simp only [RUX, Nat.reduceAdd, reduceIte, Nat.reduceEqDiff, Nat.reduceLT, Nat.reduceLeDiff, reduceCtorEq, eq_self, wnH, rH, rV, rdC, rdr, FIX, forall_const, endE_n, endE_r, CHT, disj, Nat.reduceBEq, beq_self_eq_true, APT, APX, forall_eq, ALT, KI, UEp_1.d, k0, k1, k2, k3, k4, k5, hx, q0, r0, SNT]
    refine ES.mk (p1, { w with queue := w.queue ++ [IntKind.i64.wrap (w.due + x)] }) ⟨by omega, by omega, by refine ⟨?_, ?_, ?_, ?_, ?_, ?_, ?_⟩ <;> simp only [List.length_set, List.length_append, List.length_singleton] <;> omega⟩ ?_
    simp only [RUX, Nat.reduceAdd, reduceIte, Nat.reduceEqDiff, Nat.reduceLT, Nat.reduceLeDiff, reduceCtorEq, eq_self, wnH, rH, rV, rdC, rdr, FIX, forall_const, endE_n, endE_r, CHT, disj, Nat.reduceBEq, beq_self_eq_true, APT, APX, forall_eq, ALT, KI, UEp_1.d, k0, k1, k2, k3, k4, k5, hx, q0, r0, SNT]
  have k5 := neqb d5
  by_cases d6 : a2 = 6
  · have k6 := eqb d6
    obtain ⟨c, hc, gc, Pc⟩ := pick_ok bs hb (p1) 6 (by omega) (by omega)
    simp only [RUX, Nat.reduceAdd, reduceIte, Nat.reduceEqDiff, Nat.reduceLT, Nat.reduceLeDiff, reduceCtorEq, eq_self, wnH, rH, rV, rdC, rdr, FIX, forall_const, endE_n, endE_r, CHT, disj, Nat.reduceBEq, beq_self_eq_true, APT, APX, forall_eq, ALT, KI, UEp_1.d, k0, k1, k2, k3, k4, k5, k6, hx]
    refine callRc (Pc 0) rfl rfl rfl rfl rfl ⟨rfl, ?_⟩
    simp only [RUX, Nat.reduceAdd, reduceIte, Nat.reduceEqDiff, Nat.reduceLT, Nat.reduceLeDiff, reduceCtorEq, eq_self, wnH, rH, rV, rdC, rdr, FIX, forall_const, endE_n, endE_r, CHT, disj, Nat.reduceBEq, beq_self_eq_true, APT, APX, forall_eq, ALT, KI, UEp_1.d, k0, k1, k2, k3, k4, k5, k6, hx, eh, gh, eH, SNT]
    refine ES.mk (p1 + 1, { w with hands := w.hands.set 0 ⟨IntKind.i64.wrap (c - 1), (hdAt w 0).job⟩ }) ⟨by omega, by omega, by refine ⟨?_, ?_, ?_, ?_, ?_, ?_, ?_⟩ <;> simp only [List.length_set, List.length_append, List.length_singleton] <;> omega⟩ ?_
    simp only [RUX, Nat.reduceAdd, reduceIte, Nat.reduceEqDiff, Nat.reduceLT, Nat.reduceLeDiff, reduceCtorEq, eq_self, wnH, rH, rV, rdC, rdr, FIX, forall_const, endE_n, endE_r, CHT, disj, Nat.reduceBEq, beq_self_eq_true, APT, APX, forall_eq, ALT, KI, UEp_1.d, k0, k1, k2, k3, k4, k5, k6, hx, eh, gh, eH, SNT]
  have k6 := neqb d6
  by_cases d7 : a2 = 7
  · have k7 := eqb d7
    simp only [RUX, Nat.reduceAdd, reduceIte, Nat.reduceEqDiff, Nat.reduceLT, Nat.reduceLeDiff, reduceCtorEq, eq_self, wnH, rH, rV, rdC, rdr, FIX, forall_const, endE_n, endE_r, CHT, disj, Nat.reduceBEq, beq_self_eq_true, APT, APX, forall_eq, ALT, KI, UEp_1.d, k0, k1, k2, k3, k4, k5, k6, k7, hx, eh, gh, eH, SNT]
    refine ES.mk (p1, { w with hands := w.hands.set 0 ⟨(hdAt w 0).state, IntKind.i64.wrap (w.due + x)⟩ }) ⟨by omega, by omega, by refine ⟨?_, ?_, ?_, ?_, ?_, ?_, ?_⟩ <;> simp only [List.length_set, List.length_append, List.length_singleton] <;> omega⟩ ?_
    simp only [RUX, Nat.reduceAdd, reduceIte, Nat.reduceEqDiff, Nat.reduceLT, Nat.reduceLeDiff, reduceCtorEq, eq_self, wnH, rH, rV, rdC, rdr, FIX, forall_const, endE_n, endE_r, CHT, disj, Nat.reduceBEq, beq_self_eq_true, APT, APX, forall_eq, ALT, KI, UEp_1.d, k0, k1, k2, k3, k4, k5, k6, k7, hx, eh, gh, eH, SNT]
  have k7 := neqb d7
  by_cases d8 : a2 = 8
  · have k8 := eqb d8
    obtain ⟨c, hc, gc, Pc⟩ := pick_ok bs hb (p1) 4 (by omega) (by omega)
    simp only [RUX, Nat.reduceAdd, reduceIte, Nat.reduceEqDiff, Nat.reduceLT, Nat.reduceLeDiff, reduceCtorEq, eq_self, wnH, rH, rV, rdC, rdr, FIX, forall_const, endE_n, endE_r, CHT, disj, Nat.reduceBEq, beq_self_eq_true, APT, APX, forall_eq, ALT, KI, UEp_1.d, k0, k1, k2, k3, k4, k5, k6, k7, k8, hx]
    refine callRc (Pc 0) rfl rfl rfl rfl rfl ⟨rfl, ?_⟩
    simp only [RUX, Nat.reduceAdd, reduceIte, Nat.reduceEqDiff, Nat.reduceLT, Nat.reduceLeDiff, reduceCtorEq, eq_self, wnH, rH, rV, rdC, rdr, FIX, forall_const, endE_n, endE_r, CHT, disj, Nat.reduceBEq, beq_self_eq_true, APT, APX, forall_eq, ALT, KI, UEp_1.d, k0, k1, k2, k3, k4, k5, k6, k7, k8, hx]
    refine ES.mk (p1 + 1, { w with closer := IntKind.i64.wrap (c - 1) }) ⟨by omega, by omega, by refine ⟨?_, ?_, ?_, ?_, ?_, ?_, ?_⟩ <;> simp only [List.length_set, List.length_append, List.length_singleton] <;> omega⟩ ?_
    simp only [RUX, Nat.reduceAdd, reduceIte, Nat.reduceEqDiff, Nat.reduceLT, Nat.reduceLeDiff, reduceCtorEq, eq_self, wnH, rH, rV, rdC, rdr, FIX, forall_const, endE_n, endE_r, CHT, disj, Nat.reduceBEq, beq_self_eq_true, APT, APX, forall_eq, ALT, KI, UEp_1.d, k0, k1, k2, k3, k4, k5, k6, k7, k8, hx]
  have k8 := neqb d8
  by_cases d9 : a2 = 9
  · have k9 := eqb d9
    simp only [RUX, Nat.reduceAdd, reduceIte, Nat.reduceEqDiff, Nat.reduceLT, Nat.reduceLeDiff, reduceCtorEq, eq_self, wnH, rH, rV, rdC, rdr, FIX, forall_const, endE_n, endE_r, CHT, disj, Nat.reduceBEq, beq_self_eq_true, APT, APX, forall_eq, ALT, KI, UEp_1.d, k0, k1, k2, k3, k4, k5, k6, k7, k8, k9, hx, q1, r1, SNT]
    refine ES.mk (p1, { w with results := w.results ++ [IntKind.i64.wrap (w.due + x)] }) ⟨by omega, by omega, by refine ⟨?_, ?_, ?_, ?_, ?_, ?_, ?_⟩ <;> simp only [List.length_set, List.length_append, List.length_singleton] <;> omega⟩ ?_
    simp only [RUX, Nat.reduceAdd, reduceIte, Nat.reduceEqDiff, Nat.reduceLT, Nat.reduceLeDiff, reduceCtorEq, eq_self, wnH, rH, rV, rdC, rdr, FIX, forall_const, endE_n, endE_r, CHT, disj, Nat.reduceBEq, beq_self_eq_true, APT, APX, forall_eq, ALT, KI, UEp_1.d, k0, k1, k2, k3, k4, k5, k6, k7, k8, k9, hx, q1, r1, SNT]
  have k9 := neqb d9
  by_cases d10 : a2 = 10
  · have k10 := eqb d10
    obtain ⟨c, hc, gc, Pc⟩ := pick_ok bs hb (p1) 8 (by omega) (by omega)
    simp only [RUX, Nat.reduceAdd, reduceIte, Nat.reduceEqDiff, Nat.reduceLT, Nat.reduceLeDiff, reduceCtorEq, eq_self, wnH, rH, rV, rdC, rdr, FIX, forall_const, endE_n, endE_r, CHT, disj, Nat.reduceBEq, beq_self_eq_true, APT, APX, forall_eq, ALT, KI, UEp_1.d, k0, k1, k2, k3, k4, k5, k6, k7, k8, k9, k10, hx]
    refine callRc (Pc 0) rfl rfl rfl rfl rfl ⟨rfl, ?_⟩
    simp only [RUX, Nat.reduceAdd, reduceIte, Nat.reduceEqDiff, Nat.reduceLT, Nat.reduceLeDiff, reduceCtorEq, eq_self, wnH, rH, rV, rdC, rdr, FIX, forall_const, endE_n, endE_r, CHT, disj, Nat.reduceBEq, beq_self_eq_true, APT, APX, forall_eq, ALT, KI, UEp_1.d, k0, k1, k2, k3, k4, k5, k6, k7, k8, k9, k10, hx]
    refine ES.mk (p1 + 1, { w with keeper := IntKind.i64.wrap (c - 1) }) ⟨by omega, by omega, by refine ⟨?_, ?_, ?_, ?_, ?_, ?_, ?_⟩ <;> simp only [List.length_set, List.length_append, List.length_singleton] <;> omega⟩ ?_
    simp only [RUX, Nat.reduceAdd, reduceIte, Nat.reduceEqDiff, Nat.reduceLT, Nat.reduceLeDiff, reduceCtorEq, eq_self, wnH, rH, rV, rdC, rdr, FIX, forall_const, endE_n, endE_r, CHT, disj, Nat.reduceBEq, beq_self_eq_true, APT, APX, forall_eq, ALT, KI, UEp_1.d, k0, k1, k2, k3, k4, k5, k6, k7, k8, k9, k10, hx]
  have k10 := neqb d10
  by_cases d11 : a2 = 11
  · have k11 := eqb d11
    obtain ⟨c, hc, gc, Pc⟩ := pick_ok bs hb (p1) w.ring.length (by omega) (by omega)
    obtain ⟨y, ey⟩ := idx_ex w.ring c hc gc
    simp only [RUX, Nat.reduceAdd, reduceIte, Nat.reduceEqDiff, Nat.reduceLT, Nat.reduceLeDiff, reduceCtorEq, eq_self, wnH, rH, rV, rdC, rdr, FIX, forall_const, endE_n, endE_r, CHT, disj, Nat.reduceBEq, beq_self_eq_true, APT, APX, forall_eq, ALT, KI, UEp_1.d, k0, k1, k2, k3, k4, k5, k6, k7, k8, k9, k10, k11, hx]
    refine callRc (Pc 0) rfl rfl rfl rfl rfl ⟨rfl, ?_⟩
    simp only [RUX, Nat.reduceAdd, reduceIte, Nat.reduceEqDiff, Nat.reduceLT, Nat.reduceLeDiff, reduceCtorEq, eq_self, wnH, rH, rV, rdC, rdr, FIX, forall_const, endE_n, endE_r, CHT, disj, Nat.reduceBEq, beq_self_eq_true, APT, APX, forall_eq, ALT, KI, UEp_1.d, k0, k1, k2, k3, k4, k5, k6, k7, k8, k9, k10, k11, hx, hc, gc, ey, eI, SNT]
    refine ES.mk (p1 + 1, { w with ring := w.ring.set c.toNat (IntKind.i64.wrap (w.due + x)) }) ⟨by omega, by omega, by refine ⟨?_, ?_, ?_, ?_, ?_, ?_, ?_⟩ <;> simp only [List.length_set, List.length_append, List.length_singleton] <;> omega⟩ ?_
    simp only [RUX, Nat.reduceAdd, reduceIte, Nat.reduceEqDiff, Nat.reduceLT, Nat.reduceLeDiff, reduceCtorEq, eq_self, wnH, rH, rV, rdC, rdr, FIX, forall_const, endE_n, endE_r, CHT, disj, Nat.reduceBEq, beq_self_eq_true, APT, APX, forall_eq, ALT, KI, UEp_1.d, k0, k1, k2, k3, k4, k5, k6, k7, k8, k9, k10, k11, hx, hc, gc, ey, eI, SNT]
  have k11 := neqb d11
  by_cases d12 : a2 = 12
  · have k12 := eqb d12
    simp only [RUX, Nat.reduceAdd, reduceIte, Nat.reduceEqDiff, Nat.reduceLT, Nat.reduceLeDiff, reduceCtorEq, eq_self, wnH, rH, rV, rdC, rdr, FIX, forall_const, endE_n, endE_r, CHT, disj, Nat.reduceBEq, beq_self_eq_true, APT, APX, forall_eq, ALT, KI, UEp_1.d, k0, k1, k2, k3, k4, k5, k6, k7, k8, k9, k10, k11, k12, hx]
    refine ES.mk (p1, { w with due := IntKind.i64.wrap (w.due + x) }) ⟨by omega, by omega, by refine ⟨?_, ?_, ?_, ?_, ?_, ?_, ?_⟩ <;> simp only [List.length_set, List.length_append, List.length_singleton] <;> omega⟩ ?_
    simp only [RUX, Nat.reduceAdd, reduceIte, Nat.reduceEqDiff, Nat.reduceLT, Nat.reduceLeDiff, reduceCtorEq, eq_self, wnH, rH, rV, rdC, rdr, FIX, forall_const, endE_n, endE_r, CHT, disj, Nat.reduceBEq, beq_self_eq_true, APT, APX, forall_eq, ALT, KI, UEp_1.d, k0, k1, k2, k3, k4, k5, k6, k7, k8, k9, k10, k11, k12, hx]
  have k12 := neqb d12
  by_cases d13 : a2 = 13
  · have k13 := eqb d13
    simp only [RUX, Nat.reduceAdd, reduceIte, Nat.reduceEqDiff, Nat.reduceLT, Nat.reduceLeDiff, reduceCtorEq, eq_self, wnH, rH, rV, rdC, rdr, FIX, forall_const, endE_n, endE_r, CHT, disj, Nat.reduceBEq, beq_self_eq_true, APT, APX, forall_eq, ALT, KI, UEp_1.d, k0, k1, k2, k3, k4, k5, k6, k7, k8, k9, k10, k11, k12, k13, hx, q2, r2, SNT]
    refine ES.mk (p1, { w with out := w.out ++ [IntKind.i64.wrap (w.due - 1)] }) ⟨by omega, by omega, by refine ⟨?_, ?_, ?_, ?_, ?_, ?_, ?_⟩ <;> simp only [List.length_set, List.length_append, List.length_singleton] <;> omega⟩ ?_
    simp only [RUX, Nat.reduceAdd, reduceIte, Nat.reduceEqDiff, Nat.reduceLT, Nat.reduceLeDiff, reduceCtorEq, eq_self, wnH, rH, rV, rdC, rdr, FIX, forall_const, endE_n, endE_r, CHT, disj, Nat.reduceBEq, beq_self_eq_true, APT, APX, forall_eq, ALT, KI, UEp_1.d, k0, k1, k2, k3, k4, k5, k6, k7, k8, k9, k10, k11, k12, k13, hx, q2, r2, SNT]
  have k13 := neqb d13
  by_cases d14 : a2 = 14
  · have k14 := eqb d14
    obtain ⟨c, hc, gc, Pc⟩ := pick_ok bs hb (p1) 4 (by omega) (by omega)
    simp only [RUX, Nat.reduceAdd, reduceIte, Nat.reduceEqDiff, Nat.reduceLT, Nat.reduceLeDiff, reduceCtorEq, eq_self, wnH, rH, rV, rdC, rdr, FIX, forall_const, endE_n, endE_r, CHT, disj, Nat.reduceBEq, beq_self_eq_true, APT, APX, forall_eq, ALT, KI, UEp_1.d, k0, k1, k2, k3, k4, k5, k6, k7, k8, k9, k10, k11, k12, k13, k14, hx]
    refine callRc (Pc 0) rfl rfl rfl rfl rfl ⟨rfl, ?_⟩
    simp only [RUX, Nat.reduceAdd, reduceIte, Nat.reduceEqDiff, Nat.reduceLT, Nat.reduceLeDiff, reduceCtorEq, eq_self, wnH, rH, rV, rdC, rdr, FIX, forall_const, endE_n, endE_r, CHT, disj, Nat.reduceBEq, beq_self_eq_true, APT, APX, forall_eq, ALT, KI, UEp_1.d, k0, k1, k2, k3, k4, k5, k6, k7, k8, k9, k10, k11, k12, k13, k14, hx]
    refine ES.mk (p1 + 1, { w with user := IntKind.i64.wrap (c - 1) }) ⟨by omega, by omega, by refine ⟨?_, ?_, ?_, ?_, ?_, ?_, ?_⟩ <;> simp only [List.length_set, List.length_append, List.length_singleton] <;> omega⟩ ?_
    simp only [RUX, Nat.reduceAdd, reduceIte, Nat.reduceEqDiff, Nat.reduceLT, Nat.reduceLeDiff, reduceCtorEq, eq_self, wnH, rH, rV, rdC, rdr, FIX, forall_const, endE_n, endE_r, CHT, disj, Nat.reduceBEq, beq_self_eq_true, APT, APX, forall_eq, ALT, KI, UEp_1.d, k0, k1, k2, k3, k4, k5, k6, k7, k8, k9, k10, k11, k12, k13, k14, hx]
  have k14 := neqb d14
  by_cases d15 : a2 = 15
  · have k15 := eqb d15
    simp only [RUX, Nat.reduceAdd, reduceIte, Nat.reduceEqDiff, Nat.reduceLT, Nat.reduceLeDiff, reduceCtorEq, eq_self, wnH, rH, rV, rdC, rdr, FIX, forall_const, endE_n, endE_r, CHT, disj, Nat.reduceBEq, beq_self_eq_true, APT, APX, forall_eq, ALT, KI, UEp_1.d, k0, k1, k2, k3, k4, k5, k6, k7, k8, k9, k10, k11, k12, k13, k14, k15, hx, q3, r3, SNT]
    refine ES.mk (p1, { w with got := w.got ++ [IntKind.i64.wrap (w.got.length + x)] }) ⟨by omega, by omega, by refine ⟨?_, ?_, ?_, ?_, ?_, ?_, ?_⟩ <;> simp only [List.length_set, List.length_append, List.length_singleton] <;> omega⟩ ?_
    simp only [RUX, Nat.reduceAdd, reduceIte, Nat.reduceEqDiff, Nat.reduceLT, Nat.reduceLeDiff, reduceCtorEq, eq_self, wnH, rH, rV, rdC, rdr, FIX, forall_const, endE_n, endE_r, CHT, disj, Nat.reduceBEq, beq_self_eq_true, APT, APX, forall_eq, ALT, KI, UEp_1.d, k0, k1, k2, k3, k4, k5, k6, k7, k8, k9, k10, k11, k12, k13, k14, k15, hx, q3, r3, SNT]
  have k15 := neqb d15
  by_cases d16 : a2 = 16
  · have k16 := eqb d16
    simp only [RUX, Nat.reduceAdd, reduceIte, Nat.reduceEqDiff, Nat.reduceLT, Nat.reduceLeDiff, reduceCtorEq, eq_self, wnH, rH, rV, rdC, rdr, FIX, forall_const, endE_n, endE_r, CHT, disj, Nat.reduceBEq, beq_self_eq_true, APT, APX, forall_eq, ALT, KI, UEp_1.d, k0, k1, k2, k3, k4, k5, k6, k7, k8, k9, k10, k11, k12, k13, k14, k15, k16, hx]
    refine ES.mk (p1, { w with room := IntKind.i64.wrap (w.room + x) }) ⟨by omega, by omega, by refine ⟨?_, ?_, ?_, ?_, ?_, ?_, ?_⟩ <;> simp only [List.length_set, List.length_append, List.length_singleton] <;> omega⟩ ?_
    simp only [RUX, Nat.reduceAdd, reduceIte, Nat.reduceEqDiff, Nat.reduceLT, Nat.reduceLeDiff, reduceCtorEq, eq_self, wnH, rH, rV, rdC, rdr, FIX, forall_const, endE_n, endE_r, CHT, disj, Nat.reduceBEq, beq_self_eq_true, APT, APX, forall_eq, ALT, KI, UEp_1.d, k0, k1, k2, k3, k4, k5, k6, k7, k8, k9, k10, k11, k12, k13, k14, k15, k16, hx]
  have k16 := neqb d16
  obtain ⟨c, hc, gc, Pc⟩ := pick_ok bs hb (p1) 2 (by omega) (by omega)
  simp only [RUX, Nat.reduceAdd, reduceIte, Nat.reduceEqDiff, Nat.reduceLT, Nat.reduceLeDiff, reduceCtorEq, eq_self, wnH, rH, rV, rdC, rdr, FIX, forall_const, endE_n, endE_r, CHT, disj, Nat.reduceBEq, beq_self_eq_true, APT, APX, forall_eq, ALT, KI, UEp_1.d, k0, k1, k2, k3, k4, k5, k6, k7, k8, k9, k10, k11, k12, k13, k14, k15, k16, hx]
  refine callRc (Pc 0) rfl rfl rfl rfl rfl ⟨rfl, ?_⟩
  by_cases c0 : c = 0
  · have kc := eqb c0
    obtain ⟨d, hd, gd, Pd⟩ := pick_ok bs hb (p1 + 1) 4 (by omega) (by omega)
    obtain ⟨e, he, ge, Pe⟩ := pick_ok bs hb (p1 + 1 + 1) 4 (by omega) (by omega)
    obtain ⟨y, ey⟩ := idx_ex w.shut d hd (by omega)
    have g2 : d < w.shut.length := by omega
    simp only [RUX, Nat.reduceAdd, reduceIte, Nat.reduceEqDiff, Nat.reduceLT, Nat.reduceLeDiff, reduceCtorEq, eq_self, wnH, rH, rV, rdC, rdr, FIX, forall_const, endE_n, endE_r, CHT, disj, Nat.reduceBEq, beq_self_eq_true, APT, APX, forall_eq, ALT, KI, UEp_1.d, k0, k1, k2, k3, k4, k5, k6, k7, k8, k9, k10, k11, k12, k13, k14, k15, k16, hx, kc]
    refine callRc (Pd 0) rfl rfl rfl rfl rfl ⟨rfl, ?_⟩
    simp only [RUX, Nat.reduceAdd, reduceIte, Nat.reduceEqDiff, Nat.reduceLT, Nat.reduceLeDiff, reduceCtorEq, eq_self, wnH, rH, rV, rdC, rdr, FIX, forall_const, endE_n, endE_r, CHT, disj, Nat.reduceBEq, beq_self_eq_true, APT, APX, forall_eq, ALT, KI, UEp_1.d, k0, k1, k2, k3, k4, k5, k6, k7, k8, k9, k10, k11, k12, k13, k14, k15, k16, hx, kc]
    refine callRc (Pe 0) rfl rfl rfl rfl rfl ⟨rfl, ?_⟩
    simp only [RUX, Nat.reduceAdd, reduceIte, Nat.reduceEqDiff, Nat.reduceLT, Nat.reduceLeDiff, reduceCtorEq, eq_self, wnH, rH, rV, rdC, rdr, FIX, forall_const, endE_n, endE_r, CHT, disj, Nat.reduceBEq, beq_self_eq_true, APT, APX, forall_eq, ALT, KI, UEp_1.d, k0, k1, k2, k3, k4, k5, k6, k7, k8, k9, k10, k11, k12, k13, k14, k15, k16, hx, kc, hd, g2, ey, eI, SNT]
    refine ES.mk (p1 + 1 + 1 + 1, { w with shut := w.shut.set d.toNat (IntKind.i64.wrap (e - 1)) }) ⟨by omega, by omega, by refine ⟨?_, ?_, ?_, ?_, ?_, ?_, ?_⟩ <;> simp only [List.length_set, List.length_append, List.length_singleton] <;> omega⟩ ?_
    simp only [RUX, Nat.reduceAdd, reduceIte, Nat.reduceEqDiff, Nat.reduceLT, Nat.reduceLeDiff, reduceCtorEq, eq_self, wnH, rH, rV, rdC, rdr, FIX, forall_const, endE_n, endE_r, CHT, disj, Nat.reduceBEq, beq_self_eq_true, APT, APX, forall_eq, ALT, KI, UEp_1.d, k0, k1, k2, k3, k4, k5, k6, k7, k8, k9, k10, k11, k12, k13, k14, k15, k16, hx, kc, hd, g2, ey, eI, SNT]
  · have kc := neqb c0
    obtain ⟨d, hd, gd, Pd⟩ := pick_ok bs hb (p1 + 1) 5 (by omega) (by omega)
    have g2 : d < ((5 : Nat) : Int) := gd
    obtain ⟨y, ey⟩ := idx_ex [-1, 0, 9999, 10001, IntKind.i64.wrap (w.ops + 1)] d hd gd
    simp only [en, eI, List.map_cons, List.map_nil] at ey
    simp only [RUX, Nat.reduceAdd, reduceIte, Nat.reduceEqDiff, Nat.reduceLT, Nat.reduceLeDiff, reduceCtorEq, eq_self, wnH, rH, rV, rdC, rdr, FIX, forall_const, endE_n, endE_r, CHT, disj, Nat.reduceBEq, beq_self_eq_true, APT, APX, forall_eq, ALT, KI, UEp_1.d, k0, k1, k2, k3, k4, k5, k6, k7, k8, k9, k10, k11, k12, k13, k14, k15, k16, hx, kc]
    refine callRc (Pd 0) rfl rfl rfl rfl rfl ⟨rfl, ?_⟩
    simp only [RUX, Nat.reduceAdd, reduceIte, Nat.reduceEqDiff, Nat.reduceLT, Nat.reduceLeDiff, reduceCtorEq, eq_self, wnH, rH, rV, rdC, rdr, FIX, forall_const, endE_n, endE_r, CHT, disj, Nat.reduceBEq, beq_self_eq_true, APT, APX, forall_eq, ALT, KI, UEp_1.d, k0, k1, k2, k3, k4, k5, k6, k7, k8, k9, k10, k11, k12, k13, k14, k15, k16, hx, kc, hd, g2, ey]
    refine ES.mk (p1 + 1 + 1, { w with ops := y }) ⟨by omega, by omega, by refine ⟨?_, ?_, ?_, ?_, ?_, ?_, ?_⟩ <;> simp only [List.length_set, List.length_append, List.length_singleton] <;> omega⟩ ?_
    simp only [RUX, Nat.reduceAdd, reduceIte, Nat.reduceEqDiff, Nat.reduceLT, Nat.reduceLeDiff, reduceCtorEq, eq_self, wnH, rH, rV, rdC, rdr, FIX, forall_const, endE_n, endE_r, CHT, disj, Nat.reduceBEq, beq_self_eq_true, APT, APX, forall_eq, ALT, KI, UEp_1.d, k0, k1, k2, k3, k4, k5, k6, k7, k8, k9, k10, k11, k12, k13, k14, k15, k16, hx, kc, hd, g2, ey]
end Go.V
set_option linter.unusedVariables false
set_option linter.unusedSimpArgs false
namespace Go.V
open Go.Proofs
/- loop.example/teagle/spec.l54Any -/
def r33_0 : List AOper := [ao 0 2 (.alloc 29 [(.v (.s (.int .i64 0))), (.v (.s (.int .i64 0))), (.v (.s (.int .i64 0))), (.v (.s (.int .i64 0))), (.v (.s (.int .i64 0))), .nil0, .nil0, (.v (.s (.int .i64 0))), .nil0, (.v (.s (.int .i64 0))), .nil0, (.v (.s (.int .i64 0))), .nil0, (.v (.s (.int .i64 0))), .nil0, (.v (.s (.int .i64 0))), .nil0, (.v (.s (.int .i64 0)))])]
def r33_1 : List AOper := [ao 0 4 (.mv (.t 0)),
  ao 1 5 (.call (.k (.c (.fn 59 []))) [(.t 4)]),
  ao 2 3 (.alloc 29 [(.v (.s (.int .i64 0))), (.v (.s (.int .i64 0))), (.v (.s (.int .i64 0))), (.v (.s (.int .i64 0))), (.v (.s (.int .i64 0))), .nil0, .nil0, (.v (.s (.int .i64 0))), .nil0, (.v (.s (.int .i64 0))), .nil0, (.v (.s (.int .i64 0))), .nil0, (.v (.s (.int .i64 0))), .nil0, (.v (.s (.int .i64 0))), .nil0, (.v (.s (.int .i64 0)))]),
  an 3 (.st 18 (.t 3) (.t 5))]
def r33_2 : List AOper := [ao 0 6 (.mv (.t 0)),
  ao 1 7 (.call (.k (.c (.fn 35 []))) [(.t 6), (.k (.i 6))]),
  ao 2 8 (.bin .eql (.t 7) (.k (.i 0)))]
def r33_3 : List AOper := [ao 0 9 (.mv (.t 0)),
  ao 1 10 (.ld 18 true (.t 3)),
  ao 2 11 (.call (.k (.c (.fn 60 []))) [(.t 9), (.t 10)]),
  an 3 (.st 18 (.t 2) (.t 11))]
def c33_4 : ACode := .seq (.reg r33_3) .ret
def c33_5 : ACode := .cond (.t 8) c33_4 .skip
def c33_6 : ACode := .seq (.reg r33_2) c33_5
def r33_7 : List AOper := [ao 0 12 (.ld 18 true (.t 3)),
  an 1 (.st 18 (.t 2) (.t 12))]
def c33 : ACode := .seq (.reg r33_0) (.seq (.reg r33_1) (.seq c33_6 (.seq (.reg r33_7) .ret)))
def s33 : List ARes := [.cell 2 18 true]
theorem ok33 : okF Try.prog 33 13 c33 s33 := ⟨Try.f33, Try.func33, Try.ntmps33, by kernel_rfl, by kernel_rfl, by kernel_rfl⟩
def UEq_1 := Bx.mk <|
  aN (uA c33.eq_1) <| aN (uR r33_0.eq_1) <| aN (uR r33_1.eq_1) <| aN (uA c33_6.eq_1) <| aN (uR r33_2.eq_1) <| aN (uA c33_5.eq_1) <| aN (uA c33_4.eq_1) <| aN (uR r33_3.eq_1) <| aN (uR r33_7.eq_1) <| s33.eq_1
set_option maxHeartbeats 1000000 in
theorem l54Any_ok (bs : List UInt8) (hb : bs.length ≤ 2000) (p : Int) (hp : 0 ≤ p ∧ p ≤ 1000000000) : RC 33 [] bs p 520 Small (fun w => .pt (.agg (cwC w))) := by
  obtain ⟨q, w, hq1, hq2, hw, C1⟩ := l54World_ok bs hb p hp
  obtain ⟨a, ha, hb1, C2⟩ := pick_ok bs hb q 6 (by omega) (by omega)
  obtain ⟨q2, w2, hq3, hq4, hw2, C3⟩ := l54Spoil_ok bs hb (q + 1) (by omega) hw
  refine RC.intro ok33 rfl (fun _ => rfl) fun X => ?_
  simp only [RUX, Nat.reduceAdd, reduceIte, Nat.reduceEqDiff, Nat.reduceLT, Nat.reduceLeDiff, reduceCtorEq, eq_self, rH, rV, rdC, rdr, FIX, forall_const, endE_n, endE_r, CHT, disj, Nat.reduceBEq, beq_self_eq_true, APT, APX, forall_eq, ALT, KI, UEq_1.d]
  refine callRc (C1 0) rfl rfl rfl rfl rfl ⟨rfl, ?_⟩
  simp only [RUX, Nat.reduceAdd, reduceIte, Nat.reduceEqDiff, Nat.reduceLT, Nat.reduceLeDiff, reduceCtorEq, eq_self, rH, rV, rdC, rdr, FIX, forall_const, endE_n, endE_r, CHT, disj, Nat.reduceBEq, beq_self_eq_true, APT, APX, forall_eq, ALT, KI, UEq_1.d]
  refine callRc (C2 0) rfl rfl rfl rfl rfl ⟨rfl, ?_⟩
  by_cases c0 : a = 0
  · have k0 := eqb c0
    simp only [RUX, Nat.reduceAdd, reduceIte, Nat.reduceEqDiff, Nat.reduceLT, Nat.reduceLeDiff, reduceCtorEq, eq_self, rH, rV, rdC, rdr, FIX, forall_const, endE_n, endE_r, CHT, disj, Nat.reduceBEq, beq_self_eq_true, APT, APX, forall_eq, ALT, KI, UEq_1.d, k0]
    refine callRc (C3 0) rfl rfl rfl rfl rfl ⟨rfl, ?_⟩
    simp only [RUX, Nat.reduceAdd, reduceIte, Nat.reduceEqDiff, Nat.reduceLT, Nat.reduceLeDiff, reduceCtorEq, eq_self, rH, rV, rdC, rdr, FIX, forall_const, endE_n, endE_r, CHT, disj, Nat.reduceBEq, beq_self_eq_true, APT, APX, forall_eq, ALT, KI, UEq_1.d, k0]
    refine ES.mk (q2, w2) ⟨by omega, by omega, hw2⟩ ?_
    simp only [RUX, Nat.reduceAdd, reduceIte, Nat.reduceEqDiff, Nat.reduceLT, Nat.reduceLeDiff, reduceCtorEq, eq_self, rH, rV, rdC, rdr, FIX, forall_const, endE_n, endE_r, CHT, disj, Nat.reduceBEq, beq_self_eq_true, APT, APX, forall_eq, ALT, KI, UEq_1.d, k0]
  · have k0 := neqb c0
    simp only [RUX, Nat.reduceAdd, reduceIte, Nat.reduceEqDiff, Nat.reduceLT, Nat.reduceLeDiff, reduceCtorEq, eq_self, rH, rV, rdC, rdr, FIX, forall_const, endE_n, endE_r, CHT, disj, Nat.reduceBEq, beq_self_eq_true, APT, APX, forall_eq, ALT, KI, UEq_1.d, k0]
    refine ES.mk (q + 1, w) ⟨by omega, by omega, hw.small⟩ ?_
    simp only [RUX, Nat.reduceAdd, reduceIte, Nat.reduceEqDiff, Nat.reduceLT, Nat.reduceLeDiff, reduceCtorEq, eq_self, rH, rV, rdC, rdr, FIX, forall_const, endE_n, endE_r, CHT, disj, Nat.reduceBEq, beq_self_eq_true, APT, APX, forall_eq, ALT, KI, UEq_1.d, k0]
/- loop.example/teagle/spec.DrawCrewStep -/
def r12_0 : List AOper := [ao 0 2 (.alloc 29 [(.v (.s (.int .i64 0))), (.v (.s (.int .i64 0))), (.v (.s (.int .i64 0))), (.v (.s (.int .i64 0))), (.v (.s (.int .i64 0))), .nil0, .nil0, (.v (.s (.int .i64 0))), .nil0, (.v (.s (.int .i64 0))), .nil0, (.v (.s (.int .i64 0))), .nil0, (.v (.s (.int .i64 0))), .nil0, (.v (.s (.int .i64 0))), .nil0, (.v (.s (.int .i64 0)))]),
  ao 1 3 (.alloc 38 [(.v (.s (.int .i64 0))), (.v (.s (.int .i64 0)))])]
def r12_1 : List AOper := [ao 0 7 (.mv (.t 0)),
  ao 1 8 (.call (.k (.c (.fn 32 []))) [(.t 7)]),
  ao 2 4 (.mv (.t 8))]
def r12_2 : List AOper := [ao 0 9 (.mv (.t 4)),
  ao 1 10 (.call (.k (.c (.fn 33 []))) [(.t 9)]),
  ao 2 5 (.alloc 29 [(.v (.s (.int .i64 0))), (.v (.s (.int .i64 0))), (.v (.s (.int .i64 0))), (.v (.s (.int .i64 0))), (.v (.s (.int .i64 0))), .nil0, .nil0, (.v (.s (.int .i64 0))), .nil0, (.v (.s (.int .i64 0))), .nil0, (.v (.s (.int .i64 0))), .nil0, (.v (.s (.int .i64 0))), .nil0, (.v (.s (.int .i64 0))), .nil0, (.v (.s (.int .i64 0)))]),
  an 3 (.st 18 (.t 5) (.t 10))]
def r12_3 : List AOper := [ao 0 11 (.ld 18 true (.t 5)),
  ao 1 12 (.call (.k (.c (.fn 34 []))) [(.t 11)]),
  ao 2 6 (.mv (.t 12))]
def r12_4 : List AOper := [ao 0 13 (.mv (.t 6)),
  ao 1 14 (.len (.t 13)),
  ao 2 15 (.bin .eql (.t 14) (.k (.i 0))),
  ao 3 16 (.mv (.t 15)),
  ag 4 17 16 false [] (.mv (.t 4)),
  ag 5 18 16 false [] (.call (.k (.c (.fn 35 []))) [(.t 17), (.k (.i 6))]),
  ag 6 19 16 false [] (.bin .eql (.t 18) (.k (.i 0))),
  ao 7 20 (.pick (.t 16) (.k (.b true)) (.t 19))]
def r12_5 : List AOper := [ao 0 21 (.ld 18 true (.t 5)),
  au 1 22 [0] (.mv (.t 4)),
  au 2 23 [0] (.call (.k (.c (.fn 35 []))) [(.t 22), (.k (.i 8))]),
  au 3 24 [0] (.bin .sub (.t 23) (.k (.i 1))),
  au 4 25 (ru 4) (.mv (.t 4)),
  au 5 26 [0, 3] (.call (.k (.c (.fn 35 []))) [(.t 25), (.k (.i 5))]),
  au 6 27 [0, 3] (.bin .sub (.t 26) (.k (.i 1))),
  au 7 28 [0] (.build [(.v (.s (.int .i64 0))), (.v (.s (.int .i64 0)))] [(0, 1, (.t 24)), (1, 1, (.t 27))]),
  ax 8 none none [3, 6, 7] (.st 18 (.t 2) (.t 21)),
  an 9 (.st 2 (.t 3) (.t 28))]
def c12_6 : ACode := .seq (.reg r12_5) .ret
def c12_7 : ACode := .cond (.t 20) c12_6 .skip
def c12_8 : ACode := .seq (.reg r12_4) c12_7
def r12_9 : List AOper := [ao 0 29 (.ld 18 true (.t 5)),
  au 1 30 [0] (.mv (.t 6)),
  au 2 31 [0, 1] (.mv (.t 4)),
  au 3 32 (ru 3) (.mv (.t 6)),
  au 4 33 (ru 3) (.len (.t 32)),
  au 5 34 [0, 1] (.call (.k (.c (.fn 35 []))) [(.t 31), (.t 33)]),
  au 6 35 [0] (.ia 2 (.t 30) (.t 34)),
  au 7 36 [0] (.ld 2 true (.t 35)),
  ax 8 none none [1, 6, 7] (.st 18 (.t 2) (.t 29)),
  an 9 (.st 2 (.t 3) (.t 36))]
def c12 : ACode := .seq (.reg r12_0) (.seq (.reg r12_1) (.seq (.reg r12_2) (.seq (.reg r12_3) (.seq c12_8 (.seq (.reg r12_9) .ret)))))
def s12 : List ARes := [.cell 2 18 true, .cell 3 2 true]
theorem ok12 : okF Try.prog 12 37 c12 s12 := ⟨Try.f12, Try.func12, Try.ntmps12, by kernel_rfl, by kernel_rfl, by kernel_rfl⟩
def UEq_2 := Bx.mk <|
  aN (uA c12.eq_1) <| aN (uR r12_0.eq_1) <| aN (uR r12_1.eq_1) <| aN (uR r12_2.eq_1) <| aN (uR r12_3.eq_1) <| aN (uA c12_8.eq_1) <| aN (uR r12_4.eq_1) <| aN (uA c12_7.eq_1) <| aN (uA c12_6.eq_1) <| aN (uR r12_5.eq_1) <| aN (uR r12_9.eq_1) <| s12.eq_1
set_option maxHeartbeats 2000000 in
theorem drawStep_ok (bs : List UInt8) : PC 12 [.c (.v (.sl (encB bs)))] (fun x : CW × Mv => Small x.1) (fun x => .tup [.agg (cwC x.1), .agg [iC x.2.who, iC x.2.way]]) := by
  have hb : (bs.take 2000).length ≤ 2000 := by rw [List.length_take]; omega
  obtain ⟨q, w, hq1, hq2, hw, C1⟩ := l54Any_ok (bs.take 2000) hb 0 (by omega)
  obtain ⟨ms, hms, Cm⟩ := crewMoves_ok w
  refine PC.intro ok12 rfl (fun _ => rfl) fun X => ?_
  simp only [RUX, Nat.reduceAdd, reduceIte, Nat.reduceEqDiff, Nat.reduceLT, Nat.reduceLeDiff, reduceCtorEq, eq_self, rH, rV, rdC, rdr, FIX, forall_const, endE_n, endE_r, CHT, disj, Nat.reduceBEq, beq_self_eq_true, APT, APX, forall_eq, ALT, KI, UEq_2.d]
  refine callOpen rfl rfl ⟨rfl, ?_⟩
  simp only [RUX, Nat.reduceAdd, reduceIte, Nat.reduceEqDiff, Nat.reduceLT, Nat.reduceLeDiff, reduceCtorEq, eq_self, rH, rV, rdC, rdr, FIX, forall_const, endE_n, endE_r, CHT, disj, Nat.reduceBEq, beq_self_eq_true, APT, APX, forall_eq, ALT, KI, UEq_2.d]
  refine callRc (C1 _) rfl rfl rfl rfl rfl ⟨rfl, ?_⟩
  simp only [RUX, Nat.reduceAdd, reduceIte, Nat.reduceEqDiff, Nat.reduceLT, Nat.reduceLeDiff, reduceCtorEq, eq_self, rH, rV, rdC, rdr, FIX, forall_const, endE_n, endE_r, CHT, disj, Nat.reduceBEq, beq_self_eq_true, APT, APX, forall_eq, ALT, KI, UEq_2.d]
  refine callC Cm rfl rfl rfl rfl ?_
  by_cases c0 : ms.length = 0
  · have k0 : ((ms.length : Int) == 0) = true := eqb (by omega)
    obtain ⟨a, ha, hb1, C2⟩ := pick_ok (bs.take 2000) hb q 8 (by omega) (by omega)
    obtain ⟨b, hb0, hb2, C3⟩ := pick_ok (bs.take 2000) hb (q + 1) 5 (by omega) (by omega)
    simp only [RUX, Nat.reduceAdd, reduceIte, Nat.reduceEqDiff, Nat.reduceLT, Nat.reduceLeDiff, reduceCtorEq, eq_self, rH, rV, rdC, rdr, FIX, forall_const, endE_n, endE_r, CHT, disj, Nat.reduceBEq, beq_self_eq_true, APT, APX, forall_eq, ALT, KI, UEq_2.d, k0]
    refine callRc (C2 _) rfl rfl rfl rfl rfl ⟨rfl, ?_⟩
    simp only [RUX, Nat.reduceAdd, reduceIte, Nat.reduceEqDiff, Nat.reduceLT, Nat.reduceLeDiff, reduceCtorEq, eq_self, rH, rV, rdC, rdr, FIX, forall_const, endE_n, endE_r, CHT, disj, Nat.reduceBEq, beq_self_eq_true, APT, APX, forall_eq, ALT, KI, UEq_2.d, k0]
    refine callRc (C3 _) rfl rfl rfl rfl rfl ⟨rfl, ?_⟩
    simp only [RUX, Nat.reduceAdd, reduceIte, Nat.reduceEqDiff, Nat.reduceLT, Nat.reduceLeDiff, reduceCtorEq, eq_self, rH, rV, rdC, rdr, FIX, forall_const, endE_n, endE_r, CHT, disj, Nat.reduceBEq, beq_self_eq_true, APT, APX, forall_eq, ALT, KI, UEq_2.d, k0]
    refine ES.mk (w, ⟨IntKind.i64.wrap (a - 1), IntKind.i64.wrap (b - 1)⟩) hw ?_
    simp only [RUX, Nat.reduceAdd, reduceIte, Nat.reduceEqDiff, Nat.reduceLT, Nat.reduceLeDiff, reduceCtorEq, eq_self, rH, rV, rdC, rdr, FIX, forall_const, endE_n, endE_r, CHT, disj, Nat.reduceBEq, beq_self_eq_true, APT, APX, forall_eq, ALT, KI, UEq_2.d, k0]
  have k0 : ((ms.length : Int) == 0) = false := neqb (by omega)
  have ok : WOk w := Classical.byContradiction fun g => c0 (by rw [hms.2 g]; rfl)
  have hml : ms.length ≤ 1000 := by
    have h1 := amoves_len w (w.workers.toNat + 4)
    have h2 := ok.form.st.k
    rw [hms.1 ok, moves]; omega
  obtain ⟨z, hz0, hz1, Cz⟩ := pick_ok (bs.take 2000) hb q 6 (by omega) (by omega)
  simp only [RUX, Nat.reduceAdd, reduceIte, Nat.reduceEqDiff, Nat.reduceLT, Nat.reduceLeDiff, reduceCtorEq, eq_self, rH, rV, rdC, rdr, FIX, forall_const, endE_n, endE_r, CHT, disj, Nat.reduceBEq, beq_self_eq_true, APT, APX, forall_eq, ALT, KI, UEq_2.d, k0]
  refine callRc (Cz _) rfl rfl rfl rfl rfl ⟨rfl, ?_⟩
  by_cases c1 : z = 0
  · have k1 := eqb c1
    obtain ⟨a, ha, hb1, C2⟩ := pick_ok (bs.take 2000) hb (q + 1) 8 (by omega) (by omega)
    obtain ⟨b, hb0, hb2, C3⟩ := pick_ok (bs.take 2000) hb (q + 1 + 1) 5 (by omega) (by omega)
    simp only [RUX, Nat.reduceAdd, reduceIte, Nat.reduceEqDiff, Nat.reduceLT, Nat.reduceLeDiff, reduceCtorEq, eq_self, rH, rV, rdC, rdr, FIX, forall_const, endE_n, endE_r, CHT, disj, Nat.reduceBEq, beq_self_eq_true, APT, APX, forall_eq, ALT, KI, UEq_2.d, k0, k1]
    refine callRc (C2 _) rfl rfl rfl rfl rfl ⟨rfl, ?_⟩
    simp only [RUX, Nat.reduceAdd, reduceIte, Nat.reduceEqDiff, Nat.reduceLT, Nat.reduceLeDiff, reduceCtorEq, eq_self, rH, rV, rdC, rdr, FIX, forall_const, endE_n, endE_r, CHT, disj, Nat.reduceBEq, beq_self_eq_true, APT, APX, forall_eq, ALT, KI, UEq_2.d, k0, k1]
    refine callRc (C3 _) rfl rfl rfl rfl rfl ⟨rfl, ?_⟩
    simp only [RUX, Nat.reduceAdd, reduceIte, Nat.reduceEqDiff, Nat.reduceLT, Nat.reduceLeDiff, reduceCtorEq, eq_self, rH, rV, rdC, rdr, FIX, forall_const, endE_n, endE_r, CHT, disj, Nat.reduceBEq, beq_self_eq_true, APT, APX, forall_eq, ALT, KI, UEq_2.d, k0, k1]
    refine ES.mk (w, ⟨IntKind.i64.wrap (a - 1), IntKind.i64.wrap (b - 1)⟩) hw ?_
    simp only [RUX, Nat.reduceAdd, reduceIte, Nat.reduceEqDiff, Nat.reduceLT, Nat.reduceLeDiff, reduceCtorEq, eq_self, rH, rV, rdC, rdr, FIX, forall_const, endE_n, endE_r, CHT, disj, Nat.reduceBEq, beq_self_eq_true, APT, APX, forall_eq, ALT, KI, UEq_2.d, k0, k1]
  have k1 := neqb c1
  obtain ⟨j, hj0, hj1, Cj⟩ := pick_ok (bs.take 2000) hb (q + 1) ms.length (by omega) (by omega)
  obtain ⟨j, rfl⟩ : ∃ i : Nat, j = i := ⟨j.toNat, by omega⟩
  have em := en_at eM (List.getElem?_eq_getElem (l := ms) (i := j) (by omega))
  have gz : (0 : Int) ≤ j := by omega
  simp only [RUX, Nat.reduceAdd, reduceIte, Nat.reduceEqDiff, Nat.reduceLT, Nat.reduceLeDiff, reduceCtorEq, eq_self, rH, rV, rdC, rdr, FIX, forall_const, endE_n, endE_r, CHT, disj, Nat.reduceBEq, beq_self_eq_true, APT, APX, forall_eq, ALT, KI, UEq_2.d, k0, k1]
  refine callRc (Cj _) rfl rfl rfl rfl rfl ⟨rfl, ?_⟩
  simp only [RUX, Nat.reduceAdd, reduceIte, Nat.reduceEqDiff, Nat.reduceLT, Nat.reduceLeDiff, reduceCtorEq, eq_self, rH, rV, rdC, rdr, FIX, forall_const, endE_n, endE_r, CHT, disj, Nat.reduceBEq, beq_self_eq_true, APT, APX, forall_eq, ALT, KI, UEq_2.d, k0, k1, em, gz, Int.toNat_natCast, eM]
  refine ES.mk (w, ms[j]) hw ?_
  simp only [RUX, Nat.reduceAdd, reduceIte, Nat.reduceEqDiff, Nat.reduceLT, Nat.reduceLeDiff, reduceCtorEq, eq_self, rH, rV, rdC, rdr, FIX, forall_const, endE_n, endE_r, CHT, disj, Nat.reduceBEq, beq_self_eq_true, APT, APX, forall_eq, ALT, KI, UEq_2.d, k0, k1, em, gz, Int.toNat_natCast, eM]
end Go.V
set_option linter.unusedSimpArgs false
namespace Go.V
open Go.Proofs
theorem ne0' (x : Int) : (x != x) = false := by simp
/- loop.example/teagle/laws.lwInts -/
def r16_0 : List AOper := [ao 0 4 (.mv (.k (.b false)))]
def r16_1 : List AOper := [ao 0 6 (.mv (.t 0)),
  ao 1 7 (.len (.t 6)),
  ao 2 8 (.mv (.t 1)),
  ao 3 9 (.len (.t 8)),
  ao 4 10 (.bin .neq (.t 7) (.t 9))]
def r16_2 : List AOper := [ao 0 4 (.mv (.k (.b false)))]
def c16_3 : ACode := .seq (.reg r16_2) .ret
def c16_4 : ACode := .cond (.t 10) c16_3 .skip
def c16_5 : ACode := .seq (.reg r16_1) c16_4
def r16_6 : List AOper := [ao 0 5 (.mv (.k (.i 0)))]
def r16_7 : List AOper := [ao 0 11 (.mv (.t 5)),
  ao 1 12 (.mv (.t 0)),
  ao 2 13 (.len (.t 12)),
  ao 3 14 (.bin .lss (.t 11) (.t 13))]
def c16_8 : ACode := .cond (.t 14) .skip (.exit 0)
def c16_9 : ACode := .seq (.reg r16_7) c16_8
def r16_10 : List AOper := [ao 0 17 (.mv (.t 0)),
  au 1 18 [0] (.mv (.t 5)),
  ao 2 19 (.ia 1 (.t 17) (.t 18)),
  ao 3 20 (.ld 1 false (.t 19)),
  au 4 21 (ru 4) (.mv (.t 1)),
  au 5 22 (ru 5) (.mv (.t 5)),
  au 6 23 (ru 4) (.ia 1 (.t 21) (.t 22)),
  au 7 24 (ru 4) (.ld 1 false (.t 23)),
  ao 8 25 (.bin .neq (.t 20) (.t 24))]
def r16_11 : List AOper := [ao 0 4 (.mv (.k (.b false)))]
def c16_12 : ACode := .seq (.reg r16_11) .ret
def c16_13 : ACode := .cond (.t 25) c16_12 .skip
def c16_14 : ACode := .seq (.reg r16_10) c16_13
def c16_15 : ACode := .block 1 c16_14
def r16_16 : List AOper := [ao 0 15 (.mv (.t 5)),
  ao 1 16 (.bin .add (.t 15) (.k (.i 1))),
  ao 2 5 (.mv (.t 16))]
def c16_17 : ACode := .seq c16_9 (.seq c16_15 (.reg r16_16))
def c16_18 : ACode := .loop c16_17
def c16_19 : ACode := .block 0 c16_18
def c16_20 : ACode := .seq (.reg r16_6) c16_19
def r16_21 : List AOper := [ao 0 4 (.mv (.k (.b true)))]
def c16 : ACode := .seq (.reg r16_0) (.seq c16_5 (.seq c16_20 (.seq (.reg r16_21) .ret)))
def s16 : List ARes := [.tmp 4]
theorem ok16 : okF Try.prog 16 26 c16 s16 := ⟨Try.f16, Try.func16, Try.ntmps16, by kernel_rfl, by kernel_rfl, by kernel_rfl⟩
def inv16 (xs : List Int) (i : Nat) (σ : St) : Prop := σ.t 0 = tL (en eI xs) ∧ σ.t 1 = tL (en eI xs) ∧ σ.t 5 = .i i
def UEo_1 := Bx.mk <|
  aN (uA c16.eq_1) <| aN (uR r16_0.eq_1) <| aN (uA c16_5.eq_1) <| aN (uR r16_1.eq_1) <| aN (uA c16_4.eq_1) <| aN (uA c16_3.eq_1) <| aN (uR r16_2.eq_1) <| aN (uA c16_20.eq_1) <| aN (uR r16_6.eq_1) <| aN (uA c16_19.eq_1) <| aN (uA c16_18.eq_1) <| aN (uR r16_21.eq_1) <| s16.eq_1
def UEo_3 := Bx.mk <|
  aN (uA c16_17.eq_1) <| aN (uA c16_9.eq_1) <| aN (uR r16_7.eq_1) <| aN (uA c16_8.eq_1) <| aN (uA c16_15.eq_1) <| aN (uA c16_14.eq_1) <| aN (uR r16_10.eq_1) <| aN (uA c16_13.eq_1) <| aN (uA c16_12.eq_1) <| aN (uR r16_11.eq_1) <| aN (uR r16_16.eq_1) <| aN (uA c16.eq_1) <| aN (uR r16_0.eq_1) <| aN (uA c16_5.eq_1) <| aN (uR r16_1.eq_1) <| aN (uA c16_4.eq_1) <| aN (uA c16_3.eq_1) <| aN (uR r16_2.eq_1) <| aN (uA c16_20.eq_1) <| aN (uR r16_6.eq_1) <| aN (uA c16_19.eq_1) <| aN (uA c16_18.eq_1) <| aN (uR r16_21.eq_1) <| s16.eq_1
theorem lwInts_ok (xs : List Int) (hl : xs.length ≤ 2000000) : ACallsF Try.prog 16 [tL (en eI xs), tL (en eI xs)] [] (.b true) := by
  have n0 := ne0' (xs.length : Int)
  refine ACallsF.intro ok16 follows fun X c0 => ?_
  simp only [RUX, Nat.reduceAdd, reduceIte, Nat.reduceEqDiff, Nat.reduceLT, Nat.reduceLeDiff, reduceCtorEq, eq_self, FIX, forall_const, endE_n, endE_r, CHT, disj, Nat.reduceBEq, beq_self_eq_true, APT, APX, forall_eq, ALT, KI, UEo_1.d, n0]
  refine AW.upto xs.length (inv16 xs) ⟨rfl, rfl, rfl⟩ fun i t H c hi h => ?_
  obtain ⟨e0, e1, e5⟩ := h
  simp only [T.c, T.i, tL] at e0 e1 e5
  by_cases k1 : (i : Int) < xs.length
  · obtain ⟨x, hx⟩ : ∃ x, xs[i]? = some x := ⟨_, List.getElem?_eq_getElem (by omega)⟩
    have ex := en_at eI hx
    have gz : (0 : Int) ≤ i := by omega
    have gw := w1_ok (i := i) (by omega)
    simp only [RUX, Nat.reduceAdd, reduceIte, Nat.reduceEqDiff, Nat.reduceLT, Nat.reduceLeDiff, reduceCtorEq, eq_self, FIX, forall_const, endE_n, endE_r, CHT, disj, Nat.reduceBEq, beq_self_eq_true, APT, APX, forall_eq, ALT, KI, UEo_3.d, e0, e1, e5, en_len, k1, gz, ex, eI, ne0', gw]
    exact ⟨by omega, e0, e1, rfl⟩
  · simp only [RUX, Nat.reduceAdd, reduceIte, Nat.reduceEqDiff, Nat.reduceLT, Nat.reduceLeDiff, reduceCtorEq, eq_self, FIX, forall_const, endE_n, endE_r, CHT, disj, Nat.reduceBEq, beq_self_eq_true, APT, APX, forall_eq, ALT, KI, UEo_3.d, UEo_1.d, e0, e1, e5, en_len, k1]
/- loop.example/teagle/laws.lwWorld -/
def r15_0 : List AOper := [ao 0 2 (.box 29 (.t 0)),
  ao 1 3 (.box 29 (.t 1)),
  ao 2 4 (.mv (.k (.b false)))]
def r15_1 : List AOper := [ao 0 8 (.fa 6 (.t 2)),
  ao 1 9 (.ld 1 false (.t 8)),
  ao 2 10 (.len (.t 9)),
  ao 3 11 (.fa 6 (.t 3)),
  ao 4 12 (.ld 1 false (.t 11)),
  ao 5 13 (.len (.t 12)),
  ao 6 14 (.bin .neq (.t 10) (.t 13))]
def r15_2 : List AOper := [ao 0 4 (.mv (.k (.b false)))]
def c15_3 : ACode := .seq (.reg r15_2) .ret
def c15_4 : ACode := .cond (.t 14) c15_3 .skip
def c15_5 : ACode := .seq (.reg r15_1) c15_4
def r15_6 : List AOper := [ao 0 5 (.mv (.k (.i 0)))]
def r15_7 : List AOper := [ao 0 15 (.mv (.t 5)),
  ao 1 16 (.fa 6 (.t 2)),
  ao 2 17 (.ld 1 false (.t 16)),
  ao 3 18 (.len (.t 17)),
  ao 4 19 (.bin .lss (.t 15) (.t 18))]
def c15_8 : ACode := .cond (.t 19) .skip (.exit 0)
def c15_9 : ACode := .seq (.reg r15_7) c15_8
def r15_10 : List AOper := [ao 0 22 (.fa 6 (.t 2)),
  ao 1 23 (.ld 1 false (.t 22)),
  au 2 24 [0, 1] (.mv (.t 5)),
  ao 3 25 (.ia 2 (.t 23) (.t 24)),
  ao 4 26 (.ld 2 true (.t 25)),
  au 5 27 (ru 5) (.fa 6 (.t 3)),
  au 6 28 (ru 5) (.ld 1 false (.t 27)),
  au 7 29 (ru 7) (.mv (.t 5)),
  au 8 30 (ru 5) (.ia 2 (.t 28) (.t 29)),
  au 9 31 (ru 5) (.ld 2 true (.t 30)),
  ao 10 32 (.cmpA true [0, 0] (.t 26) (.t 31))]
def r15_11 : List AOper := [ao 0 4 (.mv (.k (.b false)))]
def c15_12 : ACode := .seq (.reg r15_11) .ret
def c15_13 : ACode := .cond (.t 32) c15_12 .skip
def c15_14 : ACode := .seq (.reg r15_10) c15_13
def c15_15 : ACode := .block 1 c15_14
def r15_16 : List AOper := [ao 0 20 (.mv (.t 5)),
  ao 1 21 (.bin .add (.t 20) (.k (.i 1))),
  ao 2 5 (.mv (.t 21))]
def c15_17 : ACode := .seq c15_9 (.seq c15_15 (.reg r15_16))
def c15_18 : ACode := .loop c15_17
def c15_19 : ACode := .block 0 c15_18
def c15_20 : ACode := .seq (.reg r15_6) c15_19
def r15_21 : List AOper := [ao 0 33 (.fa 0 (.t 2)),
  ao 1 34 (.ld 1 false (.t 33)),
  ao 2 35 (.fa 1 (.t 2)),
  ao 3 36 (.ld 1 false (.t 35)),
  ao 4 37 (.fa 2 (.t 2)),
  ao 5 38 (.ld 1 false (.t 37)),
  ao 6 39 (.fa 3 (.t 2)),
  ao 7 40 (.ld 1 false (.t 39)),
  ao 8 41 (.fa 4 (.t 2)),
  ao 9 42 (.ld 1 false (.t 41)),
  ao 10 43 (.fa 7 (.t 2)),
  ao 11 44 (.ld 1 false (.t 43)),
  ao 12 45 (.fa 9 (.t 2)),
  ao 13 46 (.ld 1 false (.t 45)),
  ao 14 47 (.fa 11 (.t 2)),
  ao 15 48 (.ld 1 false (.t 47)),
  ao 16 49 (.fa 13 (.t 2)),
  ao 17 50 (.ld 1 false (.t 49)),
  ao 18 51 (.fa 15 (.t 2)),
  ao 19 52 (.ld 1 false (.t 51)),
  ao 20 53 (.fa 17 (.t 2)),
  ao 21 54 (.ld 1 false (.t 53)),
  ao 22 55 (.bsl 1 3 [(.t 34), (.t 36), (.t 38), (.t 40), (.t 42), (.t 44), (.t 46), (.t 48), (.t 50), (.t 52), (.t 54)]),
  ao 23 6 (.mv (.t 55))]
def r15_22 : List AOper := [ao 0 56 (.fa 0 (.t 3)),
  ao 1 57 (.ld 1 false (.t 56)),
  ao 2 58 (.fa 1 (.t 3)),
  ao 3 59 (.ld 1 false (.t 58)),
  ao 4 60 (.fa 2 (.t 3)),
  ao 5 61 (.ld 1 false (.t 60)),
  ao 6 62 (.fa 3 (.t 3)),
  ao 7 63 (.ld 1 false (.t 62)),
  ao 8 64 (.fa 4 (.t 3)),
  ao 9 65 (.ld 1 false (.t 64)),
  ao 10 66 (.fa 7 (.t 3)),
  ao 11 67 (.ld 1 false (.t 66)),
  ao 12 68 (.fa 9 (.t 3)),
  ao 13 69 (.ld 1 false (.t 68)),
  ao 14 70 (.fa 11 (.t 3)),
  ao 15 71 (.ld 1 false (.t 70)),
  ao 16 72 (.fa 13 (.t 3)),
  ao 17 73 (.ld 1 false (.t 72)),
  ao 18 74 (.fa 15 (.t 3)),
  ao 19 75 (.ld 1 false (.t 74)),
  ao 20 76 (.fa 17 (.t 3)),
  ao 21 77 (.ld 1 false (.t 76)),
  ao 22 78 (.bsl 1 3 [(.t 57), (.t 59), (.t 61), (.t 63), (.t 65), (.t 67), (.t 69), (.t 71), (.t 73), (.t 75), (.t 77)]),
  ao 23 7 (.mv (.t 78))]
def r15_23 : List AOper := [ao 0 79 (.mv (.t 6)),
  ao 1 80 (.mv (.t 7)),
  ao 2 81 (.call (.k (.c (.fn 16 []))) [(.t 79), (.t 80)]),
  ao 3 82 (.mv (.t 81)),
  ag 4 83 82 true [] (.fa 5 (.t 2)),
  ag 5 84 82 true [] (.ld 1 false (.t 83)),
  ag 6 85 82 true [] (.fa 5 (.t 3)),
  ag 7 86 82 true [] (.ld 1 false (.t 85)),
  ag 8 87 82 true [] (.call (.k (.c (.fn 16 []))) [(.t 84), (.t 86)]),
  ao 9 88 (.pick (.t 82) (.t 87) (.k (.b false))),
  ao 10 89 (.mv (.t 88)),
  ag 11 90 89 true [] (.fa 8 (.t 2)),
  ag 12 91 89 true [] (.ld 1 false (.t 90)),
  ag 13 92 89 true [] (.fa 8 (.t 3)),
  ag 14 93 89 true [] (.ld 1 false (.t 92)),
  ag 15 94 89 true [] (.call (.k (.c (.fn 16 []))) [(.t 91), (.t 93)]),
  ao 16 95 (.pick (.t 89) (.t 94) (.k (.b false))),
  ao 17 96 (.mv (.t 95)),
  ag 18 97 96 true [] (.fa 10 (.t 2)),
  ag 19 98 96 true [] (.ld 1 false (.t 97)),
  ag 20 99 96 true [] (.fa 10 (.t 3)),
  ag 21 100 96 true [] (.ld 1 false (.t 99)),
  ag 22 101 96 true [] (.call (.k (.c (.fn 16 []))) [(.t 98), (.t 100)]),
  ao 23 102 (.pick (.t 96) (.t 101) (.k (.b false))),
  ao 24 103 (.mv (.t 102)),
  ag 25 104 103 true [] (.fa 12 (.t 2)),
  ag 26 105 103 true [] (.ld 1 false (.t 104)),
  ag 27 106 103 true [] (.fa 12 (.t 3)),
  ag 28 107 103 true [] (.ld 1 false (.t 106)),
  ag 29 108 103 true [] (.call (.k (.c (.fn 16 []))) [(.t 105), (.t 107)]),
  ao 30 109 (.pick (.t 103) (.t 108) (.k (.b false))),
  ao 31 110 (.mv (.t 109)),
  ag 32 111 110 true [] (.fa 14 (.t 2)),
  ag 33 112 110 true [] (.ld 1 false (.t 111)),
  ag 34 113 110 true [] (.fa 14 (.t 3)),
  ag 35 114 110 true [] (.ld 1 false (.t 113)),
  ag 36 115 110 true [] (.call (.k (.c (.fn 16 []))) [(.t 112), (.t 114)]),
  ao 37 116 (.pick (.t 110) (.t 115) (.k (.b false))),
  ao 38 117 (.mv (.t 116)),
  ag 39 118 117 true [] (.fa 16 (.t 2)),
  ag 40 119 117 true [] (.ld 1 false (.t 118)),
  ag 41 120 117 true [] (.fa 16 (.t 3)),
  ag 42 121 117 true [] (.ld 1 false (.t 120)),
  ag 43 122 117 true [] (.call (.k (.c (.fn 16 []))) [(.t 119), (.t 121)]),
  ao 44 123 (.pick (.t 117) (.t 122) (.k (.b false))),
  ao 45 4 (.mv (.t 123))]
def c15 : ACode := .seq (.reg r15_0) (.seq c15_5 (.seq c15_20 (.seq (.reg r15_21) (.seq (.reg r15_22) (.seq (.reg r15_23) .ret)))))
def s15 : List ARes := [.tmp 4]
theorem ok15 : okF Try.prog 15 124 c15 s15 := ⟨Try.f15, Try.func15, Try.ntmps15, by kernel_rfl, by kernel_rfl, by kernel_rfl⟩
def nums (w : CW) : List Int := [w.jobs, w.workers, w.window, w.next, w.reader, w.closer, w.keeper, w.due, w.user, w.room, w.ops]
def inv15 (w : CW) (i : Nat) (σ : St) : Prop := (∃ u v, σ.t 2 = .c (.ptr 2 u 0) ∧ σ.H 2 = some (cwB u w) ∧ σ.t 3 = .c (.ptr 3 v 0) ∧ σ.H 3 = some (cwB v w)) ∧ σ.t 5 = .i i
def UEo_2 := Bx.mk <|
  aN (uA c15.eq_1) <| aN (uR r15_0.eq_1) <| aN (uA c15_5.eq_1) <| aN (uR r15_1.eq_1) <| aN (uA c15_4.eq_1) <| aN (uA c15_3.eq_1) <| aN (uR r15_2.eq_1) <| aN (uA c15_20.eq_1) <| aN (uR r15_6.eq_1) <| aN (uA c15_19.eq_1) <| aN (uA c15_18.eq_1) <| aN (uR r15_21.eq_1) <| aN (uR r15_22.eq_1) <| aN (uR r15_23.eq_1) <| s15.eq_1
def UEo_4 := Bx.mk <|
  aN (uA c15_17.eq_1) <| aN (uA c15_9.eq_1) <| aN (uR r15_7.eq_1) <| aN (uA c15_8.eq_1) <| aN (uA c15_15.eq_1) <| aN (uA c15_14.eq_1) <| aN (uR r15_10.eq_1) <| aN (uA c15_13.eq_1) <| aN (uA c15_12.eq_1) <| aN (uR r15_11.eq_1) <| aN (uR r15_16.eq_1) <| aN (uA c15.eq_1) <| aN (uR r15_0.eq_1) <| aN (uA c15_5.eq_1) <| aN (uR r15_1.eq_1) <| aN (uA c15_4.eq_1) <| aN (uA c15_3.eq_1) <| aN (uR r15_2.eq_1) <| aN (uA c15_20.eq_1) <| aN (uR r15_6.eq_1) <| aN (uA c15_19.eq_1) <| aN (uA c15_18.eq_1) <| aN (uR r15_21.eq_1) <| aN (uR r15_22.eq_1) <| aN (uR r15_23.eq_1) <| s15.eq_1
set_option maxHeartbeats 2000000 in
theorem lwWorld_ok {w : CW} (h : Small w) : ACallsF Try.prog 15 [tCW w, tCW w] [] (.b true) := by
  have n0 := ne0' (w.hands.length : Int)
  have hh := h.h
  refine ACallsF.intro ok15 follows fun X c0 => ?_
  simp only [RUX, Nat.reduceAdd, reduceIte, Nat.reduceEqDiff, Nat.reduceLT, Nat.reduceLeDiff, reduceCtorEq, eq_self, FIX, forall_const, endE_n, endE_r, CHT, disj, Nat.reduceBEq, beq_self_eq_true, APT, APX, forall_eq, ALT, KI, UEo_2.d, en_len, n0]
  refine AW.upto w.hands.length (inv15 w) ⟨⟨_, _, rfl, rfl, rfl, rfl⟩, rfl⟩ fun i t H c hi h' => ?_
  obtain ⟨⟨u, v, e2, eH2, e3, eH3⟩, e5⟩ := h'
  simp only [T.c, T.i, tL] at e2 eH2 e3 eH3 e5
  by_cases k1 : (i : Int) < w.hands.length
  · obtain ⟨x, hx⟩ : ∃ x, w.hands[i]? = some x := ⟨_, List.getElem?_eq_getElem (by omega)⟩
    have ex := en_at eH hx
    have gz : (0 : Int) ≤ i := by omega
    have gw := w1_ok (i := i) (by omega)
    simp only [RUX, Nat.reduceAdd, reduceIte, Nat.reduceEqDiff, Nat.reduceLT, Nat.reduceLeDiff, reduceCtorEq, eq_self, FIX, forall_const, endE_n, endE_r, CHT, disj, Nat.reduceBEq, beq_self_eq_true, APT, APX, forall_eq, ALT, KI, UEo_4.d, e2, eH2, e3, eH3, e5, en_len, k1, gz, ex, eH, ne0', gw, eqK, Option.map_some, beq_self_eq_true, Bool.and_self, Bool.not_true]
    exact ⟨by omega, ⟨u, v, e2, eH2, e3, eH3⟩, rfl⟩
  · simp only [RUX, Nat.reduceAdd, reduceIte, Nat.reduceEqDiff, Nat.reduceLT, Nat.reduceLeDiff, reduceCtorEq, eq_self, FIX, forall_const, endE_n, endE_r, CHT, disj, Nat.reduceBEq, beq_self_eq_true, APT, APX, forall_eq, ALT, KI, UEo_4.d, UEo_2.d, e2, eH2, e3, eH3, e5, en_len, k1]
    refine callS (ws := [(55, .arr _ false 1 3 (en eI (nums w))), (78, .arr _ false 1 3 (en eI (nums w)))]) (ns := [55, 78]) (lwInts_ok (nums w) (by show 11 ≤ 2000000; decide)) rfl (by simp only [RUX, Nat.reduceAdd, reduceIte, Nat.reduceEqDiff, Nat.reduceLT, Nat.reduceLeDiff, reduceCtorEq, eq_self, FIX, forall_const, endE_n, endE_r, APT, APX, forall_eq, ALT, KI, lendTs, lendT, List.map_cons, List.map_nil]; rfl) rfl rfl rfl ⟨?_, ?_⟩
    · rfl
    simp only [RUX, Nat.reduceAdd, reduceIte, Nat.reduceEqDiff, Nat.reduceLT, Nat.reduceLeDiff, reduceCtorEq, eq_self, FIX, forall_const, endE_n, endE_r, CHT, disj, Nat.reduceBEq, beq_self_eq_true, APT, APX, forall_eq, ALT, KI, UEo_4.d, UEo_2.d, e2, eH2, e3, eH3, e5, en_len, k1]
    refine callC (lwInts_ok w.queue h.q) rfl rfl rfl rfl ?_
    simp only [RUX, Nat.reduceAdd, reduceIte, Nat.reduceEqDiff, Nat.reduceLT, Nat.reduceLeDiff, reduceCtorEq, eq_self, FIX, forall_const, endE_n, endE_r, CHT, disj, Nat.reduceBEq, beq_self_eq_true, APT, APX, forall_eq, ALT, KI, UEo_4.d, UEo_2.d, e2, eH2, e3, eH3, e5, en_len, k1]
    refine callC (lwInts_ok w.results h.r) rfl rfl rfl rfl ?_
    simp only [RUX, Nat.reduceAdd, reduceIte, Nat.reduceEqDiff, Nat.reduceLT, Nat.reduceLeDiff, reduceCtorEq, eq_self, FIX, forall_const, endE_n, endE_r, CHT, disj, Nat.reduceBEq, beq_self_eq_true, APT, APX, forall_eq, ALT, KI, UEo_4.d, UEo_2.d, e2, eH2, e3, eH3, e5, en_len, k1]
    refine callC (lwInts_ok w.ring h.g) rfl rfl rfl rfl ?_
    simp only [RUX, Nat.reduceAdd, reduceIte, Nat.reduceEqDiff, Nat.reduceLT, Nat.reduceLeDiff, reduceCtorEq, eq_self, FIX, forall_const, endE_n, endE_r, CHT, disj, Nat.reduceBEq, beq_self_eq_true, APT, APX, forall_eq, ALT, KI, UEo_4.d, UEo_2.d, e2, eH2, e3, eH3, e5, en_len, k1]
    refine callC (lwInts_ok w.out h.o) rfl rfl rfl rfl ?_
    simp only [RUX, Nat.reduceAdd, reduceIte, Nat.reduceEqDiff, Nat.reduceLT, Nat.reduceLeDiff, reduceCtorEq, eq_self, FIX, forall_const, endE_n, endE_r, CHT, disj, Nat.reduceBEq, beq_self_eq_true, APT, APX, forall_eq, ALT, KI, UEo_4.d, UEo_2.d, e2, eH2, e3, eH3, e5, en_len, k1]
    refine callC (lwInts_ok w.got h.t) rfl rfl rfl rfl ?_
    simp only [RUX, Nat.reduceAdd, reduceIte, Nat.reduceEqDiff, Nat.reduceLT, Nat.reduceLeDiff, reduceCtorEq, eq_self, FIX, forall_const, endE_n, endE_r, CHT, disj, Nat.reduceBEq, beq_self_eq_true, APT, APX, forall_eq, ALT, KI, UEo_4.d, UEo_2.d, e2, eH2, e3, eH3, e5, en_len, k1]
    refine callC (lwInts_ok w.shut h.s) rfl rfl rfl rfl ?_
    simp only [RUX, Nat.reduceAdd, reduceIte, Nat.reduceEqDiff, Nat.reduceLT, Nat.reduceLeDiff, reduceCtorEq, eq_self, FIX, forall_const, endE_n, endE_r, CHT, disj, Nat.reduceBEq, beq_self_eq_true, APT, APX, forall_eq, ALT, KI, UEo_4.d, UEo_2.d, e2, eH2, e3, eH3, e5, en_len, k1]
end Go.V
set_option linter.unusedVariables false
set_option linter.unusedSimpArgs false
namespace Go.V
open Go.Proofs
/-- Who closes a channel. -/
def closerOf (w : CW) : List Int := [0, w.workers + 1, w.workers + 2, -1]
theorem sh_set {w : CW} (f : Form w) {k i : Nat} (hk : k < 4) (hi : i < 4) : (w.shut.set k 1)[i]? = some (if k = i then 1 else sh w i) := by
  have h := sh_at f hi
  have hls := f.ls
  rw [List.getElem?_set]
  by_cases e : k = i
  · subst e; rw [if_pos rfl, if_pos rfl, if_pos (by omega)]
  · rw [if_neg e, if_neg e, h]
/-- What a move does to what is closed. -/
theorem law_shut {w : CW} {m : Mv} (h : Can w m) {i : Nat} (hi : i < 4) : ∃ b c, (stepW w m).shut[i]? = some b ∧ (closerOf w)[i]? = some c ∧ sh w i ≤ b ∧ b ≤ 1 ∧ (b > sh w i → m.who = c) := by
  have f := h.ok.form
  have z := sh_01 f hi
  have s := sh_at f hi
  have hk := f.st.k
  have hw := h.who
  obtain ⟨c, hc⟩ : ∃ c, (closerOf w)[i]? = some c := ⟨_, List.getElem?_eq_getElem (show i < (closerOf w).length from hi)⟩
  have keep : (stepW w m).shut = w.shut → ∃ b c, (stepW w m).shut[i]? = some b ∧ (closerOf w)[i]? = some c ∧ sh w i ≤ b ∧ b ≤ 1 ∧ (b > sh w i → m.who = c) := fun e => ⟨sh w i, c, by rw [e]; exact s, hc, Int.le_refl _, by omega, fun g => by omega⟩
  have put : ∀ k, k < 4 → (closerOf w)[k]? = some m.who → (stepW w m).shut = w.shut.set k 1 → ∃ b c, (stepW w m).shut[i]? = some b ∧ (closerOf w)[i]? = some c ∧ sh w i ≤ b ∧ b ≤ 1 ∧ (b > sh w i → m.who = c) := fun k hk hw e => by
    refine ⟨_, c, by rw [e]; exact sh_set f hk hi, hc, ?_, ?_, fun g => ?_⟩
    · split <;> omega
    · split <;> omega
    · by_cases e2 : k = i
      · subst e2; rw [hc] at hw; exact (Option.some.inj hw).symm
      · rw [if_neg e2] at g; omega
  unfold stepW at keep put ⊢
  by_cases c0 : m.who = 0
  · rw [if_pos c0] at keep put ⊢
    by_cases c1 : w.reader = 2
    · exact put 0 (by omega) (by rw [c0]; rfl) (by rw [doR, if_pos c1])
    · refine keep ?_
      unfold doR; rw [if_neg c1]; repeat' split
      all_goals rfl
  rw [if_neg c0] at keep put ⊢
  by_cases c1 : m.who ≤ w.workers
  · rw [if_pos c1] at keep put ⊢
    refine keep ?_
    unfold doH; repeat' split
    all_goals rfl
  rw [if_neg c1] at keep put ⊢
  by_cases c2 : m.who = w.workers + 1
  · rw [if_pos c2] at keep put ⊢
    exact put 1 (by omega) (by rw [c2]; rfl) rfl
  rw [if_neg c2] at keep put ⊢
  by_cases c3 : m.who = w.workers + 2
  · rw [if_pos c3] at keep put ⊢
    unfold doK at keep put ⊢
    split at keep
    · rename_i g; rw [if_pos g]; exact keep rfl
    · rename_i g1
      rw [if_neg g1] at put ⊢
      split at keep
      · rename_i g; rw [if_pos g]; exact keep rfl
      · rename_i g2
        rw [if_neg g2] at put ⊢
        split at keep
        · rename_i g; rw [if_pos g]; exact keep rfl
        · rename_i g3
          rw [if_neg g3] at put ⊢
          split at keep
          · rename_i g; rw [if_pos g]; exact keep rfl
          · rename_i g4
            rw [if_neg g4] at put ⊢
            split at keep
            · rename_i g; rw [if_pos g]; exact keep rfl
            · rename_i g5
              rw [if_neg g5] at put ⊢
              exact put 2 (by omega) (by rw [c3]; rfl) rfl
  rw [if_neg c3] at keep put ⊢
  refine keep ?_
  unfold doU; split <;> rfl
theorem law_got (w : CW) (m : Mv) : (stepW w m).got = w.got ∨ ∃ x, (stepW w m).got = w.got ++ [x] := by
  obtain ⟨y, hy⟩ : ∃ y, stepW w m = y := ⟨_, rfl⟩
  rw [hy]
  unfold stepW doR doH doK doC doU at hy
  repeat' split at hy
  all_goals subst hy
  all_goals first | exact .inl rfl | exact .inr ⟨_, rfl⟩
theorem law_nums {w : CW} {m : Mv} (h : Can w m) : (stepW w m).next - (stepW w m).due ≤ (stepW w m).window ∧ (stepW w m).ops ≤ w.ops + 1 ∧ (0 ≤ (stepW w m).next ∧ (stepW w m).next ≤ 1000) ∧ (0 ≤ (stepW w m).due ∧ (stepW w m).due ≤ 1000) := by
  have f := h.ok.form
  have hr := f.room
  have j := h.ok.jobs.room
  have hd := f.due
  have hn := f.next
  have hj := f.st.j
  have hb : 0 ≤ (if w.keeper = 3 then (1 : Int) else 0) := by split <;> omega
  have hroom : m.who = 0 → ¬ w.reader = 2 → ¬ m.way > 0 → w.reader = 0 → 0 < w.room := fun c0 _ c2 c3 => by
    have g := h.open'
    have hz : m.way.toNat = 0 := by omega
    rw [ways, if_pos c0, waysR, if_pos c3, hz] at g
    split at g
    · simp at g
    · simpa using g
  unfold stepW doR doH doK doC doU
  repeat' split
  all_goals (first | (have := hroom ‹_› ‹_› ‹_› ‹_›; refine ⟨?_, ?_, ⟨?_, ?_⟩, ?_, ?_⟩ <;> simp only [] <;> omega) | (refine ⟨?_, ?_, ⟨?_, ?_⟩, ?_, ?_⟩ <;> simp only [] <;> omega))
/- loop.example/teagle/laws.FnCrewStep -/
def r4_0 : List AOper := [ao 0 2 (.mv (.k (.b false)))]
def r4_1 : List AOper := [ao 0 12 (.mv (.t 0)),
  ao 1 13 (.len (.t 12)),
  ao 2 14 (.bin .gtr (.t 13) (.k (.i 1048576)))]
def r4_2 : List AOper := [ao 0 2 (.mv (.k (.b true)))]
def c4_3 : ACode := .seq (.reg r4_2) .ret
def c4_4 : ACode := .cond (.t 14) c4_3 .skip
def c4_5 : ACode := .seq (.reg r4_1) c4_4
def r4_6 : List AOper := [ao 0 16 (.mv (.t 0)),
  ao 1 17 (.call (.k (.c (.fn 12 []))) [(.t 16)]),
  ao 2 15 (.mv (.t 17)),
  ao 3 18 (.ext 0 (.t 15)),
  ao 4 19 (.ext 1 (.t 15)),
  ao 5 3 (.alloc 29 [(.v (.s (.int .i64 0))), (.v (.s (.int .i64 0))), (.v (.s (.int .i64 0))), (.v (.s (.int .i64 0))), (.v (.s (.int .i64 0))), .nil0, .nil0, (.v (.s (.int .i64 0))), .nil0, (.v (.s (.int .i64 0))), .nil0, (.v (.s (.int .i64 0))), .nil0, (.v (.s (.int .i64 0))), .nil0, (.v (.s (.int .i64 0))), .nil0, (.v (.s (.int .i64 0)))]),
  ao 6 4 (.alloc 38 [(.v (.s (.int .i64 0))), (.v (.s (.int .i64 0)))]),
  an 7 (.st 18 (.t 3) (.t 18)),
  an 8 (.st 2 (.t 4) (.t 19))]
def r4_7 : List AOper := [ao 0 21 (.ld 18 true (.t 3)),
  ao 1 22 (.ld 2 true (.t 4)),
  ao 2 23 (.call (.k (.c (.fn 13 []))) [(.t 21), (.t 22)]),
  ao 3 20 (.mv (.t 23)),
  ao 4 24 (.ext 0 (.t 20)),
  ao 5 25 (.ext 1 (.t 20)),
  ao 6 5 (.alloc 29 [(.v (.s (.int .i64 0))), (.v (.s (.int .i64 0))), (.v (.s (.int .i64 0))), (.v (.s (.int .i64 0))), (.v (.s (.int .i64 0))), .nil0, .nil0, (.v (.s (.int .i64 0))), .nil0, (.v (.s (.int .i64 0))), .nil0, (.v (.s (.int .i64 0))), .nil0, (.v (.s (.int .i64 0))), .nil0, (.v (.s (.int .i64 0))), .nil0, (.v (.s (.int .i64 0)))]),
  an 7 (.st 18 (.t 5) (.t 24)),
  ao 8 6 (.mv (.t 25))]
def r4_8 : List AOper := [ao 0 27 (.ld 18 true (.t 3)),
  ao 1 28 (.ld 2 true (.t 4)),
  ao 2 29 (.call (.k (.c (.fn 14 []))) [(.t 27), (.t 28)]),
  ao 3 26 (.mv (.t 29)),
  ao 4 30 (.ext 0 (.t 26)),
  ao 5 31 (.ext 1 (.t 26)),
  ao 6 7 (.alloc 29 [(.v (.s (.int .i64 0))), (.v (.s (.int .i64 0))), (.v (.s (.int .i64 0))), (.v (.s (.int .i64 0))), (.v (.s (.int .i64 0))), .nil0, .nil0, (.v (.s (.int .i64 0))), .nil0, (.v (.s (.int .i64 0))), .nil0, (.v (.s (.int .i64 0))), .nil0, (.v (.s (.int .i64 0))), .nil0, (.v (.s (.int .i64 0))), .nil0, (.v (.s (.int .i64 0)))]),
  an 7 (.st 18 (.t 7) (.t 30)),
  ao 8 8 (.mv (.t 31))]
def r4_9 : List AOper := [ao 0 32 (.mv (.t 8)),
  ao 1 33 (.mv (.t 6)),
  ao 2 34 (.binB .neq (.t 32) (.t 33)),
  ao 3 35 (.mv (.t 34)),
  ag 4 36 35 false [] (.ld 18 true (.t 7)),
  ag 5 37 35 false [] (.ld 18 true (.t 5)),
  ag 6 38 35 false [] (.call (.k (.c (.fn 15 []))) [(.t 36), (.t 37)]),
  ag 7 39 35 false [] (.un .not (.t 38)),
  ao 8 40 (.pick (.t 35) (.k (.b true)) (.t 39))]
def r4_10 : List AOper := [ao 0 2 (.mv (.k (.b false)))]
def c4_11 : ACode := .seq (.reg r4_10) .ret
def c4_12 : ACode := .cond (.t 40) c4_11 .skip
def c4_13 : ACode := .seq (.reg r4_9) c4_12
def r4_14 : List AOper := [ao 0 41 (.mv (.t 8)),
  ao 1 42 (.un .not (.t 41))]
def r4_15 : List AOper := [ao 0 43 (.fa 0 (.t 7)),
  ao 1 44 (.ld 1 false (.t 43)),
  ao 2 45 (.bin .eql (.t 44) (.k (.i 0))),
  ao 3 46 (.mv (.t 45)),
  ag 4 47 46 true [] (.fa 6 (.t 7)),
  ag 5 48 46 true [] (.ld 1 false (.t 47)),
  ag 6 49 46 true [] (.len (.t 48)),
  ag 7 50 46 true [] (.bin .eql (.t 49) (.k (.i 0))),
  ao 8 51 (.pick (.t 46) (.t 50) (.k (.b false))),
  ao 9 2 (.mv (.t 51))]
def c4_16 : ACode := .seq (.reg r4_15) .ret
def c4_17 : ACode := .cond (.t 42) c4_16 .skip
def c4_18 : ACode := .seq (.reg r4_14) c4_17
def r4_19 : List AOper := [ao 0 9 (.mv (.k (.i 0)))]
def r4_20 : List AOper := [ao 0 52 (.mv (.t 9)),
  ao 1 53 (.bin .lss (.t 52) (.k (.i 4)))]
def c4_21 : ACode := .cond (.t 53) .skip (.exit 0)
def c4_22 : ACode := .seq (.reg r4_20) c4_21
def r4_23 : List AOper := [ao 0 56 (.fa 1 (.t 3)),
  ao 1 57 (.ld 1 false (.t 56)),
  ao 2 58 (.bin .add (.t 57) (.k (.i 1))),
  ao 3 59 (.fa 1 (.t 3)),
  ao 4 60 (.ld 1 false (.t 59)),
  ao 5 61 (.bin .add (.t 60) (.k (.i 2))),
  ao 6 62 (.bsl 1 3 [(.k (.i 0)), (.t 58), (.t 61), (.k (.i (-1)))]),
  ao 7 63 (.mv (.t 9)),
  ao 8 64 (.ia 1 (.t 62) (.t 63)),
  ao 9 65 (.ld 1 false (.t 64)),
  ao 10 10 (.mv (.t 65))]
def r4_24 : List AOper := [ao 0 66 (.fa 16 (.t 7)),
  ao 1 67 (.ld 1 false (.t 66)),
  au 2 68 [0, 1] (.mv (.t 9)),
  ao 3 69 (.ia 1 (.t 67) (.t 68)),
  ao 4 70 (.ld 1 false (.t 69)),
  au 5 71 (ru 5) (.fa 16 (.t 3)),
  au 6 72 (ru 5) (.ld 1 false (.t 71)),
  au 7 73 (ru 7) (.mv (.t 9)),
  au 8 74 (ru 5) (.ia 1 (.t 72) (.t 73)),
  au 9 75 (ru 5) (.ld 1 false (.t 74)),
  ao 10 76 (.bin .lss (.t 70) (.t 75)),
  ao 11 77 (.mv (.t 76)),
  ag 12 78 77 false [] (.fa 16 (.t 7)),
  ag 13 79 77 false [] (.ld 1 false (.t 78)),
  ag 14 80 77 false [12, 13] (.mv (.t 9)),
  ag 15 81 77 false [] (.ia 1 (.t 79) (.t 80)),
  ag 16 82 77 false [] (.ld 1 false (.t 81)),
  ag 17 83 77 false [] (.bin .gtr (.t 82) (.k (.i 1))),
  ao 18 84 (.pick (.t 77) (.k (.b true)) (.t 83)),
  ao 19 85 (.mv (.t 84)),
  ag 20 86 85 false [] (.fa 16 (.t 7)),
  ag 21 87 85 false [] (.ld 1 false (.t 86)),
  ag 22 88 85 false [20, 21] (.mv (.t 9)),
  ag 23 89 85 false [] (.ia 1 (.t 87) (.t 88)),
  ag 24 90 85 false [] (.ld 1 false (.t 89)),
  ag 25 91 85 false [20, 21, 22, 23, 24] (.fa 16 (.t 3)),
  ag 26 92 85 false [20, 21, 22, 23, 24] (.ld 1 false (.t 91)),
  ag 27 93 85 false [20, 21, 22, 23, 24, 25, 26] (.mv (.t 9)),
  ag 28 94 85 false [20, 21, 22, 23, 24] (.ia 1 (.t 92) (.t 93)),
  ag 29 95 85 false [20, 21, 22, 23, 24] (.ld 1 false (.t 94)),
  ag 30 96 85 false [] (.bin .gtr (.t 90) (.t 95)),
  ag 31 97 85 false [] (.mv (.t 96)),
  ag 32 98 97 true [] (.fa 0 (.t 4)),
  ag 33 99 97 true [] (.ld 1 false (.t 98)),
  ag 34 100 97 true [32, 33] (.mv (.t 10)),
  ag 35 101 97 true [] (.bin .neq (.t 99) (.t 100)),
  ag 36 102 85 false [] (.pick (.t 97) (.t 101) (.k (.b false))),
  ao 37 103 (.pick (.t 85) (.k (.b true)) (.t 102))]
def r4_25 : List AOper := [ao 0 2 (.mv (.k (.b false)))]
def c4_26 : ACode := .seq (.reg r4_25) .ret
def c4_27 : ACode := .cond (.t 103) c4_26 .skip
def c4_28 : ACode := .seq (.reg r4_23) (.seq (.reg r4_24) c4_27)
def c4_29 : ACode := .block 1 c4_28
def r4_30 : List AOper := [ao 0 54 (.mv (.t 9)),
  ao 1 55 (.bin .add (.t 54) (.k (.i 1))),
  ao 2 9 (.mv (.t 55))]
def c4_31 : ACode := .seq c4_22 (.seq c4_29 (.reg r4_30))
def c4_32 : ACode := .loop c4_31
def c4_33 : ACode := .block 0 c4_32
def c4_34 : ACode := .seq (.reg r4_19) c4_33
def r4_35 : List AOper := [ao 0 104 (.fa 14 (.t 3)),
  ao 1 105 (.ld 1 false (.t 104)),
  ao 2 106 (.len (.t 105)),
  ao 3 11 (.mv (.t 106))]
def r4_36 : List AOper := [ao 0 107 (.fa 14 (.t 7)),
  ao 1 108 (.ld 1 false (.t 107)),
  ao 2 109 (.len (.t 108)),
  au 3 110 (ru 3) (.mv (.t 11)),
  ao 4 111 (.bin .geq (.t 109) (.t 110)),
  ao 5 112 (.mv (.t 111)),
  ag 6 113 112 true [] (.fa 14 (.t 7)),
  ag 7 114 112 true [] (.ld 1 false (.t 113)),
  ag 8 115 112 true [] (.len (.t 114)),
  ag 9 116 112 true [6, 7, 8] (.mv (.t 11)),
  ag 10 117 112 true [6, 7, 8] (.bin .add (.t 116) (.k (.i 1))),
  ag 11 118 112 true [] (.bin .leq (.t 115) (.t 117)),
  ao 12 119 (.pick (.t 112) (.t 118) (.k (.b false))),
  ao 13 120 (.mv (.t 119)),
  ag 14 121 120 true [] (.fa 14 (.t 7)),
  ag 15 122 120 true [] (.ld 1 false (.t 121)),
  ag 16 123 120 true [14, 15] (.mv (.t 11)),
  ag 17 124 120 true [] (.slc 1 (.t 122) none (some (.t 123))),
  ag 18 125 120 true [14, 15, 16, 17] (.fa 14 (.t 3)),
  ag 19 126 120 true [14, 15, 16, 17] (.ld 1 false (.t 125)),
  ag 20 127 120 true [] (.call (.k (.c (.fn 16 []))) [(.t 124), (.t 126)]),
  ao 21 128 (.pick (.t 120) (.t 127) (.k (.b false))),
  ao 22 129 (.mv (.t 128)),
  ag 23 130 129 true [] (.fa 3 (.t 7)),
  ag 24 131 129 true [] (.ld 1 false (.t 130)),
  ag 25 132 129 true [23, 24] (.fa 11 (.t 7)),
  ag 26 133 129 true [23, 24] (.ld 1 false (.t 132)),
  ag 27 134 129 true [] (.bin .sub (.t 131) (.t 133)),
  ag 28 135 129 true [23, 24, 25, 26, 27] (.fa 2 (.t 7)),
  ag 29 136 129 true [23, 24, 25, 26, 27] (.ld 1 false (.t 135)),
  ag 30 137 129 true [] (.bin .leq (.t 134) (.t 136)),
  ao 31 138 (.pick (.t 129) (.t 137) (.k (.b false))),
  ao 32 139 (.mv (.t 138)),
  ag 33 140 139 true [] (.fa 17 (.t 7)),
  ag 34 141 139 true [] (.ld 1 false (.t 140)),
  ag 35 142 139 true [33, 34] (.fa 17 (.t 3)),
  ag 36 143 139 true [33, 34] (.ld 1 false (.t 142)),
  ag 37 144 139 true [33, 34] (.bin .add (.t 143) (.k (.i 1))),
  ag 38 145 139 true [] (.bin .leq (.t 141) (.t 144)),
  ao 39 146 (.pick (.t 139) (.t 145) (.k (.b false))),
  ao 40 2 (.mv (.t 146))]
def c4 : ACode := .seq (.reg r4_0) (.seq c4_5 (.seq (.reg r4_6) (.seq (.reg r4_7) (.seq (.reg r4_8) (.seq c4_13 (.seq c4_18 (.seq c4_34 (.seq (.reg r4_35) (.seq (.reg r4_36) .ret)))))))))
def s4 : List ARes := [.tmp 2]
theorem ok4 : okF Try.prog 4 147 c4 s4 := ⟨Try.f4, Try.func4, Try.ntmps4, by kernel_rfl, by kernel_rfl, by kernel_rfl⟩
def inv4 (w y : CW) (m : Mv) (i : Nat) (σ : St) : Prop := ∃ u3 u4 u7, σ.t 3 = .c (.ptr 3 u3 0) ∧ σ.H 3 = some (cwB u3 w) ∧ σ.t 4 = .c (.ptr 4 u4 0) ∧ σ.H 4 = some (.var u4 38 [iC m.who, iC m.way]) ∧ σ.t 7 = .c (.ptr 7 u7 0) ∧ σ.H 7 = some (cwB u7 y) ∧ σ.t 9 = .i i
def UEv_1 := Bx.mk <|
  aN (uA c4.eq_1) <| aN (uR r4_0.eq_1) <| aN (uA c4_5.eq_1) <| aN (uR r4_1.eq_1) <| aN (uA c4_4.eq_1) <| aN (uA c4_3.eq_1) <| aN (uR r4_2.eq_1) <| aN (uR r4_6.eq_1) <| aN (uR r4_7.eq_1) <| aN (uR r4_8.eq_1) <| aN (uA c4_13.eq_1) <| aN (uR r4_9.eq_1) <| aN (uA c4_12.eq_1) <| aN (uA c4_11.eq_1) <| aN (uR r4_10.eq_1) <| aN (uA c4_18.eq_1) <| aN (uR r4_14.eq_1) <| aN (uA c4_17.eq_1) <| aN (uA c4_16.eq_1) <| aN (uR r4_15.eq_1) <| aN (uA c4_34.eq_1) <| aN (uR r4_19.eq_1) <| aN (uA c4_33.eq_1) <| aN (uA c4_32.eq_1) <| aN (uR r4_35.eq_1) <| aN (uR r4_36.eq_1) <| s4.eq_1
def UEv_2 := Bx.mk <|
  aN (uA c4_31.eq_1) <| aN (uA c4_22.eq_1) <| aN (uR r4_20.eq_1) <| aN (uA c4_21.eq_1) <| aN (uA c4_29.eq_1) <| aN (uA c4_28.eq_1) <| aN (uR r4_23.eq_1) <| aN (uR r4_24.eq_1) <| aN (uA c4_27.eq_1) <| aN (uA c4_26.eq_1) <| aN (uR r4_25.eq_1) <| aN (uR r4_30.eq_1) <| aN (uA c4.eq_1) <| aN (uR r4_0.eq_1) <| aN (uA c4_5.eq_1) <| aN (uR r4_1.eq_1) <| aN (uA c4_4.eq_1) <| aN (uA c4_3.eq_1) <| aN (uR r4_2.eq_1) <| aN (uR r4_6.eq_1) <| aN (uR r4_7.eq_1) <| aN (uR r4_8.eq_1) <| aN (uA c4_13.eq_1) <| aN (uR r4_9.eq_1) <| aN (uA c4_12.eq_1) <| aN (uA c4_11.eq_1) <| aN (uR r4_10.eq_1) <| aN (uA c4_18.eq_1) <| aN (uR r4_14.eq_1) <| aN (uA c4_17.eq_1) <| aN (uA c4_16.eq_1) <| aN (uR r4_15.eq_1) <| aN (uA c4_34.eq_1) <| aN (uR r4_19.eq_1) <| aN (uA c4_33.eq_1) <| aN (uA c4_32.eq_1) <| aN (uR r4_35.eq_1) <| aN (uR r4_36.eq_1) <| s4.eq_1
set_option maxRecDepth 8000 in
set_option maxHeartbeats 4000000 in
theorem lawCS_ok (bs : List UInt8) : ACallsF Try.prog 4 [.c (.v (.sl (encB bs)))] [] (.b true) := by
  obtain ⟨⟨w, m⟩, hs, Cd⟩ := drawStep_ok bs
  refine ACallsF.intro ok4 follows fun X c0 => ?_
  by_cases hl : (bs.length : Int) > 1048576
  · simp only [RUX, Nat.reduceAdd, reduceIte, Nat.reduceEqDiff, Nat.reduceLT, Nat.reduceLeDiff, reduceCtorEq, eq_self, FIX, forall_const, endE_n, endE_r, CHT, disj, Nat.reduceBEq, beq_self_eq_true, APT, APX, forall_eq, ALT, KI, UEv_1.d, encB_len, hl]
  simp only [RUX, Nat.reduceAdd, reduceIte, Nat.reduceEqDiff, Nat.reduceLT, Nat.reduceLeDiff, reduceCtorEq, eq_self, FIX, forall_const, endE_n, endE_r, CHT, disj, Nat.reduceBEq, beq_self_eq_true, APT, APX, forall_eq, ALT, KI, UEv_1.d, encB_len, hl]
  refine callC Cd rfl rfl rfl rfl ?_
  simp only [RUX, Nat.reduceAdd, reduceIte, Nat.reduceEqDiff, Nat.reduceLT, Nat.reduceLeDiff, reduceCtorEq, eq_self, FIX, forall_const, endE_n, endE_r, CHT, disj, Nat.reduceBEq, beq_self_eq_true, APT, APX, forall_eq, ALT, KI, UEv_1.d, encB_len, hl]
  by_cases h : Can w m
  rotate_left
  · refine callC (stepS_no h) rfl rfl rfl rfl ?_
    simp only [RUX, Nat.reduceAdd, reduceIte, Nat.reduceEqDiff, Nat.reduceLT, Nat.reduceLeDiff, reduceCtorEq, eq_self, FIX, forall_const, endE_n, endE_r, CHT, disj, Nat.reduceBEq, beq_self_eq_true, APT, APX, forall_eq, ALT, KI, UEv_1.d, encB_len, hl]
    refine callZ (ws := []) (ns := []) (stepI_no hs h) rfl rfl rfl (fun _ => rfl) rfl ⟨rfl, ?_⟩
    simp only [RUX, Nat.reduceAdd, reduceIte, Nat.reduceEqDiff, Nat.reduceLT, Nat.reduceLeDiff, reduceCtorEq, eq_self, FIX, forall_const, endE_n, endE_r, CHT, disj, Nat.reduceBEq, beq_self_eq_true, APT, APX, forall_eq, ALT, KI, UEv_1.d, encB_len, hl, Bool.not_true, Bool.not_false]
    refine callS (ws := []) (ns := []) (lwWorld_ok (w := cw0) ⟨by decide, by decide, by decide, by decide, by decide, by decide, by decide⟩) rfl rfl rfl rfl rfl ⟨rfl, ?_⟩
    simp only [RUX, Nat.reduceAdd, reduceIte, Nat.reduceEqDiff, Nat.reduceLT, Nat.reduceLeDiff, reduceCtorEq, eq_self, FIX, forall_const, endE_n, endE_r, CHT, disj, Nat.reduceBEq, beq_self_eq_true, APT, APX, forall_eq, ALT, KI, UEv_1.d, encB_len, hl, Bool.not_true, Bool.not_false]
  have f := h.ok.form
  have hy := stepW_wf f m
  have hk := f.st.k
  have hshut := fun (i : Nat) (hi : i < 4) => law_shut h hi
  have hg := law_got w m
  obtain ⟨n1, n2, n3, n4⟩ := law_nums h
  have CS := stepS_yes h hy.small
  have CI := stepI_yesC h hy.small
  generalize stepW w m = y at *
  refine callC CS rfl rfl rfl rfl ?_
  simp only [RUX, Nat.reduceAdd, reduceIte, Nat.reduceEqDiff, Nat.reduceLT, Nat.reduceLeDiff, reduceCtorEq, eq_self, FIX, forall_const, endE_n, endE_r, CHT, disj, Nat.reduceBEq, beq_self_eq_true, APT, APX, forall_eq, ALT, KI, UEv_1.d, encB_len, hl]
  refine callC CI rfl rfl rfl rfl ?_
  simp only [RUX, Nat.reduceAdd, reduceIte, Nat.reduceEqDiff, Nat.reduceLT, Nat.reduceLeDiff, reduceCtorEq, eq_self, FIX, forall_const, endE_n, endE_r, CHT, disj, Nat.reduceBEq, beq_self_eq_true, APT, APX, forall_eq, ALT, KI, UEv_1.d, encB_len, hl, Bool.not_true, Bool.not_false]
  refine callC (lwWorld_ok hy.small) rfl rfl rfl rfl ?_
  simp only [RUX, Nat.reduceAdd, reduceIte, Nat.reduceEqDiff, Nat.reduceLT, Nat.reduceLeDiff, reduceCtorEq, eq_self, FIX, forall_const, endE_n, endE_r, CHT, disj, Nat.reduceBEq, beq_self_eq_true, APT, APX, forall_eq, ALT, KI, UEv_1.d, encB_len, hl, Bool.not_true, Bool.not_false]
  refine AW.upto 4 (inv4 w y m) ⟨_, _, _, rfl, rfl, rfl, rfl, rfl, rfl, rfl⟩ fun i t H c hi h' => ?_
  obtain ⟨u3, u4, u7, e3, eH3, e4, eH4, e7, eH7, e9⟩ := h'
  simp only [T.c, T.i] at e3 eH3 e4 eH4 e7 eH7 e9
  by_cases k1 : (i : Int) < 4
  · obtain ⟨b, cl, hb, hc, g1, g2, g3⟩ := hshut i (by omega)
    have eb := en_at eI hb
    have ea := en_at eI (sh_at f (i := i) (by omega))
    have ec := en_at eI hc
    have gz : (0 : Int) ≤ i := by omega
    have g4 : (i : Int) < ((4 : Nat) : Int) := by omega
    have gw := w1_ok (i := i) (by omega)
    have w5 : IntKind.i64.wrap (w.workers + 1) = w.workers + 1 := wrap64 ⟨by omega, by omega⟩
    have w6 : IntKind.i64.wrap (w.workers + 2) = w.workers + 2 := wrap64 ⟨by omega, by omega⟩
    simp only [closerOf, en, eI, List.map_cons, List.map_nil] at ec
    generalize sh w i = a at *
    have k2 : ¬ b < a := by omega
    have k3 : ¬ b > 1 := by omega
    by_cases c1 : b > a
    · have k5 : (m.who != cl) = false := by rw [g3 c1]; exact ne0' cl
      simp only [RUX, Nat.reduceAdd, reduceIte, Nat.reduceEqDiff, Nat.reduceLT, Nat.reduceLeDiff, reduceCtorEq, eq_self, FIX, forall_const, endE_n, endE_r, CHT, disj, Nat.reduceBEq, beq_self_eq_true, APT, APX, forall_eq, ALT, KI, UEv_2.d, e3, eH3, e4, eH4, e7, eH7, e9, k1, ea, eb, ec, eI, gz, g4, Int.toNat_natCast, w5, w6, k2, k3, c1, k5, gw]
      exact ⟨by omega, u3, u4, u7, e3, eH3, e4, eH4, e7, eH7, rfl⟩
    · simp only [RUX, Nat.reduceAdd, reduceIte, Nat.reduceEqDiff, Nat.reduceLT, Nat.reduceLeDiff, reduceCtorEq, eq_self, FIX, forall_const, endE_n, endE_r, CHT, disj, Nat.reduceBEq, beq_self_eq_true, APT, APX, forall_eq, ALT, KI, UEv_2.d, e3, eH3, e4, eH4, e7, eH7, e9, k1, ea, eb, ec, eI, gz, g4, Int.toNat_natCast, w5, w6, k2, k3, c1, gw]
      exact ⟨by omega, u3, u4, u7, e3, eH3, e4, eH4, e7, eH7, rfl⟩
  have hgl := f.small.t
  have w1 : IntKind.i64.wrap ((w.got.length : Int) + 1) = w.got.length + 1 := wrap64 ⟨by omega, by omega⟩
  have ho := f.ops0
  have ho2 := f.ops1
  have w2 : IntKind.i64.wrap (w.ops + 1) = w.ops + 1 := wrap64 ⟨by omega, by omega⟩
  have w3 : IntKind.i64.wrap (y.next - y.due) = y.next - y.due := wrap64 ⟨by omega, by omega⟩
  obtain ⟨m1, m2, m3⟩ : (w.got.length ≤ y.got.length) ∧ (y.got.length ≤ w.got.length + 1) ∧ y.got.take w.got.length = w.got := by
    rcases hg with e | ⟨x, e⟩
    · rw [e]; exact ⟨Nat.le_refl _, Nat.le_succ _, List.take_length⟩
    · rw [e, List.length_append, List.length_singleton]; exact ⟨Nat.le_succ _, Nat.le_refl _, List.take_left⟩
  have p1 : (y.got.length : Int) ≥ w.got.length := by omega
  have p2 : (y.got.length : Int) ≤ w.got.length + 1 := by omega
  have p3 : (0 : Int) ≤ w.got.length := by omega
  have p4 : (w.got.length : Int) ≤ y.got.length := by omega
  have p5 : (en eI y.got).take w.got.length = en eI w.got := by rw [en_cut, m3]
  simp only [RUX, Nat.reduceAdd, reduceIte, Nat.reduceEqDiff, Nat.reduceLT, Nat.reduceLeDiff, reduceCtorEq, eq_self, FIX, forall_const, endE_n, endE_r, CHT, disj, Nat.reduceBEq, beq_self_eq_true, APT, APX, forall_eq, ALT, KI, UEv_2.d, UEv_1.d, e3, eH3, e4, eH4, e7, eH7, e9, k1, en_len, p1, p2, p3, p4, p5, w1, lohi, Int.le_refl, Nat.sub_zero, List.drop_zero, Int.toNat_natCast]
  refine callC (lwInts_ok w.got hgl) rfl rfl rfl rfl ?_
  simp only [RUX, Nat.reduceAdd, reduceIte, Nat.reduceEqDiff, Nat.reduceLT, Nat.reduceLeDiff, reduceCtorEq, eq_self, FIX, forall_const, endE_n, endE_r, CHT, disj, Nat.reduceBEq, beq_self_eq_true, APT, APX, forall_eq, ALT, KI, UEv_2.d, UEv_1.d, e3, eH3, e4, eH4, e7, eH7, w2, w3, n1, n2]
end Go.V

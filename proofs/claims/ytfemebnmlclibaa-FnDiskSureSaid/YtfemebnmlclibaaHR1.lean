/- It is proved that the law FnDiskDo returns true for every input and leaves its input as it was; no condition. -/
import Derived.Test.YtfemebnmlclibaaHP1
set_option linter.unusedSimpArgs false
namespace Go.V
open Go.Proofs
/- (*loop.example/teagle/spec.l6Rd).pick -/
def r22_0 : List AOper := [ao 0 4 (.mv (.k (.i 0)))]
def r22_1 : List AOper := [ao 0 7 (.mv (.t 0)),
  ao 1 8 (.mv (.t 0)),
  ao 2 9 (.nck (.t 8)),
  ao 3 10 (.fa 1 (.t 9)),
  ao 4 11 (.ld 1 false (.t 10)),
  ao 5 12 (.bin .add (.t 11) (.k (.i 1))),
  ao 6 13 (.nck (.t 7)),
  ao 7 14 (.fa 1 (.t 13)),
  an 8 (.st 1 (.t 14) (.t 12))]
def r22_2 : List AOper := [ao 0 15 (.mv (.t 1)),
  ao 1 16 (.bin .lss (.t 15) (.k (.i 1))),
  ao 2 17 (.mv (.t 16)),
  ag 3 18 17 false [] (.mv (.t 0)),
  ag 4 19 17 false [] (.nck (.t 18)),
  ag 5 20 17 false [] (.fa 0 (.t 19)),
  ag 6 21 17 false [] (.ld 1 false (.t 20)),
  ag 7 22 17 false [] (.len (.t 21)),
  ag 8 23 17 false [] (.bin .eql (.t 22) (.k (.i 0))),
  ao 9 24 (.pick (.t 17) (.k (.b true)) (.t 23))]
def r22_3 : List AOper := [ao 0 4 (.mv (.k (.i 0)))]
def c22_4 : ACode := .seq (.reg r22_3) .ret
def c22_5 : ACode := .cond (.t 24) c22_4 .skip
def c22_6 : ACode := .seq (.reg r22_2) c22_5
def r22_7 : List AOper := [ao 0 25 (.mv (.t 0)),
  ao 1 26 (.nck (.t 25)),
  ao 2 27 (.fa 1 (.t 26)),
  ao 3 28 (.ld 1 false (.t 27)),
  ao 4 29 (.bin .sub (.t 28) (.k (.i 1))),
  ao 5 5 (.mv (.t 29))]
def r22_8 : List AOper := [ao 0 30 (.mv (.t 5)),
  ao 1 31 (.mv (.t 0)),
  ao 2 32 (.nck (.t 31)),
  ao 3 33 (.fa 0 (.t 32)),
  ao 4 34 (.ld 1 false (.t 33)),
  ao 5 35 (.len (.t 34)),
  ao 6 36 (.bin .lss (.t 30) (.t 35))]
def r22_9 : List AOper := [ao 0 37 (.mv (.t 0)),
  ao 1 38 (.nck (.t 37)),
  ao 2 39 (.fa 0 (.t 38)),
  ao 3 40 (.ld 1 false (.t 39)),
  ao 4 41 (.mv (.t 5)),
  ao 5 42 (.ia 1 (.t 40) (.t 41)),
  ao 6 43 (.ld 1 false (.t 42)),
  ao 7 44 (.cnvI .i64 (.t 43)),
  ao 8 45 (.mv (.t 1)),
  ao 9 46 (.bin .rem (.t 44) (.t 45)),
  ao 10 4 (.mv (.t 46))]
def c22_10 : ACode := .seq (.reg r22_9) .ret
def c22_11 : ACode := .cond (.t 36) c22_10 .skip
def c22_12 : ACode := .seq (.reg r22_8) c22_11
def r22_13 : List AOper := [ao 0 47 (.mv (.t 0)),
  ao 1 48 (.nck (.t 47)),
  ao 2 49 (.fa 0 (.t 48)),
  ao 3 50 (.ld 1 false (.t 49)),
  au 4 51 (ru 4) (.mv (.t 5)),
  au 5 52 (ru 5) (.mv (.t 0)),
  au 6 53 (ru 5) (.nck (.t 52)),
  au 7 54 (ru 5) (.fa 0 (.t 53)),
  au 8 55 (ru 5) (.ld 1 false (.t 54)),
  au 9 56 (ru 5) (.len (.t 55)),
  au 10 57 (ru 4) (.bin .rem (.t 51) (.t 56)),
  ao 11 58 (.ia 1 (.t 50) (.t 57)),
  ao 12 59 (.ld 1 false (.t 58)),
  ao 13 60 (.cnvI .i64 (.t 59)),
  ao 14 61 (.bin .mul (.t 60) (.k (.i 131))),
  au 15 62 (ru 15) (.mv (.t 0)),
  au 16 63 (ru 15) (.nck (.t 62)),
  au 17 64 (ru 15) (.fa 0 (.t 63)),
  au 18 65 (ru 15) (.ld 1 false (.t 64)),
  au 19 66 (ru 19) (.mv (.t 5)),
  au 20 67 (ru 19) (.bin .mul (.t 66) (.k (.i 7))),
  au 21 68 (ru 19) (.bin .add (.t 67) (.k (.i 3))),
  au 22 69 (ru 22) (.mv (.t 0)),
  au 23 70 (ru 22) (.nck (.t 69)),
  au 24 71 (ru 22) (.fa 0 (.t 70)),
  au 25 72 (ru 22) (.ld 1 false (.t 71)),
  au 26 73 (ru 22) (.len (.t 72)),
  au 27 74 (ru 19) (.bin .rem (.t 68) (.t 73)),
  au 28 75 (ru 15) (.ia 1 (.t 65) (.t 74)),
  au 29 76 (ru 15) (.ld 1 false (.t 75)),
  au 30 77 (ru 15) (.cnvI .i64 (.t 76)),
  au 31 78 (ru 15) (.bin .mul (.t 77) (.k (.i 1117))),
  ao 32 79 (.bin .add (.t 61) (.t 78)),
  au 33 80 (ru 33) (.mv (.t 5)),
  au 34 81 (ru 33) (.bin .mul (.t 80) (.k (.i 29))),
  ao 35 82 (.bin .add (.t 79) (.t 81)),
  au 36 83 (ru 36) (.mv (.t 5)),
  au 37 84 (ru 37) (.mv (.t 0)),
  au 38 85 (ru 37) (.nck (.t 84)),
  au 39 86 (ru 37) (.fa 0 (.t 85)),
  au 40 87 (ru 37) (.ld 1 false (.t 86)),
  au 41 88 (ru 37) (.len (.t 87)),
  au 42 89 (ru 36) (.bin .quo (.t 83) (.t 88)),
  au 43 90 (ru 36) (.bin .mul (.t 89) (.k (.i 53))),
  ao 44 91 (.bin .add (.t 82) (.t 90)),
  ao 45 6 (.mv (.t 91))]
def r22_14 : List AOper := [ao 0 92 (.mv (.t 6)),
  ao 1 93 (.mv (.t 6)),
  ao 2 94 (.bin .quo (.t 93) (.k (.i 64))),
  ao 3 95 (.bin .xor (.t 92) (.t 94)),
  ao 4 6 (.mv (.t 95))]
def r22_15 : List AOper := [ao 0 96 (.mv (.t 6)),
  ao 1 97 (.mv (.t 1)),
  ao 2 98 (.bin .rem (.t 96) (.t 97)),
  ao 3 4 (.mv (.t 98))]
def c22 : ACode := .seq (.reg r22_0) (.seq (.reg r22_1) (.seq c22_6 (.seq (.reg r22_7) (.seq c22_12 (.seq (.reg r22_13) (.seq (.reg r22_14) (.seq (.reg r22_15) .ret)))))))
def s22 : List ARes := [.tmp 4]
theorem ok22 : okF Try.prog 22 99 c22 s22 := ⟨Try.f22, Try.func22, Try.ntmps22, by kernel_rfl, by kernel_rfl, by kernel_rfl⟩
def encB (bs : List UInt8) : List (List V) := bs.map fun b => [.s (.int .u8 b.toNat)]
theorem encB_len (bs : List UInt8) : (encB bs).length = bs.length := by simp [encB]
theorem encB_at {bs : List UInt8} {i : Nat} {b : UInt8} (h : bs[i]? = some b) : (encB bs)[i]? = some [.s (.int .u8 b.toNat)] := by simp [encB, h]
/-- The reader: its bytes, and the place. -/
abbrev rdC (bs : List UInt8) (p : Int) : List C := [.v (.sl (encB bs)), .v (.s (.int .i64 p))]
abbrev rdr (v : Nat) (bs : List UInt8) (p : Int) : Blk := .var v 77 (rdC bs p)
abbrev rH (v : Nat) (bs : List UInt8) (p p' : Int) : Hand := rV v 77 (rdC bs p) (rdC bs p')
theorem xor_nonneg {a b : Int} (ha : 0 ≤ a ∧ a ≤ 9223372022854775807) (hb : 0 ≤ b ∧ b ≤ 9223372022854775807) : 0 ≤ IntKind.i64.wrap ((BitVec.ofInt IntKind.i64.bits a ^^^ BitVec.ofInt IntKind.i64.bits b).toNat : Int) := by
  have h1 : (BitVec.ofInt 64 a).toNat < 2 ^ 63 := by rw [BitVec.toNat_ofInt]; omega
  have h2 : (BitVec.ofInt 64 b).toNat < 2 ^ 63 := by rw [BitVec.toNat_ofInt]; omega
  have h3 : (BitVec.ofInt 64 a ^^^ BitVec.ofInt 64 b).toNat < 2 ^ 63 := by rw [BitVec.toNat_xor]; exact Nat.xor_lt_two_pow h1 h2
  show 0 ≤ IntKind.i64.wrap ((BitVec.ofInt 64 a ^^^ BitVec.ofInt 64 b).toNat : Int)
  rw [wrap64 (by omega)]
  omega
def URa_1 := Bx.mk <|
  aN (uA c22.eq_1) <| aN (uR r22_0.eq_1) <| aN (uR r22_1.eq_1) <| aN (uA c22_6.eq_1) <| aN (uR r22_2.eq_1) <| aN (uA c22_5.eq_1) <| aN (uA c22_4.eq_1) <| aN (uR r22_3.eq_1) <| aN (uR r22_7.eq_1) <| aN (uA c22_12.eq_1) <| aN (uR r22_8.eq_1) <| aN (uA c22_11.eq_1) <| aN (uA c22_10.eq_1) <| aN (uR r22_9.eq_1) <| aN (uR r22_13.eq_1) <| aN (uR r22_14.eq_1) <| aN (uR r22_15.eq_1) <| s22.eq_1
set_option maxRecDepth 100000 in
theorem pick_ok (bs : List UInt8) (hb : bs.length ≤ 2000) (p n : Int) (hp : 0 ≤ p ∧ p ≤ 1000000000000) (hn : 0 < n ∧ n ≤ 9223372022854775807) : ∃ k : Int, 0 ≤ k ∧ k < n ∧ ∀ v, ACallsF Try.prog 22 [rP v, .i n] [rH v bs p (p + 1)] (.i k) := by
  have hw : IntKind.i64.wrap (p + 1) = p + 1 := wrap64 (by omega)
  have hw2 : IntKind.i64.wrap (p + 1 - 1) = p := (wrap64 (x := p + 1 - 1) ⟨by omega, by omega⟩).trans (by omega)
  have h1 : ¬ n < 1 := by omega
  have hn0 : ¬ n = 0 := by omega
  by_cases hb0 : bs.length = 0
  · refine ⟨0, by omega, by omega, fun v => ACallsF.intro ok22 follows fun X c0 => ?_⟩
    have hbz : ((bs.length : Int) == 0) = true := by simp [hb0]
    simp only [RUX, Nat.reduceAdd, reduceIte, Nat.reduceEqDiff, Nat.reduceLT, Nat.reduceLeDiff, reduceCtorEq, eq_self, FIX, forall_const, endE_n, endE_r, rH, rV, rdC, rdr, URa_1.d, encB_len, hw, hw2, h1, hbz]
  · have hbz : ((bs.length : Int) == 0) = false := beq_eq_false_iff_ne.2 (by omega)
    by_cases hlt : p < bs.length
    · have hp0 := hp.1
      obtain ⟨i, rfl⟩ : ∃ i : Nat, p = i := ⟨p.toNat, (Int.toNat_of_nonneg hp0).symm⟩
      have hi : i < bs.length := by omega
      have e1 := encB_at (List.getElem?_eq_getElem hi)
      have hr := Int.emod_lt_of_pos (bs[i].toNat : Int) hn.1
      have hr2 := Int.emod_nonneg (bs[i].toNat : Int) hn0
      have hu : ((bs[i].toNat : Int)) < 256 := by have := bs[i].toNat_lt; omega
      have hwu : IntKind.i64.wrap (bs[i].toNat : Int) = bs[i].toNat := wrap64 (by omega)
      refine ⟨(bs[i].toNat : Int) % n, hr2, hr, fun v => ACallsF.intro ok22 follows fun X c0 => ?_⟩
      have ht : (bs[i].toNat : Int).tmod n = (bs[i].toNat : Int) % n := Int.tmod_eq_emod_of_nonneg (by omega)
      simp only [RUX, Nat.reduceAdd, reduceIte, Nat.reduceEqDiff, Nat.reduceLT, Nat.reduceLeDiff, reduceCtorEq, eq_self, FIX, forall_const, endE_n, endE_r, rH, rV, rdC, rdr, URa_1.d, encB_len, hw, hw2, h1, hbz, hlt, e1, hp0, Int.toNat_natCast, hwu, hn0, ht]
    · have hp0 := hp.1
      obtain ⟨k, rfl⟩ : ∃ i : Nat, p = i := ⟨p.toNat, (Int.toNat_of_nonneg hp0).symm⟩
      obtain ⟨l, hl⟩ : ∃ l : Nat, bs.length = l := ⟨_, rfl⟩
      rw [hl] at hb hb0 hbz hlt
      obtain ⟨q, hq⟩ : ∃ q : Nat, k / l = q := ⟨_, rfl⟩
      have hql : q ≤ k := by rw [← hq]; exact Nat.div_le_self _ _
      have t1 : (k : Int).tmod l = ((k % l : Nat) : Int) := rfl
      have t2 : ((k : Int) * 7 + 3).tmod l = (((k * 7 + 3) % l : Nat) : Int) := rfl
      have t3 : (k : Int).tdiv l = (q : Int) := by rw [← hq]; rfl
      have hl0 : ¬ (l : Int) = 0 := by omega
      obtain ⟨i, hi⟩ : ∃ i : Nat, k % l = i := ⟨_, rfl⟩
      obtain ⟨j, hj⟩ : ∃ j : Nat, (k * 7 + 3) % l = j := ⟨_, rfl⟩
      rw [hi] at t1
      rw [hj] at t2
      have hi2 : i < bs.length := by rw [← hi, hl]; exact Nat.mod_lt _ (by omega)
      have hj2 : j < bs.length := by rw [← hj, hl]; exact Nat.mod_lt _ (by omega)
      have e1 := encB_at (List.getElem?_eq_getElem hi2)
      have e2 := encB_at (List.getElem?_eq_getElem hj2)
      have hu1 := bs[i].toNat_lt
      have hu2 := bs[j].toNat_lt
      generalize bs[i].toNat = a at e1 hu1
      generalize bs[j].toNat = b at e2 hu2
      obtain ⟨x, hx⟩ : ∃ x : Int, (a : Int) * 131 + (b : Int) * 1117 + (k : Int) * 29 + (q : Int) * 53 = x := ⟨_, rfl⟩
      have hx0 : 0 ≤ x ∧ x ≤ 100000000000000 := by omega
      have t4 : IntKind.i64.wrap (x.tdiv 64) = x / 64 := IntWalk.i64_quo x 64 (by omega)
      obtain ⟨y, hy⟩ : ∃ y : Int, IntKind.i64.wrap ((BitVec.ofInt IntKind.i64.bits x ^^^ BitVec.ofInt IntKind.i64.bits (x / 64)).toNat : Int) = y := ⟨_, rfl⟩
      have hy0 : 0 ≤ y := by rw [← hy]; exact xor_nonneg (by omega) (by omega)
      have t5 : y.tmod n = y % n := Int.tmod_eq_emod_of_nonneg hy0
      have hz1 : (0 : Int) ≤ i := by omega
      have hz2 : (0 : Int) ≤ j := by omega
      have hz3 : ¬ (64 : Int) = 0 := by omega
      obtain ⟨p0, hp1⟩ : ∃ p0 : Int, (k : Int) + 1 = p0 := ⟨_, rfl⟩
      rw [hp1] at hw
      have w0 : IntKind.i64.wrap (p0 - 1) = k := by rw [← hp1]; exact (wrap64 ⟨by omega, by omega⟩).trans (by omega)
      have w1 : IntKind.i64.wrap (a : Int) = a := wrap64 ⟨by omega, by omega⟩
      have w2 : IntKind.i64.wrap ((a : Int) * 131) = (a : Int) * 131 := wrap64 ⟨by omega, by omega⟩
      have w3 : IntKind.i64.wrap ((k : Int) * 7) = (k : Int) * 7 := wrap64 ⟨by omega, by omega⟩
      have w4 : IntKind.i64.wrap ((k : Int) * 7 + 3) = (k : Int) * 7 + 3 := wrap64 ⟨by omega, by omega⟩
      have w5 : IntKind.i64.wrap (b : Int) = b := wrap64 ⟨by omega, by omega⟩
      have w6 : IntKind.i64.wrap ((b : Int) * 1117) = (b : Int) * 1117 := wrap64 ⟨by omega, by omega⟩
      have w7 : IntKind.i64.wrap ((a : Int) * 131 + (b : Int) * 1117) = (a : Int) * 131 + (b : Int) * 1117 := wrap64 ⟨by omega, by omega⟩
      have w8 : IntKind.i64.wrap ((k : Int) * 29) = (k : Int) * 29 := wrap64 ⟨by omega, by omega⟩
      have w9 : IntKind.i64.wrap ((a : Int) * 131 + (b : Int) * 1117 + (k : Int) * 29) = (a : Int) * 131 + (b : Int) * 1117 + (k : Int) * 29 := wrap64 ⟨by omega, by omega⟩
      have w10 : IntKind.i64.wrap (q : Int) = q := wrap64 ⟨by omega, by omega⟩
      have w11 : IntKind.i64.wrap ((q : Int) * 53) = (q : Int) * 53 := wrap64 ⟨by omega, by omega⟩
      have w12 : IntKind.i64.wrap x = x := wrap64 ⟨by omega, by omega⟩
      refine ⟨y % n, Int.emod_nonneg _ hn0, Int.emod_lt_of_pos _ hn.1, fun v => ACallsF.intro ok22 follows fun X c0 => ?_⟩
      simp only [RUX, Nat.reduceAdd, reduceIte, Nat.reduceEqDiff, Nat.reduceLT, Nat.reduceLeDiff, reduceCtorEq, eq_self, FIX, forall_const, endE_n, endE_r, rH, rV, rdC, rdr, URa_1.d, encB_len, hl, hw, w0, hp1, h1, hbz, hlt, hl0, t1, t2, t3, e1, e2, hz1, hz2, Int.toNat_natCast, w1, w2, w3, w4, w5, w6, w7, w8, w9, w10, w11, hn0, hx, w12, t4, hy, t5, hz3]

section
variable {t : Nat → T} {H : HMap} {c : Nat} {f : Opd} {args : List Opd} {fid : FuncId} {v : Nat} {bs : List UInt8} {p p' : Int} {argsC : List T} {ws : List (Nat × Blk)} {ns : List Nat} {r : T} {k : Nat} {d : Option Nat} {un : List Nat} {l : List AOper} {prev : List (Nat × List Nat × List Nat)} {K : St → Prop}
theorem callR (hC : ACallsF Try.prog fid (rP v :: argsC) [rH v bs p p'] r) (hf : ev t f = .pt (.one (.fn fid []))) (hl : lendTs H (rP v :: argsC) (args.map (ev t)) = some (rP v :: argsC, ws, ns))
    (ha : argsC.all closedA = true) (hr : closedT r = true) (hH : updH H ws 1000 = some (rdr v bs p))
    (hk : chk prev un ⟨r, ws ++ [(1000, rdr v bs p')], ns ++ [1000], ns ++ [1000]⟩ = true ∧ DRun Try.prog l ((k, ns ++ [1000], ns ++ [1000]) :: prev) K ⟨updD t d r, updH H (ws ++ [(1000, rdr v bs p')]), c⟩) :
    step Try.prog k d un (.call f args) l prev K t H c :=
  callV (n := 1000) (v := v) (ty := 77) (xs := [.sl (encB bs), .s (.int .i64 p)]) (ys := [.sl (encB bs), .s (.int .i64 p')]) hC hf hl ha hr hH hk
/-- .. where the arguments are closed already. -/
theorem callRc (hC : ACallsF Try.prog fid (rP v :: argsC) [rH v bs p p'] r) (hf : ev t f = .pt (.one (.fn fid []))) (hl : args.map (ev t) = rP v :: argsC)
    (ha : argsC.all closedA = true) (hr : closedT r = true) (hH : H 1000 = some (rdr v bs p))
    (hk : chk prev un ⟨r, [(1000, rdr v bs p')], [1000], [1000]⟩ = true ∧ DRun Try.prog l ((k, [1000], [1000]) :: prev) K ⟨updD t d r, upd H 1000 (some (rdr v bs p')), c⟩) :
    step Try.prog k d un (.call f args) l prev K t H c := by
  refine callR (ws := []) (ns := []) hC hf ?_ ha hr hH hk
  rw [hl]
  simp only [lendTs, rP, lendT, lendC, Option.map_some, (closed_As [] H argsC ha).1, List.append_nil]
end
/-- What comes of a function that draws: so many bytes are read at most, the result is such as S says. -/
def RC (f : Nat) (args : List T) (bs : List UInt8) (p k : Int) {α : Type} (S : α → Prop) (r : α → T) : Prop := ∃ (q : Int) (a : α), p ≤ q ∧ q ≤ p + k ∧ S a ∧ ∀ v, ACallsF Try.prog f (rP v :: args) [rH v bs p q] (r a)
abbrev endR {α : Type} (p k : Int) (S : α → Prop) (r : α → T) (bs : List UInt8) (rs : List ARes) : Exit → St → Prop := endE (α := Int × α) (fun x => p ≤ x.1 ∧ x.1 ≤ p + k ∧ S x.2) (fun x => r x.2) (fun x => [rH 0 bs p x.1]) rs
theorem RC.intro {f n : Nat} {ac : ACode} {rs : List ARes} {args : List T} {bs : List UInt8} {p k : Int} {α : Type} {S : α → Prop} {r : α → T} (ho : okF Try.prog f n ac rs) (ha : args.all closedA = true) (hr : ∀ a, closedT (r a) = true)
    (h : ∀ X : Ctx, wpa Try.prog X ac (endR p k S r bs rs) ⟨argsT (rP 0 :: args), hinOf [rH 0 bs p p], 1⟩) : RC f args bs p k S r := by
  obtain ⟨⟨q, a⟩, ⟨h1, h2, h3⟩, h4⟩ := ACallsF.exR (α := Int × α) (cs' := fun x => rdC bs x.1) (fun x => p ≤ x.1 ∧ x.1 ≤ p + k ∧ S x.2) ho follows ha (fun a _ => hr a.2) rfl (fun _ _ => rfl) h
  exact ⟨q, a, h1, h2, h3, h4⟩
/-- What comes of a function, told by bounds only. -/
def PC (f : Nat) (args : List T) {α : Type} (S : α → Prop) (r : α → T) : Prop := ∃ a : α, S a ∧ ACallsF Try.prog f args [] (r a)
theorem PC.intro {f n : Nat} {ac : ACode} {rs : List ARes} {args : List T} {α : Type} {S : α → Prop} {r : α → T} (ho : okF Try.prog f n ac rs) (ha : args.all closedA = true) (hr : ∀ a, closedT (r a) = true)
    (h : ∀ X : Ctx, wpa Try.prog X ac (endE S r (fun _ => []) rs) ⟨argsT args, hinOf [], 0⟩) : PC f args S r :=
  ACallsF.ex0 S ho follows ha (fun a _ => hr a) h
/- (*loop.example/teagle/spec.l6Rd).of -/
def r49_0 : List AOper := [ao 0 4 (.mv (.k (.s (.string ⟨#[]⟩))))]
def r49_1 : List AOper := [ao 0 5 (.mv (.t 1)),
  ao 1 6 (.mv (.t 0)),
  ao 2 7 (.mv (.t 1)),
  ao 3 8 (.len (.t 7)),
  ao 4 9 (.call (.k (.c (.fn 22 []))) [(.t 6), (.t 8)]),
  ao 5 10 (.ia 1 (.t 5) (.t 9)),
  ao 6 11 (.ld 1 false (.t 10)),
  ao 7 4 (.mv (.t 11))]
def c49 : ACode := .seq (.reg r49_0) (.seq (.reg r49_1) .ret)
def s49 : List ARes := [.tmp 4]
theorem ok49 : okF Try.prog 49 12 c49 s49 := ⟨Try.f49, Try.func49, Try.ntmps49, by kernel_rfl, by kernel_rfl, by kernel_rfl⟩
def URa_2 := Bx.mk <|
  aN (uA c49.eq_1) <| aN (uR r49_0.eq_1) <| aN (uR r49_1.eq_1) <| s49.eq_1
theorem of_ok (bs : List UInt8) (hb : bs.length ≤ 2000) (p : Int) (hp : 0 ≤ p ∧ p ≤ 1000000000000) (ss : List ByteArray) (hs : 0 < ss.length ∧ ss.length ≤ 1000000) : RC 49 [tL (en eS ss)] bs p 1 (fun s => s ∈ ss) tS := by
  obtain ⟨k, h1, h2, hC⟩ := pick_ok bs hb p ss.length hp (by omega)
  obtain ⟨i, rfl⟩ : ∃ i : Nat, k = i := ⟨k.toNat, (Int.toNat_of_nonneg h1).symm⟩
  have hi : i < ss.length := by omega
  have e1 := en_at eS (List.getElem?_eq_getElem hi)
  refine RC.intro ok49 rfl (fun _ => rfl) fun X => ?_
  simp only [RUX, Nat.reduceAdd, reduceIte, Nat.reduceEqDiff, Nat.reduceLT, Nat.reduceLeDiff, reduceCtorEq, eq_self, FIX, forall_const, endE_n, endE_r, CHT, disj, Nat.reduceBEq, beq_self_eq_true, APT, APX, forall_eq, ALT, rH, rV, rdC, rdr, URa_2.d]
  refine callRc (hC 0) rfl rfl rfl rfl rfl ⟨rfl, ?_⟩
  simp only [RUX, Nat.reduceAdd, reduceIte, Nat.reduceEqDiff, Nat.reduceLT, Nat.reduceLeDiff, reduceCtorEq, eq_self, FIX, forall_const, endE_n, endE_r, CHT, disj, Nat.reduceBEq, beq_self_eq_true, APT, APX, forall_eq, ALT, rH, rV, rdC, rdr, URa_2.d, e1, h1, eS]
  refine ES.mk (p + 1, ss[i]) ⟨by omega, by omega, List.getElem_mem hi⟩ ?_
  simp only [RUX, Nat.reduceAdd, reduceIte, Nat.reduceEqDiff, Nat.reduceLT, Nat.reduceLeDiff, reduceCtorEq, eq_self, FIX, forall_const, endE_n, endE_r, CHT, disj, Nat.reduceBEq, beq_self_eq_true, APT, APX, forall_eq, ALT, rH, rV, rdC, rdr, URa_2.d]
/- loop.example/teagle/spec.l6Open -/
def r18_0 : List AOper := [ao 0 2 (.mv (.k (.s (.pointer none))))]
def r18_1 : List AOper := [ao 0 3 (.mv (.t 0)),
  ao 1 4 (.len (.t 3)),
  ao 2 5 (.bin .gtr (.t 4) (.k (.i 2000)))]
def r18_2 : List AOper := [ao 0 6 (.mv (.t 0)),
  ao 1 7 (.slc 1 (.t 6) none (some (.k (.i 2000)))),
  ao 2 0 (.mv (.t 7))]
def c18_3 : ACode := .cond (.t 5) (.reg r18_2) .skip
def c18_4 : ACode := .seq (.reg r18_1) c18_3
def r18_5 : List AOper := [ao 0 8 (.mv (.t 0)),
  ao 1 9 (.build [.nil0, (.v (.s (.int .i64 0)))] [(0, 1, (.t 8))]),
  ao 2 10 (.box 77 (.t 9)),
  ao 3 2 (.mv (.t 10))]
def c18 : ACode := .seq (.reg r18_0) (.seq c18_4 (.seq (.reg r18_5) .ret))
def s18 : List ARes := [.tmp 2]
theorem ok18 : okF Try.prog 18 11 c18 s18 := ⟨Try.f18, Try.func18, Try.ntmps18, by kernel_rfl, by kernel_rfl, by kernel_rfl⟩
theorem encB_all1 (bs : List UInt8) : (∀ e ∈ encB bs, e.length = 1) = True := eq_true fun e he => by simp only [encB, List.mem_map] at he; obtain ⟨_, _, rfl⟩ := he; rfl
theorem take_encB (bs : List UInt8) (n : Nat) : (encB bs).take n = encB (bs.take n) := by simp [encB, List.map_take]
def URa_3 := Bx.mk <|
  aN (uA c18.eq_1) <| aN (uR r18_0.eq_1) <| aN (uA c18_4.eq_1) <| aN (uR r18_1.eq_1) <| aN (uA c18_3.eq_1) <| aN (uR r18_2.eq_1) <| aN (uR r18_5.eq_1) <| s18.eq_1
theorem open_ok (bs : List UInt8) : ACallsF Try.prog 18 [.c (.v (.sl (encB bs)))] [⟨10, 1000, none, rdr 0 (bs.take 2000) 0, false⟩] (.c (.ptr 10 0 0)) := by
  refine ACallsF.intro ok18 follows fun X c0 => ?_
  by_cases h : (bs.length : Int) > 2000
  · have h0 : (0 : Int) ≤ 2000 := by omega
    have h1 : (2000 : Int) ≤ bs.length := by omega
    simp only [RUX, Nat.reduceAdd, reduceIte, Nat.reduceEqDiff, Nat.reduceLT, Nat.reduceLeDiff, reduceCtorEq, eq_self, FIX, forall_const, endE_n, endE_r, CHT, disj, Nat.reduceBEq, beq_self_eq_true, APT, APX, forall_eq, ALT, URa_3.d, encB_len, h, lohi, h0, h1, encB_all1, Int.reduceToNat, Nat.sub_zero, take_encB, rdr, rdC, Int.le_refl, List.drop_zero]
    exact id
  · have ht : bs.take 2000 = bs := List.take_of_length_le (by omega)
    simp only [RUX, Nat.reduceAdd, reduceIte, Nat.reduceEqDiff, Nat.reduceLT, Nat.reduceLeDiff, reduceCtorEq, eq_self, FIX, forall_const, endE_n, endE_r, CHT, disj, Nat.reduceBEq, beq_self_eq_true, APT, APX, forall_eq, ALT, URa_3.d, encB_len, h, ht, rdr, rdC]
    exact id
theorem callOpen {t : Nat → T} {H : HMap} {c : Nat} {f : Opd} {args : List Opd} {bs : List UInt8} {k : Nat} {d : Option Nat} {un : List Nat} {l : List AOper} {prev : List (Nat × List Nat × List Nat)} {K : St → Prop}
    (hf : ev t f = .pt (.one (.fn 18 []))) (hl : args.map (ev t) = [.c (.v (.sl (encB bs)))])
    (hk : chk prev un ⟨rP (c + k), [(1000, rdr (c + k) (bs.take 2000) 0)], [1000], [1000]⟩ = true ∧ DRun Try.prog l ((k, [1000], [1000]) :: prev) K ⟨updD t d (rP (c + k)), upd H 1000 (some (rdr (c + k) (bs.take 2000) 0)), c⟩) :
    step Try.prog k d un (.call f args) l prev K t H c :=
  callW (r' := rP (c + k)) (ob := [(1000, rdr (c + k) (bs.take 2000) 0)]) [⟨10, 1000, none, rdr 0 (bs.take 2000) 0, false⟩] (open_ok bs) hf (show lendTs H [.c (.v (.sl (encB bs)))] (args.map (ev t) ++ [].map capT) = some ([.c (.v (.sl (encB bs)))], [], []) from by rw [hl]; rfl) rfl (by simp [handsIn]) (by simp) (by simp) rfl rfl hk
end Go.V
set_option linter.unusedSimpArgs false
namespace Go.V
open Go.Proofs
theorem push_len (ns : List Int) : (pushB ns).size = ns.length := by
  have : ∀ (ns : List Int) (b : ByteArray), (ns.foldl (fun b n => b.push (UInt8.ofNat n.toNat)) b).size = b.size + ns.length := by
    intro ns
    induction ns with
    | nil => intro b; rfl
    | cons n ns ih => intro b; simp only [List.foldl_cons, List.length_cons, ih]; rw [show (b.push (UInt8.ofNat n.toNat)).size = b.size + 1 from by cases b; simp [ByteArray.push, ByteArray.size]]; omega
  have h := this ns ⟨#[]⟩
  simp only [show (⟨#[]⟩ : ByteArray).size = 0 from rfl, Nat.zero_add] at h
  exact h
/- loop.example/teagle/spec.l6Dec -/
def r64_0 : List AOper := [ao 0 2 (.mv (.k (.s (.string ⟨#[]⟩))))]
def r64_1 : List AOper := [ao 0 3 (.mv (.t 0)),
  ao 1 4 (.bin .lss (.t 3) (.k (.i (-9223372036854775807))))]
def r64_2 : List AOper := [ao 0 2 (.mv (.k (.s (.string ⟨#[45, 57, 50, 50, 51, 51, 55, 50, 48, 51, 54, 56, 53, 52, 55, 55, 53, 56, 48, 56]⟩))))]
def c64_3 : ACode := .seq (.reg r64_2) .ret
def c64_4 : ACode := .cond (.t 4) c64_3 .skip
def c64_5 : ACode := .seq (.reg r64_1) c64_4
def r64_6 : List AOper := [ao 0 5 (.mv (.t 0)),
  ao 1 6 (.bin .lss (.t 5) (.k (.i 0)))]
def r64_7 : List AOper := [ao 0 7 (.mv (.t 0)),
  ao 1 8 (.un .neg (.t 7)),
  ao 2 9 (.call (.k (.c (.fn 64 []))) [(.t 8)]),
  ao 3 10 (.bin .add (.k (.s (.string ⟨#[45]⟩))) (.t 9)),
  ao 4 2 (.mv (.t 10))]
def c64_8 : ACode := .seq (.reg r64_7) .ret
def c64_9 : ACode := .cond (.t 6) c64_8 .skip
def c64_10 : ACode := .seq (.reg r64_6) c64_9
def r64_11 : List AOper := [ao 0 11 (.mv (.t 0)),
  ao 1 12 (.bin .lss (.t 11) (.k (.i 10)))]
def r64_12 : List AOper := [ao 0 13 (.mv (.t 0)),
  ao 1 14 (.bin .add (.k (.i 48)) (.t 13)),
  ao 2 15 (.cnvI .u8 (.t 14)),
  ao 3 16 (.bsl 1 5 [(.t 15)]),
  ao 4 17 (.cnvBS (.t 16)),
  ao 5 2 (.mv (.t 17))]
def c64_13 : ACode := .seq (.reg r64_12) .ret
def c64_14 : ACode := .cond (.t 12) c64_13 .skip
def c64_15 : ACode := .seq (.reg r64_11) c64_14
def r64_16 : List AOper := [ao 0 18 (.mv (.t 0)),
  ao 1 19 (.bin .quo (.t 18) (.k (.i 10))),
  ao 2 20 (.call (.k (.c (.fn 64 []))) [(.t 19)]),
  au 3 21 (ru 3) (.mv (.t 0)),
  au 4 22 (ru 3) (.bin .rem (.t 21) (.k (.i 10))),
  au 5 23 (ru 3) (.bin .add (.k (.i 48)) (.t 22)),
  au 6 24 (ru 3) (.cnvI .u8 (.t 23)),
  au 7 25 (ru 3) (.bsl 1 5 [(.t 24)]),
  au 8 26 (ru 3) (.cnvBS (.t 25)),
  ao 9 27 (.bin .add (.t 20) (.t 26)),
  ao 10 2 (.mv (.t 27))]
def c64 : ACode := .seq (.reg r64_0) (.seq c64_5 (.seq c64_10 (.seq c64_15 (.seq (.reg r64_16) .ret))))
def s64 : List ARes := [.tmp 2]
theorem ok64 : okF Try.prog 64 28 c64 s64 := ⟨Try.f64, Try.func64, Try.ntmps64, by kernel_rfl, by kernel_rfl, by kernel_rfl⟩
def URb_1 := Bx.mk <|
  aN (uA c64.eq_1) <| aN (uR r64_0.eq_1) <| aN (uA c64_5.eq_1) <| aN (uR r64_1.eq_1) <| aN (uA c64_4.eq_1) <| aN (uA c64_3.eq_1) <| aN (uR r64_2.eq_1) <| aN (uA c64_10.eq_1) <| aN (uR r64_6.eq_1) <| aN (uA c64_9.eq_1) <| aN (uA c64_8.eq_1) <| aN (uR r64_7.eq_1) <| aN (uA c64_15.eq_1) <| aN (uR r64_11.eq_1) <| aN (uA c64_14.eq_1) <| aN (uA c64_13.eq_1) <| aN (uR r64_12.eq_1) <| aN (uR r64_16.eq_1) <| s64.eq_1
theorem dec_ok : ∀ (k : Nat) (n : Int), 0 ≤ n ∧ n < 10 ^ (k + 1) ∧ n ≤ 1000000000000000000 → k ≤ 1000 → PC 64 [.i n] (fun s : ByteArray => s.size ≤ k + 1) tS := by
  intro k
  induction k with
  | zero =>
    intro n hn hk
    have h0 : ¬ n < -9223372036854775807 := by omega
    have h1 : ¬ n < 0 := by omega
    have h2 : n < 10 := by omega
    refine PC.intro ok64 rfl (fun _ => rfl) fun X => ?_
    simp only [RUX, Nat.reduceAdd, reduceIte, Nat.reduceEqDiff, Nat.reduceLT, Nat.reduceLeDiff, reduceCtorEq, eq_self, FIX, forall_const, endE_n, endE_r, CHT, disj, Nat.reduceBEq, beq_self_eq_true, APT, APX, forall_eq, ALT, URb_1.d, h0, h1, h2, bytesOf]
    refine ES.mk (pushB [IntKind.u8.wrap (IntKind.i64.wrap (48 + n))]) (by rw [push_len]; exact Nat.le_refl _) ?_
    simp only [RUX, Nat.reduceAdd, reduceIte, Nat.reduceEqDiff, Nat.reduceLT, Nat.reduceLeDiff, reduceCtorEq, eq_self, FIX, forall_const, endE_n, endE_r, CHT, disj, Nat.reduceBEq, beq_self_eq_true, APT, APX, forall_eq, ALT, URb_1.d]
  | succ k ih =>
    intro n hn hk
    have h0 : ¬ n < -9223372036854775807 := by omega
    have h1 : ¬ n < 0 := by omega
    by_cases h2 : n < 10
    · refine PC.intro ok64 rfl (fun _ => rfl) fun X => ?_
      simp only [RUX, Nat.reduceAdd, reduceIte, Nat.reduceEqDiff, Nat.reduceLT, Nat.reduceLeDiff, reduceCtorEq, eq_self, FIX, forall_const, endE_n, endE_r, CHT, disj, Nat.reduceBEq, beq_self_eq_true, APT, APX, forall_eq, ALT, URb_1.d, h0, h1, h2, bytesOf]
      refine ES.mk (pushB [IntKind.u8.wrap (IntKind.i64.wrap (48 + n))]) (by rw [push_len]; simp) ?_
      simp only [RUX, Nat.reduceAdd, reduceIte, Nat.reduceEqDiff, Nat.reduceLT, Nat.reduceLeDiff, reduceCtorEq, eq_self, FIX, forall_const, endE_n, endE_r, CHT, disj, Nat.reduceBEq, beq_self_eq_true, APT, APX, forall_eq, ALT, URb_1.d]
    · have hq : n.tdiv 10 = n / 10 := Int.tdiv_eq_ediv_of_nonneg (by omega)
      have gw : IntKind.i64.wrap (n / 10) = n / 10 := wrap64 ⟨by omega, by omega⟩
      have hz : ¬ (10 : Int) = 0 := by omega
      obtain ⟨s, hs, hC⟩ := ih (n / 10) ⟨by omega, by have := hn.2.1; rw [Int.pow_succ] at this; omega, by omega⟩ (by omega)
      refine PC.intro ok64 rfl (fun _ => rfl) fun X => ?_
      simp only [RUX, Nat.reduceAdd, reduceIte, Nat.reduceEqDiff, Nat.reduceLT, Nat.reduceLeDiff, reduceCtorEq, eq_self, FIX, forall_const, endE_n, endE_r, CHT, disj, Nat.reduceBEq, beq_self_eq_true, APT, APX, forall_eq, ALT, URb_1.d, h0, h1, h2, bytesOf, hq, gw, hz]
      have hl : s.size + (pushB [IntKind.u8.wrap (IntKind.i64.wrap (48 + n.tmod 10))]).size ≤ 9223372036854775807 := by rw [push_len]; simp only [List.length_cons, List.length_nil]; omega
      refine callC hC rfl rfl rfl rfl ?_
      simp only [RUX, Nat.reduceAdd, reduceIte, Nat.reduceEqDiff, Nat.reduceLT, Nat.reduceLeDiff, reduceCtorEq, eq_self, FIX, forall_const, endE_n, endE_r, CHT, disj, Nat.reduceBEq, beq_self_eq_true, APT, APX, forall_eq, ALT, URb_1.d, h0, h1, h2, bytesOf, hq, gw, hz, sStr, hl]
      refine ES.mk (s ++ pushB [IntKind.u8.wrap (IntKind.i64.wrap (48 + n.tmod 10))]) ?_ ?_
      rotate_left
      · simp only [RUX, Nat.reduceAdd, reduceIte, Nat.reduceEqDiff, Nat.reduceLT, Nat.reduceLeDiff, reduceCtorEq, eq_self, FIX, forall_const, endE_n, endE_r, CHT, disj, Nat.reduceBEq, beq_self_eq_true, APT, APX, forall_eq, ALT, URb_1.d]
      · rw [ByteArray.size_append, push_len]; simp only [List.length_cons, List.length_nil]; omega
end Go.V
set_option linter.unusedSimpArgs false
namespace Go.V
open Go.Proofs
theorem b_tru {b : Bool} (h : b = true) : (b == true) = true := by simp [h]
/- loop.example/teagle/spec.l6Many -/
def r21_0 : List AOper := [ao 0 4 (.mv (.k (.s (.string ⟨#[]⟩))))]
def r21_1 : List AOper := [ao 0 5 (.mv (.k (.s (.string ⟨#[]⟩))))]
def r21_2 : List AOper := [ao 0 6 (.mv (.t 1)),
  ao 1 7 (.bin .gtr (.t 6) (.k (.i 0)))]
def c21_3 : ACode := .cond (.t 7) .skip (.exit 0)
def c21_4 : ACode := .seq (.reg r21_2) c21_3
def r21_5 : List AOper := [ao 0 8 (.mv (.t 1)),
  ao 1 9 (.bin .rem (.t 8) (.k (.i 2))),
  ao 2 10 (.bin .eql (.t 9) (.k (.i 1)))]
def r21_6 : List AOper := [ao 0 11 (.mv (.t 5)),
  ao 1 12 (.mv (.t 0)),
  ao 2 13 (.bin .add (.t 11) (.t 12)),
  ao 3 5 (.mv (.t 13))]
def c21_7 : ACode := .cond (.t 10) (.reg r21_6) .skip
def c21_8 : ACode := .seq (.reg r21_5) c21_7
def r21_9 : List AOper := [ao 0 14 (.mv (.t 0)),
  ao 1 15 (.mv (.t 0)),
  ao 2 16 (.bin .add (.t 14) (.t 15)),
  ao 3 0 (.mv (.t 16))]
def r21_10 : List AOper := [ao 0 17 (.mv (.t 1)),
  ao 1 18 (.bin .quo (.t 17) (.k (.i 2))),
  ao 2 1 (.mv (.t 18))]
def c21_11 : ACode := .seq c21_8 (.seq (.reg r21_9) (.reg r21_10))
def c21_12 : ACode := .block 1 c21_11
def c21_13 : ACode := .seq c21_4 c21_12
def c21_14 : ACode := .loop c21_13
def c21_15 : ACode := .block 0 c21_14
def r21_16 : List AOper := [ao 0 19 (.mv (.t 5)),
  ao 1 4 (.mv (.t 19))]
def c21 : ACode := .seq (.reg r21_0) (.seq (.reg r21_1) (.seq c21_15 (.seq (.reg r21_16) .ret)))
def s21 : List ARes := [.tmp 4]
theorem ok21 : okF Try.prog 21 20 c21 s21 := ⟨Try.f21, Try.func21, Try.ntmps21, by kernel_rfl, by kernel_rfl, by kernel_rfl⟩
def inv21 (N : Nat) (B : Nat) (i : Nat) (σ : St) : Prop := ∃ (m : Nat) (s out : ByteArray), m + i ≤ N ∧ out.size + s.size * m = B ∧ s.size ≤ 2 * B + 1 ∧ σ.t 0 = tS s ∧ σ.t 1 = .i m ∧ σ.t 5 = tS out
def URc_1 := Bx.mk <|
  aN (uA c21.eq_1) <| aN (uR r21_0.eq_1) <| aN (uR r21_1.eq_1) <| aN (uA c21_15.eq_1) <| aN (uA c21_14.eq_1) <| aN (uR r21_16.eq_1) <| s21.eq_1
def URc_4 := Bx.mk <|
  aN (uA c21_13.eq_1) <| aN (uA c21_4.eq_1) <| aN (uR r21_2.eq_1) <| aN (uA c21_3.eq_1) <| aN (uA c21_12.eq_1) <| aN (uA c21_11.eq_1) <| aN (uA c21_8.eq_1) <| aN (uR r21_5.eq_1) <| aN (uA c21_7.eq_1) <| aN (uR r21_6.eq_1) <| aN (uR r21_9.eq_1) <| aN (uR r21_10.eq_1) <| aN (uA c21.eq_1) <| aN (uR r21_0.eq_1) <| aN (uR r21_1.eq_1) <| aN (uA c21_15.eq_1) <| aN (uA c21_14.eq_1) <| aN (uR r21_16.eq_1) <| s21.eq_1
theorem many_ok (s : ByteArray) (n : Nat) (hn : n ≤ 1000000 ∧ 0 < n) (hs : s.size ≤ 1000) : PC 21 [tS s, .i n] (fun o : ByteArray => o.size = s.size * n) tS := by
  refine PC.intro ok21 rfl (fun _ => rfl) fun X => ?_
  have hB : s.size * n ≤ 1000000000 := by have := Nat.mul_le_mul hs hn.1; omega
  have hB0 : s.size ≤ s.size * n := Nat.le_mul_of_pos_right _ hn.2
  simp only [RUX, Nat.reduceAdd, reduceIte, Nat.reduceEqDiff, Nat.reduceLT, Nat.reduceLeDiff, reduceCtorEq, eq_self, FIX, forall_const, endE_n, endE_r, CHT, disj, Nat.reduceBEq, beq_self_eq_true, APT, APX, forall_eq, ALT, URc_1.d]
  refine AW.upto n (inv21 n (s.size * n)) ⟨n, s, ⟨#[]⟩, by omega, (by show 0 + _ = _; rw [Nat.zero_add]), by omega, rfl, rfl, rfl⟩ fun i t H c hi h => ?_
  obtain ⟨m, s', out, h1, h2, h3, e0, e1, e5⟩ := h
  simp only [T.c, T.i, T.s] at e0 e1 e5
  by_cases hm : (m : Int) > 0
  · have hz : ¬ (2 : Int) = 0 := by omega
    have hr : (m : Int).tmod 2 = ((m % 2 : Nat) : Int) := rfl
    have hq : (m : Int).tdiv 2 = ((m / 2 : Nat) : Int) := rfl
    have gw1 : IntKind.i64.wrap ((m / 2 : Nat) : Int) = ((m / 2 : Nat) : Int) := wrap64 ⟨by omega, by omega⟩
    have hl2 : s'.size + s'.size ≤ 9223372036854775807 := by omega
    obtain ⟨q, hq0⟩ : ∃ q, m / 2 = q := ⟨_, rfl⟩
    rcases Nat.mod_two_eq_zero_or_one m with hp | hp
    · have hb : (((m % 2 : Nat) : Int) == 1) = false := by rw [hp]; rfl
      simp only [RUX, Nat.reduceAdd, reduceIte, Nat.reduceEqDiff, Nat.reduceLT, Nat.reduceLeDiff, reduceCtorEq, eq_self, FIX, forall_const, endE_n, endE_r, CHT, disj, Nat.reduceBEq, beq_self_eq_true, APT, APX, forall_eq, ALT, URc_4.d, e0, e1, e5, hm, hz, hr, hq, gw1, hb, sStr, hl2]
      refine ⟨by omega, q, s' ++ s', out, by omega, ?_, ?_, rfl, (by rw [← hq0]; rfl), e5⟩
      · have hmq : m = 2 * q := by omega
        rw [ByteArray.size_append, ← h2, hmq, Nat.add_mul, Nat.two_mul, Nat.mul_add]
      · rw [ByteArray.size_append]
        have : s'.size * 2 ≤ s'.size * m := Nat.mul_le_mul_left _ (by omega)
        omega
    · have hb : (((m % 2 : Nat) : Int) == 1) = true := by rw [hp]; rfl
      have hl1 : out.size + s'.size ≤ 9223372036854775807 := by
        have : s'.size * 1 ≤ s'.size * m := Nat.mul_le_mul_left _ (by omega)
        omega
      simp only [RUX, Nat.reduceAdd, reduceIte, Nat.reduceEqDiff, Nat.reduceLT, Nat.reduceLeDiff, reduceCtorEq, eq_self, FIX, forall_const, endE_n, endE_r, CHT, disj, Nat.reduceBEq, beq_self_eq_true, APT, APX, forall_eq, ALT, URc_4.d, e0, e1, e5, hm, hz, hr, hq, gw1, hb, sStr, hl1, hl2]
      refine ⟨by omega, q, s' ++ s', out ++ s', by omega, ?_, ?_, rfl, (by rw [← hq0]; rfl), rfl⟩
      · have hmq : m = 2 * q + 1 := by omega
        rw [ByteArray.size_append, ByteArray.size_append, ← h2, hmq, Nat.add_mul, Nat.mul_add, Nat.two_mul, Nat.mul_add]; omega
      · rw [ByteArray.size_append]
        have : s'.size * 1 ≤ s'.size * m := Nat.mul_le_mul_left _ (by omega)
        omega
  · simp only [RUX, Nat.reduceAdd, reduceIte, Nat.reduceEqDiff, Nat.reduceLT, Nat.reduceLeDiff, reduceCtorEq, eq_self, FIX, forall_const, endE_n, endE_r, CHT, disj, Nat.reduceBEq, beq_self_eq_true, APT, APX, forall_eq, ALT, URc_4.d, URc_1.d, e0, e1, e5, hm]
    have hm0 : m = 0 := by omega
    subst hm0
    refine ES.mk out (by simpa using h2) ?_
    simp only [RUX, Nat.reduceAdd, reduceIte, Nat.reduceEqDiff, Nat.reduceLT, Nat.reduceLeDiff, reduceCtorEq, eq_self, FIX, forall_const, endE_n, endE_r, CHT, disj, Nat.reduceBEq, beq_self_eq_true, APT, APX, forall_eq, ALT, URc_1.d]
structure LR where
  pos : Int
  data : ByteArray
abbrev tLR (r : LR) : T := .pt (.agg [.v (.s (.int .i64 r.pos)), .v (.s (.string r.data))])
/- loop.example/teagle/spec.l42RecordOk -/
def r81_0 : List AOper := [ao 0 1 (.box 120 (.t 0)),
  ao 1 2 (.mv (.k (.b false)))]
def r81_1 : List AOper := [ao 0 3 (.fa 0 (.t 1)),
  ao 1 4 (.ld 1 false (.t 3)),
  ao 2 5 (.call (.k (.c (.fn 28 []))) [(.t 4), (.k (.i 1)), (.k (.i 999999))]),
  ao 3 6 (.mv (.t 5)),
  ag 4 7 6 true [] (.fa 1 (.t 1)),
  ag 5 8 6 true [] (.ld 1 false (.t 7)),
  ag 6 9 6 true [] (.lenS (.t 8)),
  ag 7 10 6 true [] (.bin .leq (.t 9) (.k (.i 2000))),
  ao 8 11 (.pick (.t 6) (.t 10) (.k (.b false))),
  ao 9 2 (.mv (.t 11))]
def c81 : ACode := .seq (.reg r81_0) (.seq (.reg r81_1) .ret)
def s81 : List ARes := [.tmp 2]
theorem ok81 : okF Try.prog 81 12 c81 s81 := ⟨Try.f81, Try.func81, Try.ntmps81, by kernel_rfl, by kernel_rfl, by kernel_rfl⟩
def URc_2 := Bx.mk <|
  aN (uA c81.eq_1) <| aN (uR r81_0.eq_1) <| aN (uR r81_1.eq_1) <| s81.eq_1
theorem recOk_ok (r : LR) : ACallsF Try.prog 81 [tLR r] [] (.b (decide (1 ≤ r.pos) && decide (r.pos ≤ 999999) && decide ((r.data.size : Int) ≤ 2000))) := by
  refine ACallsF.intro ok81 follows fun X c0 => ?_
  simp only [RUX, Nat.reduceAdd, reduceIte, Nat.reduceEqDiff, Nat.reduceLT, Nat.reduceLeDiff, reduceCtorEq, eq_self, FIX, forall_const, endE_n, endE_r, CHT, disj, Nat.reduceBEq, beq_self_eq_true, APT, APX, forall_eq, ALT, URc_2.d]
  refine callC (l6In_ok _ _ _) rfl rfl rfl rfl ?_
  by_cases h1 : (decide (1 ≤ r.pos) && decide (r.pos ≤ 999999)) = true
  · simp only [RUX, Nat.reduceAdd, reduceIte, Nat.reduceEqDiff, Nat.reduceLT, Nat.reduceLeDiff, reduceCtorEq, eq_self, FIX, forall_const, endE_n, endE_r, CHT, disj, Nat.reduceBEq, beq_self_eq_true, APT, APX, forall_eq, ALT, URc_2.d, h1]
  · rw [Bool.not_eq_true] at h1
    simp only [RUX, Nat.reduceAdd, reduceIte, Nat.reduceEqDiff, Nat.reduceLT, Nat.reduceLeDiff, reduceCtorEq, eq_self, FIX, forall_const, endE_n, endE_r, CHT, disj, Nat.reduceBEq, beq_self_eq_true, APT, APX, forall_eq, ALT, URc_2.d, h1]
/- loop.example/teagle/spec.LogFrame -/
def r74_0 : List AOper := [ao 0 1 (.box 120 (.t 0)),
  ao 1 2 (.mv (.k (.s (.string ⟨#[]⟩))))]
def r74_1 : List AOper := [ao 0 4 (.ld 2 true (.t 1)),
  ao 1 5 (.call (.k (.c (.fn 81 []))) [(.t 4)]),
  ao 2 6 (.un .not (.t 5))]
def r74_2 : List AOper := [ao 0 2 (.mv (.k (.s (.string ⟨#[]⟩))))]
def c74_3 : ACode := .seq (.reg r74_2) .ret
def c74_4 : ACode := .cond (.t 6) c74_3 .skip
def c74_5 : ACode := .seq (.reg r74_1) c74_4
def r74_6 : List AOper := [ao 0 7 (.fa 1 (.t 1)),
  ao 1 8 (.ld 1 false (.t 7)),
  ao 2 9 (.lenS (.t 8)),
  ao 3 3 (.mv (.t 9))]
def r74_7 : List AOper := [ao 0 10 (.mv (.t 3)),
  ao 1 11 (.bin .quo (.t 10) (.k (.i 256))),
  ao 2 12 (.cnvI .u8 (.t 11)),
  ao 3 13 (.mv (.t 3)),
  ao 4 14 (.bin .rem (.t 13) (.k (.i 256))),
  ao 5 15 (.cnvI .u8 (.t 14)),
  ao 6 16 (.fa 0 (.t 1)),
  ao 7 17 (.ld 1 false (.t 16)),
  ao 8 18 (.bin .quo (.t 17) (.k (.i 65536))),
  ao 9 19 (.cnvI .u8 (.t 18)),
  ao 10 20 (.fa 0 (.t 1)),
  ao 11 21 (.ld 1 false (.t 20)),
  ao 12 22 (.bin .quo (.t 21) (.k (.i 256))),
  ao 13 23 (.bin .rem (.t 22) (.k (.i 256))),
  ao 14 24 (.cnvI .u8 (.t 23)),
  ao 15 25 (.fa 0 (.t 1)),
  ao 16 26 (.ld 1 false (.t 25)),
  ao 17 27 (.bin .rem (.t 26) (.k (.i 256))),
  ao 18 28 (.cnvI .u8 (.t 27)),
  ao 19 29 (.bsl 1 5 [(.t 12), (.t 15), (.t 19), (.t 24), (.t 28)]),
  ao 20 30 (.cnvBS (.t 29)),
  ao 21 31 (.fa 1 (.t 1)),
  ao 22 32 (.ld 1 false (.t 31)),
  ao 23 33 (.bin .add (.t 30) (.t 32)),
  ao 24 2 (.mv (.t 33))]
def c74 : ACode := .seq (.reg r74_0) (.seq c74_5 (.seq (.reg r74_6) (.seq (.reg r74_7) .ret)))
def s74 : List ARes := [.tmp 2]
theorem ok74 : okF Try.prog 74 34 c74 s74 := ⟨Try.f74, Try.func74, Try.ntmps74, by kernel_rfl, by kernel_rfl, by kernel_rfl⟩
def URc_3 := Bx.mk <|
  aN (uA c74.eq_1) <| aN (uR r74_0.eq_1) <| aN (uA c74_5.eq_1) <| aN (uR r74_1.eq_1) <| aN (uA c74_4.eq_1) <| aN (uA c74_3.eq_1) <| aN (uR r74_2.eq_1) <| aN (uR r74_6.eq_1) <| aN (uR r74_7.eq_1) <| s74.eq_1
theorem frame_ok (r : LR) (_h0 : 0 ≤ r.pos ∧ r.pos ≤ 1000000000) (hd : r.data.size ≤ 100000) : PC 74 [tLR r] (fun s : ByteArray => s.size ≤ r.data.size + 5) tS := by
  refine PC.intro ok74 rfl (fun _ => rfl) fun X => ?_
  simp only [RUX, Nat.reduceAdd, reduceIte, Nat.reduceEqDiff, Nat.reduceLT, Nat.reduceLeDiff, reduceCtorEq, eq_self, FIX, forall_const, endE_n, endE_r, CHT, disj, Nat.reduceBEq, beq_self_eq_true, APT, APX, forall_eq, ALT, URc_3.d]
  refine callC (recOk_ok r) rfl rfl rfl rfl ?_
  by_cases h1 : (decide (1 ≤ r.pos) && decide (r.pos ≤ 999999) && decide ((r.data.size : Int) ≤ 2000)) = true
  · have z1 : ¬ (256 : Int) = 0 := by omega
    have z2 : ¬ (65536 : Int) = 0 := by omega
    simp only [RUX, Nat.reduceAdd, reduceIte, Nat.reduceEqDiff, Nat.reduceLT, Nat.reduceLeDiff, reduceCtorEq, eq_self, FIX, forall_const, endE_n, endE_r, CHT, disj, Nat.reduceBEq, beq_self_eq_true, APT, APX, forall_eq, ALT, URc_3.d, h1, z1, z2, bytesOf, sStr]
    rw [if_pos (by rw [push_len]; simp only [List.length_cons, List.length_nil]; omega)]
    simp only [RUX, Nat.reduceAdd, reduceIte, Nat.reduceEqDiff, Nat.reduceLT, Nat.reduceLeDiff, reduceCtorEq, eq_self, FIX, forall_const, endE_n, endE_r, CHT, disj, Nat.reduceBEq, beq_self_eq_true, APT, APX, forall_eq, ALT, URc_3.d]
    refine ES.mk (α := ByteArray) (pushB [?a, ?b, ?c, ?d, ?e] ++ r.data) ?hs ?hf
    case hf =>
      simp only [RUX, Nat.reduceAdd, reduceIte, Nat.reduceEqDiff, Nat.reduceLT, Nat.reduceLeDiff, reduceCtorEq, eq_self, FIX, forall_const, endE_n, endE_r, CHT, disj, Nat.reduceBEq, beq_self_eq_true, APT, APX, forall_eq, ALT, URc_3.d]
      rfl
    case hs =>
      show ByteArray.size _ ≤ _
      rw [ByteArray.size_append, push_len]; simp only [List.length_cons, List.length_nil]; omega
  · rw [Bool.not_eq_true] at h1
    simp only [RUX, Nat.reduceAdd, reduceIte, Nat.reduceEqDiff, Nat.reduceLT, Nat.reduceLeDiff, reduceCtorEq, eq_self, FIX, forall_const, endE_n, endE_r, CHT, disj, Nat.reduceBEq, beq_self_eq_true, APT, APX, forall_eq, ALT, URc_3.d, h1]
    refine ES.mk ⟨#[]⟩ (Nat.zero_le _) ?_
    simp only [RUX, Nat.reduceAdd, reduceIte, Nat.reduceEqDiff, Nat.reduceLT, Nat.reduceLeDiff, reduceCtorEq, eq_self, FIX, forall_const, endE_n, endE_r, CHT, disj, Nat.reduceBEq, beq_self_eq_true, APT, APX, forall_eq, ALT, URc_3.d]
end Go.V
set_option linter.unusedSimpArgs false
namespace Go.V
open Go.Proofs
theorem wrapu8 {x : Int} (h : 0 ≤ x ∧ x ≤ 255) : IntKind.u8.wrap x = x := by
  simp only [IntKind.wrap, IntKind.bits, IntKind.signed, Bool.false_and, Bool.false_eq_true, if_false]
  omega
abbrev tII (a b : Int) : T := .tup [.one (.v (.s (.int .i64 a))), .one (.v (.s (.int .i64 b)))]
def okN (x : Int) : Prop := 0 ≤ x ∧ x ≤ 9999999
/- loop.example/teagle/spec.l42Num -/
def r82_0 : List AOper := [ao 0 4 (.mv (.k (.i 0))),
  ao 1 5 (.mv (.k (.i 0)))]
def r82_1 : List AOper := [ao 0 6 (.mv (.k (.i 0)))]
def r82_2 : List AOper := [ao 0 7 (.mv (.k (.i 0)))]
def r82_3 : List AOper := [ao 0 8 (.mv (.t 7)),
  ao 1 9 (.bin .lss (.t 8) (.k (.i 7))),
  ao 2 10 (.mv (.t 9)),
  ag 3 11 10 true [] (.mv (.t 1)),
  ag 4 12 10 true [] (.mv (.t 0)),
  ag 5 13 10 true [] (.lenS (.t 12)),
  ag 6 14 10 true [] (.bin .lss (.t 11) (.t 13)),
  ao 7 15 (.pick (.t 10) (.t 14) (.k (.b false))),
  ao 8 16 (.mv (.t 15)),
  ag 9 17 16 true [] (.mv (.t 0)),
  ag 10 18 16 true [] (.mv (.t 1)),
  ag 11 19 16 true [] (.ix (.t 17) (.t 18)),
  ag 12 20 16 true [] (.bin .geq (.t 19) (.k (.s (.int .u8 48)))),
  ao 13 21 (.pick (.t 16) (.t 20) (.k (.b false))),
  ao 14 22 (.mv (.t 21)),
  ag 15 23 22 true [] (.mv (.t 0)),
  ag 16 24 22 true [] (.mv (.t 1)),
  ag 17 25 22 true [] (.ix (.t 23) (.t 24)),
  ag 18 26 22 true [] (.bin .leq (.t 25) (.k (.s (.int .u8 57)))),
  ao 19 27 (.pick (.t 22) (.t 26) (.k (.b false)))]
def c82_4 : ACode := .cond (.t 27) .skip (.exit 0)
def c82_5 : ACode := .seq (.reg r82_3) c82_4
def r82_6 : List AOper := [ao 0 30 (.mv (.t 6)),
  ao 1 31 (.bin .mul (.t 30) (.k (.i 10))),
  ao 2 32 (.mv (.t 0)),
  ao 3 33 (.mv (.t 1)),
  ao 4 34 (.ix (.t 32) (.t 33)),
  ao 5 35 (.bin .sub (.t 34) (.k (.s (.int .u8 48)))),
  ao 6 36 (.cnvI .i64 (.t 35)),
  ao 7 37 (.bin .add (.t 31) (.t 36)),
  ao 8 6 (.mv (.t 37))]
def r82_7 : List AOper := [ao 0 38 (.mv (.t 1)),
  ao 1 39 (.bin .add (.t 38) (.k (.i 1))),
  ao 2 1 (.mv (.t 39))]
def c82_8 : ACode := .seq (.reg r82_6) (.reg r82_7)
def c82_9 : ACode := .block 1 c82_8
def r82_10 : List AOper := [ao 0 28 (.mv (.t 7)),
  ao 1 29 (.bin .add (.t 28) (.k (.i 1))),
  ao 2 7 (.mv (.t 29))]
def c82_11 : ACode := .seq c82_5 (.seq c82_9 (.reg r82_10))
def c82_12 : ACode := .loop c82_11
def c82_13 : ACode := .block 0 c82_12
def c82_14 : ACode := .seq (.reg r82_2) c82_13
def r82_15 : List AOper := [ao 0 40 (.mv (.t 6)),
  ao 1 41 (.mv (.t 1)),
  ao 2 4 (.mv (.t 40)),
  ao 3 5 (.mv (.t 41))]
def c82 : ACode := .seq (.reg r82_0) (.seq (.reg r82_1) (.seq c82_14 (.seq (.reg r82_15) .ret)))
def s82 : List ARes := [.tmp 4, .tmp 5]
theorem ok82 : okF Try.prog 82 42 c82 s82 := ⟨Try.f82, Try.func82, Try.ntmps82, by kernel_rfl, by kernel_rfl, by kernel_rfl⟩
def inv82 (s : ByteArray) (a : Nat) (i : Nat) (σ : St) : Prop := ∃ (n : Int), 0 ≤ n ∧ n < 10 ^ i ∧ σ.t 0 = tS s ∧ σ.t 1 = .i ((a + i : Nat) : Int) ∧ σ.t 6 = .i n ∧ σ.t 7 = .i i
def URd_1 := Bx.mk <|
  aN (uA c82.eq_1) <| aN (uR r82_0.eq_1) <| aN (uR r82_1.eq_1) <| aN (uA c82_14.eq_1) <| aN (uR r82_2.eq_1) <| aN (uA c82_13.eq_1) <| aN (uA c82_12.eq_1) <| aN (uR r82_15.eq_1) <| s82.eq_1
def URd_2 := Bx.mk <|
  aN (uA c82_11.eq_1) <| aN (uA c82_5.eq_1) <| aN (uR r82_3.eq_1) <| aN (uA c82_4.eq_1) <| aN (uA c82_9.eq_1) <| aN (uA c82_8.eq_1) <| aN (uR r82_6.eq_1) <| aN (uR r82_7.eq_1) <| aN (uR r82_10.eq_1) <| aN (uA c82.eq_1) <| aN (uR r82_0.eq_1) <| aN (uR r82_1.eq_1) <| aN (uA c82_14.eq_1) <| aN (uR r82_2.eq_1) <| aN (uA c82_13.eq_1) <| aN (uA c82_12.eq_1) <| aN (uR r82_15.eq_1) <| s82.eq_1
def URd_3 := Bx.mk <|
  aN (uA c82_11.eq_1) <| aN (uA c82_5.eq_1) <| aN (uR r82_3.eq_1) <| aN (uA c82_4.eq_1) <| aN (uA c82_9.eq_1) <| aN (uA c82_8.eq_1) <| aN (uR r82_6.eq_1) <| aN (uR r82_7.eq_1) <| aN (uR r82_10.eq_1) <| aN (uA c82.eq_1) <| aN (uR r82_0.eq_1) <| aN (uR r82_1.eq_1) <| aN (uA c82_14.eq_1) <| aN (uR r82_2.eq_1) <| aN (uA c82_13.eq_1) <| aN (uA c82_12.eq_1) <| s82.eq_1
theorem num42_ok (s : ByteArray) (a : Nat) (ha : a ≤ 1000000000) (hs : s.size ≤ 1000000000) : PC 82 [tS s, .i a] (fun x : Int × Int => okN x.1 ∧ (a : Int) ≤ x.2 ∧ x.2 ≤ a + 7) (fun x => tII x.1 x.2) := by
  refine PC.intro ok82 rfl (fun _ => rfl) fun X => ?_
  simp only [RUX, Nat.reduceAdd, reduceIte, Nat.reduceEqDiff, Nat.reduceLT, Nat.reduceLeDiff, reduceCtorEq, eq_self, FIX, forall_const, endE_n, endE_r, CHT, disj, Nat.reduceBEq, beq_self_eq_true, APT, APX, forall_eq, ALT, URd_1.d]
  refine AW.upto 7 (inv82 s a) ⟨0, by omega, by omega, rfl, rfl, rfl, rfl⟩ fun i t H c hi h => ?_
  obtain ⟨n, h1, h2, e0, e1, e6, e7⟩ := h
  simp only [T.c, T.i, T.s] at e0 e1 e6 e7
  have hp : (10 : Int) ^ i ≤ 10000000 := by
    have h := Nat.pow_le_pow_right (n := 10) (by omega) hi
    have e : ((10 ^ i : Nat) : Int) = 10 ^ i := by simp
    omega
  have hend : ∀ t H c, t 6 = T.i n → t 1 = T.i ((a + i : Nat) : Int) → wpa Try.prog X (.seq (.reg r82_15) .ret) (endE (fun x : Int × Int => okN x.1 ∧ (a : Int) ≤ x.2 ∧ x.2 ≤ a + 7) (fun x => tII x.1 x.2) (fun _ => []) s82) ⟨t, H, c⟩ := by
    intro t H c h6 h1'
    simp only [T.i] at h6 h1'
    simp only [RUX, Nat.reduceAdd, reduceIte, Nat.reduceEqDiff, Nat.reduceLT, Nat.reduceLeDiff, reduceCtorEq, eq_self, FIX, forall_const, endE_n, endE_r, CHT, disj, Nat.reduceBEq, beq_self_eq_true, APT, APX, forall_eq, ALT, uR r82_15.eq_1, s82, h6, h1']
    refine ES.mk (n, ((a + i : Nat) : Int)) ⟨⟨h1, by omega⟩, by simp only; omega, by simp only; omega⟩ ?_
    simp only [RUX, Nat.reduceAdd, reduceIte, Nat.reduceEqDiff, Nat.reduceLT, Nat.reduceLeDiff, reduceCtorEq, eq_self, FIX, forall_const, endE_n, endE_r, CHT, disj, Nat.reduceBEq, beq_self_eq_true, APT, APX, forall_eq, ALT, s82]
  by_cases g1 : (i : Int) < 7
  · by_cases g2 : ((a + i : Nat) : Int) < s.size
    · have gz : (0 : Int) ≤ ((a + i : Nat) : Int) := by omega
      obtain ⟨b, hb⟩ : ∃ b, s.data[a + i]? = some b := ⟨_, Array.getElem?_eq_getElem (by rw [← size_data]; omega)⟩
      have hub := b.toNat_lt
      by_cases g3 : (48 : Int) ≤ b.toNat
      · by_cases g4 : (b.toNat : Int) ≤ 57
        · have w1 : IntKind.i64.wrap (n * 10) = n * 10 := wrap64 ⟨by omega, by omega⟩
          have w2 : IntKind.u8.wrap ((b.toNat : Int) - 48) = (b.toNat : Int) - 48 := wrapu8 ⟨by omega, by omega⟩
          have w3 : IntKind.i64.wrap ((b.toNat : Int) - 48) = (b.toNat : Int) - 48 := wrap64 ⟨by omega, by omega⟩
          have w4 : IntKind.i64.wrap (n * 10 + ((b.toNat : Int) - 48)) = n * 10 + ((b.toNat : Int) - 48) := wrap64 ⟨by omega, by omega⟩
          have w5 : IntKind.i64.wrap (((a + i : Nat) : Int) + 1) = ((a + (i + 1) : Nat) : Int) := (wrap64 ⟨by omega, by omega⟩).trans (by omega)
          have w6 : IntKind.i64.wrap ((i : Int) + 1) = ((i + 1 : Nat) : Int) := (wrap64 ⟨by omega, by omega⟩).trans (by omega)
          simp only [RUX, Nat.reduceAdd, reduceIte, Nat.reduceEqDiff, Nat.reduceLT, Nat.reduceLeDiff, reduceCtorEq, eq_self, FIX, forall_const, endE_n, endE_r, CHT, disj, Nat.reduceBEq, beq_self_eq_true, APT, APX, forall_eq, ALT, URd_2.d, e0, e1, e6, e7, g1, g2, gz, Int.toNat_natCast, hb, ge_iff_le, g3, g4, w1, w2, w3, w4, w5, w6]
          refine ⟨by omega, n * 10 + ((b.toNat : Int) - 48), by omega, ?_, e0, rfl, rfl, rfl⟩
          rw [Int.pow_succ]; omega
        · simp only [RUX, Nat.reduceAdd, reduceIte, Nat.reduceEqDiff, Nat.reduceLT, Nat.reduceLeDiff, reduceCtorEq, eq_self, FIX, forall_const, endE_n, endE_r, CHT, disj, Nat.reduceBEq, beq_self_eq_true, APT, APX, forall_eq, ALT, URd_3.d, e0, e1, e6, e7, g1, g2, gz, Int.toNat_natCast, hb, ge_iff_le, g3, g4]
          exact hend _ _ _ (by simp only [RUX, Nat.reduceAdd, reduceIte, Nat.reduceEqDiff, Nat.reduceLT, Nat.reduceLeDiff, reduceCtorEq, eq_self, FIX, forall_const, endE_n, endE_r, CHT, disj, Nat.reduceBEq, beq_self_eq_true, APT, APX, forall_eq, ALT, e6]) (by simp only [RUX, Nat.reduceAdd, reduceIte, Nat.reduceEqDiff, Nat.reduceLT, Nat.reduceLeDiff, reduceCtorEq, eq_self, FIX, forall_const, endE_n, endE_r, CHT, disj, Nat.reduceBEq, beq_self_eq_true, APT, APX, forall_eq, ALT, e1])
      · simp only [RUX, Nat.reduceAdd, reduceIte, Nat.reduceEqDiff, Nat.reduceLT, Nat.reduceLeDiff, reduceCtorEq, eq_self, FIX, forall_const, endE_n, endE_r, CHT, disj, Nat.reduceBEq, beq_self_eq_true, APT, APX, forall_eq, ALT, URd_3.d, e0, e1, e6, e7, g1, g2, gz, Int.toNat_natCast, hb, ge_iff_le, g3]
        exact hend _ _ _ (by simp only [RUX, Nat.reduceAdd, reduceIte, Nat.reduceEqDiff, Nat.reduceLT, Nat.reduceLeDiff, reduceCtorEq, eq_self, FIX, forall_const, endE_n, endE_r, CHT, disj, Nat.reduceBEq, beq_self_eq_true, APT, APX, forall_eq, ALT, e6]) (by simp only [RUX, Nat.reduceAdd, reduceIte, Nat.reduceEqDiff, Nat.reduceLT, Nat.reduceLeDiff, reduceCtorEq, eq_self, FIX, forall_const, endE_n, endE_r, CHT, disj, Nat.reduceBEq, beq_self_eq_true, APT, APX, forall_eq, ALT, e1])
    · simp only [RUX, Nat.reduceAdd, reduceIte, Nat.reduceEqDiff, Nat.reduceLT, Nat.reduceLeDiff, reduceCtorEq, eq_self, FIX, forall_const, endE_n, endE_r, CHT, disj, Nat.reduceBEq, beq_self_eq_true, APT, APX, forall_eq, ALT, URd_3.d, e0, e1, e6, e7, g1, g2]
      exact hend _ _ _ (by simp only [RUX, Nat.reduceAdd, reduceIte, Nat.reduceEqDiff, Nat.reduceLT, Nat.reduceLeDiff, reduceCtorEq, eq_self, FIX, forall_const, endE_n, endE_r, CHT, disj, Nat.reduceBEq, beq_self_eq_true, APT, APX, forall_eq, ALT, e6]) (by simp only [RUX, Nat.reduceAdd, reduceIte, Nat.reduceEqDiff, Nat.reduceLT, Nat.reduceLeDiff, reduceCtorEq, eq_self, FIX, forall_const, endE_n, endE_r, CHT, disj, Nat.reduceBEq, beq_self_eq_true, APT, APX, forall_eq, ALT, e1])
  · simp only [RUX, Nat.reduceAdd, reduceIte, Nat.reduceEqDiff, Nat.reduceLT, Nat.reduceLeDiff, reduceCtorEq, eq_self, FIX, forall_const, endE_n, endE_r, CHT, disj, Nat.reduceBEq, beq_self_eq_true, APT, APX, forall_eq, ALT, URd_3.d, e0, e1, e6, e7, g1]
    exact hend _ _ _ (by simp only [RUX, Nat.reduceAdd, reduceIte, Nat.reduceEqDiff, Nat.reduceLT, Nat.reduceLeDiff, reduceCtorEq, eq_self, FIX, forall_const, endE_n, endE_r, CHT, disj, Nat.reduceBEq, beq_self_eq_true, APT, APX, forall_eq, ALT, e6]) (by simp only [RUX, Nat.reduceAdd, reduceIte, Nat.reduceEqDiff, Nat.reduceLT, Nat.reduceLeDiff, reduceCtorEq, eq_self, FIX, forall_const, endE_n, endE_r, CHT, disj, Nat.reduceBEq, beq_self_eq_true, APT, APX, forall_eq, ALT, e1])
end Go.V
set_option linter.unusedSimpArgs false
namespace Go.V
open Go.Proofs
/- loop.example/teagle/spec.l42Nums -/
def r83_0 : List AOper := [ao 0 6 (.mv (.k (.c .nil0))),
  ao 1 7 (.mv (.k (.i 0)))]
def r83_1 : List AOper := [ao 0 12 (.bsl 1 3 []),
  ao 1 8 (.mv (.t 12))]
def r83_2 : List AOper := [ao 0 9 (.mv (.k (.i 0)))]
def r83_3 : List AOper := [ao 0 13 (.mv (.t 9)),
  ao 1 14 (.mv (.t 2)),
  ao 2 15 (.bin .lss (.t 13) (.t 14))]
def c83_4 : ACode := .cond (.t 15) .skip (.exit 0)
def c83_5 : ACode := .seq (.reg r83_3) c83_4
def r83_6 : List AOper := [ao 0 19 (.mv (.t 0)),
  ao 1 20 (.mv (.t 1)),
  ao 2 21 (.call (.k (.c (.fn 82 []))) [(.t 19), (.t 20)]),
  ao 3 18 (.mv (.t 21)),
  ao 4 22 (.ext 0 (.t 18)),
  ao 5 23 (.ext 1 (.t 18)),
  ao 6 10 (.mv (.t 22)),
  ao 7 11 (.mv (.t 23))]
def r83_7 : List AOper := [ao 0 24 (.mv (.t 8)),
  ao 1 25 (.mv (.t 10)),
  ao 2 26 (.bsl 1 3 [(.t 25)]),
  ao 3 27 (.app 1 3 8 (.t 24) (.t 26)),
  ao 4 8 (.mv (.t 27))]
def r83_8 : List AOper := [ao 0 28 (.mv (.t 11)),
  ao 1 29 (.bin .add (.t 28) (.k (.i 1))),
  ao 2 1 (.mv (.t 29))]
def c83_9 : ACode := .seq (.reg r83_6) (.seq (.reg r83_7) (.reg r83_8))
def c83_10 : ACode := .block 1 c83_9
def r83_11 : List AOper := [ao 0 16 (.mv (.t 9)),
  ao 1 17 (.bin .add (.t 16) (.k (.i 1))),
  ao 2 9 (.mv (.t 17))]
def c83_12 : ACode := .seq c83_5 (.seq c83_10 (.reg r83_11))
def c83_13 : ACode := .loop c83_12
def c83_14 : ACode := .block 0 c83_13
def c83_15 : ACode := .seq (.reg r83_2) c83_14
def r83_16 : List AOper := [ao 0 30 (.mv (.t 8)),
  ao 1 31 (.mv (.t 1)),
  ao 2 6 (.mv (.t 30)),
  ao 3 7 (.mv (.t 31))]
def c83 : ACode := .seq (.reg r83_0) (.seq (.reg r83_1) (.seq c83_15 (.seq (.reg r83_16) .ret)))
def s83 : List ARes := [.tmp 6, .tmp 7]
theorem ok83 : okF Try.prog 83 32 c83 s83 := ⟨Try.f83, Try.func83, Try.ntmps83, by kernel_rfl, by kernel_rfl, by kernel_rfl⟩
def inv83 (s : ByteArray) (a n : Nat) (i : Nat) (σ : St) : Prop := ∃ (xs : List Int) (p v : Nat), xs.length = i ∧ (∀ x ∈ xs, okN x) ∧ a ≤ p ∧ p ≤ a + 8 * i ∧ σ.t 0 = tS s ∧ σ.t 1 = .i p ∧ σ.t 2 = .i n ∧ (σ.t 8 = .c (.own 12 v i) ∧ σ.H 12 = some (.arr v true 1 3 (en eI xs))) ∧ σ.t 9 = .i i
def URe_1 := Bx.mk <|
  aN (uA c83.eq_1) <| aN (uR r83_0.eq_1) <| aN (uR r83_1.eq_1) <| aN (uA c83_15.eq_1) <| aN (uR r83_2.eq_1) <| aN (uA c83_14.eq_1) <| aN (uA c83_13.eq_1) <| aN (uR r83_16.eq_1) <| s83.eq_1
def URe_2 := Bx.mk <|
  aN (uA c83_12.eq_1) <| aN (uA c83_5.eq_1) <| aN (uR r83_3.eq_1) <| aN (uA c83_4.eq_1) <| aN (uA c83_10.eq_1) <| aN (uA c83_9.eq_1) <| aN (uR r83_6.eq_1) <| aN (uR r83_7.eq_1) <| aN (uR r83_8.eq_1) <| aN (uR r83_11.eq_1) <| aN (uA c83.eq_1) <| aN (uR r83_0.eq_1) <| aN (uR r83_1.eq_1) <| aN (uA c83_15.eq_1) <| aN (uR r83_2.eq_1) <| aN (uA c83_14.eq_1) <| aN (uA c83_13.eq_1) <| aN (uR r83_16.eq_1) <| s83.eq_1
theorem nums42_ok (s : ByteArray) (a n : Nat) (ha : a ≤ 100000000) (hn : n ≤ 1000) (hs : s.size ≤ 1000000000) : PC 83 [tS s, .i a, .i n] (fun x : List Int × Int => x.1.length = n ∧ (∀ y ∈ x.1, okN y) ∧ (a : Int) ≤ x.2 ∧ x.2 ≤ a + 8 * n) (fun x => .tup [.one (.v (.sl (en eI x.1))), .one (.v (.s (.int .i64 x.2)))]) := by
  refine PC.intro ok83 rfl (fun _ => rfl) fun X => ?_
  simp only [RUX, Nat.reduceAdd, reduceIte, Nat.reduceEqDiff, Nat.reduceLT, Nat.reduceLeDiff, reduceCtorEq, eq_self, FIX, forall_const, endE_n, endE_r, CHT, disj, Nat.reduceBEq, beq_self_eq_true, APT, APX, forall_eq, ALT, URe_1.d]
  refine AW.upto n (inv83 s a n) ⟨[], a, _, rfl, by simp, by omega, by omega, rfl, rfl, rfl, ⟨rfl, rfl⟩, rfl⟩ fun i t H c hi h => ?_
  obtain ⟨xs, p, v, h1, h2, h3, h4, e0, e1, e2, ⟨e8, eH⟩, e9⟩ := h
  simp only [T.c, T.i, T.s] at e0 e1 e2 e8 eH e9
  by_cases g1 : (i : Int) < n
  · obtain ⟨⟨x, q⟩, ⟨k1, k2, k3⟩, hC⟩ := num42_ok s p (by omega) hs
    simp only at k1 k2 k3 hC
    have w1 : IntKind.i64.wrap (q + 1) = ((q + 1).toNat : Int) := (wrap64 ⟨by omega, by omega⟩).trans (by omega)
    have w2 : IntKind.i64.wrap ((i : Int) + 1) = ((i + 1 : Nat) : Int) := wrap64 ⟨by omega, by omega⟩
    have hlen : (en eI xs).length = i := by rw [en_len]; exact h1
    have ht1 : (en eI xs).take i = en eI xs := List.take_of_length_le (by omega)
    have q1 : (i + 1) * 8 ≤ 140737488355328 := by omega
    have q2 : i ≤ 9223372036854775806 := by omega
    simp only [RUX, Nat.reduceAdd, reduceIte, Nat.reduceEqDiff, Nat.reduceLT, Nat.reduceLeDiff, reduceCtorEq, eq_self, FIX, forall_const, endE_n, endE_r, CHT, disj, Nat.reduceBEq, beq_self_eq_true, APT, APX, forall_eq, ALT, URe_2.d, e0, e1, e2, e8, e9, eH, g1]
    refine callC hC rfl rfl rfl rfl ?_
    simp only [RUX, Nat.reduceAdd, reduceIte, Nat.reduceEqDiff, Nat.reduceLT, Nat.reduceLeDiff, reduceCtorEq, eq_self, FIX, forall_const, endE_n, endE_r, CHT, disj, Nat.reduceBEq, beq_self_eq_true, APT, APX, forall_eq, ALT, URe_2.d, e0, e1, e2, e8, e9, eH, g1, w1, w2, hlen, ht1, q1, q2]
    refine ⟨by omega, xs ++ [x], (q + 1).toNat, _, by simp [h1], fun y hy => ?_, by omega, by omega, e0, rfl, e2, ⟨rfl, ?_⟩, rfl⟩
    · rcases List.mem_append.1 hy with hy | hy
      · exact h2 y hy
      · rw [List.mem_singleton.1 hy]; exact k1
    · simp only [en_snoc, h1]; rfl
  · have hin : i = n := by omega
    subst hin
    have ht1 : (en eI xs).take i = en eI xs := List.take_of_length_le (by rw [en_len]; omega)
    simp only [RUX, Nat.reduceAdd, reduceIte, Nat.reduceEqDiff, Nat.reduceLT, Nat.reduceLeDiff, reduceCtorEq, eq_self, FIX, forall_const, endE_n, endE_r, CHT, disj, Nat.reduceBEq, beq_self_eq_true, APT, APX, forall_eq, ALT, URe_2.d, URe_1.d, e0, e1, e2, e8, e9, eH, g1]
    refine ES.mk (xs, (p : Int)) ⟨h1, h2, by simp only; omega, by simp only; omega⟩ ?_
    simp only [RUX, Nat.reduceAdd, reduceIte, Nat.reduceEqDiff, Nat.reduceLT, Nat.reduceLeDiff, reduceCtorEq, eq_self, FIX, forall_const, endE_n, endE_r, CHT, disj, Nat.reduceBEq, beq_self_eq_true, APT, APX, forall_eq, ALT, URe_1.d, e1, e8, eH, ht1, en_len, h1]
end Go.V
set_option linter.unusedSimpArgs false
namespace Go.V
open Go.Proofs
structure LP where
  num : Int
  first : Int
  next : Int
  size : Int
structure Pl where
  parts : List LP
  opn : Int
  first : Int
def eP (x : LP) : List V := [.s (.int .i64 x.num), .s (.int .i64 x.first), .s (.int .i64 x.next), .s (.int .i64 x.size)]
def eR (x : LR) : List V := [.s (.int .i64 x.pos), .s (.string x.data)]
theorem eP_len (x : LP) : (eP x).length = 4 := rfl
theorem eR_len (x : LR) : (eR x).length = 2 := rfl
theorem ALU : (type_of% (@en_all LP eP 4 eP_len)) ∧ (type_of% (@en_all LR eR 2 eR_len)) := ⟨@en_all LP eP 4 eP_len, @en_all LR eR 2 eR_len⟩
abbrev cPl (p : Pl) : List C := [.v (.sl (en eP p.parts)), .v (.s (.int .i64 p.opn)), .v (.s (.int .i64 p.first))]
abbrev tPl (p : Pl) : T := .pt (.agg (cPl p))
def okB (x : Int) : Prop := 0 ≤ x ∧ x ≤ 1000000000
def okP (x : LP) : Prop := okB x.num ∧ okB x.first ∧ okB x.next ∧ okB x.size
structure okPl (p : Pl) : Prop where
  len : p.parts.length ≤ 100
  part : ∀ x ∈ p.parts, okP x
  opn : okB p.opn
  first : okB p.first
/- loop.example/teagle/spec.LogPlanOk -/
def r67_0 : List AOper := [ao 0 1 (.box 96 (.t 0)),
  ao 1 2 (.mv (.k (.b false)))]
def r67_1 : List AOper := [ao 0 7 (.fa 0 (.t 1)),
  ao 1 8 (.ld 1 false (.t 7)),
  ao 2 9 (.len (.t 8)),
  ao 3 10 (.bin .gtr (.t 9) (.k (.i 40))),
  ao 4 11 (.mv (.t 10)),
  ag 5 12 11 false [] (.fa 1 (.t 1)),
  ag 6 13 11 false [] (.ld 1 false (.t 12)),
  ag 7 14 11 false [] (.call (.k (.c (.fn 28 []))) [(.t 13), (.k (.i 1)), (.k (.i 999999))]),
  ag 8 15 11 false [] (.un .not (.t 14)),
  ao 9 16 (.pick (.t 11) (.k (.b true)) (.t 15))]
def r67_2 : List AOper := [ao 0 2 (.mv (.k (.b false)))]
def c67_3 : ACode := .seq (.reg r67_2) .ret
def c67_4 : ACode := .cond (.t 16) c67_3 .skip
def c67_5 : ACode := .seq (.reg r67_1) c67_4
def r67_6 : List AOper := [ao 0 3 (.mv (.k (.i 1)))]
def r67_7 : List AOper := [ao 0 4 (.mv (.k (.i 0)))]
def r67_8 : List AOper := [ao 0 17 (.mv (.t 4)),
  ao 1 18 (.fa 0 (.t 1)),
  ao 2 19 (.ld 1 false (.t 18)),
  ao 3 20 (.len (.t 19)),
  ao 4 21 (.bin .lss (.t 17) (.t 20))]
def c67_9 : ACode := .cond (.t 21) .skip (.exit 0)
def c67_10 : ACode := .seq (.reg r67_8) c67_9
def r67_11 : List AOper := [ao 0 24 (.fa 0 (.t 1)),
  ao 1 25 (.ld 1 false (.t 24)),
  ao 2 26 (.mv (.t 4)),
  ao 3 27 (.ia 4 (.t 25) (.t 26)),
  ao 4 28 (.ld 4 true (.t 27)),
  ao 5 5 (.alloc 112 [(.v (.s (.int .i64 0))), (.v (.s (.int .i64 0))), (.v (.s (.int .i64 0))), (.v (.s (.int .i64 0)))]),
  an 6 (.st 4 (.t 5) (.t 28))]
def r67_12 : List AOper := [ao 0 29 (.fa 0 (.t 5)),
  ao 1 30 (.ld 1 false (.t 29)),
  ao 2 31 (.call (.k (.c (.fn 28 []))) [(.t 30), (.k (.i 1)), (.k (.i 999999))]),
  ao 3 32 (.un .not (.t 31)),
  ao 4 33 (.mv (.t 32)),
  ag 5 34 33 false [] (.fa 0 (.t 5)),
  ag 6 35 33 false [] (.ld 1 false (.t 34)),
  ag 7 36 33 false [] (.fa 1 (.t 1)),
  ag 8 37 33 false [] (.ld 1 false (.t 36)),
  ag 9 38 33 false [] (.bin .eql (.t 35) (.t 37)),
  ao 10 39 (.pick (.t 33) (.k (.b true)) (.t 38)),
  ao 11 40 (.mv (.t 39)),
  ag 12 41 40 false [] (.fa 1 (.t 5)),
  ag 13 42 40 false [] (.ld 1 false (.t 41)),
  ag 14 43 40 false [] (.mv (.t 3)),
  ag 15 44 40 false [] (.bin .neq (.t 42) (.t 43)),
  ao 16 45 (.pick (.t 40) (.k (.b true)) (.t 44)),
  ao 17 46 (.mv (.t 45)),
  ag 18 47 46 false [] (.fa 2 (.t 5)),
  ag 19 48 46 false [] (.ld 1 false (.t 47)),
  ag 20 49 46 false [] (.fa 1 (.t 5)),
  ag 21 50 46 false [] (.ld 1 false (.t 49)),
  ag 22 51 46 false [] (.bin .lss (.t 48) (.t 50)),
  ao 23 52 (.pick (.t 46) (.k (.b true)) (.t 51)),
  ao 24 53 (.mv (.t 52)),
  ag 25 54 53 false [] (.fa 2 (.t 5)),
  ag 26 55 53 false [] (.ld 1 false (.t 54)),
  ag 27 56 53 false [] (.bin .gtr (.t 55) (.k (.i 1000000))),
  ao 28 57 (.pick (.t 53) (.k (.b true)) (.t 56)),
  ao 29 58 (.mv (.t 57)),
  ag 30 59 58 false [] (.fa 3 (.t 5)),
  ag 31 60 58 false [] (.ld 1 false (.t 59)),
  ag 32 61 58 false [] (.call (.k (.c (.fn 28 []))) [(.t 60), (.k (.i 0)), (.k (.i 20000))]),
  ag 33 62 58 false [] (.un .not (.t 61)),
  ao 34 63 (.pick (.t 58) (.k (.b true)) (.t 62))]
def r67_13 : List AOper := [ao 0 2 (.mv (.k (.b false)))]
def c67_14 : ACode := .seq (.reg r67_13) .ret
def c67_15 : ACode := .cond (.t 63) c67_14 .skip
def c67_16 : ACode := .seq (.reg r67_12) c67_15
def r67_17 : List AOper := [ao 0 6 (.mv (.k (.i 0)))]
def r67_18 : List AOper := [ao 0 64 (.mv (.t 6)),
  ao 1 65 (.mv (.t 4)),
  ao 2 66 (.bin .lss (.t 64) (.t 65))]
def c67_19 : ACode := .cond (.t 66) .skip (.exit 2)
def c67_20 : ACode := .seq (.reg r67_18) c67_19
def r67_21 : List AOper := [ao 0 69 (.fa 0 (.t 1)),
  ao 1 70 (.ld 1 false (.t 69)),
  au 2 71 [0, 1] (.mv (.t 6)),
  ao 3 72 (.ia 4 (.t 70) (.t 71)),
  ao 4 73 (.fa 0 (.t 72)),
  ao 5 74 (.ld 1 false (.t 73)),
  au 6 75 (ru 6) (.fa 0 (.t 5)),
  au 7 76 (ru 6) (.ld 1 false (.t 75)),
  ao 8 77 (.bin .eql (.t 74) (.t 76))]
def r67_22 : List AOper := [ao 0 2 (.mv (.k (.b false)))]
def c67_23 : ACode := .seq (.reg r67_22) .ret
def c67_24 : ACode := .cond (.t 77) c67_23 .skip
def c67_25 : ACode := .seq (.reg r67_21) c67_24
def c67_26 : ACode := .block 3 c67_25
def r67_27 : List AOper := [ao 0 67 (.mv (.t 6)),
  ao 1 68 (.bin .add (.t 67) (.k (.i 1))),
  ao 2 6 (.mv (.t 68))]
def c67_28 : ACode := .seq c67_20 (.seq c67_26 (.reg r67_27))
def c67_29 : ACode := .loop c67_28
def c67_30 : ACode := .block 2 c67_29
def c67_31 : ACode := .seq (.reg r67_17) c67_30
def r67_32 : List AOper := [ao 0 78 (.fa 2 (.t 5)),
  ao 1 79 (.ld 1 false (.t 78)),
  ao 2 3 (.mv (.t 79))]
def c67_33 : ACode := .seq (.reg r67_11) (.seq c67_16 (.seq c67_31 (.reg r67_32)))
def c67_34 : ACode := .block 1 c67_33
def r67_35 : List AOper := [ao 0 22 (.mv (.t 4)),
  ao 1 23 (.bin .add (.t 22) (.k (.i 1))),
  ao 2 4 (.mv (.t 23))]
def c67_36 : ACode := .seq c67_10 (.seq c67_34 (.reg r67_35))
def c67_37 : ACode := .loop c67_36
def c67_38 : ACode := .block 0 c67_37
def c67_39 : ACode := .seq (.reg r67_7) c67_38
def r67_40 : List AOper := [ao 0 80 (.fa 2 (.t 1)),
  ao 1 81 (.ld 1 false (.t 80)),
  ao 2 82 (.mv (.t 3)),
  ao 3 83 (.bin .eql (.t 81) (.t 82)),
  ao 4 2 (.mv (.t 83))]
def c67 : ACode := .seq (.reg r67_0) (.seq c67_5 (.seq (.reg r67_6) (.seq c67_39 (.seq (.reg r67_40) .ret))))
def s67 : List ARes := [.tmp 2]
theorem ok67 : okF Try.prog 67 84 c67 s67 := ⟨Try.f67, Try.func67, Try.ntmps67, by kernel_rfl, by kernel_rfl, by kernel_rfl⟩
def Hd67 (p : Pl) (i : Nat) (σ : St) : Prop := (∃ u, σ.t 1 = .c (.ptr 1 u 0) ∧ σ.H 1 = some (.var u 96 (cPl p))) ∧ σ.t 4 = .i i
def inv67 (p : Pl) (i : Nat) (σ : St) : Prop := Hd67 p i σ ∧ ∃ nx : Int, σ.t 3 = .i nx
def inv67b (p : Pl) (i : Nat) (x : LP) (j : Nat) (σ : St) : Prop := Hd67 p i σ ∧ (∃ u, σ.t 5 = .c (.ptr 5 u 0) ∧ σ.H 5 = some (.var u 112 ((eP x).map .v))) ∧ σ.t 6 = .i j
def URf_1 := Bx.mk <|
  aN (uA c67.eq_1) <| aN (uR r67_0.eq_1) <| aN (uA c67_5.eq_1) <| aN (uR r67_1.eq_1) <| aN (uA c67_4.eq_1) <| aN (uA c67_3.eq_1) <| aN (uR r67_2.eq_1) <| aN (uR r67_6.eq_1) <| aN (uA c67_39.eq_1) <| aN (uR r67_7.eq_1) <| aN (uA c67_38.eq_1) <| aN (uA c67_37.eq_1) <| aN (uR r67_40.eq_1) <| s67.eq_1
def URf_2 := Bx.mk <|
  aN (uA c67_36.eq_1) <| aN (uA c67_10.eq_1) <| aN (uR r67_8.eq_1) <| aN (uA c67_9.eq_1) <| aN (uA c67_34.eq_1) <| aN (uA c67_33.eq_1) <| aN (uR r67_11.eq_1) <| aN (uA c67_16.eq_1) <| aN (uR r67_12.eq_1) <| aN (uA c67_15.eq_1) <| aN (uA c67_14.eq_1) <| aN (uR r67_13.eq_1) <| aN (uA c67_31.eq_1) <| aN (uR r67_17.eq_1) <| aN (uA c67_30.eq_1) <| aN (uA c67_29.eq_1) <| aN (uR r67_32.eq_1) <| aN (uR r67_35.eq_1) <| aN (uA c67.eq_1) <| aN (uR r67_0.eq_1) <| aN (uA c67_5.eq_1) <| aN (uR r67_1.eq_1) <| aN (uA c67_4.eq_1) <| aN (uA c67_3.eq_1) <| aN (uR r67_2.eq_1) <| aN (uR r67_6.eq_1) <| aN (uA c67_39.eq_1) <| aN (uR r67_7.eq_1) <| aN (uA c67_38.eq_1) <| aN (uA c67_37.eq_1) <| aN (uR r67_40.eq_1) <| s67.eq_1
def URf_3 := Bx.mk <|
  aN (uA c67_28.eq_1) <| aN (uA c67_20.eq_1) <| aN (uR r67_18.eq_1) <| aN (uA c67_19.eq_1) <| aN (uA c67_26.eq_1) <| aN (uA c67_25.eq_1) <| aN (uR r67_21.eq_1) <| aN (uA c67_24.eq_1) <| aN (uA c67_23.eq_1) <| aN (uR r67_22.eq_1) <| aN (uR r67_27.eq_1) <| aN (uA c67.eq_1) <| aN (uR r67_0.eq_1) <| aN (uA c67_5.eq_1) <| aN (uR r67_1.eq_1) <| aN (uA c67_4.eq_1) <| aN (uA c67_3.eq_1) <| aN (uR r67_2.eq_1) <| aN (uR r67_6.eq_1) <| aN (uA c67_39.eq_1) <| aN (uR r67_7.eq_1) <| aN (uA c67_38.eq_1) <| aN (uA c67_37.eq_1) <| aN (uR r67_40.eq_1) <| s67.eq_1
theorem planOk_ok (p : Pl) (hp : okPl p) : PC 67 [tPl p] (fun _ : Bool => True) .b := by
  have hl := hp.len
  refine PC.intro ok67 rfl (fun _ => rfl) fun X => ?_
  by_cases g0 : (p.parts.length : Int) > 40
  · simp only [RUX, Nat.reduceAdd, reduceIte, Nat.reduceEqDiff, Nat.reduceLT, Nat.reduceLeDiff, reduceCtorEq, eq_self, FIX, forall_const, endE_n, endE_r, CHT, disj, Nat.reduceBEq, beq_self_eq_true, APT, APX, forall_eq, ALT, ALU, URf_1.d, en_len, g0]
    refine ES.mk false trivial ?_
    simp only [RUX, Nat.reduceAdd, reduceIte, Nat.reduceEqDiff, Nat.reduceLT, Nat.reduceLeDiff, reduceCtorEq, eq_self, FIX, forall_const, endE_n, endE_r, CHT, disj, Nat.reduceBEq, beq_self_eq_true, APT, APX, forall_eq, ALT, ALU, URf_1.d]
  simp only [RUX, Nat.reduceAdd, reduceIte, Nat.reduceEqDiff, Nat.reduceLT, Nat.reduceLeDiff, reduceCtorEq, eq_self, FIX, forall_const, endE_n, endE_r, CHT, disj, Nat.reduceBEq, beq_self_eq_true, APT, APX, forall_eq, ALT, ALU, URf_1.d, en_len, g0]
  refine callC (l6In_ok _ _ _) rfl rfl rfl rfl ?_
  by_cases g1 : (decide (1 ≤ p.opn) && decide (p.opn ≤ 999999)) = true
  rotate_left
  · rw [Bool.not_eq_true] at g1
    simp only [RUX, Nat.reduceAdd, reduceIte, Nat.reduceEqDiff, Nat.reduceLT, Nat.reduceLeDiff, reduceCtorEq, eq_self, FIX, forall_const, endE_n, endE_r, CHT, disj, Nat.reduceBEq, beq_self_eq_true, APT, APX, forall_eq, ALT, ALU, URf_1.d, en_len, g0, g1]
    refine ES.mk false trivial ?_
    simp only [RUX, Nat.reduceAdd, reduceIte, Nat.reduceEqDiff, Nat.reduceLT, Nat.reduceLeDiff, reduceCtorEq, eq_self, FIX, forall_const, endE_n, endE_r, CHT, disj, Nat.reduceBEq, beq_self_eq_true, APT, APX, forall_eq, ALT, ALU, URf_1.d]
  simp only [RUX, Nat.reduceAdd, reduceIte, Nat.reduceEqDiff, Nat.reduceLT, Nat.reduceLeDiff, reduceCtorEq, eq_self, FIX, forall_const, endE_n, endE_r, CHT, disj, Nat.reduceBEq, beq_self_eq_true, APT, APX, forall_eq, ALT, ALU, URf_1.d, en_len, g0, g1]
  refine AW.upto p.parts.length (inv67 p) ⟨⟨⟨_, rfl, rfl⟩, rfl⟩, _, rfl⟩ fun i t H c hi h => ?_
  obtain ⟨⟨⟨u, e1, eH⟩, e4⟩, nx, e3⟩ := h
  simp only [T.c, T.i, T.s] at e1 eH e4 e3
  by_cases k1 : (i : Int) < p.parts.length
  rotate_left
  · simp only [RUX, Nat.reduceAdd, reduceIte, Nat.reduceEqDiff, Nat.reduceLT, Nat.reduceLeDiff, reduceCtorEq, eq_self, FIX, forall_const, endE_n, endE_r, CHT, disj, Nat.reduceBEq, beq_self_eq_true, APT, APX, forall_eq, ALT, ALU, URf_2.d, URf_1.d, e1, eH, e4, e3, en_len, k1]
    refine ES.mk (p.first == nx) trivial ?_
    simp only [RUX, Nat.reduceAdd, reduceIte, Nat.reduceEqDiff, Nat.reduceLT, Nat.reduceLeDiff, reduceCtorEq, eq_self, FIX, forall_const, endE_n, endE_r, CHT, disj, Nat.reduceBEq, beq_self_eq_true, APT, APX, forall_eq, ALT, ALU, URf_1.d]
  obtain ⟨x, hx⟩ : ∃ x, p.parts[i]? = some x := ⟨_, List.getElem?_eq_getElem (by omega)⟩
  have ex := en_at eP hx
  have gz : (0 : Int) ≤ i := by omega
  have w2 : IntKind.i64.wrap ((i : Int) + 1) = ((i + 1 : Nat) : Int) := wrap64 (x := (i : Int) + 1) ⟨by omega, by omega⟩
  simp only [RUX, Nat.reduceAdd, reduceIte, Nat.reduceEqDiff, Nat.reduceLT, Nat.reduceLeDiff, reduceCtorEq, eq_self, FIX, forall_const, endE_n, endE_r, CHT, disj, Nat.reduceBEq, beq_self_eq_true, APT, APX, forall_eq, ALT, ALU, URf_2.d, e1, eH, e4, e3, en_len, k1, ex, gz, Int.toNat_natCast, eP]
  refine callC (l6In_ok _ _ _) rfl rfl rfl rfl ?_
  by_cases f1 : (decide (1 ≤ x.num) && decide (x.num ≤ 999999)) = true
  rotate_left
  · rw [Bool.not_eq_true] at f1
    simp only [RUX, Nat.reduceAdd, reduceIte, Nat.reduceEqDiff, Nat.reduceLT, Nat.reduceLeDiff, reduceCtorEq, eq_self, FIX, forall_const, endE_n, endE_r, CHT, disj, Nat.reduceBEq, beq_self_eq_true, APT, APX, forall_eq, ALT, ALU, URf_2.d, e1, eH, e4, e3, en_len, k1, ex, gz, Int.toNat_natCast, eP, f1]
    refine ES.mk false trivial ?_
    simp only [RUX, Nat.reduceAdd, reduceIte, Nat.reduceEqDiff, Nat.reduceLT, Nat.reduceLeDiff, reduceCtorEq, eq_self, FIX, forall_const, endE_n, endE_r, CHT, disj, Nat.reduceBEq, beq_self_eq_true, APT, APX, forall_eq, ALT, ALU, s67]
  by_cases f2 : (x.num == p.opn) = true
  · simp only [RUX, Nat.reduceAdd, reduceIte, Nat.reduceEqDiff, Nat.reduceLT, Nat.reduceLeDiff, reduceCtorEq, eq_self, FIX, forall_const, endE_n, endE_r, CHT, disj, Nat.reduceBEq, beq_self_eq_true, APT, APX, forall_eq, ALT, ALU, URf_2.d, e1, eH, e4, e3, en_len, k1, ex, gz, Int.toNat_natCast, eP, f1, f2]
    refine ES.mk false trivial ?_
    simp only [RUX, Nat.reduceAdd, reduceIte, Nat.reduceEqDiff, Nat.reduceLT, Nat.reduceLeDiff, reduceCtorEq, eq_self, FIX, forall_const, endE_n, endE_r, CHT, disj, Nat.reduceBEq, beq_self_eq_true, APT, APX, forall_eq, ALT, ALU, s67]
  rw [Bool.not_eq_true] at f2
  by_cases f3 : (x.first != nx) = true
  · simp only [RUX, Nat.reduceAdd, reduceIte, Nat.reduceEqDiff, Nat.reduceLT, Nat.reduceLeDiff, reduceCtorEq, eq_self, FIX, forall_const, endE_n, endE_r, CHT, disj, Nat.reduceBEq, beq_self_eq_true, APT, APX, forall_eq, ALT, ALU, URf_2.d, e1, eH, e4, e3, en_len, k1, ex, gz, Int.toNat_natCast, eP, f1, f2, f3]
    refine ES.mk false trivial ?_
    simp only [RUX, Nat.reduceAdd, reduceIte, Nat.reduceEqDiff, Nat.reduceLT, Nat.reduceLeDiff, reduceCtorEq, eq_self, FIX, forall_const, endE_n, endE_r, CHT, disj, Nat.reduceBEq, beq_self_eq_true, APT, APX, forall_eq, ALT, ALU, s67]
  rw [Bool.not_eq_true] at f3
  by_cases f4 : x.next < x.first
  · simp only [RUX, Nat.reduceAdd, reduceIte, Nat.reduceEqDiff, Nat.reduceLT, Nat.reduceLeDiff, reduceCtorEq, eq_self, FIX, forall_const, endE_n, endE_r, CHT, disj, Nat.reduceBEq, beq_self_eq_true, APT, APX, forall_eq, ALT, ALU, URf_2.d, e1, eH, e4, e3, en_len, k1, ex, gz, Int.toNat_natCast, eP, f1, f2, f3, f4]
    refine ES.mk false trivial ?_
    simp only [RUX, Nat.reduceAdd, reduceIte, Nat.reduceEqDiff, Nat.reduceLT, Nat.reduceLeDiff, reduceCtorEq, eq_self, FIX, forall_const, endE_n, endE_r, CHT, disj, Nat.reduceBEq, beq_self_eq_true, APT, APX, forall_eq, ALT, ALU, s67]
  by_cases f5 : x.next > 1000000
  · simp only [RUX, Nat.reduceAdd, reduceIte, Nat.reduceEqDiff, Nat.reduceLT, Nat.reduceLeDiff, reduceCtorEq, eq_self, FIX, forall_const, endE_n, endE_r, CHT, disj, Nat.reduceBEq, beq_self_eq_true, APT, APX, forall_eq, ALT, ALU, URf_2.d, e1, eH, e4, e3, en_len, k1, ex, gz, Int.toNat_natCast, eP, f1, f2, f3, f4, f5]
    refine ES.mk false trivial ?_
    simp only [RUX, Nat.reduceAdd, reduceIte, Nat.reduceEqDiff, Nat.reduceLT, Nat.reduceLeDiff, reduceCtorEq, eq_self, FIX, forall_const, endE_n, endE_r, CHT, disj, Nat.reduceBEq, beq_self_eq_true, APT, APX, forall_eq, ALT, ALU, s67]
  simp only [RUX, Nat.reduceAdd, reduceIte, Nat.reduceEqDiff, Nat.reduceLT, Nat.reduceLeDiff, reduceCtorEq, eq_self, FIX, forall_const, endE_n, endE_r, CHT, disj, Nat.reduceBEq, beq_self_eq_true, APT, APX, forall_eq, ALT, ALU, URf_2.d, e1, eH, e4, e3, en_len, k1, ex, gz, Int.toNat_natCast, eP, f1, f2, f3, f4, f5]
  refine callC (l6In_ok _ _ _) rfl rfl rfl rfl ?_
  by_cases f6 : (decide (0 ≤ x.size) && decide (x.size ≤ 20000)) = true
  rotate_left
  · rw [Bool.not_eq_true] at f6
    simp only [RUX, Nat.reduceAdd, reduceIte, Nat.reduceEqDiff, Nat.reduceLT, Nat.reduceLeDiff, reduceCtorEq, eq_self, FIX, forall_const, endE_n, endE_r, CHT, disj, Nat.reduceBEq, beq_self_eq_true, APT, APX, forall_eq, ALT, ALU, URf_2.d, e1, eH, e4, e3, en_len, k1, ex, gz, Int.toNat_natCast, eP, f1, f2, f3, f4, f5, f6]
    refine ES.mk false trivial ?_
    simp only [RUX, Nat.reduceAdd, reduceIte, Nat.reduceEqDiff, Nat.reduceLT, Nat.reduceLeDiff, reduceCtorEq, eq_self, FIX, forall_const, endE_n, endE_r, CHT, disj, Nat.reduceBEq, beq_self_eq_true, APT, APX, forall_eq, ALT, ALU, s67]
  simp only [RUX, Nat.reduceAdd, reduceIte, Nat.reduceEqDiff, Nat.reduceLT, Nat.reduceLeDiff, reduceCtorEq, eq_self, FIX, forall_const, endE_n, endE_r, CHT, disj, Nat.reduceBEq, beq_self_eq_true, APT, APX, forall_eq, ALT, ALU, URf_2.d, e1, eH, e4, e3, en_len, k1, ex, gz, Int.toNat_natCast, eP, f1, f2, f3, f4, f5, f6]
  refine AW.upto i (inv67b p i x) ⟨⟨⟨u, e1, eH⟩, e4⟩, ⟨_, rfl, rfl⟩, rfl⟩ fun j t H c hj h => ?_
  obtain ⟨⟨⟨u, e1, eH⟩, e4⟩, ⟨u5, e5, eH5⟩, e6⟩ := h
  simp only [T.c, T.i, T.s, eP, List.map_cons, List.map_nil] at e1 eH e4 e5 eH5 e6
  by_cases k2 : (j : Int) < i
  · obtain ⟨y, hy⟩ : ∃ y, p.parts[j]? = some y := ⟨_, List.getElem?_eq_getElem (by omega)⟩
    have ey := en_at eP hy
    have gz2 : (0 : Int) ≤ j := by omega
    have w3 : IntKind.i64.wrap ((j : Int) + 1) = ((j + 1 : Nat) : Int) := wrap64 (x := (j : Int) + 1) ⟨by omega, by omega⟩
    by_cases f7 : (y.num == x.num) = true
    · simp only [RUX, Nat.reduceAdd, reduceIte, Nat.reduceEqDiff, Nat.reduceLT, Nat.reduceLeDiff, reduceCtorEq, eq_self, FIX, forall_const, endE_n, endE_r, CHT, disj, Nat.reduceBEq, beq_self_eq_true, APT, APX, forall_eq, ALT, ALU, URf_3.d, e1, eH, e4, e5, eH5, e6, k2, ey, gz2, Int.toNat_natCast, eP, f7]
      refine ES.mk false trivial ?_
      simp only [RUX, Nat.reduceAdd, reduceIte, Nat.reduceEqDiff, Nat.reduceLT, Nat.reduceLeDiff, reduceCtorEq, eq_self, FIX, forall_const, endE_n, endE_r, CHT, disj, Nat.reduceBEq, beq_self_eq_true, APT, APX, forall_eq, ALT, ALU, s67]
    · rw [Bool.not_eq_true] at f7
      simp only [RUX, Nat.reduceAdd, reduceIte, Nat.reduceEqDiff, Nat.reduceLT, Nat.reduceLeDiff, reduceCtorEq, eq_self, FIX, forall_const, endE_n, endE_r, CHT, disj, Nat.reduceBEq, beq_self_eq_true, APT, APX, forall_eq, ALT, ALU, URf_3.d, e1, eH, e4, e5, eH5, e6, k2, ey, gz2, Int.toNat_natCast, eP, f7, w3]
      exact ⟨by omega, ⟨⟨u, e1, eH⟩, e4⟩, ⟨u5, e5, eH5⟩, rfl⟩
  · simp only [RUX, Nat.reduceAdd, reduceIte, Nat.reduceEqDiff, Nat.reduceLT, Nat.reduceLeDiff, reduceCtorEq, eq_self, FIX, forall_const, endE_n, endE_r, CHT, disj, Nat.reduceBEq, beq_self_eq_true, APT, APX, forall_eq, ALT, ALU, URf_3.d, URf_2.d, e1, eH, e4, e5, eH5, e6, k2, w2]
    exact ⟨by omega, ⟨⟨u, e1, eH⟩, rfl⟩, _, rfl⟩
end Go.V
set_option linter.unusedSimpArgs false
namespace Go.V
open Go.Proofs
theorem sz_seal : (⟨#[115, 101, 97, 108, 32]⟩ : ByteArray).size = 5 := rfl
theorem sz_sp : (⟨#[32]⟩ : ByteArray).size = 1 := rfl
theorem sz_nl : (⟨#[10]⟩ : ByteArray).size = 1 := rfl
theorem sz_open : (⟨#[111, 112, 101, 110, 32]⟩ : ByteArray).size = 5 := rfl
theorem sz_end : (⟨#[10, 101, 110, 100, 10]⟩ : ByteArray).size = 5 := rfl
theorem decB {n : Int} (h : okB n) : PC 64 [.i n] (fun s : ByteArray => s.size ≤ 10) tS := dec_ok 9 n ⟨h.1, by have := h.2; omega, by have := h.2; omega⟩ (by omega)
/- loop.example/teagle/spec.LogPlanWrite -/
def r61_0 : List AOper := [ao 0 1 (.box 96 (.t 0)),
  ao 1 2 (.mv (.k (.s (.string ⟨#[]⟩))))]
def r61_1 : List AOper := [ao 0 6 (.ld 3 true (.t 1)),
  ao 1 7 (.call (.k (.c (.fn 67 []))) [(.t 6)]),
  ao 2 8 (.un .not (.t 7))]
def r61_2 : List AOper := [ao 0 2 (.mv (.k (.s (.string ⟨#[]⟩))))]
def c61_3 : ACode := .seq (.reg r61_2) .ret
def c61_4 : ACode := .cond (.t 8) c61_3 .skip
def c61_5 : ACode := .seq (.reg r61_1) c61_4
def r61_6 : List AOper := [ao 0 3 (.mv (.k (.s (.string ⟨#[]⟩))))]
def r61_7 : List AOper := [ao 0 4 (.mv (.k (.i 0)))]
def r61_8 : List AOper := [ao 0 9 (.mv (.t 4)),
  ao 1 10 (.fa 0 (.t 1)),
  ao 2 11 (.ld 1 false (.t 10)),
  ao 3 12 (.len (.t 11)),
  ao 4 13 (.bin .lss (.t 9) (.t 12))]
def c61_9 : ACode := .cond (.t 13) .skip (.exit 0)
def c61_10 : ACode := .seq (.reg r61_8) c61_9
def r61_11 : List AOper := [ao 0 16 (.fa 0 (.t 1)),
  ao 1 17 (.ld 1 false (.t 16)),
  ao 2 18 (.mv (.t 4)),
  ao 3 19 (.ia 4 (.t 17) (.t 18)),
  ao 4 20 (.ld 4 true (.t 19)),
  ao 5 5 (.alloc 112 [(.v (.s (.int .i64 0))), (.v (.s (.int .i64 0))), (.v (.s (.int .i64 0))), (.v (.s (.int .i64 0)))]),
  an 6 (.st 4 (.t 5) (.t 20))]
def r61_12 : List AOper := [ao 0 21 (.mv (.t 3)),
  ao 1 22 (.bin .add (.t 21) (.k (.s (.string ⟨#[115, 101, 97, 108, 32]⟩)))),
  au 2 23 [0, 1] (.fa 0 (.t 5)),
  au 3 24 [0, 1] (.ld 1 false (.t 23)),
  au 4 25 [0, 1] (.call (.k (.c (.fn 64 []))) [(.t 24)]),
  ao 5 26 (.bin .add (.t 22) (.t 25)),
  ao 6 27 (.bin .add (.t 26) (.k (.s (.string ⟨#[32]⟩)))),
  au 7 28 (ru 7) (.fa 1 (.t 5)),
  au 8 29 (ru 7) (.ld 1 false (.t 28)),
  au 9 30 [0, 1, 5, 6] (.call (.k (.c (.fn 64 []))) [(.t 29)]),
  ao 10 31 (.bin .add (.t 27) (.t 30)),
  ao 11 32 (.bin .add (.t 31) (.k (.s (.string ⟨#[32]⟩)))),
  au 12 33 (ru 12) (.fa 2 (.t 5)),
  au 13 34 (ru 12) (.ld 1 false (.t 33)),
  au 14 35 [0, 1, 5, 6, 10, 11] (.call (.k (.c (.fn 64 []))) [(.t 34)]),
  ao 15 36 (.bin .add (.t 32) (.t 35)),
  ao 16 37 (.bin .add (.t 36) (.k (.s (.string ⟨#[32]⟩)))),
  au 17 38 (ru 17) (.fa 3 (.t 5)),
  au 18 39 (ru 17) (.ld 1 false (.t 38)),
  au 19 40 [0, 1, 5, 6, 10, 11, 15, 16] (.call (.k (.c (.fn 64 []))) [(.t 39)]),
  ao 20 41 (.bin .add (.t 37) (.t 40)),
  ao 21 42 (.bin .add (.t 41) (.k (.s (.string ⟨#[10]⟩)))),
  ao 22 3 (.mv (.t 42))]
def c61_13 : ACode := .seq (.reg r61_11) (.reg r61_12)
def c61_14 : ACode := .block 1 c61_13
def r61_15 : List AOper := [ao 0 14 (.mv (.t 4)),
  ao 1 15 (.bin .add (.t 14) (.k (.i 1))),
  ao 2 4 (.mv (.t 15))]
def c61_16 : ACode := .seq c61_10 (.seq c61_14 (.reg r61_15))
def c61_17 : ACode := .loop c61_16
def c61_18 : ACode := .block 0 c61_17
def c61_19 : ACode := .seq (.reg r61_7) c61_18
def r61_20 : List AOper := [ao 0 43 (.mv (.t 3)),
  ao 1 44 (.bin .add (.t 43) (.k (.s (.string ⟨#[111, 112, 101, 110, 32]⟩)))),
  au 2 45 [0, 1] (.fa 1 (.t 1)),
  au 3 46 [0, 1] (.ld 1 false (.t 45)),
  au 4 47 [0, 1] (.call (.k (.c (.fn 64 []))) [(.t 46)]),
  ao 5 48 (.bin .add (.t 44) (.t 47)),
  ao 6 49 (.bin .add (.t 48) (.k (.s (.string ⟨#[32]⟩)))),
  au 7 50 (ru 7) (.fa 2 (.t 1)),
  au 8 51 (ru 7) (.ld 1 false (.t 50)),
  au 9 52 [0, 1, 5, 6] (.call (.k (.c (.fn 64 []))) [(.t 51)]),
  ao 10 53 (.bin .add (.t 49) (.t 52)),
  ao 11 54 (.bin .add (.t 53) (.k (.s (.string ⟨#[10, 101, 110, 100, 10]⟩)))),
  ao 12 2 (.mv (.t 54))]
def c61 : ACode := .seq (.reg r61_0) (.seq c61_5 (.seq (.reg r61_6) (.seq c61_19 (.seq (.reg r61_20) .ret))))
def s61 : List ARes := [.tmp 2]
theorem ok61 : okF Try.prog 61 55 c61 s61 := ⟨Try.f61, Try.func61, Try.ntmps61, by kernel_rfl, by kernel_rfl, by kernel_rfl⟩
def inv61 (p : Pl) (i : Nat) (σ : St) : Prop := ∃ (o : ByteArray), o.size ≤ 50 * i ∧ (∃ u, σ.t 1 = .c (.ptr 1 u 0) ∧ σ.H 1 = some (.var u 96 (cPl p))) ∧ σ.t 3 = tS o ∧ σ.t 4 = .i i
def URg_1 := Bx.mk <|
  aN (uA c61.eq_1) <| aN (uR r61_0.eq_1) <| aN (uA c61_5.eq_1) <| aN (uR r61_1.eq_1) <| aN (uA c61_4.eq_1) <| aN (uA c61_3.eq_1) <| aN (uR r61_2.eq_1) <| aN (uR r61_6.eq_1) <| aN (uA c61_19.eq_1) <| aN (uR r61_7.eq_1) <| aN (uA c61_18.eq_1) <| aN (uA c61_17.eq_1) <| aN (uR r61_20.eq_1) <| s61.eq_1
def URg_2 := Bx.mk <|
  aN (uA c61_16.eq_1) <| aN (uA c61_10.eq_1) <| aN (uR r61_8.eq_1) <| aN (uA c61_9.eq_1) <| aN (uA c61_14.eq_1) <| aN (uA c61_13.eq_1) <| aN (uR r61_11.eq_1) <| aN (uR r61_12.eq_1) <| aN (uR r61_15.eq_1) <| aN (uA c61.eq_1) <| aN (uR r61_0.eq_1) <| aN (uA c61_5.eq_1) <| aN (uR r61_1.eq_1) <| aN (uA c61_4.eq_1) <| aN (uA c61_3.eq_1) <| aN (uR r61_2.eq_1) <| aN (uR r61_6.eq_1) <| aN (uA c61_19.eq_1) <| aN (uR r61_7.eq_1) <| aN (uA c61_18.eq_1) <| aN (uA c61_17.eq_1) <| aN (uR r61_20.eq_1) <| s61.eq_1
set_option maxHeartbeats 1000000 in
theorem planWrite_ok (p : Pl) (hp : okPl p) : PC 61 [tPl p] (fun s : ByteArray => s.size ≤ 6000) tS := by
  have hl := hp.len
  obtain ⟨b, -, hC⟩ := planOk_ok p hp
  refine PC.intro ok61 rfl (fun _ => rfl) fun X => ?_
  simp only [RUX, Nat.reduceAdd, reduceIte, Nat.reduceEqDiff, Nat.reduceLT, Nat.reduceLeDiff, reduceCtorEq, eq_self, FIX, forall_const, endE_n, endE_r, CHT, disj, Nat.reduceBEq, beq_self_eq_true, APT, APX, forall_eq, ALT, ALU, URg_1.d]
  refine callC hC rfl rfl rfl rfl ?_
  cases b with
  | false =>
    simp only [RUX, Nat.reduceAdd, reduceIte, Nat.reduceEqDiff, Nat.reduceLT, Nat.reduceLeDiff, reduceCtorEq, eq_self, FIX, forall_const, endE_n, endE_r, CHT, disj, Nat.reduceBEq, beq_self_eq_true, APT, APX, forall_eq, ALT, ALU, URg_1.d]
    refine ES.mk ⟨#[]⟩ (Nat.zero_le _) ?_
    simp only [RUX, Nat.reduceAdd, reduceIte, Nat.reduceEqDiff, Nat.reduceLT, Nat.reduceLeDiff, reduceCtorEq, eq_self, FIX, forall_const, endE_n, endE_r, CHT, disj, Nat.reduceBEq, beq_self_eq_true, APT, APX, forall_eq, ALT, ALU, URg_1.d]
  | true =>
  simp only [RUX, Nat.reduceAdd, reduceIte, Nat.reduceEqDiff, Nat.reduceLT, Nat.reduceLeDiff, reduceCtorEq, eq_self, FIX, forall_const, endE_n, endE_r, CHT, disj, Nat.reduceBEq, beq_self_eq_true, APT, APX, forall_eq, ALT, ALU, URg_1.d]
  refine AW.upto p.parts.length (inv61 p) ⟨⟨#[]⟩, Nat.le_refl _, ⟨_, rfl, rfl⟩, rfl, rfl⟩ fun i t H c hi h => ?_
  obtain ⟨o, ho, ⟨u, e1, eH⟩, e3, e4⟩ := h
  simp only [T.c, T.i, T.s] at e1 eH e3 e4
  by_cases k1 : (i : Int) < p.parts.length
  · obtain ⟨x, hx⟩ : ∃ x, p.parts[i]? = some x := ⟨_, List.getElem?_eq_getElem (by omega)⟩
    have ex := en_at eP hx
    obtain ⟨x1, x2, x3, x4⟩ := hp.part x (List.mem_of_getElem? hx)
    have gz : (0 : Int) ≤ i := by omega
    have w2 : IntKind.i64.wrap ((i : Int) + 1) = ((i + 1 : Nat) : Int) := wrap64 (x := (i : Int) + 1) ⟨by omega, by omega⟩
    obtain ⟨s1, z1, C1⟩ := decB x1
    obtain ⟨s2, z2, C2⟩ := decB x2
    obtain ⟨s3, z3, C3⟩ := decB x3
    obtain ⟨s4, z4, C4⟩ := decB x4
    have q0 : (o).size + (⟨#[115, 101, 97, 108, 32]⟩ : ByteArray).size ≤ 9223372036854775807 := by simp only [ByteArray.size_append, sz_seal, sz_sp, sz_nl, sz_open, sz_end]; omega
    have q1 : (o ++ (⟨#[115, 101, 97, 108, 32]⟩ : ByteArray)).size + s1.size ≤ 9223372036854775807 := by simp only [ByteArray.size_append, sz_seal, sz_sp, sz_nl, sz_open, sz_end]; omega
    have q2 : (o ++ (⟨#[115, 101, 97, 108, 32]⟩ : ByteArray) ++ s1).size + (⟨#[32]⟩ : ByteArray).size ≤ 9223372036854775807 := by simp only [ByteArray.size_append, sz_seal, sz_sp, sz_nl, sz_open, sz_end]; omega
    have q3 : (o ++ (⟨#[115, 101, 97, 108, 32]⟩ : ByteArray) ++ s1 ++ (⟨#[32]⟩ : ByteArray)).size + s2.size ≤ 9223372036854775807 := by simp only [ByteArray.size_append, sz_seal, sz_sp, sz_nl, sz_open, sz_end]; omega
    have q4 : (o ++ (⟨#[115, 101, 97, 108, 32]⟩ : ByteArray) ++ s1 ++ (⟨#[32]⟩ : ByteArray) ++ s2).size + (⟨#[32]⟩ : ByteArray).size ≤ 9223372036854775807 := by simp only [ByteArray.size_append, sz_seal, sz_sp, sz_nl, sz_open, sz_end]; omega
    have q5 : (o ++ (⟨#[115, 101, 97, 108, 32]⟩ : ByteArray) ++ s1 ++ (⟨#[32]⟩ : ByteArray) ++ s2 ++ (⟨#[32]⟩ : ByteArray)).size + s3.size ≤ 9223372036854775807 := by simp only [ByteArray.size_append, sz_seal, sz_sp, sz_nl, sz_open, sz_end]; omega
    have q6 : (o ++ (⟨#[115, 101, 97, 108, 32]⟩ : ByteArray) ++ s1 ++ (⟨#[32]⟩ : ByteArray) ++ s2 ++ (⟨#[32]⟩ : ByteArray) ++ s3).size + (⟨#[32]⟩ : ByteArray).size ≤ 9223372036854775807 := by simp only [ByteArray.size_append, sz_seal, sz_sp, sz_nl, sz_open, sz_end]; omega
    have q7 : (o ++ (⟨#[115, 101, 97, 108, 32]⟩ : ByteArray) ++ s1 ++ (⟨#[32]⟩ : ByteArray) ++ s2 ++ (⟨#[32]⟩ : ByteArray) ++ s3 ++ (⟨#[32]⟩ : ByteArray)).size + s4.size ≤ 9223372036854775807 := by simp only [ByteArray.size_append, sz_seal, sz_sp, sz_nl, sz_open, sz_end]; omega
    have q8 : (o ++ (⟨#[115, 101, 97, 108, 32]⟩ : ByteArray) ++ s1 ++ (⟨#[32]⟩ : ByteArray) ++ s2 ++ (⟨#[32]⟩ : ByteArray) ++ s3 ++ (⟨#[32]⟩ : ByteArray) ++ s4).size + (⟨#[10]⟩ : ByteArray).size ≤ 9223372036854775807 := by simp only [ByteArray.size_append, sz_seal, sz_sp, sz_nl, sz_open, sz_end]; omega
    simp only [RUX, Nat.reduceAdd, reduceIte, Nat.reduceEqDiff, Nat.reduceLT, Nat.reduceLeDiff, reduceCtorEq, eq_self, FIX, forall_const, endE_n, endE_r, CHT, disj, Nat.reduceBEq, beq_self_eq_true, APT, APX, forall_eq, ALT, ALU, URg_2.d, e1, eH, e3, e4, en_len, k1, ex, gz, Int.toNat_natCast, eP, sStr, w2, q0, q1, q2, q3, q4, q5, q6, q7, q8]
    refine callC C1 rfl rfl rfl rfl ?_
    simp only [RUX, Nat.reduceAdd, reduceIte, Nat.reduceEqDiff, Nat.reduceLT, Nat.reduceLeDiff, reduceCtorEq, eq_self, FIX, forall_const, endE_n, endE_r, CHT, disj, Nat.reduceBEq, beq_self_eq_true, APT, APX, forall_eq, ALT, ALU, URg_2.d, e1, eH, e3, e4, en_len, k1, ex, gz, Int.toNat_natCast, eP, sStr, w2, q0, q1, q2, q3, q4, q5, q6, q7, q8]
    refine callC C2 rfl rfl rfl rfl ?_
    simp only [RUX, Nat.reduceAdd, reduceIte, Nat.reduceEqDiff, Nat.reduceLT, Nat.reduceLeDiff, reduceCtorEq, eq_self, FIX, forall_const, endE_n, endE_r, CHT, disj, Nat.reduceBEq, beq_self_eq_true, APT, APX, forall_eq, ALT, ALU, URg_2.d, e1, eH, e3, e4, en_len, k1, ex, gz, Int.toNat_natCast, eP, sStr, w2, q0, q1, q2, q3, q4, q5, q6, q7, q8]
    refine callC C3 rfl rfl rfl rfl ?_
    simp only [RUX, Nat.reduceAdd, reduceIte, Nat.reduceEqDiff, Nat.reduceLT, Nat.reduceLeDiff, reduceCtorEq, eq_self, FIX, forall_const, endE_n, endE_r, CHT, disj, Nat.reduceBEq, beq_self_eq_true, APT, APX, forall_eq, ALT, ALU, URg_2.d, e1, eH, e3, e4, en_len, k1, ex, gz, Int.toNat_natCast, eP, sStr, w2, q0, q1, q2, q3, q4, q5, q6, q7, q8]
    refine callC C4 rfl rfl rfl rfl ?_
    simp only [RUX, Nat.reduceAdd, reduceIte, Nat.reduceEqDiff, Nat.reduceLT, Nat.reduceLeDiff, reduceCtorEq, eq_self, FIX, forall_const, endE_n, endE_r, CHT, disj, Nat.reduceBEq, beq_self_eq_true, APT, APX, forall_eq, ALT, ALU, URg_2.d, e1, eH, e3, e4, en_len, k1, ex, gz, Int.toNat_natCast, eP, sStr, w2, q0, q1, q2, q3, q4, q5, q6, q7, q8]
    refine ⟨by omega, _, ?_, ⟨u, e1, eH⟩, rfl, rfl⟩
    simp only [ByteArray.size_append, sz_seal, sz_sp, sz_nl, sz_open, sz_end]; omega
  · obtain ⟨s1, z1, C1⟩ := decB hp.opn
    obtain ⟨s2, z2, C2⟩ := decB hp.first
    have q0 : (o).size + (⟨#[111, 112, 101, 110, 32]⟩ : ByteArray).size ≤ 9223372036854775807 := by simp only [ByteArray.size_append, sz_seal, sz_sp, sz_nl, sz_open, sz_end]; omega
    have q1 : (o ++ (⟨#[111, 112, 101, 110, 32]⟩ : ByteArray)).size + s1.size ≤ 9223372036854775807 := by simp only [ByteArray.size_append, sz_seal, sz_sp, sz_nl, sz_open, sz_end]; omega
    have q2 : (o ++ (⟨#[111, 112, 101, 110, 32]⟩ : ByteArray) ++ s1).size + (⟨#[32]⟩ : ByteArray).size ≤ 9223372036854775807 := by simp only [ByteArray.size_append, sz_seal, sz_sp, sz_nl, sz_open, sz_end]; omega
    have q3 : (o ++ (⟨#[111, 112, 101, 110, 32]⟩ : ByteArray) ++ s1 ++ (⟨#[32]⟩ : ByteArray)).size + s2.size ≤ 9223372036854775807 := by simp only [ByteArray.size_append, sz_seal, sz_sp, sz_nl, sz_open, sz_end]; omega
    have q4 : (o ++ (⟨#[111, 112, 101, 110, 32]⟩ : ByteArray) ++ s1 ++ (⟨#[32]⟩ : ByteArray) ++ s2).size + (⟨#[10, 101, 110, 100, 10]⟩ : ByteArray).size ≤ 9223372036854775807 := by simp only [ByteArray.size_append, sz_seal, sz_sp, sz_nl, sz_open, sz_end]; omega
    simp only [RUX, Nat.reduceAdd, reduceIte, Nat.reduceEqDiff, Nat.reduceLT, Nat.reduceLeDiff, reduceCtorEq, eq_self, FIX, forall_const, endE_n, endE_r, CHT, disj, Nat.reduceBEq, beq_self_eq_true, APT, APX, forall_eq, ALT, ALU, URg_2.d, URg_1.d, e1, eH, e3, e4, en_len, k1, sStr, q0, q1, q2, q3, q4]
    refine callC C1 rfl rfl rfl rfl ?_
    simp only [RUX, Nat.reduceAdd, reduceIte, Nat.reduceEqDiff, Nat.reduceLT, Nat.reduceLeDiff, reduceCtorEq, eq_self, FIX, forall_const, endE_n, endE_r, CHT, disj, Nat.reduceBEq, beq_self_eq_true, APT, APX, forall_eq, ALT, ALU, URg_2.d, URg_1.d, e1, eH, e3, e4, en_len, k1, sStr, q0, q1, q2, q3, q4]
    refine callC C2 rfl rfl rfl rfl ?_
    simp only [RUX, Nat.reduceAdd, reduceIte, Nat.reduceEqDiff, Nat.reduceLT, Nat.reduceLeDiff, reduceCtorEq, eq_self, FIX, forall_const, endE_n, endE_r, CHT, disj, Nat.reduceBEq, beq_self_eq_true, APT, APX, forall_eq, ALT, ALU, URg_2.d, URg_1.d, e1, eH, e3, e4, en_len, k1, sStr, q0, q1, q2, q3, q4]
    refine ES.mk (o ++ (⟨#[111, 112, 101, 110, 32]⟩ : ByteArray) ++ s1 ++ (⟨#[32]⟩ : ByteArray) ++ s2 ++ (⟨#[10, 101, 110, 100, 10]⟩ : ByteArray)) (show ByteArray.size _ ≤ _ from ?_) ?_
    · simp only [ByteArray.size_append, sz_seal, sz_sp, sz_nl, sz_open, sz_end]; omega
    · simp only [RUX, Nat.reduceAdd, reduceIte, Nat.reduceEqDiff, Nat.reduceLT, Nat.reduceLeDiff, reduceCtorEq, eq_self, FIX, forall_const, endE_n, endE_r, CHT, disj, Nat.reduceBEq, beq_self_eq_true, APT, APX, forall_eq, ALT, ALU, URg_1.d]
end Go.V
set_option linter.unusedSimpArgs false
namespace Go.V
open Go.Proofs
theorem en_cons2 {α : Type} (f : α → List V) (x : α) (xs : List α) : en f (x :: xs) = f x :: en f xs := rfl
theorem okN.b {x : Int} (h : okN x) : okB x := ⟨h.1, by have := h.2; omega⟩
theorem two {α : Type} {xs : List α} (h : xs.length = 2) : ∃ a b, xs = [a, b] := by match xs, h with | [a, b], _ => exact ⟨a, b, rfl⟩
theorem four {α : Type} {xs : List α} (h : xs.length = 4) : ∃ a b c d, xs = [a, b, c, d] := by match xs, h with | [a, b, c, d], _ => exact ⟨a, b, c, d, rfl⟩
abbrev tPlB (p : Pl) (b : Bool) : T := .tup [.agg (cPl p), .one (.v (.s (.bool b)))]
def zPl : Pl := ⟨[], 0, 0⟩
theorem zPl_ok : okPl zPl := ⟨Nat.zero_le _, (fun x h => by cases h), ⟨Int.le_refl _, by decide⟩, ⟨Int.le_refl _, by decide⟩⟩
def okPl2 (p : Pl) : Prop := okPl p ∧ p.first ≤ 10000000
theorem zPl_ok2 : okPl2 zPl := ⟨zPl_ok, by decide⟩
/- loop.example/teagle/spec.LogPlanRead -/
def r78_0 : List AOper := [ao 0 2 (.alloc 96 [.nil0, (.v (.s (.int .i64 0))), (.v (.s (.int .i64 0)))]),
  ao 1 3 (.mv (.k (.b false)))]
def r78_1 : List AOper := [ao 0 10 (.build [.nil0, (.v (.s (.int .i64 0))), (.v (.s (.int .i64 0)))] []),
  ao 1 4 (.alloc 96 [.nil0, (.v (.s (.int .i64 0))), (.v (.s (.int .i64 0)))]),
  an 2 (.st 3 (.t 4) (.t 10))]
def r78_2 : List AOper := [ao 0 5 (.mv (.k (.i 0)))]
def r78_3 : List AOper := [ao 0 11 (.mv (.t 5)),
  ao 1 12 (.bin .add (.t 11) (.k (.i 5))),
  ao 2 13 (.mv (.t 0)),
  ao 3 14 (.lenS (.t 13)),
  ao 4 15 (.bin .leq (.t 12) (.t 14)),
  ao 5 16 (.mv (.t 15)),
  ag 6 17 16 true [] (.mv (.t 0)),
  ag 7 18 16 true [] (.mv (.t 5)),
  ag 8 19 16 true [] (.mv (.t 5)),
  ag 9 20 16 true [] (.bin .add (.t 19) (.k (.i 5))),
  ag 10 21 16 true [] (.slcS (.t 17) (some (.t 18)) (some (.t 20))),
  ag 11 22 16 true [] (.bin .eql (.t 21) (.k (.s (.string ⟨#[115, 101, 97, 108, 32]⟩)))),
  ao 12 23 (.pick (.t 16) (.t 22) (.k (.b false))),
  ao 13 24 (.mv (.t 23)),
  ag 14 25 24 true [] (.fa 0 (.t 4)),
  ag 15 26 24 true [] (.ld 1 false (.t 25)),
  ag 16 27 24 true [] (.len (.t 26)),
  ag 17 28 24 true [] (.bin .leq (.t 27) (.k (.i 40))),
  ao 18 29 (.pick (.t 24) (.t 28) (.k (.b false)))]
def c78_4 : ACode := .cond (.t 29) .skip (.exit 0)
def c78_5 : ACode := .seq (.reg r78_3) c78_4
def r78_6 : List AOper := [ao 0 31 (.mv (.t 0)),
  ao 1 32 (.mv (.t 5)),
  ao 2 33 (.bin .add (.t 32) (.k (.i 5))),
  ao 3 34 (.call (.k (.c (.fn 83 []))) [(.t 31), (.t 33), (.k (.i 4))]),
  ao 4 30 (.mv (.t 34)),
  ao 5 35 (.ext 0 (.t 30)),
  ao 6 36 (.ext 1 (.t 30)),
  ao 7 6 (.mv (.t 35)),
  ao 8 7 (.mv (.t 36))]
def r78_7 : List AOper := [ao 0 37 (.fa 0 (.t 4)),
  ao 1 38 (.ld 1 false (.t 37)),
  au 2 39 [0, 1] (.mv (.t 6)),
  au 3 40 [0, 1] (.ia 1 (.t 39) (.k (.i 0))),
  au 4 41 [0, 1] (.ld 1 false (.t 40)),
  au 5 42 (ru 5) (.mv (.t 6)),
  au 6 43 (ru 5) (.ia 1 (.t 42) (.k (.i 1))),
  au 7 44 (ru 5) (.ld 1 false (.t 43)),
  au 8 45 (ru 8) (.mv (.t 6)),
  au 9 46 (ru 8) (.ia 1 (.t 45) (.k (.i 2))),
  au 10 47 (ru 8) (.ld 1 false (.t 46)),
  au 11 48 (ru 11) (.mv (.t 6)),
  au 12 49 (ru 11) (.ia 1 (.t 48) (.k (.i 3))),
  au 13 50 (ru 11) (.ld 1 false (.t 49)),
  au 14 51 [0, 1] (.build [(.v (.s (.int .i64 0))), (.v (.s (.int .i64 0))), (.v (.s (.int .i64 0))), (.v (.s (.int .i64 0)))] [(0, 1, (.t 41)), (1, 1, (.t 44)), (2, 1, (.t 47)), (3, 1, (.t 50))]),
  au 15 52 [0, 1] (.bsl 4 112 [(.t 51)]),
  ao 16 53 (.app 4 112 32 (.t 38) (.t 52)),
  ao 17 54 (.fa 0 (.t 4)),
  an 18 (.st 1 (.t 54) (.t 53))]
def r78_8 : List AOper := [ao 0 55 (.mv (.t 7)),
  ao 1 5 (.mv (.t 55))]
def c78_9 : ACode := .seq (.reg r78_6) (.seq (.reg r78_7) (.reg r78_8))
def c78_10 : ACode := .block 1 c78_9
def c78_11 : ACode := .seq c78_5 c78_10
def c78_12 : ACode := .loop c78_11
def c78_13 : ACode := .block 0 c78_12
def r78_14 : List AOper := [ao 0 56 (.mv (.t 5)),
  ao 1 57 (.bin .add (.t 56) (.k (.i 5))),
  ao 2 58 (.mv (.t 0)),
  ao 3 59 (.lenS (.t 58)),
  ao 4 60 (.bin .gtr (.t 57) (.t 59))]
def r78_15 : List AOper := [ao 0 61 (.build [.nil0, (.v (.s (.int .i64 0))), (.v (.s (.int .i64 0)))] []),
  an 1 (.st 3 (.t 2) (.t 61)),
  ao 2 3 (.mv (.k (.b false)))]
def c78_16 : ACode := .seq (.reg r78_15) .ret
def c78_17 : ACode := .cond (.t 60) c78_16 .skip
def c78_18 : ACode := .seq (.reg r78_14) c78_17
def r78_19 : List AOper := [ao 0 63 (.mv (.t 0)),
  ao 1 64 (.mv (.t 5)),
  ao 2 65 (.bin .add (.t 64) (.k (.i 5))),
  ao 3 66 (.call (.k (.c (.fn 83 []))) [(.t 63), (.t 65), (.k (.i 2))]),
  ao 4 62 (.mv (.t 66)),
  ao 5 67 (.ext 0 (.t 62)),
  ao 6 68 (.ext 1 (.t 62)),
  ao 7 8 (.mv (.t 67)),
  ao 8 9 (.mv (.t 68))]
def r78_20 : List AOper := [ao 0 69 (.mv (.t 8)),
  ao 1 70 (.ia 1 (.t 69) (.k (.i 0))),
  ao 2 71 (.ld 1 false (.t 70)),
  ao 3 72 (.fa 1 (.t 4)),
  an 4 (.st 1 (.t 72) (.t 71))]
def r78_21 : List AOper := [ao 0 73 (.mv (.t 8)),
  ao 1 74 (.ia 1 (.t 73) (.k (.i 1))),
  ao 2 75 (.ld 1 false (.t 74)),
  ao 3 76 (.fa 2 (.t 4)),
  an 4 (.st 1 (.t 76) (.t 75))]
def r78_22 : List AOper := [ao 0 77 (.ld 3 true (.t 4)),
  ao 1 78 (.call (.k (.c (.fn 61 []))) [(.t 77)]),
  ao 2 79 (.mv (.t 0)),
  ao 3 80 (.bin .neq (.t 78) (.t 79))]
def r78_23 : List AOper := [ao 0 81 (.build [.nil0, (.v (.s (.int .i64 0))), (.v (.s (.int .i64 0)))] []),
  an 1 (.st 3 (.t 2) (.t 81)),
  ao 2 3 (.mv (.k (.b false)))]
def c78_24 : ACode := .seq (.reg r78_23) .ret
def c78_25 : ACode := .cond (.t 80) c78_24 .skip
def c78_26 : ACode := .seq (.reg r78_22) c78_25
def r78_27 : List AOper := [ao 0 82 (.ld 3 true (.t 4)),
  an 1 (.st 3 (.t 2) (.t 82)),
  ao 2 3 (.mv (.k (.b true)))]
def c78 : ACode := .seq (.reg r78_0) (.seq (.reg r78_1) (.seq (.reg r78_2) (.seq c78_13 (.seq c78_18 (.seq (.reg r78_19) (.seq (.reg r78_20) (.seq (.reg r78_21) (.seq c78_26 (.seq (.reg r78_27) .ret)))))))))
def s78 : List ARes := [.cell 2 3 true, .tmp 3]
theorem ok78 : okF Try.prog 78 83 c78 s78 := ⟨Try.f78, Try.func78, Try.ntmps78, by kernel_rfl, by kernel_rfl, by kernel_rfl⟩
def St78 (s : ByteArray) (parts : List LP) (a : Nat) (σ : St) : Prop := parts.length ≤ 41 ∧ (∀ x ∈ parts, okP x) ∧ a ≤ 40 * parts.length ∧ σ.t 0 = tS s ∧ σ.t 5 = .i a ∧ (∃ u v, σ.t 4 = .c (.ptr 4 u 0) ∧ σ.H 4 = some (.var u 96 [.own 1053 v parts.length, .v (.s (.int .i64 0)), .v (.s (.int .i64 0))]) ∧ σ.H 1053 = some (.arr v true 4 112 (en eP parts))) ∧ (∃ u, σ.t 2 = .c (.ptr 2 u 0) ∧ σ.H 2 = some (.var u 96 [.nil0, .v (.s (.int .i64 0)), .v (.s (.int .i64 0))]))
def inv78 (s : ByteArray) (i : Nat) (σ : St) : Prop := ∃ (parts : List LP) (a : Nat), parts.length = i ∧ St78 s parts a σ
abbrev E78 : Exit → St → Prop := endE (fun x : Pl × Bool => okPl2 x.1) (fun x => tPlB x.1 x.2) (fun _ => []) s78
def URh_1 := Bx.mk <|
  aN (uA c78.eq_1) <| aN (uR r78_0.eq_1) <| aN (uR r78_1.eq_1) <| aN (uR r78_2.eq_1) <| aN (uA c78_13.eq_1) <| aN (uA c78_12.eq_1) <| aN (uA c78_18.eq_1) <| aN (uR r78_14.eq_1) <| aN (uA c78_17.eq_1) <| aN (uA c78_16.eq_1) <| aN (uR r78_15.eq_1) <| aN (uR r78_19.eq_1) <| aN (uR r78_20.eq_1) <| aN (uR r78_21.eq_1) <| aN (uA c78_26.eq_1) <| aN (uR r78_22.eq_1) <| aN (uA c78_25.eq_1) <| aN (uA c78_24.eq_1) <| aN (uR r78_23.eq_1) <| aN (uR r78_27.eq_1) <| s78.eq_1
def URh_2 := Bx.mk <|
  aN (uA c78_11.eq_1) <| aN (uA c78_5.eq_1) <| aN (uR r78_3.eq_1) <| aN (uA c78_4.eq_1) <| aN (uA c78_10.eq_1) <| aN (uA c78_9.eq_1) <| aN (uR r78_6.eq_1) <| aN (uR r78_7.eq_1) <| aN (uR r78_8.eq_1) <| aN (uA c78.eq_1) <| aN (uR r78_0.eq_1) <| aN (uR r78_1.eq_1) <| aN (uR r78_2.eq_1) <| aN (uA c78_13.eq_1) <| aN (uA c78_12.eq_1) <| s78.eq_1
set_option maxHeartbeats 1000000 in
theorem planRead_ok (s : ByteArray) (hs : s.size ≤ 1000000) : PC 78 [tS s] (fun x : Pl × Bool => okPl2 x.1) (fun x => tPlB x.1 x.2) := by
  refine PC.intro ok78 rfl (fun _ => rfl) fun X => ?_
  have hend : ∀ t H c parts a, St78 s parts a ⟨t, H, c⟩ → wpa Try.prog X (.seq c78_18 (.seq (.reg r78_19) (.seq (.reg r78_20) (.seq (.reg r78_21) (.seq c78_26 (.seq (.reg r78_27) .ret)))))) E78 ⟨t, H, c⟩ := by
    intro t H c parts a ⟨h1, h2, h3, e0, e5, ⟨u, v, e4, eH4, eHp⟩, ⟨u2, e2, eH2⟩⟩
    simp only [T.c, T.i, T.s] at e0 e5 e4 eH4 eHp e2 eH2
    have w1 : IntKind.i64.wrap ((a : Int) + 5) = ((a + 5 : Nat) : Int) := wrap64 (x := (a : Int) + 5) ⟨by omega, by omega⟩
    by_cases g1 : ((a + 5 : Nat) : Int) > s.size
    · simp only [RUX, Nat.reduceAdd, reduceIte, Nat.reduceEqDiff, Nat.reduceLT, Nat.reduceLeDiff, reduceCtorEq, eq_self, FIX, forall_const, endE_n, endE_r, CHT, disj, Nat.reduceBEq, beq_self_eq_true, APT, APX, forall_eq, ALT, ALU, URh_1.d, e0, e5, e4, eH4, eHp, e2, eH2, w1, g1]
      refine ES.mk (zPl, false) zPl_ok2 ?_
      simp only [RUX, Nat.reduceAdd, reduceIte, Nat.reduceEqDiff, Nat.reduceLT, Nat.reduceLeDiff, reduceCtorEq, eq_self, FIX, forall_const, endE_n, endE_r, CHT, disj, Nat.reduceBEq, beq_self_eq_true, APT, APX, forall_eq, ALT, ALU, URh_1.d, zPl, e2]
    obtain ⟨⟨xs, q⟩, ⟨m1, m2, m3, m4⟩, C1⟩ := nums42_ok s (a + 5) 2 (by omega) (by omega) (by omega)
    obtain ⟨x0, x1, rfl⟩ := two m1
    have y0 := m2 x0 (by simp)
    have y1 := m2 x1 (by simp)
    obtain ⟨w, hw, C2⟩ := planWrite_ok ⟨parts, x0, x1⟩ ⟨by simp only; omega, h2, y0.b, y1.b⟩
    have ht1 : (en eP parts).take parts.length = en eP parts := en_take eP parts
    simp only [RUX, Nat.reduceAdd, reduceIte, Nat.reduceEqDiff, Nat.reduceLT, Nat.reduceLeDiff, reduceCtorEq, eq_self, FIX, forall_const, endE_n, endE_r, CHT, disj, Nat.reduceBEq, beq_self_eq_true, APT, APX, forall_eq, ALT, ALU, URh_1.d, e0, e5, e4, eH4, eHp, e2, eH2, w1, g1]
    refine callC C1 rfl rfl rfl rfl ?_
    simp only [RUX, Nat.reduceAdd, reduceIte, Nat.reduceEqDiff, Nat.reduceLT, Nat.reduceLeDiff, reduceCtorEq, eq_self, FIX, forall_const, endE_n, endE_r, CHT, disj, Nat.reduceBEq, beq_self_eq_true, APT, APX, forall_eq, ALT, ALU, URh_1.d, e0, e5, e4, eH4, eHp, e2, eH2, w1, g1, en, List.map_cons, List.map_nil, eI, Int.reduceToNat, Int.le_refl, Int.reduceLE]
    refine callL (ws := [(1053, .arr v false 4 112 (en eP parts))]) (ns := [1053]) C2 rfl ?_ rfl rfl ?_
    · simp only [RUX, Nat.reduceAdd, reduceIte, Nat.reduceEqDiff, Nat.reduceLT, Nat.reduceLeDiff, reduceCtorEq, eq_self, FIX, forall_const, endE_n, endE_r, CHT, disj, Nat.reduceBEq, beq_self_eq_true, APT, APX, forall_eq, ALT, ALU, URh_1.d, lendTs, lendT, eHp, ht1]
    by_cases g2 : (w.toList == s.toList) = true
    · simp only [RUX, Nat.reduceAdd, reduceIte, Nat.reduceEqDiff, Nat.reduceLT, Nat.reduceLeDiff, reduceCtorEq, eq_self, FIX, forall_const, endE_n, endE_r, CHT, disj, Nat.reduceBEq, beq_self_eq_true, APT, APX, forall_eq, ALT, ALU, URh_1.d, e0, e4, eHp, e2, eH2, sStr, g2, scalarT, scalarP, scalarC]
      refine ES.mk (⟨parts, x0, x1⟩, true) ⟨⟨by simp only; omega, h2, y0.b, y1.b⟩, by have := y1.2; simp only; omega⟩ ?_
      simp only [RUX, Nat.reduceAdd, reduceIte, Nat.reduceEqDiff, Nat.reduceLT, Nat.reduceLeDiff, reduceCtorEq, eq_self, FIX, forall_const, endE_n, endE_r, CHT, disj, Nat.reduceBEq, beq_self_eq_true, APT, APX, forall_eq, ALT, ALU, URh_1.d, e2, eHp, ht1]
    · rw [Bool.not_eq_true] at g2
      simp only [RUX, Nat.reduceAdd, reduceIte, Nat.reduceEqDiff, Nat.reduceLT, Nat.reduceLeDiff, reduceCtorEq, eq_self, FIX, forall_const, endE_n, endE_r, CHT, disj, Nat.reduceBEq, beq_self_eq_true, APT, APX, forall_eq, ALT, ALU, URh_1.d, e0, e4, eHp, e2, eH2, sStr, g2, scalarT, scalarP, scalarC]
      refine ES.mk (zPl, false) zPl_ok2 ?_
      simp only [RUX, Nat.reduceAdd, reduceIte, Nat.reduceEqDiff, Nat.reduceLT, Nat.reduceLeDiff, reduceCtorEq, eq_self, FIX, forall_const, endE_n, endE_r, CHT, disj, Nat.reduceBEq, beq_self_eq_true, APT, APX, forall_eq, ALT, ALU, URh_1.d, zPl, e2]
  simp only [RUX, Nat.reduceAdd, reduceIte, Nat.reduceEqDiff, Nat.reduceLT, Nat.reduceLeDiff, reduceCtorEq, eq_self, FIX, forall_const, endE_n, endE_r, CHT, disj, Nat.reduceBEq, beq_self_eq_true, APT, APX, forall_eq, ALT, ALU, URh_1.d]
  refine AW.reify 4 0 1053 4 112 rfl rfl rfl (by decide) ?_
  refine AW.upto 41 (inv78 s) ⟨[], 0, rfl, by decide, (fun x h => by cases h), by decide, rfl, rfl, ⟨_, _, rfl, rfl, rfl⟩, ⟨_, rfl, rfl⟩⟩ fun i t H c hi h => ?_
  obtain ⟨parts, a, rfl, hSt⟩ := h
  have hSt0 := hSt
  obtain ⟨h1, h2, h3, e0, e5, ⟨u, v, e4, eH4, eHp⟩, ⟨u2, e2, eH2⟩⟩ := hSt
  simp only [T.c, T.i, T.s] at e0 e5 e4 eH4 eHp e2 eH2
  have w1 : IntKind.i64.wrap ((a : Int) + 5) = ((a + 5 : Nat) : Int) := wrap64 (x := (a : Int) + 5) ⟨by omega, by omega⟩
  by_cases g1 : ((a + 5 : Nat) : Int) ≤ s.size
  rotate_left
  · simp only [RUX, Nat.reduceAdd, reduceIte, Nat.reduceEqDiff, Nat.reduceLT, Nat.reduceLeDiff, reduceCtorEq, eq_self, FIX, forall_const, endE_n, endE_r, CHT, disj, Nat.reduceBEq, beq_self_eq_true, APT, APX, forall_eq, ALT, ALU, URh_2.d, e0, e5, e4, eH4, eHp, e2, eH2, w1, g1]
    exact hend _ _ _ parts a ⟨h1, h2, h3, e0, e5, ⟨u, v, e4, eH4, eHp⟩, ⟨u2, e2, eH2⟩⟩
  have gz : (0 : Int) ≤ (a : Int) := by omega
  have g5 : (a : Int) ≤ ((a + 5 : Nat) : Int) := by omega
  by_cases g2 : ((s.extract a (a + 5)).toList == (⟨#[115, 101, 97, 108, 32]⟩ : ByteArray).toList) = true
  rotate_left
  · rw [Bool.not_eq_true] at g2
    simp only [RUX, Nat.reduceAdd, reduceIte, Nat.reduceEqDiff, Nat.reduceLT, Nat.reduceLeDiff, reduceCtorEq, eq_self, FIX, forall_const, endE_n, endE_r, CHT, disj, Nat.reduceBEq, beq_self_eq_true, APT, APX, forall_eq, ALT, ALU, URh_2.d, e0, e5, e4, eH4, eHp, e2, eH2, w1, g1, lohi, gz, g5, Int.toNat_natCast, g2, sStr]
    exact hend _ _ _ parts a ⟨h1, h2, h3, e0, e5, ⟨u, v, e4, eH4, eHp⟩, ⟨u2, e2, eH2⟩⟩
  by_cases g3 : (parts.length : Int) ≤ 40
  rotate_left
  · simp only [RUX, Nat.reduceAdd, reduceIte, Nat.reduceEqDiff, Nat.reduceLT, Nat.reduceLeDiff, reduceCtorEq, eq_self, FIX, forall_const, endE_n, endE_r, CHT, disj, Nat.reduceBEq, beq_self_eq_true, APT, APX, forall_eq, ALT, ALU, URh_2.d, e0, e5, e4, eH4, eHp, e2, eH2, w1, g1, lohi, gz, g5, Int.toNat_natCast, g2, sStr, g3]
    exact hend _ _ _ parts a ⟨h1, h2, h3, e0, e5, ⟨u, v, e4, eH4, eHp⟩, ⟨u2, e2, eH2⟩⟩
  obtain ⟨⟨xs, q⟩, ⟨m1, m2, m3, m4⟩, C1⟩ := nums42_ok s (a + 5) 4 (by omega) (by omega) (by omega)
  obtain ⟨x0, x1, x2, x3, rfl⟩ := four m1
  have y0 := m2 x0 (by simp)
  have y1 := m2 x1 (by simp)
  have y2 := m2 x2 (by simp)
  have y3 := m2 x3 (by simp)
  simp only at m3 m4
  have ht1 : (en eP parts).take parts.length = en eP parts := en_take eP parts
  have q1 : (parts.length + 1) * 32 ≤ 140737488355328 := by omega
  have q2 : parts.length ≤ 9223372036854775806 := by omega
  simp only [RUX, Nat.reduceAdd, reduceIte, Nat.reduceEqDiff, Nat.reduceLT, Nat.reduceLeDiff, reduceCtorEq, eq_self, FIX, forall_const, endE_n, endE_r, CHT, disj, Nat.reduceBEq, beq_self_eq_true, APT, APX, forall_eq, ALT, ALU, URh_2.d, e0, e5, e4, eH4, eHp, e2, eH2, w1, g1, lohi, gz, g5, Int.toNat_natCast, g2, sStr, g3]
  refine callC C1 rfl rfl rfl rfl ?_
  simp only [RUX, Nat.reduceAdd, reduceIte, Nat.reduceEqDiff, Nat.reduceLT, Nat.reduceLeDiff, reduceCtorEq, eq_self, FIX, forall_const, endE_n, endE_r, CHT, disj, Nat.reduceBEq, beq_self_eq_true, APT, APX, forall_eq, ALT, ALU, URh_2.d, e0, e5, e4, eH4, eHp, e2, eH2, w1, en_cons2, en_nil, eI, Int.reduceToNat, Int.le_refl, Int.reduceLE, en_len, ht1, q1, q2]
  refine ⟨by omega, parts ++ [⟨x0, x1, x2, x3⟩], q.toNat, by simp, by simp; omega, fun y hy => ?_, by simp; omega, e0, ?_, ⟨u, c + 19 + 9 + 16, e4, ?_, ?_⟩, ⟨u2, e2, eH2⟩⟩
  · rcases List.mem_append.1 hy with hy | hy
    · exact h2 y hy
    · rw [List.mem_singleton.1 hy]; exact ⟨y0.b, y1.b, y2.b, y3.b⟩
  · show T.i q = T.i (q.toNat : Int)
    rw [Int.toNat_of_nonneg (by omega)]
  · simp
  · simp only [en_snoc]; rfl
end Go.V
set_option linter.unusedSimpArgs false
namespace Go.V
open Go.Proofs
def okR (r : LR) : Prop := 1 ≤ r.pos ∧ r.pos ≤ 999999 ∧ r.data.size ≤ 2000
abbrev tRI (rs : List LR) (n : Int) : T := .tup [.one (.v (.sl (en eR rs))), .one (.v (.s (.int .i64 n)))]
theorem eR_flat (x : LR) : (eR x).all flatV = true := rfl
/- loop.example/teagle/spec.LogFrames -/
def r70_0 : List AOper := [ao 0 2 (.mv (.k (.c .nil0))),
  ao 1 3 (.mv (.k (.i 0)))]
def r70_1 : List AOper := [ao 0 8 (.bsl 2 120 []),
  ao 1 4 (.mv (.t 8))]
def r70_2 : List AOper := [ao 0 5 (.mv (.k (.i 0)))]
def r70_3 : List AOper := [ao 0 9 (.mv (.t 0)),
  ao 1 10 (.lenS (.t 9)),
  ao 2 11 (.mv (.t 5)),
  ao 3 12 (.bin .sub (.t 10) (.t 11)),
  ao 4 13 (.bin .geq (.t 12) (.k (.i 5)))]
def c70_4 : ACode := .cond (.t 13) .skip (.exit 0)
def c70_5 : ACode := .seq (.reg r70_3) c70_4
def r70_6 : List AOper := [ao 0 14 (.mv (.t 0)),
  au 1 15 [0] (.mv (.t 5)),
  ao 2 16 (.ix (.t 14) (.t 15)),
  ao 3 17 (.cnvI .i64 (.t 16)),
  ao 4 18 (.bin .mul (.t 17) (.k (.i 256))),
  au 5 19 (ru 5) (.mv (.t 0)),
  au 6 20 (ru 6) (.mv (.t 5)),
  au 7 21 (ru 6) (.bin .add (.t 20) (.k (.i 1))),
  au 8 22 (ru 5) (.ix (.t 19) (.t 21)),
  au 9 23 (ru 5) (.cnvI .i64 (.t 22)),
  ao 10 24 (.bin .add (.t 18) (.t 23)),
  ao 11 6 (.mv (.t 24))]
def r70_7 : List AOper := [ao 0 25 (.mv (.t 0)),
  au 1 26 [0] (.mv (.t 5)),
  au 2 27 [0] (.bin .add (.t 26) (.k (.i 2))),
  ao 3 28 (.ix (.t 25) (.t 27)),
  ao 4 29 (.cnvI .i64 (.t 28)),
  ao 5 30 (.bin .mul (.t 29) (.k (.i 65536))),
  au 6 31 (ru 6) (.mv (.t 0)),
  au 7 32 (ru 7) (.mv (.t 5)),
  au 8 33 (ru 7) (.bin .add (.t 32) (.k (.i 3))),
  au 9 34 (ru 6) (.ix (.t 31) (.t 33)),
  au 10 35 (ru 6) (.cnvI .i64 (.t 34)),
  au 11 36 (ru 6) (.bin .mul (.t 35) (.k (.i 256))),
  ao 12 37 (.bin .add (.t 30) (.t 36)),
  au 13 38 (ru 13) (.mv (.t 0)),
  au 14 39 (ru 14) (.mv (.t 5)),
  au 15 40 (ru 14) (.bin .add (.t 39) (.k (.i 4))),
  au 16 41 (ru 13) (.ix (.t 38) (.t 40)),
  au 17 42 (ru 13) (.cnvI .i64 (.t 41)),
  ao 18 43 (.bin .add (.t 37) (.t 42)),
  ao 19 7 (.mv (.t 43))]
def r70_8 : List AOper := [ao 0 44 (.mv (.t 6)),
  ao 1 45 (.bin .gtr (.t 44) (.k (.i 2000))),
  ao 2 46 (.mv (.t 45)),
  ag 3 47 46 false [] (.mv (.t 7)),
  ag 4 48 46 false [] (.call (.k (.c (.fn 28 []))) [(.t 47), (.k (.i 1)), (.k (.i 999999))]),
  ag 5 49 46 false [] (.un .not (.t 48)),
  ao 6 50 (.pick (.t 46) (.k (.b true)) (.t 49)),
  ao 7 51 (.mv (.t 50)),
  ag 8 52 51 false [] (.mv (.t 0)),
  ag 9 53 51 false [] (.lenS (.t 52)),
  ag 10 54 51 false [] (.mv (.t 5)),
  ag 11 55 51 false [] (.bin .sub (.t 53) (.t 54)),
  ag 12 56 51 false [] (.bin .sub (.t 55) (.k (.i 5))),
  ag 13 57 51 false [] (.mv (.t 6)),
  ag 14 58 51 false [] (.bin .lss (.t 56) (.t 57)),
  ao 15 59 (.pick (.t 51) (.k (.b true)) (.t 58))]
def c70_9 : ACode := .cond (.t 59) (.exit 0) .skip
def c70_10 : ACode := .seq (.reg r70_8) c70_9
def r70_11 : List AOper := [ao 0 60 (.mv (.t 4)),
  ao 1 61 (.mv (.t 7)),
  ao 2 62 (.mv (.t 0)),
  ao 3 63 (.mv (.t 5)),
  ao 4 64 (.bin .add (.t 63) (.k (.i 5))),
  ao 5 65 (.mv (.t 5)),
  ao 6 66 (.bin .add (.t 65) (.k (.i 5))),
  ao 7 67 (.mv (.t 6)),
  ao 8 68 (.bin .add (.t 66) (.t 67)),
  ao 9 69 (.slcS (.t 62) (some (.t 64)) (some (.t 68))),
  ao 10 70 (.build [(.v (.s (.int .i64 0))), (.v (.s (.string ⟨#[]⟩)))] [(0, 1, (.t 61)), (1, 1, (.t 69))]),
  ao 11 71 (.bsl 2 120 [(.t 70)]),
  ao 12 72 (.app 2 120 24 (.t 60) (.t 71)),
  ao 13 4 (.mv (.t 72))]
def r70_12 : List AOper := [ao 0 73 (.mv (.t 5)),
  ao 1 74 (.bin .add (.t 73) (.k (.i 5))),
  ao 2 75 (.mv (.t 6)),
  ao 3 76 (.bin .add (.t 74) (.t 75)),
  ao 4 5 (.mv (.t 76))]
def c70_13 : ACode := .seq (.reg r70_6) (.seq (.reg r70_7) (.seq c70_10 (.seq (.reg r70_11) (.reg r70_12))))
def c70_14 : ACode := .block 1 c70_13
def c70_15 : ACode := .seq c70_5 c70_14
def c70_16 : ACode := .loop c70_15
def c70_17 : ACode := .block 0 c70_16
def r70_18 : List AOper := [ao 0 77 (.mv (.t 4)),
  ao 1 78 (.mv (.t 5)),
  ao 2 2 (.mv (.t 77)),
  ao 3 3 (.mv (.t 78))]
def c70 : ACode := .seq (.reg r70_0) (.seq (.reg r70_1) (.seq (.reg r70_2) (.seq c70_17 (.seq (.reg r70_18) .ret))))
def s70 : List ARes := [.tmp 2, .tmp 3]
theorem ok70 : okF Try.prog 70 79 c70 s70 := ⟨Try.f70, Try.func70, Try.ntmps70, by kernel_rfl, by kernel_rfl, by kernel_rfl⟩
def inv70 (s : ByteArray) (i : Nat) (σ : St) : Prop := ∃ (rs : List LR) (a v : Nat), i ≤ a ∧ a ≤ s.size ∧ rs.length ≤ a ∧ (∀ r ∈ rs, okR r) ∧ σ.t 0 = tS s ∧ σ.t 5 = .i a ∧ σ.t 4 = .c (.own 8 v rs.length) ∧ σ.H 8 = some (.arr v true 2 120 (en eR rs))
def URi_1 := Bx.mk <|
  aN (uA c70.eq_1) <| aN (uR r70_0.eq_1) <| aN (uR r70_1.eq_1) <| aN (uR r70_2.eq_1) <| aN (uA c70_17.eq_1) <| aN (uA c70_16.eq_1) <| aN (uR r70_18.eq_1) <| s70.eq_1
def URi_2 := Bx.mk <|
  aN (uA c70_15.eq_1) <| aN (uA c70_5.eq_1) <| aN (uR r70_3.eq_1) <| aN (uA c70_4.eq_1) <| aN (uA c70_14.eq_1) <| aN (uA c70_13.eq_1) <| aN (uR r70_6.eq_1) <| aN (uR r70_7.eq_1) <| aN (uA c70_10.eq_1) <| aN (uR r70_8.eq_1) <| aN (uA c70_9.eq_1) <| aN (uR r70_11.eq_1) <| aN (uR r70_12.eq_1) <| aN (uA c70.eq_1) <| aN (uR r70_0.eq_1) <| aN (uR r70_1.eq_1) <| aN (uR r70_2.eq_1) <| aN (uA c70_17.eq_1) <| aN (uA c70_16.eq_1) <| s70.eq_1
theorem frames_ok (s : ByteArray) (hs : s.size ≤ 1000000) : PC 70 [tS s] (fun x : List LR × Int => x.1.length ≤ s.size ∧ (∀ r ∈ x.1, okR r) ∧ 0 ≤ x.2 ∧ x.2 ≤ s.size) (fun x => tRI x.1 x.2) := by
  refine PC.intro ok70 rfl (fun _ => rfl) fun X => ?_
  simp only [RUX, Nat.reduceAdd, reduceIte, Nat.reduceEqDiff, Nat.reduceLT, Nat.reduceLeDiff, reduceCtorEq, eq_self, FIX, forall_const, endE_n, endE_r, CHT, disj, Nat.reduceBEq, beq_self_eq_true, APT, APX, forall_eq, ALT, ALU, URi_1.d]
  refine AW.upto s.size (inv70 s) ⟨[], 0, _, Nat.le_refl _, Nat.zero_le _, Nat.zero_le _, (fun x h => by cases h), rfl, rfl, rfl, rfl⟩ fun i t H c hi h => ?_
  obtain ⟨rs, a, v, h1, h2, h3, h4, e0, e5, e4, eH⟩ := h
  simp only [T.c, T.i, T.s] at e0 e5 e4 eH
  have ht1 : (en eR rs).take rs.length = en eR rs := en_take eR rs
  have w0 : IntKind.i64.wrap ((s.size : Int) - a) = (s.size : Int) - a := wrap64 ⟨by omega, by omega⟩
  have hend : ∀ t H c, t 4 = .c (.own 8 v rs.length) → t 5 = .i a → H 8 = some (.arr v true 2 120 (en eR rs)) → wpa Try.prog X (.seq (.reg r70_18) .ret) (endE (fun x : List LR × Int => x.1.length ≤ s.size ∧ (∀ r ∈ x.1, okR r) ∧ 0 ≤ x.2 ∧ x.2 ≤ s.size) (fun x => tRI x.1 x.2) (fun _ => []) s70) ⟨t, H, c⟩ := by
    intro t H c e4 e5 eH
    simp only [T.c, T.i] at e4 e5
    simp only [RUX, Nat.reduceAdd, reduceIte, Nat.reduceEqDiff, Nat.reduceLT, Nat.reduceLeDiff, reduceCtorEq, eq_self, FIX, forall_const, endE_n, endE_r, CHT, disj, Nat.reduceBEq, beq_self_eq_true, APT, APX, forall_eq, ALT, ALU, uR r70_18.eq_1, s70, e4, e5]
    refine ES.mk (rs, (a : Int)) ⟨by simp only; omega, h4, by simp only; omega, by simp only; omega⟩ ?_
    simp only [RUX, Nat.reduceAdd, reduceIte, Nat.reduceEqDiff, Nat.reduceLT, Nat.reduceLeDiff, reduceCtorEq, eq_self, FIX, forall_const, endE_n, endE_r, CHT, disj, Nat.reduceBEq, beq_self_eq_true, APT, APX, forall_eq, ALT, ALU, s70, eH, ht1]
  by_cases g1 : (s.size : Int) - a ≥ 5
  rotate_left
  · simp only [RUX, Nat.reduceAdd, reduceIte, Nat.reduceEqDiff, Nat.reduceLT, Nat.reduceLeDiff, reduceCtorEq, eq_self, FIX, forall_const, endE_n, endE_r, CHT, disj, Nat.reduceBEq, beq_self_eq_true, APT, APX, forall_eq, ALT, ALU, URi_2.d, e0, e5, e4, eH, w0, g1]
    exact hend _ _ _ e4 e5 eH
  have hb : ∀ k, k < 5 → ∃ b, s.data[a + k]? = some b := fun k hk => ⟨_, Array.getElem?_eq_getElem (by rw [← size_data]; omega)⟩
  obtain ⟨b0, hb0⟩ := hb 0 (by omega)
  obtain ⟨b1, hb1⟩ := hb 1 (by omega)
  obtain ⟨b2, hb2⟩ := hb 2 (by omega)
  obtain ⟨b3, hb3⟩ := hb 3 (by omega)
  obtain ⟨b4, hb4⟩ := hb 4 (by omega)
  simp only [Nat.add_zero] at hb0
  have u0 := b0.toNat_lt
  have u1 := b1.toNat_lt
  have u2 := b2.toNat_lt
  have u3 := b3.toNat_lt
  have u4 := b4.toNat_lt
  obtain ⟨n, hn⟩ : ∃ n : Nat, b0.toNat * 256 + b1.toNat = n := ⟨_, rfl⟩
  obtain ⟨q, hq⟩ : ∃ q : Nat, b2.toNat * 65536 + b3.toNat * 256 + b4.toNat = q := ⟨_, rfl⟩
  have z0 : (0 : Int) ≤ (a : Int) := by omega
  have a1 : IntKind.i64.wrap ((a : Int) + 1) = ((a + 1 : Nat) : Int) := (wrap64 ⟨by omega, by omega⟩).trans (by omega)
  have a2 : IntKind.i64.wrap ((a : Int) + 2) = ((a + 2 : Nat) : Int) := (wrap64 ⟨by omega, by omega⟩).trans (by omega)
  have a3 : IntKind.i64.wrap ((a : Int) + 3) = ((a + 3 : Nat) : Int) := (wrap64 ⟨by omega, by omega⟩).trans (by omega)
  have a4 : IntKind.i64.wrap ((a : Int) + 4) = ((a + 4 : Nat) : Int) := (wrap64 ⟨by omega, by omega⟩).trans (by omega)
  have a5 : IntKind.i64.wrap ((a : Int) + 5) = ((a + 5 : Nat) : Int) := (wrap64 ⟨by omega, by omega⟩).trans (by omega)
  have k0 : IntKind.i64.wrap (b0.toNat : Int) = b0.toNat := (wrap64 ⟨by omega, by omega⟩).trans (by omega)
  have k1 : IntKind.i64.wrap (b1.toNat : Int) = b1.toNat := (wrap64 ⟨by omega, by omega⟩).trans (by omega)
  have k2 : IntKind.i64.wrap (b2.toNat : Int) = b2.toNat := (wrap64 ⟨by omega, by omega⟩).trans (by omega)
  have k3 : IntKind.i64.wrap (b3.toNat : Int) = b3.toNat := (wrap64 ⟨by omega, by omega⟩).trans (by omega)
  have k4 : IntKind.i64.wrap (b4.toNat : Int) = b4.toNat := (wrap64 ⟨by omega, by omega⟩).trans (by omega)
  have m0 : IntKind.i64.wrap ((b0.toNat : Int) * 256) = ((b0.toNat * 256 : Nat) : Int) := (wrap64 ⟨by omega, by omega⟩).trans (by omega)
  have m1 : IntKind.i64.wrap (((b0.toNat * 256 : Nat) : Int) + b1.toNat) = (n : Int) := (wrap64 ⟨by omega, by omega⟩).trans (by omega)
  have m2 : IntKind.i64.wrap ((b2.toNat : Int) * 65536) = ((b2.toNat * 65536 : Nat) : Int) := (wrap64 ⟨by omega, by omega⟩).trans (by omega)
  have m3 : IntKind.i64.wrap ((b3.toNat : Int) * 256) = ((b3.toNat * 256 : Nat) : Int) := (wrap64 ⟨by omega, by omega⟩).trans (by omega)
  have m4 : IntKind.i64.wrap (((b2.toNat * 65536 : Nat) : Int) + ((b3.toNat * 256 : Nat) : Int)) = ((b2.toNat * 65536 + b3.toNat * 256 : Nat) : Int) := (wrap64 ⟨by omega, by omega⟩).trans (by omega)
  have m5 : IntKind.i64.wrap (((b2.toNat * 65536 + b3.toNat * 256 : Nat) : Int) + b4.toNat) = (q : Int) := (wrap64 ⟨by omega, by omega⟩).trans (by omega)
  have zz : ∀ k : Nat, (0 : Int) ≤ ((a + k : Nat) : Int) := fun k => by omega
  have w5 : IntKind.i64.wrap ((s.size : Int) - a - 5) = (s.size : Int) - a - 5 := wrap64 ⟨by omega, by omega⟩
  by_cases f1 : (n : Int) > 2000
  · simp only [RUX, Nat.reduceAdd, reduceIte, Nat.reduceEqDiff, Nat.reduceLT, Nat.reduceLeDiff, reduceCtorEq, eq_self, FIX, forall_const, endE_n, endE_r, CHT, disj, Nat.reduceBEq, beq_self_eq_true, APT, APX, forall_eq, ALT, ALU, URi_2.d, e0, e5, e4, eH, w0, g1, hb0, hb1, hb2, hb3, hb4, Int.toNat_natCast, z0, zz, a1, a2, a3, a4, a5, k0, k1, k2, k3, k4, m0, m1, m2, m3, m4, m5, f1]
    exact hend _ _ _ e4 e5 eH
  simp only [RUX, Nat.reduceAdd, reduceIte, Nat.reduceEqDiff, Nat.reduceLT, Nat.reduceLeDiff, reduceCtorEq, eq_self, FIX, forall_const, endE_n, endE_r, CHT, disj, Nat.reduceBEq, beq_self_eq_true, APT, APX, forall_eq, ALT, ALU, URi_2.d, e0, e5, e4, eH, w0, g1, hb0, hb1, hb2, hb3, hb4, Int.toNat_natCast, z0, zz, a1, a2, a3, a4, a5, k0, k1, k2, k3, k4, m0, m1, m2, m3, m4, m5, f1]
  refine callC (l6In_ok _ _ _) rfl rfl rfl rfl ?_
  by_cases f2 : (decide (1 ≤ (q : Int)) && decide ((q : Int) ≤ 999999)) = true
  rotate_left
  · rw [Bool.not_eq_true] at f2
    simp only [RUX, Nat.reduceAdd, reduceIte, Nat.reduceEqDiff, Nat.reduceLT, Nat.reduceLeDiff, reduceCtorEq, eq_self, FIX, forall_const, endE_n, endE_r, CHT, disj, Nat.reduceBEq, beq_self_eq_true, APT, APX, forall_eq, ALT, ALU, URi_2.d, e0, e5, e4, eH, w0, g1, hb0, hb1, hb2, hb3, hb4, Int.toNat_natCast, z0, zz, a1, a2, a3, a4, a5, k0, k1, k2, k3, k4, m0, m1, m2, m3, m4, m5, f1, f2]
    exact hend _ _ _ e4 e5 eH
  by_cases f3 : (s.size : Int) - a - 5 < n
  · simp only [RUX, Nat.reduceAdd, reduceIte, Nat.reduceEqDiff, Nat.reduceLT, Nat.reduceLeDiff, reduceCtorEq, eq_self, FIX, forall_const, endE_n, endE_r, CHT, disj, Nat.reduceBEq, beq_self_eq_true, APT, APX, forall_eq, ALT, ALU, URi_2.d, e0, e5, e4, eH, w0, g1, hb0, hb1, hb2, hb3, hb4, Int.toNat_natCast, z0, zz, a1, a2, a3, a4, a5, k0, k1, k2, k3, k4, m0, m1, m2, m3, m4, m5, f1, f2, w5, f3]
    exact hend _ _ _ e4 e5 eH
  have w6 : IntKind.i64.wrap (((a + 5 : Nat) : Int) + n) = ((a + 5 + n : Nat) : Int) := (wrap64 ⟨by omega, by omega⟩).trans (by omega)
  have y1 : ((a + 5 : Nat) : Int) ≤ ((a + 5 + n : Nat) : Int) := by omega
  have y2 : ((a + 5 + n : Nat) : Int) ≤ s.size := by omega
  have q1 : (rs.length + 1) * 24 ≤ 140737488355328 := by omega
  have q2 : rs.length ≤ 9223372036854775806 := by omega
  simp only [RUX, Nat.reduceAdd, reduceIte, Nat.reduceEqDiff, Nat.reduceLT, Nat.reduceLeDiff, reduceCtorEq, eq_self, FIX, forall_const, endE_n, endE_r, CHT, disj, Nat.reduceBEq, beq_self_eq_true, APT, APX, forall_eq, ALT, ALU, URi_2.d, e0, e5, e4, eH, w0, g1, hb0, hb1, hb2, hb3, hb4, Int.toNat_natCast, z0, zz, a1, a2, a3, a4, a5, k0, k1, k2, k3, k4, m0, m1, m2, m3, m4, m5, f1, f2, w5, f3, lohi, w6, y1, y2, en_len, ht1, q1, q2]
  rw [Bool.and_eq_true, decide_eq_true_eq, decide_eq_true_eq] at f2
  refine ⟨by omega, rs ++ [⟨(q : Int), s.extract (a + 5) (a + 5 + n)⟩], a + 5 + n, c + 5 + 12 + 20 + 16 + 12, by omega, by omega, by simp; omega, fun r hr => ?_, e0, rfl, ?_, ?_⟩
  · rcases List.mem_append.1 hr with hr | hr
    · exact h4 r hr
    · rw [List.mem_singleton.1 hr]; exact ⟨by simp only; omega, by simp only; omega, by simp only [ByteArray.size_extract]; omega⟩
  · rw [List.length_append]; rfl
  · simp only [en_snoc]; rfl
end Go.V
set_option linter.unusedSimpArgs false
namespace Go.V
open Go.Proofs
def okM (n : Int) : Prop := 0 ≤ n ∧ n ≤ 999999
theorem okM_zero : okM 0 := ⟨Int.le_refl _, by decide⟩
/- loop.example/teagle/spec.l43Num -/
def r77_0 : List AOper := [ao 0 4 (.mv (.k (.i 0)))]
def r77_1 : List AOper := [ao 0 7 (.mv (.t 0)),
  ao 1 8 (.lenS (.t 7)),
  ao 2 9 (.bin .lss (.t 8) (.k (.i 2))),
  ao 3 10 (.mv (.t 9)),
  ag 4 11 10 false [] (.mv (.t 0)),
  ag 5 12 10 false [] (.ix (.t 11) (.k (.i 0))),
  ag 6 13 10 false [] (.mv (.t 1)),
  ag 7 14 10 false [] (.bin .neq (.t 12) (.t 13)),
  ao 8 15 (.pick (.t 10) (.k (.b true)) (.t 14))]
def r77_2 : List AOper := [ao 0 4 (.mv (.k (.i 0)))]
def c77_3 : ACode := .seq (.reg r77_2) .ret
def c77_4 : ACode := .cond (.t 15) c77_3 .skip
def c77_5 : ACode := .seq (.reg r77_1) c77_4
def r77_6 : List AOper := [ao 0 17 (.mv (.t 0)),
  ao 1 18 (.call (.k (.c (.fn 82 []))) [(.t 17), (.k (.i 1))]),
  ao 2 16 (.mv (.t 18)),
  ao 3 19 (.ext 0 (.t 16)),
  ao 4 20 (.ext 1 (.t 16)),
  ao 5 5 (.mv (.t 19)),
  ao 6 6 (.mv (.t 20))]
def r77_7 : List AOper := [ao 0 21 (.mv (.t 6)),
  au 1 22 [0] (.mv (.t 0)),
  au 2 23 [0] (.lenS (.t 22)),
  ao 3 24 (.bin .neq (.t 21) (.t 23)),
  ao 4 25 (.mv (.t 24)),
  ag 5 26 25 false [] (.mv (.t 5)),
  ag 6 27 25 false [] (.call (.k (.c (.fn 64 []))) [(.t 26)]),
  ag 7 28 25 false [5, 6] (.mv (.t 0)),
  ag 8 29 25 false [5, 6] (.slcS (.t 28) (some (.k (.i 1))) none),
  ag 9 30 25 false [] (.bin .neq (.t 27) (.t 29)),
  ao 10 31 (.pick (.t 25) (.k (.b true)) (.t 30)),
  ao 11 32 (.mv (.t 31)),
  ag 12 33 32 false [] (.mv (.t 5)),
  ag 13 34 32 false [] (.bin .gtr (.t 33) (.k (.i 999999))),
  ao 14 35 (.pick (.t 32) (.k (.b true)) (.t 34))]
def r77_8 : List AOper := [ao 0 4 (.mv (.k (.i 0)))]
def c77_9 : ACode := .seq (.reg r77_8) .ret
def c77_10 : ACode := .cond (.t 35) c77_9 .skip
def c77_11 : ACode := .seq (.reg r77_7) c77_10
def r77_12 : List AOper := [ao 0 36 (.mv (.t 5)),
  ao 1 4 (.mv (.t 36))]
def c77 : ACode := .seq (.reg r77_0) (.seq c77_5 (.seq (.reg r77_6) (.seq c77_11 (.seq (.reg r77_12) .ret))))
def s77 : List ARes := [.tmp 4]
theorem ok77 : okF Try.prog 77 37 c77 s77 := ⟨Try.f77, Try.func77, Try.ntmps77, by kernel_rfl, by kernel_rfl, by kernel_rfl⟩
def URj_1 := Bx.mk <|
  aN (uA c77.eq_1) <| aN (uR r77_0.eq_1) <| aN (uA c77_5.eq_1) <| aN (uR r77_1.eq_1) <| aN (uA c77_4.eq_1) <| aN (uA c77_3.eq_1) <| aN (uR r77_2.eq_1) <| aN (uR r77_6.eq_1) <| aN (uA c77_11.eq_1) <| aN (uR r77_7.eq_1) <| aN (uA c77_10.eq_1) <| aN (uA c77_9.eq_1) <| aN (uR r77_8.eq_1) <| aN (uR r77_12.eq_1) <| s77.eq_1
theorem num43_ok (s : ByteArray) (l : Int) (hs : s.size ≤ 2000000) : PC 77 [tS s, .s (.int .u8 l)] okM .i := by
  refine PC.intro ok77 rfl (fun _ => rfl) fun X => ?_
  by_cases g1 : (s.size : Int) < 2
  · simp only [RUX, Nat.reduceAdd, reduceIte, Nat.reduceEqDiff, Nat.reduceLT, Nat.reduceLeDiff, reduceCtorEq, eq_self, FIX, forall_const, endE_n, endE_r, CHT, disj, Nat.reduceBEq, beq_self_eq_true, APT, APX, forall_eq, ALT, ALU, URj_1.d, g1]
    refine ES.mk 0 okM_zero ?_
    simp only [RUX, Nat.reduceAdd, reduceIte, Nat.reduceEqDiff, Nat.reduceLT, Nat.reduceLeDiff, reduceCtorEq, eq_self, FIX, forall_const, endE_n, endE_r, CHT, disj, Nat.reduceBEq, beq_self_eq_true, APT, APX, forall_eq, ALT, ALU, URj_1.d]
  obtain ⟨b, hb⟩ : ∃ b, s.data[0]? = some b := ⟨_, Array.getElem?_eq_getElem (by rw [← size_data]; omega)⟩
  by_cases g2 : ((b.toNat : Int) != l) = true
  · simp only [RUX, Nat.reduceAdd, reduceIte, Nat.reduceEqDiff, Nat.reduceLT, Nat.reduceLeDiff, reduceCtorEq, eq_self, FIX, forall_const, endE_n, endE_r, CHT, disj, Nat.reduceBEq, beq_self_eq_true, APT, APX, forall_eq, ALT, ALU, URj_1.d, g1, hb, g2, Int.toNat_zero, Int.le_refl]
    refine ES.mk 0 okM_zero ?_
    simp only [RUX, Nat.reduceAdd, reduceIte, Nat.reduceEqDiff, Nat.reduceLT, Nat.reduceLeDiff, reduceCtorEq, eq_self, FIX, forall_const, endE_n, endE_r, CHT, disj, Nat.reduceBEq, beq_self_eq_true, APT, APX, forall_eq, ALT, ALU, URj_1.d]
  rw [Bool.not_eq_true] at g2
  obtain ⟨⟨n, q⟩, ⟨m1, m2, m3⟩, C1⟩ := num42_ok s 1 (by omega) (by omega)
  obtain ⟨w, hw, C2⟩ := decB m1.b
  simp only at m1 m2 m3 C1 C2
  simp only [RUX, Nat.reduceAdd, reduceIte, Nat.reduceEqDiff, Nat.reduceLT, Nat.reduceLeDiff, reduceCtorEq, eq_self, FIX, forall_const, endE_n, endE_r, CHT, disj, Nat.reduceBEq, beq_self_eq_true, APT, APX, forall_eq, ALT, ALU, URj_1.d, g1, hb, g2, Int.toNat_zero, Int.le_refl]
  refine callC C1 rfl rfl rfl rfl ?_
  by_cases f1 : (q != (s.size : Int)) = true
  · simp only [RUX, Nat.reduceAdd, reduceIte, Nat.reduceEqDiff, Nat.reduceLT, Nat.reduceLeDiff, reduceCtorEq, eq_self, FIX, forall_const, endE_n, endE_r, CHT, disj, Nat.reduceBEq, beq_self_eq_true, APT, APX, forall_eq, ALT, ALU, URj_1.d, f1]
    refine ES.mk 0 okM_zero ?_
    simp only [RUX, Nat.reduceAdd, reduceIte, Nat.reduceEqDiff, Nat.reduceLT, Nat.reduceLeDiff, reduceCtorEq, eq_self, FIX, forall_const, endE_n, endE_r, CHT, disj, Nat.reduceBEq, beq_self_eq_true, APT, APX, forall_eq, ALT, ALU, URj_1.d]
  rw [Bool.not_eq_true] at f1
  simp only [RUX, Nat.reduceAdd, reduceIte, Nat.reduceEqDiff, Nat.reduceLT, Nat.reduceLeDiff, reduceCtorEq, eq_self, FIX, forall_const, endE_n, endE_r, CHT, disj, Nat.reduceBEq, beq_self_eq_true, APT, APX, forall_eq, ALT, ALU, URj_1.d, f1]
  refine callC C2 rfl rfl rfl rfl ?_
  have y1 : (0 : Int) ≤ 1 := by omega
  have y2 : (1 : Int) ≤ s.size := by omega
  have y3 : (s.size : Int) ≤ s.size := Int.le_refl _
  by_cases f2 : (w.toList == (s.extract 1 s.size).toList) = true
  rotate_left
  · rw [Bool.not_eq_true] at f2
    simp only [RUX, Nat.reduceAdd, reduceIte, Nat.reduceEqDiff, Nat.reduceLT, Nat.reduceLeDiff, reduceCtorEq, eq_self, FIX, forall_const, endE_n, endE_r, CHT, disj, Nat.reduceBEq, beq_self_eq_true, APT, APX, forall_eq, ALT, ALU, URj_1.d, f1, lohi, y1, y2, y3, Int.reduceToNat, Int.toNat_natCast, sStr, f2]
    refine ES.mk 0 okM_zero ?_
    simp only [RUX, Nat.reduceAdd, reduceIte, Nat.reduceEqDiff, Nat.reduceLT, Nat.reduceLeDiff, reduceCtorEq, eq_self, FIX, forall_const, endE_n, endE_r, CHT, disj, Nat.reduceBEq, beq_self_eq_true, APT, APX, forall_eq, ALT, ALU, URj_1.d]
  by_cases f3 : n > 999999
  · simp only [RUX, Nat.reduceAdd, reduceIte, Nat.reduceEqDiff, Nat.reduceLT, Nat.reduceLeDiff, reduceCtorEq, eq_self, FIX, forall_const, endE_n, endE_r, CHT, disj, Nat.reduceBEq, beq_self_eq_true, APT, APX, forall_eq, ALT, ALU, URj_1.d, f1, lohi, y1, y2, y3, Int.reduceToNat, Int.toNat_natCast, sStr, f2, f3]
    refine ES.mk 0 okM_zero ?_
    simp only [RUX, Nat.reduceAdd, reduceIte, Nat.reduceEqDiff, Nat.reduceLT, Nat.reduceLeDiff, reduceCtorEq, eq_self, FIX, forall_const, endE_n, endE_r, CHT, disj, Nat.reduceBEq, beq_self_eq_true, APT, APX, forall_eq, ALT, ALU, URj_1.d]
  simp only [RUX, Nat.reduceAdd, reduceIte, Nat.reduceEqDiff, Nat.reduceLT, Nat.reduceLeDiff, reduceCtorEq, eq_self, FIX, forall_const, endE_n, endE_r, CHT, disj, Nat.reduceBEq, beq_self_eq_true, APT, APX, forall_eq, ALT, ALU, URj_1.d, f1, lohi, y1, y2, y3, Int.reduceToNat, Int.toNat_natCast, sStr, f2, f3]
  refine ES.mk n ⟨m1.1, by omega⟩ ?_
  simp only [RUX, Nat.reduceAdd, reduceIte, Nat.reduceEqDiff, Nat.reduceLT, Nat.reduceLeDiff, reduceCtorEq, eq_self, FIX, forall_const, endE_n, endE_r, CHT, disj, Nat.reduceBEq, beq_self_eq_true, APT, APX, forall_eq, ALT, ALU, URj_1.d]
end Go.V
set_option linter.unusedSimpArgs false
namespace Go.V
open Go.Proofs
/-- The names of the files that are there; none, if the disk is not ok. -/
def NmR (d : Dk) (ns : List ByteArray) : Prop := (DOk d ∧ ns = aft d.names d.moves) ∨ (¬ DOk d ∧ ns = [])
def URk_1 := Bx.mk <|
  aN (uA c27.eq_1) <| aN (uR r27_0.eq_1) <| aN (uA c27_5.eq_1) <| aN (uR r27_1.eq_1) <| aN (uA c27_4.eq_1) <| aN (uA c27_3.eq_1) <| aN (uR r27_2.eq_1) <| aN (uR r27_6.eq_1) <| s27.eq_1
theorem namesC_ok (d : Dk) (hd : fineDk d) : ∃ ns, NmR d ns ∧ ACallsF Try.prog 27 [tDk d] [] (tL (en eS ns)) := by
  obtain ⟨b, hb, hC⟩ := okS_ok d hd
  by_cases hD : DOk d
  · rw [hb.2 hD] at hC
    have hA := after_ok d hd.s d.moves.length (Nat.le_refl _) 1001
    rw [List.take_length] at hA
    refine ⟨_, .inl ⟨hD, rfl⟩, ACallsF.intro ok27 follows fun X c0 => ?_⟩
    simp only [RUX, Nat.reduceAdd, reduceIte, Nat.reduceEqDiff, Nat.reduceLT, Nat.reduceLeDiff, reduceCtorEq, eq_self, FIX, forall_const, endE_n, endE_r, CHT, disj, Nat.reduceBEq, beq_self_eq_true, APT, APX, forall_eq, ALT, ALU, URk_1.d]
    refine callC hC rfl rfl rfl rfl ?_
    simp only [RUX, Nat.reduceAdd, reduceIte, Nat.reduceEqDiff, Nat.reduceLT, Nat.reduceLeDiff, reduceCtorEq, eq_self, FIX, forall_const, endE_n, endE_r, CHT, disj, Nat.reduceBEq, beq_self_eq_true, APT, APX, forall_eq, ALT, ALU, URk_1.d]
    refine callA1 (m := 1001) (ws := []) (ns := []) hA rfl rfl rfl (en_flat eS eS_flat _) ⟨rfl, ?_⟩
    simp only [RUX, Nat.reduceAdd, reduceIte, Nat.reduceEqDiff, Nat.reduceLT, Nat.reduceLeDiff, reduceCtorEq, eq_self, FIX, forall_const, endE_n, endE_r, CHT, disj, Nat.reduceBEq, beq_self_eq_true, APT, APX, forall_eq, ALT, ALU, URk_1.d, imp_self]
  · have hb0 : b = false := by cases b with
      | false => rfl
      | true => exact absurd (hb.1 rfl) hD
    rw [hb0] at hC
    refine ⟨[], .inr ⟨hD, rfl⟩, ACallsF.intro ok27 follows fun X c0 => ?_⟩
    simp only [RUX, Nat.reduceAdd, reduceIte, Nat.reduceEqDiff, Nat.reduceLT, Nat.reduceLeDiff, reduceCtorEq, eq_self, FIX, forall_const, endE_n, endE_r, CHT, disj, Nat.reduceBEq, beq_self_eq_true, APT, APX, forall_eq, ALT, ALU, URk_1.d]
    refine callC hC rfl rfl rfl rfl ?_
    simp only [RUX, Nat.reduceAdd, reduceIte, Nat.reduceEqDiff, Nat.reduceLT, Nat.reduceLeDiff, reduceCtorEq, eq_self, FIX, forall_const, endE_n, endE_r, CHT, disj, Nat.reduceBEq, beq_self_eq_true, APT, APX, forall_eq, ALT, ALU, URk_1.d, imp_self]
/-- What is read of a file. -/
def LkR (d : Dk) (nm : ByteArray) (x : ByteArray × Bool) : Prop := ((DOk d ∧ nm ∈ aft d.names d.moves) ∧ x = ((fileOf d.files nm).data, true)) ∨ (¬ (DOk d ∧ nm ∈ aft d.names d.moves) ∧ x = (⟨#[]⟩, false))
abbrev tSB (x : ByteArray × Bool) : T := .tup [.one (.v (.s (.string x.1))), .one (.v (.s (.bool x.2)))]
theorem lk_det {d : Dk} {nm : ByteArray} {x y : ByteArray × Bool} (h : LkR d nm x) (h' : LkR d nm y) : x = y := by
  rcases h with ⟨h1, h2⟩ | ⟨h1, h2⟩ <;> rcases h' with ⟨g1, g2⟩ | ⟨g1, g2⟩
  · rw [h2, g2]
  · exact absurd h1 g1
  · exact absurd g1 h1
  · rw [h2, g2]
theorem nm_len {d : Dk} (hd : fineDk d) {ns : List ByteArray} (h : NmR d ns) : ns.length ≤ 3000000 := by
  have := hd.s.n; have := hd.s.m
  rcases h with ⟨_, rfl⟩ | ⟨_, rfl⟩
  · have := aft_len d.moves d.names; omega
  · exact Nat.zero_le _
/- loop.example/teagle/spec.DiskLook -/
def r8_0 : List AOper := [ao 0 2 (.box 27 (.t 0)),
  ao 1 4 (.mv (.k (.s (.string ⟨#[]⟩)))),
  ao 2 5 (.mv (.k (.b false)))]
def r8_1 : List AOper := [ao 0 6 (.ld 3 true (.t 2)),
  ao 1 7 (.call (.k (.c (.fn 27 []))) [(.t 6)]),
  ao 2 8 (.mv (.t 1)),
  ao 3 9 (.call (.k (.c (.fn 29 []))) [(.t 7), (.t 8)]),
  ao 4 10 (.un .not (.t 9))]
def r8_2 : List AOper := [ao 0 4 (.mv (.k (.s (.string ⟨#[]⟩)))),
  ao 1 5 (.mv (.k (.b false)))]
def c8_3 : ACode := .seq (.reg r8_2) .ret
def c8_4 : ACode := .cond (.t 10) c8_3 .skip
def c8_5 : ACode := .seq (.reg r8_1) c8_4
def r8_6 : List AOper := [ao 0 11 (.fa 0 (.t 2)),
  ao 1 12 (.ld 1 false (.t 11)),
  au 2 13 [0, 1] (.fa 0 (.t 2)),
  au 3 14 [0, 1] (.ld 1 false (.t 13)),
  au 4 15 (ru 4) (.mv (.t 1)),
  au 5 16 [0, 1] (.call (.k (.c (.fn 25 []))) [(.t 14), (.t 15)]),
  ao 6 17 (.ia 3 (.t 12) (.t 16)),
  ao 7 18 (.fa 1 (.t 17)),
  ao 8 19 (.ld 1 false (.t 18)),
  ao 9 4 (.mv (.t 19)),
  ao 10 5 (.mv (.k (.b true)))]
def c8 : ACode := .seq (.reg r8_0) (.seq c8_5 (.seq (.reg r8_6) .ret))
def s8 : List ARes := [.tmp 4, .tmp 5]
theorem ok8 : okF Try.prog 8 20 c8 s8 := ⟨Try.f8, Try.func8, Try.ntmps8, by kernel_rfl, by kernel_rfl, by kernel_rfl⟩
def URk_2 := Bx.mk <|
  aN (uA c8.eq_1) <| aN (uR r8_0.eq_1) <| aN (uA c8_5.eq_1) <| aN (uR r8_1.eq_1) <| aN (uA c8_4.eq_1) <| aN (uA c8_3.eq_1) <| aN (uR r8_2.eq_1) <| aN (uR r8_6.eq_1) <| s8.eq_1
theorem look_ok (d : Dk) (hd : fineDk d) (nm : ByteArray) : ∃ x, LkR d nm x ∧ ACallsF Try.prog 8 [tDk d, tS nm] [] (tSB x) := by
  obtain ⟨ns, hns, hC⟩ := namesC_ok d hd
  have hl := nm_len hd hns
  have h2 := has_ok ns nm (by omega)
  have hs := hd.s.f
  by_cases hin : DOk d ∧ nm ∈ aft d.names d.moves
  · obtain ⟨hD, hm⟩ := hin
    have : ns = aft d.names d.moves := by
      rcases hns with ⟨_, h⟩ | ⟨h, _⟩
      · exact h
      · exact absurd hD h
    subst this
    rw [has_true.2 hm] at h2
    have h3 := find_ok d.files nm (by omega)
    obtain ⟨i, k1, k2, k3⟩ := hD.find (DOk.aft_made (n := d.moves.length) (by rw [List.take_length]; exact hm))
    rw [k1] at h3
    have ex := en_at eF k2
    have gz : (0 : Int) ≤ i := by omega
    refine ⟨_, .inl ⟨⟨hD, hm⟩, rfl⟩, ACallsF.intro ok8 follows fun X c0 => ?_⟩
    simp only [RUX, Nat.reduceAdd, reduceIte, Nat.reduceEqDiff, Nat.reduceLT, Nat.reduceLeDiff, reduceCtorEq, eq_self, FIX, forall_const, endE_n, endE_r, CHT, disj, Nat.reduceBEq, beq_self_eq_true, APT, APX, forall_eq, ALT, ALU, URk_2.d]
    refine callC hC rfl rfl rfl rfl ?_
    simp only [RUX, Nat.reduceAdd, reduceIte, Nat.reduceEqDiff, Nat.reduceLT, Nat.reduceLeDiff, reduceCtorEq, eq_self, FIX, forall_const, endE_n, endE_r, CHT, disj, Nat.reduceBEq, beq_self_eq_true, APT, APX, forall_eq, ALT, ALU, URk_2.d]
    refine callC h2 rfl rfl rfl rfl ?_
    simp only [RUX, Nat.reduceAdd, reduceIte, Nat.reduceEqDiff, Nat.reduceLT, Nat.reduceLeDiff, reduceCtorEq, eq_self, FIX, forall_const, endE_n, endE_r, CHT, disj, Nat.reduceBEq, beq_self_eq_true, APT, APX, forall_eq, ALT, ALU, URk_2.d]
    refine callC h3 rfl rfl rfl rfl ?_
    simp only [RUX, Nat.reduceAdd, reduceIte, Nat.reduceEqDiff, Nat.reduceLT, Nat.reduceLeDiff, reduceCtorEq, eq_self, FIX, forall_const, endE_n, endE_r, CHT, disj, Nat.reduceBEq, beq_self_eq_true, APT, APX, forall_eq, ALT, ALU, URk_2.d, ex, gz, Int.toNat_natCast, eF]
  · have hno : has ns nm = false := has_false.2 fun hm => by
      rcases hns with ⟨h, rfl⟩ | ⟨h, rfl⟩
      · exact hin ⟨h, hm⟩
      · cases hm
    rw [hno] at h2
    refine ⟨_, .inr ⟨hin, rfl⟩, ACallsF.intro ok8 follows fun X c0 => ?_⟩
    simp only [RUX, Nat.reduceAdd, reduceIte, Nat.reduceEqDiff, Nat.reduceLT, Nat.reduceLeDiff, reduceCtorEq, eq_self, FIX, forall_const, endE_n, endE_r, CHT, disj, Nat.reduceBEq, beq_self_eq_true, APT, APX, forall_eq, ALT, ALU, URk_2.d]
    refine callC hC rfl rfl rfl rfl ?_
    simp only [RUX, Nat.reduceAdd, reduceIte, Nat.reduceEqDiff, Nat.reduceLT, Nat.reduceLeDiff, reduceCtorEq, eq_self, FIX, forall_const, endE_n, endE_r, CHT, disj, Nat.reduceBEq, beq_self_eq_true, APT, APX, forall_eq, ALT, ALU, URk_2.d]
    refine callC h2 rfl rfl rfl rfl ?_
    simp only [RUX, Nat.reduceAdd, reduceIte, Nat.reduceEqDiff, Nat.reduceLT, Nat.reduceLeDiff, reduceCtorEq, eq_self, FIX, forall_const, endE_n, endE_r, CHT, disj, Nat.reduceBEq, beq_self_eq_true, APT, APX, forall_eq, ALT, ALU, URk_2.d]
end Go.V
set_option linter.unusedSimpArgs false
namespace Go.V
open Go.Proofs
theorem nm_size {d : Dk} (hd : fineDk d) {ns : List ByteArray} (h : NmR d ns) : ∀ x ∈ ns, x.size ≤ 1048576 := by
  intro x hx
  rcases h with ⟨_, rfl⟩ | ⟨_, rfl⟩
  · rcases aft_sub d.moves d.names x hx with h | h
    · exact hd.n x h
    · obtain ⟨m, hm, rfl⟩ := List.mem_map.1 h
      exact hd.m m (List.mem_filter.1 hm).1
  · cases hx
theorem lk_size {d : Dk} {nm : ByteArray} {x : ByteArray × Bool} (h : LkR d nm x) : x.1.size ≤ 20000 := by
  rcases h with ⟨⟨hD, hm⟩, rfl⟩ | ⟨_, rfl⟩
  · obtain ⟨i, _, k2, _⟩ := hD.find (DOk.aft_made (n := d.moves.length) (by rw [List.take_length]; exact hm))
    exact (hD.files i _ k2).data
  · exact Nat.zero_le _
abbrev tLP (x : LP) : T := .pt (.agg [.v (.s (.int .i64 x.num)), .v (.s (.int .i64 x.first)), .v (.s (.int .i64 x.next)), .v (.s (.int .i64 x.size))])
abbrev tRB (rs : List LR) (b : Bool) : T := .tup [.one (.v (.sl (en eR rs))), .one (.v (.s (.bool b)))]
def okRs (rs : List LR) : Prop := rs.length ≤ 20000 ∧ ∀ r ∈ rs, okR r
theorem okRs_nil : okRs [] := ⟨Nat.zero_le _, fun _ h => by cases h⟩
/- loop.example/teagle/spec.l43Part -/
def r69_0 : List AOper := [ao 0 2 (.box 27 (.t 0)),
  ao 1 3 (.box 112 (.t 1)),
  ao 2 4 (.mv (.k (.c .nil0))),
  ao 3 5 (.mv (.k (.b false)))]
def r69_1 : List AOper := [ao 0 13 (.ld 3 true (.t 2)),
  au 1 14 [0] (.fa 0 (.t 3)),
  au 2 15 [0] (.ld 1 false (.t 14)),
  au 3 16 [0] (.call (.k (.c (.fn 64 []))) [(.t 15)]),
  au 4 17 [0] (.bin .add (.k (.s (.string ⟨#[115]⟩))) (.t 16)),
  ao 5 18 (.call (.k (.c (.fn 8 []))) [(.t 13), (.t 17)]),
  ao 6 12 (.mv (.t 18)),
  ao 7 19 (.ext 0 (.t 12)),
  au 8 20 [7] (.ext 1 (.t 12)),
  au 9 6 [8] (.mv (.t 19)),
  ao 10 7 (.mv (.t 20))]
def r69_2 : List AOper := [ao 0 21 (.mv (.t 7)),
  ao 1 22 (.un .not (.t 21)),
  ao 2 23 (.mv (.t 22)),
  ag 3 24 23 false [] (.mv (.t 6)),
  ag 4 25 23 false [] (.lenS (.t 24)),
  ag 5 26 23 false [] (.fa 3 (.t 3)),
  ag 6 27 23 false [] (.ld 1 false (.t 26)),
  ag 7 28 23 false [] (.bin .lss (.t 25) (.t 27)),
  ao 8 29 (.pick (.t 23) (.k (.b true)) (.t 28))]
def r69_3 : List AOper := [ao 0 30 (.bsl 2 120 []),
  ao 1 4 (.mv (.t 30)),
  ao 2 5 (.mv (.k (.b false)))]
def c69_4 : ACode := .seq (.reg r69_3) .ret
def c69_5 : ACode := .cond (.t 29) c69_4 .skip
def c69_6 : ACode := .seq (.reg r69_2) c69_5
def r69_7 : List AOper := [ao 0 32 (.mv (.t 6)),
  ao 1 33 (.fa 3 (.t 3)),
  ao 2 34 (.ld 1 false (.t 33)),
  ao 3 35 (.slcS (.t 32) none (some (.t 34))),
  ao 4 36 (.call (.k (.c (.fn 70 []))) [(.t 35)]),
  ao 5 31 (.mv (.t 36)),
  ao 6 37 (.ext 0 (.t 31)),
  ao 7 38 (.ext 1 (.t 31)),
  ao 8 8 (.mv (.t 37)),
  ao 9 9 (.mv (.t 38))]
def r69_8 : List AOper := [ao 0 39 (.mv (.t 9)),
  ao 1 40 (.fa 3 (.t 3)),
  ao 2 41 (.ld 1 false (.t 40)),
  ao 3 42 (.bin .neq (.t 39) (.t 41))]
def r69_9 : List AOper := [ao 0 43 (.mv (.t 8)),
  ao 1 4 (.mv (.t 43)),
  ao 2 5 (.mv (.k (.b false)))]
def c69_10 : ACode := .seq (.reg r69_9) .ret
def c69_11 : ACode := .cond (.t 42) c69_10 .skip
def c69_12 : ACode := .seq (.reg r69_8) c69_11
def r69_13 : List AOper := [ao 0 44 (.fa 1 (.t 3)),
  ao 1 45 (.ld 1 false (.t 44)),
  ao 2 10 (.mv (.t 45))]
def r69_14 : List AOper := [ao 0 11 (.mv (.k (.i 0)))]
def r69_15 : List AOper := [ao 0 46 (.mv (.t 11)),
  ao 1 47 (.mv (.t 8)),
  ao 2 48 (.len (.t 47)),
  ao 3 49 (.bin .lss (.t 46) (.t 48))]
def c69_16 : ACode := .cond (.t 49) .skip (.exit 0)
def c69_17 : ACode := .seq (.reg r69_15) c69_16
def r69_18 : List AOper := [ao 0 52 (.mv (.t 8)),
  au 1 53 [0] (.mv (.t 11)),
  ao 2 54 (.ia 2 (.t 52) (.t 53)),
  ao 3 55 (.fa 0 (.t 54)),
  ao 4 56 (.ld 1 false (.t 55)),
  au 5 57 (ru 5) (.mv (.t 10)),
  ao 6 58 (.bin .lss (.t 56) (.t 57)),
  ao 7 59 (.mv (.t 58)),
  ag 8 60 59 false [] (.mv (.t 8)),
  ag 9 61 59 false [8] (.mv (.t 11)),
  ag 10 62 59 false [] (.ia 2 (.t 60) (.t 61)),
  ag 11 63 59 false [] (.fa 0 (.t 62)),
  ag 12 64 59 false [] (.ld 1 false (.t 63)),
  ag 13 65 59 false [8, 9, 10, 11, 12] (.fa 2 (.t 3)),
  ag 14 66 59 false [8, 9, 10, 11, 12] (.ld 1 false (.t 65)),
  ag 15 67 59 false [] (.bin .geq (.t 64) (.t 66)),
  ao 16 68 (.pick (.t 59) (.k (.b true)) (.t 67))]
def r69_19 : List AOper := [ao 0 69 (.mv (.t 8)),
  ao 1 4 (.mv (.t 69)),
  ao 2 5 (.mv (.k (.b false)))]
def c69_20 : ACode := .seq (.reg r69_19) .ret
def c69_21 : ACode := .cond (.t 68) c69_20 .skip
def c69_22 : ACode := .seq (.reg r69_18) c69_21
def r69_23 : List AOper := [ao 0 70 (.mv (.t 8)),
  ao 1 71 (.mv (.t 11)),
  ao 2 72 (.ia 2 (.t 70) (.t 71)),
  ao 3 73 (.fa 0 (.t 72)),
  ao 4 74 (.ld 1 false (.t 73)),
  ao 5 75 (.bin .add (.t 74) (.k (.i 1))),
  ao 6 10 (.mv (.t 75))]
def c69_24 : ACode := .seq c69_22 (.reg r69_23)
def c69_25 : ACode := .block 1 c69_24
def r69_26 : List AOper := [ao 0 50 (.mv (.t 11)),
  ao 1 51 (.bin .add (.t 50) (.k (.i 1))),
  ao 2 11 (.mv (.t 51))]
def c69_27 : ACode := .seq c69_17 (.seq c69_25 (.reg r69_26))
def c69_28 : ACode := .loop c69_27
def c69_29 : ACode := .block 0 c69_28
def c69_30 : ACode := .seq (.reg r69_14) c69_29
def r69_31 : List AOper := [ao 0 76 (.mv (.t 8)),
  ao 1 4 (.mv (.t 76)),
  ao 2 5 (.mv (.k (.b true)))]
def c69 : ACode := .seq (.reg r69_0) (.seq (.reg r69_1) (.seq c69_6 (.seq (.reg r69_7) (.seq c69_12 (.seq (.reg r69_13) (.seq c69_30 (.seq (.reg r69_31) .ret)))))))
def s69 : List ARes := [.tmp 4, .tmp 5]
theorem ok69 : okF Try.prog 69 77 c69 s69 := ⟨Try.f69, Try.func69, Try.ntmps69, by kernel_rfl, by kernel_rfl, by kernel_rfl⟩
def inv69 (x : LP) (rs : List LR) (i : Nat) (σ : St) : Prop := ∃ nx : Int, σ.t 10 = .i nx ∧ (∃ u, σ.t 3 = .c (.ptr 3 u 0) ∧ σ.H 3 = some (.var u 112 [.v (.s (.int .i64 x.num)), .v (.s (.int .i64 x.first)), .v (.s (.int .i64 x.next)), .v (.s (.int .i64 x.size))])) ∧ σ.t 8 = tL (en eR rs) ∧ σ.t 11 = .i i
def URl_1 := Bx.mk <|
  aN (uA c69.eq_1) <| aN (uR r69_0.eq_1) <| aN (uR r69_1.eq_1) <| aN (uA c69_6.eq_1) <| aN (uR r69_2.eq_1) <| aN (uA c69_5.eq_1) <| aN (uA c69_4.eq_1) <| aN (uR r69_3.eq_1) <| aN (uR r69_7.eq_1) <| aN (uA c69_12.eq_1) <| aN (uR r69_8.eq_1) <| aN (uA c69_11.eq_1) <| aN (uA c69_10.eq_1) <| aN (uR r69_9.eq_1) <| aN (uR r69_13.eq_1) <| aN (uA c69_30.eq_1) <| aN (uR r69_14.eq_1) <| aN (uA c69_29.eq_1) <| aN (uA c69_28.eq_1) <| aN (uR r69_31.eq_1) <| s69.eq_1
def URl_3 := Bx.mk <|
  aN (uA c69_27.eq_1) <| aN (uA c69_17.eq_1) <| aN (uR r69_15.eq_1) <| aN (uA c69_16.eq_1) <| aN (uA c69_25.eq_1) <| aN (uA c69_24.eq_1) <| aN (uA c69_22.eq_1) <| aN (uR r69_18.eq_1) <| aN (uA c69_21.eq_1) <| aN (uA c69_20.eq_1) <| aN (uR r69_19.eq_1) <| aN (uR r69_23.eq_1) <| aN (uR r69_26.eq_1) <| aN (uA c69.eq_1) <| aN (uR r69_0.eq_1) <| aN (uR r69_1.eq_1) <| aN (uA c69_6.eq_1) <| aN (uR r69_2.eq_1) <| aN (uA c69_5.eq_1) <| aN (uA c69_4.eq_1) <| aN (uR r69_3.eq_1) <| aN (uR r69_7.eq_1) <| aN (uA c69_12.eq_1) <| aN (uR r69_8.eq_1) <| aN (uA c69_11.eq_1) <| aN (uA c69_10.eq_1) <| aN (uR r69_9.eq_1) <| aN (uR r69_13.eq_1) <| aN (uA c69_30.eq_1) <| aN (uR r69_14.eq_1) <| aN (uA c69_29.eq_1) <| aN (uA c69_28.eq_1) <| aN (uR r69_31.eq_1) <| s69.eq_1
theorem part43_ok (d : Dk) (hd : fineDk d) (x : LP) (hx : okP x) : PC 69 [tDk d, tLP x] (fun y : List LR × Bool => okRs y.1) (fun y => tRB y.1 y.2) := by
  obtain ⟨x1, x2, x3, x4⟩ := hx
  obtain ⟨w, hw, C1⟩ := decB x1
  obtain ⟨⟨data, there⟩, hk, C2⟩ := look_ok d hd ((⟨#[115]⟩ : ByteArray) ++ w)
  have hz := lk_size hk
  simp only at hz
  have q1 : (⟨#[115]⟩ : ByteArray).size + w.size ≤ 9223372036854775807 := by have : (⟨#[115]⟩ : ByteArray).size = 1 := rfl; omega
  refine PC.intro ok69 rfl (fun _ => rfl) fun X => ?_
  simp only [RUX, Nat.reduceAdd, reduceIte, Nat.reduceEqDiff, Nat.reduceLT, Nat.reduceLeDiff, reduceCtorEq, eq_self, FIX, forall_const, endE_n, endE_r, CHT, disj, Nat.reduceBEq, beq_self_eq_true, APT, APX, forall_eq, ALT, ALU, URl_1.d]
  refine callC C1 rfl rfl rfl rfl ?_
  simp only [RUX, Nat.reduceAdd, reduceIte, Nat.reduceEqDiff, Nat.reduceLT, Nat.reduceLeDiff, reduceCtorEq, eq_self, FIX, forall_const, endE_n, endE_r, CHT, disj, Nat.reduceBEq, beq_self_eq_true, APT, APX, forall_eq, ALT, ALU, URl_1.d, sStr, q1]
  refine callC C2 rfl rfl rfl rfl ?_
  cases there with
  | false =>
    simp only [RUX, Nat.reduceAdd, reduceIte, Nat.reduceEqDiff, Nat.reduceLT, Nat.reduceLeDiff, reduceCtorEq, eq_self, FIX, forall_const, endE_n, endE_r, CHT, disj, Nat.reduceBEq, beq_self_eq_true, APT, APX, forall_eq, ALT, ALU, URl_1.d]
    refine ES.mk ([], false) okRs_nil ?_
    simp only [RUX, Nat.reduceAdd, reduceIte, Nat.reduceEqDiff, Nat.reduceLT, Nat.reduceLeDiff, reduceCtorEq, eq_self, FIX, forall_const, endE_n, endE_r, CHT, disj, Nat.reduceBEq, beq_self_eq_true, APT, APX, forall_eq, ALT, ALU, URl_1.d, en_nil]
  | true =>
  by_cases g1 : (data.size : Int) < x.size
  · simp only [RUX, Nat.reduceAdd, reduceIte, Nat.reduceEqDiff, Nat.reduceLT, Nat.reduceLeDiff, reduceCtorEq, eq_self, FIX, forall_const, endE_n, endE_r, CHT, disj, Nat.reduceBEq, beq_self_eq_true, APT, APX, forall_eq, ALT, ALU, URl_1.d, g1]
    refine ES.mk ([], false) okRs_nil ?_
    simp only [RUX, Nat.reduceAdd, reduceIte, Nat.reduceEqDiff, Nat.reduceLT, Nat.reduceLeDiff, reduceCtorEq, eq_self, FIX, forall_const, endE_n, endE_r, CHT, disj, Nat.reduceBEq, beq_self_eq_true, APT, APX, forall_eq, ALT, ALU, URl_1.d, en_nil]
  have y1 : (0 : Int) ≤ x.size := x4.1
  have y2 : x.size ≤ (data.size : Int) := by omega
  have y0 : (0 : Int) ≤ 0 := Int.le_refl _
  obtain ⟨⟨rs, n⟩, ⟨m1, m2, m3, m4⟩, C3⟩ := frames_ok (data.extract 0 x.size.toNat) (by rw [ByteArray.size_extract]; omega)
  simp only at m1 m2 m3 m4 C3
  have hrs : okRs rs := ⟨by rw [ByteArray.size_extract] at m1; omega, m2⟩
  simp only [RUX, Nat.reduceAdd, reduceIte, Nat.reduceEqDiff, Nat.reduceLT, Nat.reduceLeDiff, reduceCtorEq, eq_self, FIX, forall_const, endE_n, endE_r, CHT, disj, Nat.reduceBEq, beq_self_eq_true, APT, APX, forall_eq, ALT, ALU, URl_1.d, g1, lohi, y0, y1, y2, Int.toNat_zero]
  refine callC C3 rfl rfl rfl rfl ?_
  by_cases g2 : (n != x.size) = true
  · simp only [RUX, Nat.reduceAdd, reduceIte, Nat.reduceEqDiff, Nat.reduceLT, Nat.reduceLeDiff, reduceCtorEq, eq_self, FIX, forall_const, endE_n, endE_r, CHT, disj, Nat.reduceBEq, beq_self_eq_true, APT, APX, forall_eq, ALT, ALU, URl_1.d, g2]
    refine ES.mk (rs, false) hrs ?_
    simp only [RUX, Nat.reduceAdd, reduceIte, Nat.reduceEqDiff, Nat.reduceLT, Nat.reduceLeDiff, reduceCtorEq, eq_self, FIX, forall_const, endE_n, endE_r, CHT, disj, Nat.reduceBEq, beq_self_eq_true, APT, APX, forall_eq, ALT, ALU, URl_1.d]
  rw [Bool.not_eq_true] at g2
  simp only [RUX, Nat.reduceAdd, reduceIte, Nat.reduceEqDiff, Nat.reduceLT, Nat.reduceLeDiff, reduceCtorEq, eq_self, FIX, forall_const, endE_n, endE_r, CHT, disj, Nat.reduceBEq, beq_self_eq_true, APT, APX, forall_eq, ALT, ALU, URl_1.d, g2]
  refine AW.upto rs.length (inv69 x rs) ⟨_, rfl, ⟨_, rfl, rfl⟩, rfl, rfl⟩ fun i t H c hi h => ?_
  obtain ⟨nx, e10, ⟨u, e3, eH⟩, e8, e11⟩ := h
  simp only [T.c, T.i, tL] at e10 e3 eH e8 e11
  by_cases k1 : (i : Int) < rs.length
  rotate_left
  · simp only [RUX, Nat.reduceAdd, reduceIte, Nat.reduceEqDiff, Nat.reduceLT, Nat.reduceLeDiff, reduceCtorEq, eq_self, FIX, forall_const, endE_n, endE_r, CHT, disj, Nat.reduceBEq, beq_self_eq_true, APT, APX, forall_eq, ALT, ALU, URl_3.d, URl_1.d, e10, e3, eH, e8, e11, en_len, k1]
    refine ES.mk (rs, true) hrs ?_
    simp only [RUX, Nat.reduceAdd, reduceIte, Nat.reduceEqDiff, Nat.reduceLT, Nat.reduceLeDiff, reduceCtorEq, eq_self, FIX, forall_const, endE_n, endE_r, CHT, disj, Nat.reduceBEq, beq_self_eq_true, APT, APX, forall_eq, ALT, ALU, URl_1.d, e8]
  obtain ⟨r, hr⟩ : ∃ r, rs[i]? = some r := ⟨_, List.getElem?_eq_getElem (by omega)⟩
  have ex := en_at eR hr
  have hr1 := m2 r (List.mem_of_getElem? hr)
  have gz : (0 : Int) ≤ i := by omega
  have hl := hrs.1
  have w2 : IntKind.i64.wrap ((i : Int) + 1) = ((i + 1 : Nat) : Int) := wrap64 (x := (i : Int) + 1) ⟨by omega, by omega⟩
  by_cases f1 : r.pos < nx
  · simp only [RUX, Nat.reduceAdd, reduceIte, Nat.reduceEqDiff, Nat.reduceLT, Nat.reduceLeDiff, reduceCtorEq, eq_self, FIX, forall_const, endE_n, endE_r, CHT, disj, Nat.reduceBEq, beq_self_eq_true, APT, APX, forall_eq, ALT, ALU, URl_3.d, e10, e3, eH, e8, e11, en_len, k1, ex, gz, Int.toNat_natCast, eR, f1]
    refine ES.mk (rs, false) hrs ?_
    simp only [RUX, Nat.reduceAdd, reduceIte, Nat.reduceEqDiff, Nat.reduceLT, Nat.reduceLeDiff, reduceCtorEq, eq_self, FIX, forall_const, endE_n, endE_r, CHT, disj, Nat.reduceBEq, beq_self_eq_true, APT, APX, forall_eq, ALT, ALU, s69, e8]
  by_cases f2 : r.pos ≥ x.next
  · simp only [RUX, Nat.reduceAdd, reduceIte, Nat.reduceEqDiff, Nat.reduceLT, Nat.reduceLeDiff, reduceCtorEq, eq_self, FIX, forall_const, endE_n, endE_r, CHT, disj, Nat.reduceBEq, beq_self_eq_true, APT, APX, forall_eq, ALT, ALU, URl_3.d, e10, e3, eH, e8, e11, en_len, k1, ex, gz, Int.toNat_natCast, eR, f1, f2]
    refine ES.mk (rs, false) hrs ?_
    simp only [RUX, Nat.reduceAdd, reduceIte, Nat.reduceEqDiff, Nat.reduceLT, Nat.reduceLeDiff, reduceCtorEq, eq_self, FIX, forall_const, endE_n, endE_r, CHT, disj, Nat.reduceBEq, beq_self_eq_true, APT, APX, forall_eq, ALT, ALU, s69, e8]
  simp only [RUX, Nat.reduceAdd, reduceIte, Nat.reduceEqDiff, Nat.reduceLT, Nat.reduceLeDiff, reduceCtorEq, eq_self, FIX, forall_const, endE_n, endE_r, CHT, disj, Nat.reduceBEq, beq_self_eq_true, APT, APX, forall_eq, ALT, ALU, URl_3.d, e10, e3, eH, e8, e11, en_len, k1, ex, gz, Int.toNat_natCast, eR, f1, f2, w2]
  exact ⟨by omega, _, rfl, ⟨u, e3, eH⟩, e8, rfl⟩
abbrev tPlI (p : Pl) (n : Int) : T := .tup [.agg (cPl p), .one (.v (.s (.int .i64 n)))]
/- loop.example/teagle/spec.l43Plan -/
def r68_0 : List AOper := [ao 0 1 (.box 27 (.t 0)),
  ao 1 2 (.alloc 96 [.nil0, (.v (.s (.int .i64 0))), (.v (.s (.int .i64 0)))]),
  ao 2 3 (.mv (.k (.i 0)))]
def r68_1 : List AOper := [ao 0 13 (.ld 3 true (.t 1)),
  ao 1 14 (.call (.k (.c (.fn 27 []))) [(.t 13)]),
  ao 2 4 (.mv (.t 14))]
def r68_2 : List AOper := [ao 0 15 (.build [.nil0, (.v (.s (.int .i64 0))), (.v (.s (.int .i64 0)))] []),
  ao 1 5 (.alloc 96 [.nil0, (.v (.s (.int .i64 0))), (.v (.s (.int .i64 0)))]),
  an 2 (.st 3 (.t 5) (.t 15))]
def r68_3 : List AOper := [ao 0 6 (.mv (.k (.i 0)))]
def r68_4 : List AOper := [ao 0 7 (.mv (.k (.i 0)))]
def r68_5 : List AOper := [ao 0 16 (.mv (.t 7)),
  ao 1 17 (.mv (.t 4)),
  ao 2 18 (.len (.t 17)),
  ao 3 19 (.bin .lss (.t 16) (.t 18))]
def c68_6 : ACode := .cond (.t 19) .skip (.exit 0)
def c68_7 : ACode := .seq (.reg r68_5) c68_6
def r68_8 : List AOper := [ao 0 22 (.mv (.t 4)),
  ao 1 23 (.mv (.t 7)),
  ao 2 24 (.ia 1 (.t 22) (.t 23)),
  ao 3 25 (.ld 1 false (.t 24)),
  ao 4 26 (.call (.k (.c (.fn 77 []))) [(.t 25), (.k (.s (.int .u8 109)))]),
  ao 5 8 (.mv (.t 26))]
def r68_9 : List AOper := [ao 0 27 (.mv (.t 8)),
  ao 1 28 (.mv (.t 6)),
  ao 2 29 (.bin .gtr (.t 27) (.t 28))]
def r68_10 : List AOper := [ao 0 31 (.ld 3 true (.t 1)),
  au 1 32 [0] (.mv (.t 4)),
  au 2 33 [0, 1] (.mv (.t 7)),
  au 3 34 [0] (.ia 1 (.t 32) (.t 33)),
  au 4 35 [0] (.ld 1 false (.t 34)),
  ao 5 36 (.call (.k (.c (.fn 8 []))) [(.t 31), (.t 35)]),
  ao 6 30 (.mv (.t 36)),
  ao 7 37 (.ext 0 (.t 30)),
  au 8 38 [7] (.ext 1 (.t 30)),
  au 9 9 [8] (.mv (.t 37)),
  ao 10 10 (.mv (.t 38))]
def r68_11 : List AOper := [ao 0 40 (.mv (.t 9)),
  ao 1 41 (.call (.k (.c (.fn 78 []))) [(.t 40)]),
  ao 2 39 (.mv (.t 41)),
  ao 3 42 (.ext 0 (.t 39)),
  ao 4 43 (.ext 1 (.t 39)),
  ao 5 11 (.alloc 96 [.nil0, (.v (.s (.int .i64 0))), (.v (.s (.int .i64 0)))]),
  an 6 (.st 3 (.t 11) (.t 42)),
  ao 7 12 (.mv (.t 43))]
def r68_12 : List AOper := [ao 0 44 (.mv (.t 12))]
def r68_13 : List AOper := [ao 0 45 (.ld 3 true (.t 11)),
  an 1 (.st 3 (.t 5) (.t 45))]
def r68_14 : List AOper := [ao 0 46 (.mv (.t 8)),
  ao 1 6 (.mv (.t 46))]
def c68_15 : ACode := .seq (.reg r68_13) (.reg r68_14)
def c68_16 : ACode := .cond (.t 44) c68_15 .skip
def c68_17 : ACode := .seq (.reg r68_10) (.seq (.reg r68_11) (.seq (.reg r68_12) c68_16))
def c68_18 : ACode := .cond (.t 29) c68_17 .skip
def c68_19 : ACode := .seq (.reg r68_8) (.seq (.reg r68_9) c68_18)
def c68_20 : ACode := .block 1 c68_19
def r68_21 : List AOper := [ao 0 20 (.mv (.t 7)),
  ao 1 21 (.bin .add (.t 20) (.k (.i 1))),
  ao 2 7 (.mv (.t 21))]
def c68_22 : ACode := .seq c68_7 (.seq c68_20 (.reg r68_21))
def c68_23 : ACode := .loop c68_22
def c68_24 : ACode := .block 0 c68_23
def c68_25 : ACode := .seq (.reg r68_4) c68_24
def r68_26 : List AOper := [ao 0 47 (.ld 3 true (.t 5)),
  ao 1 48 (.mv (.t 6)),
  an 2 (.st 3 (.t 2) (.t 47)),
  ao 3 3 (.mv (.t 48))]
def c68 : ACode := .seq (.reg r68_0) (.seq (.reg r68_1) (.seq (.reg r68_2) (.seq (.reg r68_3) (.seq c68_25 (.seq (.reg r68_26) .ret)))))
def s68 : List ARes := [.cell 2 3 true, .tmp 3]
theorem ok68 : okF Try.prog 68 49 c68 s68 := ⟨Try.f68, Try.func68, Try.ntmps68, by kernel_rfl, by kernel_rfl, by kernel_rfl⟩
def isPl (cs : List C) : Prop := cs = [.nil0, .v (.s (.int .i64 0)), .v (.s (.int .i64 0))] ∨ ∃ p, okPl2 p ∧ cs = cPl p
def inv68 (d : Dk) (ns : List ByteArray) (i : Nat) (σ : St) : Prop := ∃ (n : Int) (cs : List C), okM n ∧ isPl cs ∧ (∃ u, σ.t 1 = .c (.ptr 1 u 0) ∧ σ.H 1 = some (.var u 27 [.v (.sl (en eF d.files)), .v (.sl (en eS d.names)), .v (.sl (en eM d.moves))])) ∧ (∃ u, σ.t 2 = .c (.ptr 2 u 0) ∧ σ.H 2 = some (.var u 96 [.nil0, .v (.s (.int .i64 0)), .v (.s (.int .i64 0))])) ∧ (∃ u, σ.t 5 = .c (.ptr 5 u 0) ∧ σ.H 5 = some (.var u 96 cs)) ∧ σ.t 4 = tL (en eS ns) ∧ σ.t 6 = .i n ∧ σ.t 7 = .i i
def URl_2 := Bx.mk <|
  aN (uA c68.eq_1) <| aN (uR r68_0.eq_1) <| aN (uR r68_1.eq_1) <| aN (uR r68_2.eq_1) <| aN (uR r68_3.eq_1) <| aN (uA c68_25.eq_1) <| aN (uR r68_4.eq_1) <| aN (uA c68_24.eq_1) <| aN (uA c68_23.eq_1) <| aN (uR r68_26.eq_1) <| s68.eq_1
def URl_4 := Bx.mk <|
  aN (uA c68_22.eq_1) <| aN (uA c68_7.eq_1) <| aN (uR r68_5.eq_1) <| aN (uA c68_6.eq_1) <| aN (uA c68_20.eq_1) <| aN (uA c68_19.eq_1) <| aN (uR r68_8.eq_1) <| aN (uR r68_9.eq_1) <| aN (uA c68_18.eq_1) <| aN (uA c68_17.eq_1) <| aN (uR r68_10.eq_1) <| aN (uR r68_11.eq_1) <| aN (uR r68_12.eq_1) <| aN (uA c68_16.eq_1) <| aN (uA c68_15.eq_1) <| aN (uR r68_13.eq_1) <| aN (uR r68_14.eq_1) <| aN (uR r68_21.eq_1) <| aN (uA c68.eq_1) <| aN (uR r68_0.eq_1) <| aN (uR r68_1.eq_1) <| aN (uR r68_2.eq_1) <| aN (uR r68_3.eq_1) <| aN (uA c68_25.eq_1) <| aN (uR r68_4.eq_1) <| aN (uA c68_24.eq_1) <| aN (uA c68_23.eq_1) <| aN (uR r68_26.eq_1) <| s68.eq_1
theorem plan43_ok (d : Dk) (hd : fineDk d) : PC 68 [tDk d] (fun y : Pl × Int => okPl2 y.1 ∧ okM y.2) (fun y => tPlI y.1 y.2) := by
  obtain ⟨ns, hns, C1⟩ := namesC_ok d hd
  have hl := nm_len hd hns
  refine PC.intro ok68 rfl (fun _ => rfl) fun X => ?_
  simp only [RUX, Nat.reduceAdd, reduceIte, Nat.reduceEqDiff, Nat.reduceLT, Nat.reduceLeDiff, reduceCtorEq, eq_self, FIX, forall_const, endE_n, endE_r, CHT, disj, Nat.reduceBEq, beq_self_eq_true, APT, APX, forall_eq, ALT, ALU, URl_2.d]
  refine callC C1 rfl rfl rfl rfl ?_
  simp only [RUX, Nat.reduceAdd, reduceIte, Nat.reduceEqDiff, Nat.reduceLT, Nat.reduceLeDiff, reduceCtorEq, eq_self, FIX, forall_const, endE_n, endE_r, CHT, disj, Nat.reduceBEq, beq_self_eq_true, APT, APX, forall_eq, ALT, ALU, URl_2.d]
  refine AW.upto ns.length (inv68 d ns) ⟨0, _, okM_zero, .inl rfl, ⟨_, rfl, rfl⟩, ⟨_, rfl, rfl⟩, ⟨_, rfl, rfl⟩, rfl, rfl, rfl⟩ fun i t H c hi h => ?_
  obtain ⟨n, cs, hn, hcs, ⟨u1, e1, eH1⟩, ⟨u2, e2, eH2⟩, ⟨u5, e5, eH5⟩, e4, e6, e7⟩ := h
  simp only [T.c, T.i, tL] at e1 eH1 e2 eH2 e5 eH5 e4 e6 e7
  have hc3 : cs.length = 3 := by rcases hcs with rfl | ⟨p, _, rfl⟩ <;> rfl
  by_cases k1 : (i : Int) < ns.length
  rotate_left
  · rcases hcs with rfl | ⟨p, hp, rfl⟩
    · simp only [RUX, Nat.reduceAdd, reduceIte, Nat.reduceEqDiff, Nat.reduceLT, Nat.reduceLeDiff, reduceCtorEq, eq_self, FIX, forall_const, endE_n, endE_r, CHT, disj, Nat.reduceBEq, beq_self_eq_true, APT, APX, forall_eq, ALT, ALU, URl_4.d, URl_2.d, e2, eH2, e5, eH5, e4, e6, e7, en_len, k1]
      refine ES.mk (zPl, n) ⟨zPl_ok2, hn⟩ ?_
      simp only [RUX, Nat.reduceAdd, reduceIte, Nat.reduceEqDiff, Nat.reduceLT, Nat.reduceLeDiff, reduceCtorEq, eq_self, FIX, forall_const, endE_n, endE_r, CHT, disj, Nat.reduceBEq, beq_self_eq_true, APT, APX, forall_eq, ALT, ALU, URl_2.d, e2, eH2, zPl, en_nil]
    · simp only [RUX, Nat.reduceAdd, reduceIte, Nat.reduceEqDiff, Nat.reduceLT, Nat.reduceLeDiff, reduceCtorEq, eq_self, FIX, forall_const, endE_n, endE_r, CHT, disj, Nat.reduceBEq, beq_self_eq_true, APT, APX, forall_eq, ALT, ALU, URl_4.d, URl_2.d, e2, eH2, e5, eH5, e4, e6, e7, en_len, k1]
      refine ES.mk (p, n) ⟨hp, hn⟩ ?_
      simp only [RUX, Nat.reduceAdd, reduceIte, Nat.reduceEqDiff, Nat.reduceLT, Nat.reduceLeDiff, reduceCtorEq, eq_self, FIX, forall_const, endE_n, endE_r, CHT, disj, Nat.reduceBEq, beq_self_eq_true, APT, APX, forall_eq, ALT, ALU, URl_2.d, e2, eH2]
  obtain ⟨nm, hx⟩ : ∃ x, ns[i]? = some x := ⟨_, List.getElem?_eq_getElem (by omega)⟩
  have ex := en_at eS hx
  have hsz := nm_size hd hns nm (List.mem_of_getElem? hx)
  have gz : (0 : Int) ≤ i := by omega
  have w2 : IntKind.i64.wrap ((i : Int) + 1) = ((i + 1 : Nat) : Int) := wrap64 (x := (i : Int) + 1) ⟨by omega, by omega⟩
  obtain ⟨k, hk, C2⟩ := num43_ok nm 109 (by omega)
  obtain ⟨⟨data, there⟩, hlk, C3⟩ := look_ok d hd nm
  have hz := lk_size hlk
  simp only at hz
  obtain ⟨⟨p, b⟩, hp, C4⟩ := planRead_ok data (by omega)
  simp only [RUX, Nat.reduceAdd, reduceIte, Nat.reduceEqDiff, Nat.reduceLT, Nat.reduceLeDiff, reduceCtorEq, eq_self, FIX, forall_const, endE_n, endE_r, CHT, disj, Nat.reduceBEq, beq_self_eq_true, APT, APX, forall_eq, ALT, ALU, URl_4.d, e1, eH1, e2, eH2, e5, eH5, e4, e6, e7, en_len, k1, ex, gz, Int.toNat_natCast, eS]
  refine callC C2 rfl rfl rfl rfl ?_
  by_cases f1 : k > n
  rotate_left
  · simp only [RUX, Nat.reduceAdd, reduceIte, Nat.reduceEqDiff, Nat.reduceLT, Nat.reduceLeDiff, reduceCtorEq, eq_self, FIX, forall_const, endE_n, endE_r, CHT, disj, Nat.reduceBEq, beq_self_eq_true, APT, APX, forall_eq, ALT, ALU, URl_4.d, e1, eH1, e2, eH2, e5, eH5, e4, e6, e7, en_len, k1, ex, gz, Int.toNat_natCast, eS, f1, w2]
    exact ⟨by omega, n, cs, hn, hcs, ⟨u1, e1, eH1⟩, ⟨u2, e2, eH2⟩, ⟨u5, e5, eH5⟩, e4, e6, rfl⟩
  simp only [RUX, Nat.reduceAdd, reduceIte, Nat.reduceEqDiff, Nat.reduceLT, Nat.reduceLeDiff, reduceCtorEq, eq_self, FIX, forall_const, endE_n, endE_r, CHT, disj, Nat.reduceBEq, beq_self_eq_true, APT, APX, forall_eq, ALT, ALU, URl_4.d, e1, eH1, e2, eH2, e5, eH5, e4, e6, e7, en_len, k1, ex, gz, Int.toNat_natCast, eS, f1]
  refine callC C3 rfl rfl rfl rfl ?_
  simp only [RUX, Nat.reduceAdd, reduceIte, Nat.reduceEqDiff, Nat.reduceLT, Nat.reduceLeDiff, reduceCtorEq, eq_self, FIX, forall_const, endE_n, endE_r, CHT, disj, Nat.reduceBEq, beq_self_eq_true, APT, APX, forall_eq, ALT, ALU, URl_4.d, e1, eH1, e2, eH2, e5, eH5, e4, e6, e7, en_len, k1, ex, gz, Int.toNat_natCast, eS, f1]
  refine callC C4 rfl rfl rfl rfl ?_
  cases b with
  | false =>
    simp only [RUX, Nat.reduceAdd, reduceIte, Nat.reduceEqDiff, Nat.reduceLT, Nat.reduceLeDiff, reduceCtorEq, eq_self, FIX, forall_const, endE_n, endE_r, CHT, disj, Nat.reduceBEq, beq_self_eq_true, APT, APX, forall_eq, ALT, ALU, URl_4.d, e1, eH1, e2, eH2, e5, eH5, e4, e6, e7, en_len, k1, ex, gz, Int.toNat_natCast, eS, f1, w2]
    exact ⟨by omega, n, cs, hn, hcs, ⟨u1, e1, eH1⟩, ⟨u2, e2, eH2⟩, ⟨u5, e5, eH5⟩, e4, e6, rfl⟩
  | true =>
    have hd3 : cs.drop 3 = [] := List.drop_of_length_le (by omega)
    simp only [RUX, Nat.reduceAdd, reduceIte, Nat.reduceEqDiff, Nat.reduceLT, Nat.reduceLeDiff, reduceCtorEq, eq_self, FIX, forall_const, endE_n, endE_r, CHT, disj, Nat.reduceBEq, beq_self_eq_true, APT, APX, forall_eq, ALT, ALU, URl_4.d, e1, eH1, e2, eH2, e5, eH5, e4, e6, e7, en_len, k1, ex, gz, Int.toNat_natCast, eS, f1, w2, hc3, hd3]
    exact ⟨by omega, k, cPl p, hk, .inr ⟨p, hp, rfl⟩, ⟨u1, e1, eH1⟩, ⟨u2, e2, eH2⟩, ⟨u5, e5, rfl⟩, e4, rfl, rfl⟩
end Go.V
set_option linter.unusedSimpArgs false
namespace Go.V
open Go.Proofs
/-- What is known of a log that is opened. -/
structure LS where
  code : Int
  num : Int
  plan : Pl
  size : Int
  torn : Bool
  next : Int
  recs : List LR
abbrev cLS (s : LS) : List C := [.v (.s (.int .i64 s.code)), .v (.s (.int .i64 s.num)), .v (.sl (en eP s.plan.parts)), .v (.s (.int .i64 s.plan.opn)), .v (.s (.int .i64 s.plan.first)), .v (.s (.int .i64 s.size)), .v (.s (.bool s.torn)), .v (.s (.int .i64 s.next)), .v (.sl (en eR s.recs))]
abbrev tLS (s : LS) : T := .pt (.agg (cLS s))
structure okLS (s : LS) : Prop where
  num : okM s.num
  plan : okPl s.plan
  size : 0 ≤ s.size ∧ s.size ≤ 20000
  next : 0 ≤ s.next ∧ s.next ≤ 1000000000
def okLSd (d : Dk) (s : LS) : Prop := okLS s ∧ (s.code = 0 → DOk d)
theorem okLS_code (d : Dk) (k : Int) (hk : k ≠ 0) : okLSd d ⟨k, 0, zPl, 0, false, 0, []⟩ := ⟨⟨okM_zero, zPl_ok, ⟨Int.le_refl _, (by simp only; omega)⟩, ⟨Int.le_refl _, (by simp only; omega)⟩⟩, fun h => absurd h hk⟩
/- loop.example/teagle/spec.LogOpen -/
def r62_0 : List AOper := [ao 0 1 (.box 27 (.t 0)),
  ao 1 2 (.alloc 99 [(.v (.s (.int .i64 0))), (.v (.s (.int .i64 0))), .nil0, (.v (.s (.int .i64 0))), (.v (.s (.int .i64 0))), (.v (.s (.int .i64 0))), (.v (.s (.bool false))), (.v (.s (.int .i64 0))), .nil0])]
def r62_1 : List AOper := [ao 0 14 (.ld 3 true (.t 1)),
  ao 1 15 (.call (.k (.c (.fn 7 []))) [(.t 14)]),
  ao 2 16 (.un .not (.t 15))]
def r62_2 : List AOper := [ao 0 17 (.build [(.v (.s (.int .i64 0))), (.v (.s (.int .i64 0))), .nil0, (.v (.s (.int .i64 0))), (.v (.s (.int .i64 0))), (.v (.s (.int .i64 0))), (.v (.s (.bool false))), (.v (.s (.int .i64 0))), .nil0] [(0, 1, (.k (.i 7)))]),
  an 1 (.st 9 (.t 2) (.t 17))]
def c62_3 : ACode := .seq (.reg r62_2) .ret
def c62_4 : ACode := .cond (.t 16) c62_3 .skip
def c62_5 : ACode := .seq (.reg r62_1) c62_4
def r62_6 : List AOper := [ao 0 19 (.ld 3 true (.t 1)),
  ao 1 20 (.call (.k (.c (.fn 68 []))) [(.t 19)]),
  ao 2 18 (.mv (.t 20)),
  ao 3 21 (.ext 0 (.t 18)),
  ao 4 22 (.ext 1 (.t 18)),
  ao 5 3 (.alloc 96 [.nil0, (.v (.s (.int .i64 0))), (.v (.s (.int .i64 0)))]),
  an 6 (.st 3 (.t 3) (.t 21)),
  ao 7 4 (.mv (.t 22))]
def r62_7 : List AOper := [ao 0 23 (.mv (.t 4)),
  ao 1 24 (.bin .eql (.t 23) (.k (.i 0)))]
def r62_8 : List AOper := [ao 0 25 (.build [(.v (.s (.int .i64 0))), (.v (.s (.int .i64 0))), .nil0, (.v (.s (.int .i64 0))), (.v (.s (.int .i64 0))), (.v (.s (.int .i64 0))), (.v (.s (.bool false))), (.v (.s (.int .i64 0))), .nil0] [(0, 1, (.k (.i 1)))]),
  an 1 (.st 9 (.t 2) (.t 25))]
def c62_9 : ACode := .seq (.reg r62_8) .ret
def c62_10 : ACode := .cond (.t 24) c62_9 .skip
def c62_11 : ACode := .seq (.reg r62_7) c62_10
def r62_12 : List AOper := [ao 0 26 (.mv (.t 4)),
  ao 1 27 (.ld 3 true (.t 3)),
  ao 2 28 (.build [(.v (.s (.int .i64 0))), (.v (.s (.int .i64 0))), .nil0, (.v (.s (.int .i64 0))), (.v (.s (.int .i64 0))), (.v (.s (.int .i64 0))), (.v (.s (.bool false))), (.v (.s (.int .i64 0))), .nil0] [(1, 1, (.t 26)), (2, 3, (.t 27))]),
  ao 3 5 (.alloc 99 [(.v (.s (.int .i64 0))), (.v (.s (.int .i64 0))), .nil0, (.v (.s (.int .i64 0))), (.v (.s (.int .i64 0))), (.v (.s (.int .i64 0))), (.v (.s (.bool false))), (.v (.s (.int .i64 0))), .nil0]),
  an 4 (.st 9 (.t 5) (.t 28))]
def r62_13 : List AOper := [ao 0 6 (.mv (.k (.i 0)))]
def r62_14 : List AOper := [ao 0 29 (.mv (.t 6)),
  ao 1 30 (.fa 0 (.t 3)),
  ao 2 31 (.ld 1 false (.t 30)),
  ao 3 32 (.len (.t 31)),
  ao 4 33 (.bin .lss (.t 29) (.t 32))]
def c62_15 : ACode := .cond (.t 33) .skip (.exit 0)
def c62_16 : ACode := .seq (.reg r62_14) c62_15
def r62_17 : List AOper := [ao 0 37 (.ld 3 true (.t 1)),
  au 1 38 [0] (.fa 0 (.t 3)),
  au 2 39 [0] (.ld 1 false (.t 38)),
  au 3 40 (ru 3) (.mv (.t 6)),
  au 4 41 [0] (.ia 4 (.t 39) (.t 40)),
  au 5 42 [0] (.ld 4 true (.t 41)),
  ao 6 43 (.call (.k (.c (.fn 69 []))) [(.t 37), (.t 42)]),
  ao 7 36 (.mv (.t 43)),
  ao 8 44 (.ext 0 (.t 36)),
  au 9 45 [8] (.ext 1 (.t 36)),
  au 10 7 [9] (.mv (.t 44)),
  ao 11 8 (.mv (.t 45))]
def r62_18 : List AOper := [ao 0 46 (.mv (.t 8)),
  ao 1 47 (.un .not (.t 46))]
def r62_19 : List AOper := [ao 0 48 (.build [(.v (.s (.int .i64 0))), (.v (.s (.int .i64 0))), .nil0, (.v (.s (.int .i64 0))), (.v (.s (.int .i64 0))), (.v (.s (.int .i64 0))), (.v (.s (.bool false))), (.v (.s (.int .i64 0))), .nil0] [(0, 1, (.k (.i 2)))]),
  an 1 (.st 9 (.t 2) (.t 48))]
def c62_20 : ACode := .seq (.reg r62_19) .ret
def c62_21 : ACode := .cond (.t 47) c62_20 .skip
def c62_22 : ACode := .seq (.reg r62_18) c62_21
def r62_23 : List AOper := [ao 0 49 (.fa 8 (.t 5)),
  ao 1 50 (.ld 1 false (.t 49)),
  ao 2 51 (.mv (.t 7)),
  ao 3 52 (.app 2 120 24 (.t 50) (.t 51)),
  ao 4 53 (.fa 8 (.t 5)),
  an 5 (.st 1 (.t 53) (.t 52))]
def c62_24 : ACode := .seq (.reg r62_17) (.seq c62_22 (.reg r62_23))
def c62_25 : ACode := .block 1 c62_24
def r62_26 : List AOper := [ao 0 34 (.mv (.t 6)),
  ao 1 35 (.bin .add (.t 34) (.k (.i 1))),
  ao 2 6 (.mv (.t 35))]
def c62_27 : ACode := .seq c62_16 (.seq c62_25 (.reg r62_26))
def c62_28 : ACode := .loop c62_27
def c62_29 : ACode := .block 0 c62_28
def c62_30 : ACode := .seq (.reg r62_13) c62_29
def r62_31 : List AOper := [ao 0 55 (.ld 3 true (.t 1)),
  au 1 56 [0] (.fa 1 (.t 3)),
  au 2 57 [0] (.ld 1 false (.t 56)),
  au 3 58 [0] (.call (.k (.c (.fn 64 []))) [(.t 57)]),
  au 4 59 [0] (.bin .add (.k (.s (.string ⟨#[115]⟩))) (.t 58)),
  ao 5 60 (.call (.k (.c (.fn 8 []))) [(.t 55), (.t 59)]),
  ao 6 54 (.mv (.t 60)),
  ao 7 61 (.ext 0 (.t 54)),
  au 8 62 [7] (.ext 1 (.t 54)),
  au 9 9 [8] (.mv (.t 61)),
  ao 10 10 (.mv (.t 62))]
def r62_32 : List AOper := [ao 0 63 (.mv (.t 10)),
  ao 1 64 (.un .not (.t 63))]
def r62_33 : List AOper := [ao 0 65 (.build [(.v (.s (.int .i64 0))), (.v (.s (.int .i64 0))), .nil0, (.v (.s (.int .i64 0))), (.v (.s (.int .i64 0))), (.v (.s (.int .i64 0))), (.v (.s (.bool false))), (.v (.s (.int .i64 0))), .nil0] [(0, 1, (.k (.i 2)))]),
  an 1 (.st 9 (.t 2) (.t 65))]
def c62_34 : ACode := .seq (.reg r62_33) .ret
def c62_35 : ACode := .cond (.t 64) c62_34 .skip
def c62_36 : ACode := .seq (.reg r62_32) c62_35
def r62_37 : List AOper := [ao 0 67 (.mv (.t 9)),
  ao 1 68 (.call (.k (.c (.fn 70 []))) [(.t 67)]),
  ao 2 66 (.mv (.t 68)),
  ao 3 69 (.ext 0 (.t 66)),
  ao 4 70 (.ext 1 (.t 66)),
  ao 5 11 (.mv (.t 69)),
  ao 6 12 (.mv (.t 70))]
def r62_38 : List AOper := [ao 0 13 (.mv (.k (.i 0)))]
def r62_39 : List AOper := [ao 0 71 (.mv (.t 13)),
  ao 1 72 (.mv (.t 11)),
  ao 2 73 (.len (.t 72)),
  ao 3 74 (.bin .lss (.t 71) (.t 73))]
def c62_40 : ACode := .cond (.t 74) .skip (.exit 2)
def c62_41 : ACode := .seq (.reg r62_39) c62_40
def r62_42 : List AOper := [ao 0 77 (.mv (.t 11)),
  au 1 78 [0] (.mv (.t 13)),
  ao 2 79 (.ia 2 (.t 77) (.t 78)),
  ao 3 80 (.fa 0 (.t 79)),
  ao 4 81 (.ld 1 false (.t 80)),
  au 5 82 (ru 5) (.fa 2 (.t 3)),
  au 6 83 (ru 5) (.ld 1 false (.t 82)),
  au 7 84 (ru 7) (.mv (.t 13)),
  au 8 85 (ru 5) (.bin .add (.t 83) (.t 84)),
  ao 9 86 (.bin .neq (.t 81) (.t 85))]
def r62_43 : List AOper := [ao 0 87 (.build [(.v (.s (.int .i64 0))), (.v (.s (.int .i64 0))), .nil0, (.v (.s (.int .i64 0))), (.v (.s (.int .i64 0))), (.v (.s (.int .i64 0))), (.v (.s (.bool false))), (.v (.s (.int .i64 0))), .nil0] [(0, 1, (.k (.i 2)))]),
  an 1 (.st 9 (.t 2) (.t 87))]
def c62_44 : ACode := .seq (.reg r62_43) .ret
def c62_45 : ACode := .cond (.t 86) c62_44 .skip
def c62_46 : ACode := .seq (.reg r62_42) c62_45
def c62_47 : ACode := .block 3 c62_46
def r62_48 : List AOper := [ao 0 75 (.mv (.t 13)),
  ao 1 76 (.bin .add (.t 75) (.k (.i 1))),
  ao 2 13 (.mv (.t 76))]
def c62_49 : ACode := .seq c62_41 (.seq c62_47 (.reg r62_48))
def c62_50 : ACode := .loop c62_49
def c62_51 : ACode := .block 2 c62_50
def c62_52 : ACode := .seq (.reg r62_38) c62_51
def r62_53 : List AOper := [ao 0 88 (.fa 8 (.t 5)),
  ao 1 89 (.ld 1 false (.t 88)),
  ao 2 90 (.mv (.t 11)),
  ao 3 91 (.app 2 120 24 (.t 89) (.t 90)),
  ao 4 92 (.fa 8 (.t 5)),
  an 5 (.st 1 (.t 92) (.t 91))]
def r62_54 : List AOper := [ao 0 93 (.mv (.t 12)),
  ao 1 94 (.fa 5 (.t 5)),
  an 2 (.st 1 (.t 94) (.t 93))]
def r62_55 : List AOper := [ao 0 95 (.mv (.t 12)),
  ao 1 96 (.mv (.t 9)),
  ao 2 97 (.lenS (.t 96)),
  ao 3 98 (.bin .lss (.t 95) (.t 97)),
  ao 4 99 (.fa 6 (.t 5)),
  an 5 (.st 1 (.t 99) (.t 98))]
def r62_56 : List AOper := [ao 0 100 (.fa 2 (.t 3)),
  ao 1 101 (.ld 1 false (.t 100)),
  ao 2 102 (.mv (.t 11)),
  ao 3 103 (.len (.t 102)),
  ao 4 104 (.bin .add (.t 101) (.t 103)),
  ao 5 105 (.fa 7 (.t 5)),
  an 6 (.st 1 (.t 105) (.t 104))]
def r62_57 : List AOper := [ao 0 106 (.ld 9 true (.t 5)),
  an 1 (.st 9 (.t 2) (.t 106))]
def c62 : ACode := .seq (.reg r62_0) (.seq c62_5 (.seq (.reg r62_6) (.seq c62_11 (.seq (.reg r62_12) (.seq c62_30 (.seq (.reg r62_31) (.seq c62_36 (.seq (.reg r62_37) (.seq c62_52 (.seq (.reg r62_53) (.seq (.reg r62_54) (.seq (.reg r62_55) (.seq (.reg r62_56) (.seq (.reg r62_57) .ret))))))))))))))
def s62 : List ARes := [.cell 2 9 true]
theorem ok62 : okF Try.prog 62 107 c62 s62 := ⟨Try.f62, Try.func62, Try.ntmps62, by kernel_rfl, by kernel_rfl, by kernel_rfl⟩
abbrev cZ : List C := [.v (.s (.int .i64 0)), .v (.s (.int .i64 0)), .nil0, .v (.s (.int .i64 0)), .v (.s (.int .i64 0)), .v (.s (.int .i64 0)), .v (.s (.bool false)), .v (.s (.int .i64 0)), .nil0]
def Hd62 (d : Dk) (p : Pl) (σ : St) : Prop := (∃ u, σ.t 1 = .c (.ptr 1 u 0) ∧ σ.H 1 = some (.var u 27 [.v (.sl (en eF d.files)), .v (.sl (en eS d.names)), .v (.sl (en eM d.moves))])) ∧ (∃ u, σ.t 2 = .c (.ptr 2 u 0) ∧ σ.H 2 = some (.var u 99 cZ)) ∧ (∃ u, σ.t 3 = .c (.ptr 3 u 0) ∧ σ.H 3 = some (.var u 96 (cPl p)))
def St62 (p : Pl) (k : Int) (rs : List LR) (σ : St) : Prop := ∃ u v, σ.t 5 = .c (.ptr 5 u 0) ∧ σ.H 5 = some (.var u 99 [.v (.s (.int .i64 0)), .v (.s (.int .i64 k)), .v (.sl (en eP p.parts)), .v (.s (.int .i64 p.opn)), .v (.s (.int .i64 p.first)), .v (.s (.int .i64 0)), .v (.s (.bool false)), .v (.s (.int .i64 0)), .own 1005 v rs.length]) ∧ σ.H 1005 = some (.arr v true 2 120 (en eR rs))
def inv62 (d : Dk) (p : Pl) (k : Int) (i : Nat) (σ : St) : Prop := Hd62 d p σ ∧ (∃ rs, rs.length ≤ 20000 * i ∧ St62 p k rs σ) ∧ σ.t 6 = .i i
def inv62b (d : Dk) (p : Pl) (k : Int) (rs1 rs : List LR) (data : ByteArray) (n : Int) (i : Nat) (σ : St) : Prop := Hd62 d p σ ∧ St62 p k rs σ ∧ σ.t 9 = tS data ∧ σ.t 11 = tL (en eR rs1) ∧ σ.t 12 = .i n ∧ σ.t 13 = .i i
def URm_1 := Bx.mk <|
  aN (uA c62.eq_1) <| aN (uR r62_0.eq_1) <| aN (uA c62_5.eq_1) <| aN (uR r62_1.eq_1) <| aN (uA c62_4.eq_1) <| aN (uA c62_3.eq_1) <| aN (uR r62_2.eq_1) <| aN (uR r62_6.eq_1) <| aN (uA c62_11.eq_1) <| aN (uR r62_7.eq_1) <| aN (uA c62_10.eq_1) <| aN (uA c62_9.eq_1) <| aN (uR r62_8.eq_1) <| aN (uR r62_12.eq_1) <| aN (uA c62_30.eq_1) <| aN (uR r62_13.eq_1) <| aN (uA c62_29.eq_1) <| aN (uA c62_28.eq_1) <| aN (uR r62_31.eq_1) <| aN (uA c62_36.eq_1) <| aN (uR r62_32.eq_1) <| aN (uA c62_35.eq_1) <| aN (uA c62_34.eq_1) <| aN (uR r62_33.eq_1) <| aN (uR r62_37.eq_1) <| aN (uA c62_52.eq_1) <| aN (uR r62_38.eq_1) <| aN (uA c62_51.eq_1) <| aN (uA c62_50.eq_1) <| aN (uR r62_53.eq_1) <| aN (uR r62_54.eq_1) <| aN (uR r62_55.eq_1) <| aN (uR r62_56.eq_1) <| aN (uR r62_57.eq_1) <| s62.eq_1
def URm_2 := Bx.mk <|
  aN (uA c62_27.eq_1) <| aN (uA c62_16.eq_1) <| aN (uR r62_14.eq_1) <| aN (uA c62_15.eq_1) <| aN (uA c62_25.eq_1) <| aN (uA c62_24.eq_1) <| aN (uR r62_17.eq_1) <| aN (uA c62_22.eq_1) <| aN (uR r62_18.eq_1) <| aN (uA c62_21.eq_1) <| aN (uA c62_20.eq_1) <| aN (uR r62_19.eq_1) <| aN (uR r62_23.eq_1) <| aN (uR r62_26.eq_1) <| aN (uA c62.eq_1) <| aN (uR r62_0.eq_1) <| aN (uA c62_5.eq_1) <| aN (uR r62_1.eq_1) <| aN (uA c62_4.eq_1) <| aN (uA c62_3.eq_1) <| aN (uR r62_2.eq_1) <| aN (uR r62_6.eq_1) <| aN (uA c62_11.eq_1) <| aN (uR r62_7.eq_1) <| aN (uA c62_10.eq_1) <| aN (uA c62_9.eq_1) <| aN (uR r62_8.eq_1) <| aN (uR r62_12.eq_1) <| aN (uA c62_30.eq_1) <| aN (uR r62_13.eq_1) <| aN (uA c62_29.eq_1) <| aN (uA c62_28.eq_1) <| aN (uR r62_31.eq_1) <| aN (uA c62_36.eq_1) <| aN (uR r62_32.eq_1) <| aN (uA c62_35.eq_1) <| aN (uA c62_34.eq_1) <| aN (uR r62_33.eq_1) <| aN (uR r62_37.eq_1) <| aN (uA c62_52.eq_1) <| aN (uR r62_38.eq_1) <| aN (uA c62_51.eq_1) <| aN (uA c62_50.eq_1) <| aN (uR r62_53.eq_1) <| aN (uR r62_54.eq_1) <| aN (uR r62_55.eq_1) <| aN (uR r62_56.eq_1) <| aN (uR r62_57.eq_1) <| s62.eq_1
def URm_3 := Bx.mk <|
  aN (uA c62_49.eq_1) <| aN (uA c62_41.eq_1) <| aN (uR r62_39.eq_1) <| aN (uA c62_40.eq_1) <| aN (uA c62_47.eq_1) <| aN (uA c62_46.eq_1) <| aN (uR r62_42.eq_1) <| aN (uA c62_45.eq_1) <| aN (uA c62_44.eq_1) <| aN (uR r62_43.eq_1) <| aN (uR r62_48.eq_1) <| aN (uA c62.eq_1) <| aN (uR r62_0.eq_1) <| aN (uA c62_5.eq_1) <| aN (uR r62_1.eq_1) <| aN (uA c62_4.eq_1) <| aN (uA c62_3.eq_1) <| aN (uR r62_2.eq_1) <| aN (uR r62_6.eq_1) <| aN (uA c62_11.eq_1) <| aN (uR r62_7.eq_1) <| aN (uA c62_10.eq_1) <| aN (uA c62_9.eq_1) <| aN (uR r62_8.eq_1) <| aN (uR r62_12.eq_1) <| aN (uA c62_30.eq_1) <| aN (uR r62_13.eq_1) <| aN (uA c62_29.eq_1) <| aN (uA c62_28.eq_1) <| aN (uR r62_31.eq_1) <| aN (uA c62_36.eq_1) <| aN (uR r62_32.eq_1) <| aN (uA c62_35.eq_1) <| aN (uA c62_34.eq_1) <| aN (uR r62_33.eq_1) <| aN (uR r62_37.eq_1) <| aN (uA c62_52.eq_1) <| aN (uR r62_38.eq_1) <| aN (uA c62_51.eq_1) <| aN (uA c62_50.eq_1) <| aN (uR r62_53.eq_1) <| aN (uR r62_54.eq_1) <| aN (uR r62_55.eq_1) <| aN (uR r62_56.eq_1) <| aN (uR r62_57.eq_1) <| s62.eq_1
set_option maxHeartbeats 1000000 in
theorem logOpen_ok (d : Dk) (hd : fineDk d) : PC 62 [tDk d] (okLSd d) tLS := by
  obtain ⟨b, hb, C0⟩ := okS_ok d hd
  refine PC.intro ok62 rfl (fun _ => rfl) fun X => ?_
  simp only [RUX, Nat.reduceAdd, reduceIte, Nat.reduceEqDiff, Nat.reduceLT, Nat.reduceLeDiff, reduceCtorEq, eq_self, FIX, forall_const, endE_n, endE_r, CHT, disj, Nat.reduceBEq, beq_self_eq_true, APT, APX, forall_eq, ALT, ALU, URm_1.d]
  refine callC C0 rfl rfl rfl rfl ?_
  cases b with
  | false =>
    simp only [RUX, Nat.reduceAdd, reduceIte, Nat.reduceEqDiff, Nat.reduceLT, Nat.reduceLeDiff, reduceCtorEq, eq_self, FIX, forall_const, endE_n, endE_r, CHT, disj, Nat.reduceBEq, beq_self_eq_true, APT, APX, forall_eq, ALT, ALU, URm_1.d]
    refine ES.mk ⟨7, 0, zPl, 0, false, 0, []⟩ (okLS_code _ _ (by decide)) ?_
    simp only [RUX, Nat.reduceAdd, reduceIte, Nat.reduceEqDiff, Nat.reduceLT, Nat.reduceLeDiff, reduceCtorEq, eq_self, FIX, forall_const, endE_n, endE_r, CHT, disj, Nat.reduceBEq, beq_self_eq_true, APT, APX, forall_eq, ALT, ALU, URm_1.d, zPl, en_nil]
  | true =>
  obtain ⟨⟨p, k⟩, ⟨hp, hk⟩, C1⟩ := plan43_ok d hd
  simp only at hp hk C1
  obtain ⟨hp, hp2⟩ := hp
  simp only [RUX, Nat.reduceAdd, reduceIte, Nat.reduceEqDiff, Nat.reduceLT, Nat.reduceLeDiff, reduceCtorEq, eq_self, FIX, forall_const, endE_n, endE_r, CHT, disj, Nat.reduceBEq, beq_self_eq_true, APT, APX, forall_eq, ALT, ALU, URm_1.d]
  refine callC C1 rfl rfl rfl rfl ?_
  by_cases g1 : (k == 0) = true
  · simp only [RUX, Nat.reduceAdd, reduceIte, Nat.reduceEqDiff, Nat.reduceLT, Nat.reduceLeDiff, reduceCtorEq, eq_self, FIX, forall_const, endE_n, endE_r, CHT, disj, Nat.reduceBEq, beq_self_eq_true, APT, APX, forall_eq, ALT, ALU, URm_1.d, g1]
    refine ES.mk ⟨1, 0, zPl, 0, false, 0, []⟩ (okLS_code _ _ (by decide)) ?_
    simp only [RUX, Nat.reduceAdd, reduceIte, Nat.reduceEqDiff, Nat.reduceLT, Nat.reduceLeDiff, reduceCtorEq, eq_self, FIX, forall_const, endE_n, endE_r, CHT, disj, Nat.reduceBEq, beq_self_eq_true, APT, APX, forall_eq, ALT, ALU, URm_1.d, zPl, en_nil]
  rw [Bool.not_eq_true] at g1
  simp only [RUX, Nat.reduceAdd, reduceIte, Nat.reduceEqDiff, Nat.reduceLT, Nat.reduceLeDiff, reduceCtorEq, eq_self, FIX, forall_const, endE_n, endE_r, CHT, disj, Nat.reduceBEq, beq_self_eq_true, APT, APX, forall_eq, ALT, ALU, URm_1.d, g1]
  have hpl := hp.len
  refine AW.reify 5 8 1005 2 120 rfl rfl rfl (by decide) ?_
  refine AW.upto p.parts.length (inv62 d p k) ⟨⟨⟨_, rfl, rfl⟩, ⟨_, rfl, rfl⟩, ⟨_, rfl, rfl⟩⟩, ⟨[], Nat.zero_le _, _, _, rfl, rfl, rfl⟩, rfl⟩ fun i t H c hi h => ?_
  obtain ⟨⟨⟨u1, e1, eH1⟩, ⟨u2, e2, eH2⟩, ⟨u3, e3, eH3⟩⟩, ⟨rs, hrs, u5, v, e5, eH5, eHr⟩, e6⟩ := h
  simp only [T.c, T.i] at e1 eH1 e2 eH2 e3 eH3 e5 eH5 eHr e6
  have ht1 : (en eR rs).take rs.length = en eR rs := en_take eR rs
  by_cases k1 : (i : Int) < p.parts.length
  · obtain ⟨x, hx⟩ : ∃ x, p.parts[i]? = some x := ⟨_, List.getElem?_eq_getElem (by omega)⟩
    have ex := en_at eP hx
    have gz : (0 : Int) ≤ i := by omega
    have w2 : IntKind.i64.wrap ((i : Int) + 1) = ((i + 1 : Nat) : Int) := wrap64 (x := (i : Int) + 1) ⟨by omega, by omega⟩
    obtain ⟨⟨rs1, b1⟩, hr1, C2⟩ := part43_ok d hd x (hp.part x (List.mem_of_getElem? hx))
    have hr2 := hr1.1
    simp only at hr2
    simp only [RUX, Nat.reduceAdd, reduceIte, Nat.reduceEqDiff, Nat.reduceLT, Nat.reduceLeDiff, reduceCtorEq, eq_self, FIX, forall_const, endE_n, endE_r, CHT, disj, Nat.reduceBEq, beq_self_eq_true, APT, APX, forall_eq, ALT, ALU, URm_2.d, e1, eH1, e2, eH2, e3, eH3, e5, eH5, eHr, e6, en_len, k1, ex, gz, Int.toNat_natCast, eP]
    refine callC C2 rfl rfl rfl rfl ?_
    cases b1 with
    | false =>
      simp only [RUX, Nat.reduceAdd, reduceIte, Nat.reduceEqDiff, Nat.reduceLT, Nat.reduceLeDiff, reduceCtorEq, eq_self, FIX, forall_const, endE_n, endE_r, CHT, disj, Nat.reduceBEq, beq_self_eq_true, APT, APX, forall_eq, ALT, ALU, URm_2.d, e1, eH1, e2, eH2, e3, eH3, e5, eH5, eHr, e6, en_len, k1, ex, gz, Int.toNat_natCast, eP]
      refine ES.mk ⟨2, 0, zPl, 0, false, 0, []⟩ (okLS_code _ _ (by decide)) ?_
      simp only [RUX, Nat.reduceAdd, reduceIte, Nat.reduceEqDiff, Nat.reduceLT, Nat.reduceLeDiff, reduceCtorEq, eq_self, FIX, forall_const, endE_n, endE_r, CHT, disj, Nat.reduceBEq, beq_self_eq_true, APT, APX, forall_eq, ALT, ALU, s62, e2, zPl, en_nil]
    | true =>
    have q1 : (rs.length + rs1.length) * 24 ≤ 140737488355328 := by omega
    have q2 : rs.length + rs1.length ≤ 9223372036854775807 := by omega
    simp only [RUX, Nat.reduceAdd, reduceIte, Nat.reduceEqDiff, Nat.reduceLT, Nat.reduceLeDiff, reduceCtorEq, eq_self, FIX, forall_const, endE_n, endE_r, CHT, disj, Nat.reduceBEq, beq_self_eq_true, APT, APX, forall_eq, ALT, ALU, URm_2.d, e1, eH1, e2, eH2, e3, eH3, e5, eH5, eHr, e6, en_len, k1, ex, gz, Int.toNat_natCast, eP, w2, ht1, q1, q2]
    refine ⟨by omega, ⟨⟨u1, e1, eH1⟩, ⟨u2, e2, eH2⟩, ⟨u3, e3, eH3⟩⟩, ⟨rs ++ rs1, by rw [List.length_append]; omega, u5, c + 5 + 12 + 2 + 3, e5, ?_, ?_⟩, rfl⟩
    · rw [List.length_append]; rfl
    · rw [en_app]; rfl
  · obtain ⟨w, hw, C2⟩ := decB hp.opn
    obtain ⟨⟨data, there⟩, hlk, C3⟩ := look_ok d hd ((⟨#[115]⟩ : ByteArray) ++ w)
    have hz := lk_size hlk
    simp only at hz
    have q0 : (⟨#[115]⟩ : ByteArray).size + w.size ≤ 9223372036854775807 := by have : (⟨#[115]⟩ : ByteArray).size = 1 := rfl; omega
    obtain ⟨⟨rs1, n⟩, ⟨m1, m2, m3, m4⟩, C4⟩ := frames_ok data (by omega)
    simp only at m1 m2 m3 m4 C4
    simp only [RUX, Nat.reduceAdd, reduceIte, Nat.reduceEqDiff, Nat.reduceLT, Nat.reduceLeDiff, reduceCtorEq, eq_self, FIX, forall_const, endE_n, endE_r, CHT, disj, Nat.reduceBEq, beq_self_eq_true, APT, APX, forall_eq, ALT, ALU, URm_2.d, URm_1.d, e1, eH1, e2, eH2, e3, eH3, e5, eH5, eHr, e6, en_len, k1]
    refine callC C2 rfl rfl rfl rfl ?_
    simp only [RUX, Nat.reduceAdd, reduceIte, Nat.reduceEqDiff, Nat.reduceLT, Nat.reduceLeDiff, reduceCtorEq, eq_self, FIX, forall_const, endE_n, endE_r, CHT, disj, Nat.reduceBEq, beq_self_eq_true, APT, APX, forall_eq, ALT, ALU, URm_2.d, URm_1.d, e1, eH1, e2, eH2, e3, eH3, e5, eH5, eHr, e6, en_len, k1, sStr, q0]
    refine callC C3 rfl rfl rfl rfl ?_
    cases there with
    | false =>
      simp only [RUX, Nat.reduceAdd, reduceIte, Nat.reduceEqDiff, Nat.reduceLT, Nat.reduceLeDiff, reduceCtorEq, eq_self, FIX, forall_const, endE_n, endE_r, CHT, disj, Nat.reduceBEq, beq_self_eq_true, APT, APX, forall_eq, ALT, ALU, URm_2.d, URm_1.d, e1, eH1, e2, eH2, e3, eH3, e5, eH5, eHr, e6, en_len, k1]
      refine ES.mk ⟨2, 0, zPl, 0, false, 0, []⟩ (okLS_code _ _ (by decide)) ?_
      simp only [RUX, Nat.reduceAdd, reduceIte, Nat.reduceEqDiff, Nat.reduceLT, Nat.reduceLeDiff, reduceCtorEq, eq_self, FIX, forall_const, endE_n, endE_r, CHT, disj, Nat.reduceBEq, beq_self_eq_true, APT, APX, forall_eq, ALT, ALU, s62, e2, zPl, en_nil]
    | true =>
    simp only [RUX, Nat.reduceAdd, reduceIte, Nat.reduceEqDiff, Nat.reduceLT, Nat.reduceLeDiff, reduceCtorEq, eq_self, FIX, forall_const, endE_n, endE_r, CHT, disj, Nat.reduceBEq, beq_self_eq_true, APT, APX, forall_eq, ALT, ALU, URm_2.d, URm_1.d, e1, eH1, e2, eH2, e3, eH3, e5, eH5, eHr, e6, en_len, k1]
    refine callC C4 rfl rfl rfl rfl ?_
    simp only [RUX, Nat.reduceAdd, reduceIte, Nat.reduceEqDiff, Nat.reduceLT, Nat.reduceLeDiff, reduceCtorEq, eq_self, FIX, forall_const, endE_n, endE_r, CHT, disj, Nat.reduceBEq, beq_self_eq_true, APT, APX, forall_eq, ALT, ALU, URm_2.d, URm_1.d, e1, eH1, e2, eH2, e3, eH3, e5, eH5, eHr, e6, en_len, k1]
    refine AW.upto rs1.length (inv62b d p k rs1 rs data n) ⟨⟨⟨u1, e1, eH1⟩, ⟨u2, e2, eH2⟩, ⟨u3, e3, eH3⟩⟩, ⟨u5, v, e5, eH5, eHr⟩, rfl, rfl, rfl, rfl⟩ fun j t H c hj h => ?_
    clear e1 eH1 e2 eH2 e3 eH3 e5 eH5 eHr
    obtain ⟨⟨⟨u1, e1, eH1⟩, ⟨u2, e2, eH2⟩, ⟨u3, e3, eH3⟩⟩, ⟨u5, v, e5, eH5, eHr⟩, e9, e11, e12, e13⟩ := h
    simp only [T.c, T.i, T.s, tL] at e1 eH1 e2 eH2 e3 eH3 e5 eH5 eHr e9 e11 e12 e13
    by_cases k2 : (j : Int) < rs1.length
    · obtain ⟨r, hr⟩ : ∃ r, rs1[j]? = some r := ⟨_, List.getElem?_eq_getElem (by omega)⟩
      have ex := en_at eR hr
      have gz : (0 : Int) ≤ j := by omega
      have w3 : IntKind.i64.wrap ((j : Int) + 1) = ((j + 1 : Nat) : Int) := wrap64 (x := (j : Int) + 1) ⟨by omega, by omega⟩
      obtain ⟨y, hy⟩ : ∃ y, IntKind.i64.wrap (p.first + j) = y := ⟨_, rfl⟩
      by_cases f1 : (r.pos != y) = true
      · simp only [RUX, Nat.reduceAdd, reduceIte, Nat.reduceEqDiff, Nat.reduceLT, Nat.reduceLeDiff, reduceCtorEq, eq_self, FIX, forall_const, endE_n, endE_r, CHT, disj, Nat.reduceBEq, beq_self_eq_true, APT, APX, forall_eq, ALT, ALU, URm_3.d, e1, eH1, e2, eH2, e3, eH3, e5, eH5, eHr, e9, e11, e12, e13, en_len, k2, Int.toNat_natCast, eR, ex, gz, hy, f1]
        refine ES.mk ⟨2, 0, zPl, 0, false, 0, []⟩ (okLS_code _ _ (by decide)) ?_
        simp only [RUX, Nat.reduceAdd, reduceIte, Nat.reduceEqDiff, Nat.reduceLT, Nat.reduceLeDiff, reduceCtorEq, eq_self, FIX, forall_const, endE_n, endE_r, CHT, disj, Nat.reduceBEq, beq_self_eq_true, APT, APX, forall_eq, ALT, ALU, s62, e2, zPl, en_nil]
      · rw [Bool.not_eq_true] at f1
        simp only [RUX, Nat.reduceAdd, reduceIte, Nat.reduceEqDiff, Nat.reduceLT, Nat.reduceLeDiff, reduceCtorEq, eq_self, FIX, forall_const, endE_n, endE_r, CHT, disj, Nat.reduceBEq, beq_self_eq_true, APT, APX, forall_eq, ALT, ALU, URm_3.d, e1, eH1, e2, eH2, e3, eH3, e5, eH5, eHr, e9, e11, e12, e13, en_len, k2, Int.toNat_natCast, eR, ex, gz, hy, f1, w3]
        exact ⟨by omega, ⟨⟨u1, e1, eH1⟩, ⟨u2, e2, eH2⟩, ⟨u3, e3, eH3⟩⟩, ⟨u5, v, e5, eH5, eHr⟩, e9, e11, e12, rfl⟩
    · have q1 : (rs.length + rs1.length) * 24 ≤ 140737488355328 := by omega
      have q2 : rs.length + rs1.length ≤ 9223372036854775807 := by omega
      have hf1 := hp.first
      have wf : IntKind.i64.wrap (p.first + rs1.length) = p.first + rs1.length := wrap64 ⟨by have := hf1.1; omega, by have := hf1.2; omega⟩
      simp only [RUX, Nat.reduceAdd, reduceIte, Nat.reduceEqDiff, Nat.reduceLT, Nat.reduceLeDiff, reduceCtorEq, eq_self, FIX, forall_const, endE_n, endE_r, CHT, disj, Nat.reduceBEq, beq_self_eq_true, APT, APX, forall_eq, ALT, ALU, URm_3.d, e1, eH1, e2, eH2, e3, eH3, e5, eH5, eHr, e9, e11, e12, e13, en_len, k2, Int.toNat_natCast, eR, URm_1.d, ht1, q1, q2, wf]
      refine ES.mk ⟨0, k, p, n, decide (n < (data.size : Int)), p.first + rs1.length, rs ++ rs1⟩ ⟨⟨hk, hp, ⟨m3, by simp only; omega⟩, ⟨by have := hf1.1; simp only; omega, by simp only; have := hf1.2; omega⟩⟩, fun _ => hb.1 rfl⟩ ?_
      have ht2 : (en eR rs ++ en eR rs1).take (rs.length + rs1.length) = en eR (rs ++ rs1) := by rw [← en_app, ← List.length_append]; exact en_take eR _
      simp only [RUX, Nat.reduceAdd, reduceIte, Nat.reduceEqDiff, Nat.reduceLT, Nat.reduceLeDiff, reduceCtorEq, eq_self, FIX, forall_const, endE_n, endE_r, CHT, disj, Nat.reduceBEq, beq_self_eq_true, APT, APX, forall_eq, ALT, ALU, URm_1.d, e2, ht2]
end Go.V

/- It is proved that the law FnDiskDo returns true for every input and leaves its input as it was; no condition. -/
import Derived.Test.YtfemebnmlclibaaHR2
import Derived.Test.YtfemebnmlclibaaRows
import Derived.WalkKit
import Derived.ProofKit
import Derived.OpenShut
import Derived.ChangeSlices
set_option linter.unusedSimpArgs false
namespace Go.V
open Go.Proofs
theorem QN48_r {X : Ctx} {bs : List UInt8} {p : Int} {σ : St} : QN48 X bs p .ret σ = EN48 bs p .ret σ := rfl
section
variable {X : Ctx} {bs : List UInt8} (hb : bs.length ≤ 2000) {p q : Int} (hq : 0 ≤ p ∧ p ≤ 900000000000 ∧ p ≤ q ∧ q ≤ p + 100) {F : List DF} {N : List ByteArray} {M : List DM} (hfd : fineDk ⟨F, N, M⟩) {i : Nat} {f : DF} (hx : F[i]? = some f) (hd2 : f.data.size ≤ 20000) {t : Nat → T} {H : HMap} {c : Nat} (hst : St48 bs q F N M i t H)
include hb hq hfd hx hd2 hst
theorem sp7 : wpa Try.prog X c48_30 (QN48 X bs p) ⟨t, H, c⟩ := by
  have hst0 := hst
  obtain ⟨u, v1, v2, v3, u4, e0, e3, eH3, eF1, eN1, eM1, e4, eH4, e5, eR⟩ := hst
  simp only [T.c, T.i] at e0 e3 e4 e5
  have ex := en_at eF hx
  have gi := (List.getElem?_eq_some_iff.1 hx).1
  have gi2 : (i : Int) < F.length := by omega
  have gi3 : i < (en eF F).length := by rw [en_len]; exact gi
  have gz : (0 : Int) ≤ i := by omega
  have hs1 : F.length ≤ 1048576 := hfd.s.f
  have hs2 : N.length ≤ 1048576 := hfd.s.n
  have hs3 : M.length ≤ 1048576 := hfd.s.m
  have hfn := (hfd.f f (List.mem_of_getElem? hx)).1
  by_cases g1 : (f.data.size : Int) > 0
  rotate_left
  · simp only [RUX, Nat.reduceAdd, reduceIte, Nat.reduceEqDiff, Nat.reduceLT, Nat.reduceLeDiff, reduceCtorEq, eq_self, FIX, forall_const, endE_n, endE_r, CHT, disj, Nat.reduceBEq, beq_self_eq_true, APT, APX, forall_eq, ALT, ALU, rH, rV, rdC, rdr, e0, e3, eH3, eF1, eN1, eM1, e4, eH4, e5, eR, en_len, ex, gi, gi2, gz, Int.toNat_natCast, eF, eS, eM, (uA c48_30.eq_1), (uR r48_24.eq_1), (uA c48_29.eq_1), (uA c48_28.eq_1), (uR r48_25.eq_1), (uR r48_26.eq_1), (uR r48_27.eq_1), g1]
    exact sp74 hst0 ⟨by omega, by omega⟩ hfd
  obtain ⟨j, j0, j1, C1⟩ := pick_ok bs hb q f.data.size (by omega) (by omega)
  have y0 : (0 : Int) ≤ 0 := Int.le_refl _
  have y1 : j ≤ (f.data.size : Int) := by omega
  simp only [RUX, Nat.reduceAdd, reduceIte, Nat.reduceEqDiff, Nat.reduceLT, Nat.reduceLeDiff, reduceCtorEq, eq_self, FIX, forall_const, endE_n, endE_r, CHT, disj, Nat.reduceBEq, beq_self_eq_true, APT, APX, forall_eq, ALT, ALU, rH, rV, rdC, rdr, e0, e3, eH3, eF1, eN1, eM1, e4, eH4, e5, eR, en_len, ex, gi, gi2, gz, Int.toNat_natCast, eF, eS, eM, (uA c48_30.eq_1), (uR r48_24.eq_1), (uA c48_29.eq_1), (uA c48_28.eq_1), (uR r48_25.eq_1), (uR r48_26.eq_1), (uR r48_27.eq_1), g1]
  refine callRc (C1 0) rfl rfl rfl rfl (by simp only [RUX, Nat.reduceAdd, reduceIte, Nat.reduceEqDiff, Nat.reduceLT, Nat.reduceLeDiff, reduceCtorEq, eq_self, FIX, forall_const, endE_n, endE_r, CHT, disj, Nat.reduceBEq, beq_self_eq_true, APT, APX, forall_eq, ALT, ALU, rH, rV, rdC, rdr, s48, eR]) ⟨?_, ?_⟩
  · simp only [RUX, Nat.reduceAdd, reduceIte, Nat.reduceEqDiff, Nat.reduceLT, Nat.reduceLeDiff, reduceCtorEq, eq_self, FIX, forall_const, endE_n, endE_r, CHT, disj, Nat.reduceBEq, beq_self_eq_true, APT, APX, forall_eq, ALT, ALU, rH, rV, rdC, rdr, s48]
  simp only [RUX, Nat.reduceAdd, reduceIte, Nat.reduceEqDiff, Nat.reduceLT, Nat.reduceLeDiff, reduceCtorEq, eq_self, FIX, forall_const, endE_n, endE_r, CHT, disj, Nat.reduceBEq, beq_self_eq_true, APT, APX, forall_eq, ALT, ALU, rH, rV, rdC, rdr, e0, e3, eH3, eF1, eN1, eM1, e4, eH4, e5, eR, en_len, ex, gi, gi2, gz, Int.toNat_natCast, eF, eS, eM, (uA c48_30.eq_1), (uR r48_24.eq_1), (uA c48_29.eq_1), (uA c48_28.eq_1), (uR r48_25.eq_1), (uR r48_26.eq_1), (uR r48_27.eq_1), lohi, j0, y0, y1, Int.toNat_zero, SET, List.getElem?_set_self, gi3, List.length_set]
  refine sp74 (F := F.set i ⟨f.name, f.data.extract 0 j.toNat, 0⟩) (q := q + 1) ⟨u, v1, v2, v3, u4, e0, e3, (by rw [List.length_set]; exact eH3), (by rw [← en_set]; rfl), eN1, eM1, e4, eH4, e5, rfl⟩ ⟨by omega, by omega⟩ (fine_set hfd i hfn (by simp only [ByteArray.size_extract]; omega))
theorem sp8 : wpa Try.prog X c48_37 (QN48 X bs p) ⟨t, H, c⟩ := by
  have hst0 := hst
  obtain ⟨u, v1, v2, v3, u4, e0, e3, eH3, eF1, eN1, eM1, e4, eH4, e5, eR⟩ := hst
  simp only [T.c, T.i] at e0 e3 e4 e5
  have ex := en_at eF hx
  have gi := (List.getElem?_eq_some_iff.1 hx).1
  have gi2 : (i : Int) < F.length := by omega
  have gi3 : i < (en eF F).length := by rw [en_len]; exact gi
  have gz : (0 : Int) ≤ i := by omega
  have hs1 : F.length ≤ 1048576 := hfd.s.f
  have hs2 : N.length ≤ 1048576 := hfd.s.n
  have hs3 : M.length ≤ 1048576 := hfd.s.m
  have hfn := (hfd.f f (List.mem_of_getElem? hx)).1
  by_cases g1 : (f.data.size : Int) > 0
  rotate_left
  · simp only [RUX, Nat.reduceAdd, reduceIte, Nat.reduceEqDiff, Nat.reduceLT, Nat.reduceLeDiff, reduceCtorEq, eq_self, FIX, forall_const, endE_n, endE_r, CHT, disj, Nat.reduceBEq, beq_self_eq_true, APT, APX, forall_eq, ALT, ALU, rH, rV, rdC, rdr, e0, e3, eH3, eF1, eN1, eM1, e4, eH4, e5, eR, en_len, ex, gi, gi2, gz, Int.toNat_natCast, eF, eS, eM, (uA c48_37.eq_1), (uR r48_32.eq_1), (uA c48_36.eq_1), (uA c48_35.eq_1), (uR r48_33.eq_1), (uR r48_34.eq_1), g1]
    exact sp74 hst0 ⟨by omega, by omega⟩ hfd
  obtain ⟨j, j0, j1, C1⟩ := pick_ok bs hb q f.data.size (by omega) (by omega)
  obtain ⟨q2, s, a0, a1, hs, C2⟩ := of_ok bs hb (q + 1) (by omega) [⟨#[0]⟩, ⟨#[49]⟩, ⟨#[57]⟩, ⟨#[32]⟩] (by decide)
  have hsz : s.size ≤ 100 := by
    simp only [List.mem_cons, List.not_mem_nil, or_false] at hs
    rcases hs with rfl | rfl | rfl | rfl <;> decide
  have y0 : (0 : Int) ≤ 0 := Int.le_refl _
  have y1 : j ≤ (f.data.size : Int) := by omega
  have y2 : (0 : Int) ≤ j + 1 := by omega
  have y3 : j + 1 ≤ (f.data.size : Int) := by omega
  have y4 : (f.data.size : Int) ≤ f.data.size := Int.le_refl _
  have w1 : IntKind.i64.wrap (j + 1) = j + 1 := wrap64 ⟨by omega, by omega⟩
  have l1 : (f.data.extract 0 j.toNat).size + s.size ≤ 9223372036854775807 := by simp only [ByteArray.size_extract]; omega
  have l2 : (f.data.extract 0 j.toNat ++ s).size + (f.data.extract (j + 1).toNat f.data.size).size ≤ 9223372036854775807 := by simp only [ByteArray.size_append, ByteArray.size_extract]; omega
  simp only [RUX, Nat.reduceAdd, reduceIte, Nat.reduceEqDiff, Nat.reduceLT, Nat.reduceLeDiff, reduceCtorEq, eq_self, FIX, forall_const, endE_n, endE_r, CHT, disj, Nat.reduceBEq, beq_self_eq_true, APT, APX, forall_eq, ALT, ALU, rH, rV, rdC, rdr, e0, e3, eH3, eF1, eN1, eM1, e4, eH4, e5, eR, en_len, ex, gi, gi2, gz, Int.toNat_natCast, eF, eS, eM, (uA c48_37.eq_1), (uR r48_32.eq_1), (uA c48_36.eq_1), (uA c48_35.eq_1), (uR r48_33.eq_1), (uR r48_34.eq_1), g1]
  refine callRc (C1 0) rfl rfl rfl rfl (by simp only [RUX, Nat.reduceAdd, reduceIte, Nat.reduceEqDiff, Nat.reduceLT, Nat.reduceLeDiff, reduceCtorEq, eq_self, FIX, forall_const, endE_n, endE_r, CHT, disj, Nat.reduceBEq, beq_self_eq_true, APT, APX, forall_eq, ALT, ALU, rH, rV, rdC, rdr, s48, eR]) ⟨?_, ?_⟩
  · simp only [RUX, Nat.reduceAdd, reduceIte, Nat.reduceEqDiff, Nat.reduceLT, Nat.reduceLeDiff, reduceCtorEq, eq_self, FIX, forall_const, endE_n, endE_r, CHT, disj, Nat.reduceBEq, beq_self_eq_true, APT, APX, forall_eq, ALT, ALU, rH, rV, rdC, rdr, s48]
  simp only [RUX, Nat.reduceAdd, reduceIte, Nat.reduceEqDiff, Nat.reduceLT, Nat.reduceLeDiff, reduceCtorEq, eq_self, FIX, forall_const, endE_n, endE_r, CHT, disj, Nat.reduceBEq, beq_self_eq_true, APT, APX, forall_eq, ALT, ALU, rH, rV, rdC, rdr, e0, e3, eH3, eF1, eN1, eM1, e4, eH4, e5, eR, en_len, ex, gi, gi2, gz, Int.toNat_natCast, eF, eS, eM, (uA c48_37.eq_1), (uR r48_32.eq_1), (uA c48_36.eq_1), (uA c48_35.eq_1), (uR r48_33.eq_1), (uR r48_34.eq_1), lohi, j0, y0, y1, Int.toNat_zero]
  refine callOf (C2 0) rfl rfl rfl rfl (by decide) (by simp only [RUX, Nat.reduceAdd, reduceIte, Nat.reduceEqDiff, Nat.reduceLT, Nat.reduceLeDiff, reduceCtorEq, eq_self, FIX, forall_const, endE_n, endE_r, CHT, disj, Nat.reduceBEq, beq_self_eq_true, APT, APX, forall_eq, ALT, ALU, rH, rV, rdC, rdr, s48, eR]) ⟨?_, ?_⟩
  · simp only [RUX, Nat.reduceAdd, reduceIte, Nat.reduceEqDiff, Nat.reduceLT, Nat.reduceLeDiff, reduceCtorEq, eq_self, FIX, forall_const, endE_n, endE_r, CHT, disj, Nat.reduceBEq, beq_self_eq_true, APT, APX, forall_eq, ALT, ALU, rH, rV, rdC, rdr, s48]
  simp only [RUX, Nat.reduceAdd, reduceIte, Nat.reduceEqDiff, Nat.reduceLT, Nat.reduceLeDiff, reduceCtorEq, eq_self, FIX, forall_const, endE_n, endE_r, CHT, disj, Nat.reduceBEq, beq_self_eq_true, APT, APX, forall_eq, ALT, ALU, rH, rV, rdC, rdr, e0, e3, eH3, eF1, eN1, eM1, e4, eH4, e5, eR, en_len, ex, gi, gi2, gz, Int.toNat_natCast, eF, eS, eM, (uA c48_37.eq_1), (uR r48_32.eq_1), (uA c48_36.eq_1), (uA c48_35.eq_1), (uR r48_33.eq_1), (uR r48_34.eq_1), lohi, j0, y0, y1, y2, y3, y4, Int.toNat_zero, Int.toNat_natCast, sStr, w1, l1, l2]
  refine sp74 (F := F.set i ⟨f.name, f.data.extract 0 j.toNat ++ s ++ f.data.extract (j + 1).toNat f.data.size, f.kept⟩) (q := q2) ⟨u, v1, v2, v3, u4, e0, e3, (by rw [List.length_set]; exact eH3), (by rw [← en_set]; rfl), eN1, eM1, e4, eH4, e5, rfl⟩ ⟨by omega, by omega⟩ (fine_set hfd i hfn (by simp only [ByteArray.size_append, ByteArray.size_extract]; omega))
end
def inv48 (bs : List UInt8) (q : Int) (i : Nat) (σ : St) : Prop := ∃ (F : List DF) (N : List ByteArray) (v1 v2 : Nat), F.length = i ∧ N.length = i ∧ (∀ f ∈ F, f.name.size ≤ 1048576 ∧ f.data.size ≤ 1048576) ∧ (∀ x ∈ N, x.size ≤ 1048576) ∧ σ.t 0 = rP 0 ∧ σ.t 9 = .i i ∧ (∃ u, σ.t 8 = .c (.ptr 8 u 0) ∧ σ.H 8 = some (.var u 27 [.own 3001 v1 F.length, .own 3002 v2 N.length, .nil0])) ∧ σ.H 3001 = some (.arr v1 true 3 58 (en eF F)) ∧ σ.H 3002 = some (.arr v2 true 1 9 (en eS N)) ∧ (∃ u, σ.t 4 = .c (.ptr 4 u 0) ∧ σ.H 4 = some (.var u 27 [.nil0, .nil0, .nil0])) ∧ σ.H 1000 = some (rdr 0 bs (q + i))
theorem sp9 {X : Ctx} {bs : List UInt8} (hb : bs.length ≤ 2000) {p q : Int} (hq : 0 ≤ p ∧ p ≤ 900000000000 ∧ p ≤ q ∧ q ≤ p + 100) {F : List DF} {N : List ByteArray} {M : List DM} {i : Nat} {t : Nat → T} {H : HMap} {c : Nat} (hst : St48 bs q F N M i t H) (h1 : H 3001 = none) (h2 : H 3002 = none) : wpa Try.prog X c48_53 (QN48 X bs p) ⟨t, H, c⟩ := by
  obtain ⟨u, v1, v2, v3, u4, e0, e3, eH3, eF1, eN1, eM1, e4, eH4, e5, eR⟩ := hst
  simp only [T.c, T.i] at e0 e3 e4 e5
  simp only [RUX, Nat.reduceAdd, reduceIte, Nat.reduceEqDiff, Nat.reduceLT, Nat.reduceLeDiff, reduceCtorEq, eq_self, FIX, forall_const, endE_n, endE_r, CHT, disj, Nat.reduceBEq, beq_self_eq_true, APT, APX, forall_eq, ALT, ALU, rH, rV, rdC, rdr, (uA c48_53.eq_1), (uR r48_38.eq_1), (uA c48_51.eq_1), (uR r48_39.eq_1), (uA c48_50.eq_1), (uA c48_49.eq_1), (uR r48_52.eq_1), s48, e0, e4, eH4]
  refine AW.reify 8 0 3001 3 58 rfl rfl h1 (by decide) ?_
  refine AW.reify 8 1 3002 1 9 rfl rfl h2 (by decide) ?_
  refine AW.upto 65 (inv48 bs q) ⟨[], [], _, _, rfl, rfl, (fun x h => by cases h), (fun x h => by cases h), e0, rfl, ⟨_, rfl, rfl⟩, rfl, rfl, ⟨u4, e4, eH4⟩, (by show _ = some (rdr 0 bs (q + ((0 : Nat) : Int))); rw [show ((0 : Nat) : Int) = 0 from rfl, Int.add_zero]; exact eR)⟩ fun k t H c hk h => ?_
  clear e0 e3 eH3 eF1 eN1 eM1 e4 eH4 e5 eR
  obtain ⟨F, N, v1, v2, l1, l2, hF, hN, e0, e9, ⟨u8, e8, eH8⟩, eF1, eN1, ⟨u4, e4, eH4⟩, eR⟩ := h
  simp only [T.c, T.i, rdr, rdC] at e0 e9 e8 eH8 eF1 eN1 e4 eH4 eR
  obtain ⟨j, j0, j1, C1⟩ := pick_ok bs hb (q + k) 3 (by omega) (by omega)
  have w1 : IntKind.i64.wrap (64 - j) = 64 - j := wrap64 ⟨by omega, by omega⟩
  have w2 : IntKind.i64.wrap (64 - j + 1) = 64 - j + 1 := wrap64 ⟨by omega, by omega⟩
  have ht1 : (en eF F).take F.length = en eF F := en_take eF F
  have ht2 : (en eS N).take N.length = en eS N := en_take eS N
  simp only [RUX, Nat.reduceAdd, reduceIte, Nat.reduceEqDiff, Nat.reduceLT, Nat.reduceLeDiff, reduceCtorEq, eq_self, FIX, forall_const, endE_n, endE_r, CHT, disj, Nat.reduceBEq, beq_self_eq_true, APT, APX, forall_eq, ALT, ALU, rH, rV, rdC, rdr, (uA c48_48.eq_1), (uA c48_42.eq_1), (uR r48_40.eq_1), (uA c48_41.eq_1), (uA c48_46.eq_1), (uA c48_45.eq_1), (uR r48_43.eq_1), (uR r48_44.eq_1), (uR r48_47.eq_1), e0, e9, e8, eH8, eF1, eN1, e4, eH4, en_len]
  refine callRc (C1 0) rfl rfl rfl rfl (by simp only [RUX, Nat.reduceAdd, reduceIte, Nat.reduceEqDiff, Nat.reduceLT, Nat.reduceLeDiff, reduceCtorEq, eq_self, FIX, forall_const, endE_n, endE_r, CHT, disj, Nat.reduceBEq, beq_self_eq_true, APT, APX, forall_eq, ALT, ALU, rH, rV, rdC, rdr, s48, eR]) ⟨?_, ?_⟩
  · simp only [RUX, Nat.reduceAdd, reduceIte, Nat.reduceEqDiff, Nat.reduceLT, Nat.reduceLeDiff, reduceCtorEq, eq_self, FIX, forall_const, endE_n, endE_r, CHT, disj, Nat.reduceBEq, beq_self_eq_true, APT, APX, forall_eq, ALT, ALU, rH, rV, rdC, rdr, s48]
  by_cases g1 : (k : Int) < 64 - j + 1
  rotate_left
  · simp only [RUX, Nat.reduceAdd, reduceIte, Nat.reduceEqDiff, Nat.reduceLT, Nat.reduceLeDiff, reduceCtorEq, eq_self, FIX, forall_const, endE_n, endE_r, CHT, disj, Nat.reduceBEq, beq_self_eq_true, APT, APX, forall_eq, ALT, ALU, rH, rV, rdC, rdr, (uA c48_48.eq_1), (uA c48_42.eq_1), (uR r48_40.eq_1), (uA c48_41.eq_1), (uA c48_46.eq_1), (uA c48_45.eq_1), (uR r48_43.eq_1), (uR r48_44.eq_1), (uR r48_47.eq_1), e0, e9, e8, eH8, eF1, eN1, e4, eH4, en_len, (uA c48_53.eq_1), (uR r48_38.eq_1), (uA c48_51.eq_1), (uR r48_39.eq_1), (uA c48_50.eq_1), (uA c48_49.eq_1), (uR r48_52.eq_1), s48, QN48_r, w1, w2, g1]
    refine ES.mk (q + k + 1, ⟨F, N, []⟩) ⟨by simp only; omega, by simp only; omega, ⟨⟨by simp only; omega, by simp only; omega, Nat.zero_le _⟩, hF, hN, fun m h => (by cases h)⟩⟩ ?_
    simp only [RUX, Nat.reduceAdd, reduceIte, Nat.reduceEqDiff, Nat.reduceLT, Nat.reduceLeDiff, reduceCtorEq, eq_self, FIX, forall_const, endE_n, endE_r, CHT, disj, Nat.reduceBEq, beq_self_eq_true, APT, APX, forall_eq, ALT, ALU, rH, rV, rdC, rdr, s48, e4, eF1, eN1, ht1, ht2, en_len, en_nil]
  obtain ⟨s, hs, C2⟩ := decB (n := (k : Int)) ⟨by omega, by omega⟩
  have z1 : (⟨#[102]⟩ : ByteArray).size = 1 := rfl
  have y1 : (⟨#[102]⟩ : ByteArray).size + s.size ≤ 9223372036854775807 := by omega
  have hl : F.length ≤ 1000 := by omega
  have hl2 : N.length ≤ 1000 := by omega
  have a1 : (F.length + 1) * 40 ≤ 140737488355328 := by clear w1 w2 g1 l1 l2; omega
  have a2 : F.length ≤ 9223372036854775806 := by clear w1 w2 g1 l1 l2; omega
  have a3 : (N.length + 1) * 16 ≤ 140737488355328 := by clear w1 w2 g1 l1 l2 a1; omega
  have a4 : N.length ≤ 9223372036854775806 := by clear w1 w2 g1 l1 l2 a1 a3; omega
  have w3 : IntKind.i64.wrap ((k : Int) + 1) = ((k + 1 : Nat) : Int) := wrap64 (x := (k : Int) + 1) ⟨by omega, by omega⟩
  have hb1 : ((⟨#[102]⟩ : ByteArray) ++ s).size ≤ 1048576 := by rw [ByteArray.size_append]; omega
  simp only [RUX, Nat.reduceAdd, reduceIte, Nat.reduceEqDiff, Nat.reduceLT, Nat.reduceLeDiff, reduceCtorEq, eq_self, FIX, forall_const, endE_n, endE_r, CHT, disj, Nat.reduceBEq, beq_self_eq_true, APT, APX, forall_eq, ALT, ALU, rH, rV, rdC, rdr, (uA c48_48.eq_1), (uA c48_42.eq_1), (uR r48_40.eq_1), (uA c48_41.eq_1), (uA c48_46.eq_1), (uA c48_45.eq_1), (uR r48_43.eq_1), (uR r48_44.eq_1), (uR r48_47.eq_1), e0, e9, e8, eH8, eF1, eN1, e4, eH4, en_len, w1, w2, g1]
  refine callC C2 rfl rfl rfl rfl ?_
  simp only [RUX, Nat.reduceAdd, reduceIte, Nat.reduceEqDiff, Nat.reduceLT, Nat.reduceLeDiff, reduceCtorEq, eq_self, FIX, forall_const, endE_n, endE_r, CHT, disj, Nat.reduceBEq, beq_self_eq_true, APT, APX, forall_eq, ALT, ALU, rH, rV, rdC, rdr, (uA c48_48.eq_1), (uA c48_42.eq_1), (uR r48_40.eq_1), (uA c48_41.eq_1), (uA c48_46.eq_1), (uA c48_45.eq_1), (uR r48_43.eq_1), (uR r48_44.eq_1), (uR r48_47.eq_1), e0, e9, e8, eH8, eF1, eN1, e4, eH4, en_len, sStr, y1, ht1, a1, a2]
  refine callC C2 rfl rfl rfl rfl ?_
  simp only [RUX, Nat.reduceAdd, reduceIte, Nat.reduceEqDiff, Nat.reduceLT, Nat.reduceLeDiff, reduceCtorEq, eq_self, FIX, forall_const, endE_n, endE_r, CHT, disj, Nat.reduceBEq, beq_self_eq_true, APT, APX, forall_eq, ALT, ALU, rH, rV, rdC, rdr, (uA c48_48.eq_1), (uA c48_42.eq_1), (uR r48_40.eq_1), (uA c48_41.eq_1), (uA c48_46.eq_1), (uA c48_45.eq_1), (uR r48_43.eq_1), (uR r48_44.eq_1), (uR r48_47.eq_1), e0, e9, e8, eH8, eF1, eN1, e4, eH4, en_len, sStr, y1, ht2, a3, a4, w3]
  refine ⟨by omega, F ++ [⟨⟨#[102]⟩ ++ s, ⟨#[]⟩, 0⟩], N ++ [⟨#[102]⟩ ++ s], c + 6 + 7, c + 6 + 10 + 6, by rw [List.length_append, l1]; rfl, by rw [List.length_append, l2]; rfl, fun g hg => ?_, fun x hx => ?_, e0, rfl, ⟨u8, e8, (by rw [List.length_append, List.length_append]; rfl)⟩, (by rw [en_snoc]; rfl), (by rw [en_snoc]; rfl), ⟨u4, e4, eH4⟩, ?_⟩
  · rcases List.mem_append.1 hg with h | h
    · exact hF g h
    · rw [List.mem_singleton.1 h]; exact ⟨hb1, Nat.zero_le _⟩
  · rcases List.mem_append.1 hx with h | h
    · exact hN x h
    · rw [List.mem_singleton.1 h]; exact hb1
  · show _ = some (rdr 0 bs (q + ((k + 1 : Nat) : Int)))
    rw [show q + ((k + 1 : Nat) : Int) = q + k + 1 from by omega]
    rfl
def USa_1 := Bx.mk <|
  aN (uA c48.eq_1) <| aN (uR r48_0.eq_1) <| aN (uR r48_1.eq_1) <| aN (uA c48_6.eq_1) <| aN (uR r48_2.eq_1) <| aN (uA c48_5.eq_1) <| aN (uA c48_4.eq_1) <| aN (uR r48_3.eq_1) <| aN (uR r48_7.eq_1) <| aN (uA c48_73.eq_1) <| aN (uR r48_8.eq_1) <| aN (uA c48_72.eq_1) <| aN (uA c48_71.eq_1) <| aN (uR r48_9.eq_1) <| aN (uA c48_70.eq_1) <| aN (uA c48_69.eq_1) <| aN (uR r48_11.eq_1) <| aN (uA c48_68.eq_1) <| aN (uA c48_67.eq_1) <| aN (uR r48_13.eq_1) <| aN (uA c48_66.eq_1) <| aN (uA c48_65.eq_1) <| aN (uR r48_15.eq_1) <| aN (uA c48_64.eq_1) <| aN (uA c48_63.eq_1) <| aN (uR r48_17.eq_1) <| aN (uA c48_62.eq_1) <| aN (uA c48_61.eq_1) <| aN (uR r48_19.eq_1) <| aN (uA c48_60.eq_1) <| aN (uA c48_59.eq_1) <| aN (uR r48_21.eq_1) <| aN (uA c48_58.eq_1) <| aN (uA c48_57.eq_1) <| aN (uR r48_23.eq_1) <| aN (uA c48_56.eq_1) <| aN (uA c48_55.eq_1) <| aN (uR r48_31.eq_1) <| aN (uA c48_54.eq_1) <| s48.eq_1
set_option maxHeartbeats 2000000 in
theorem spoil_ok (bs : List UInt8) (hb : bs.length ≤ 2000) (p : Int) (hp : 0 ≤ p ∧ p ≤ 900000000000) (d : Dk) (hD : DOk d) : RC 48 [tDk d] bs p 300 fineDk tDk := by
  have hd := hD.fine
  have hcp := copyDk_ok d hd.s 1001 1002 1003
  refine RC.intro ok48 rfl (fun _ => rfl) fun X => ?_
  simp only [RUX, Nat.reduceAdd, reduceIte, Nat.reduceEqDiff, Nat.reduceLT, Nat.reduceLeDiff, reduceCtorEq, eq_self, FIX, forall_const, endE_n, endE_r, CHT, disj, Nat.reduceBEq, beq_self_eq_true, APT, APX, forall_eq, ALT, ALU, rH, rV, rdC, rdr, USa_1.d]
  refine callDk (ws := []) (ns := []) hcp rfl rfl rfl (by decide) ⟨rfl, ?_⟩
  by_cases g0 : ((d.files.length : Int) == 0) = true
  · simp only [RUX, Nat.reduceAdd, reduceIte, Nat.reduceEqDiff, Nat.reduceLT, Nat.reduceLeDiff, reduceCtorEq, eq_self, FIX, forall_const, endE_n, endE_r, CHT, disj, Nat.reduceBEq, beq_self_eq_true, APT, APX, forall_eq, ALT, ALU, rH, rV, rdC, rdr, USa_1.d, en_len, g0]
    refine ES.mk (p, ⟨[], [⟨#[97]⟩], []⟩) ⟨by simp only; omega, by simp only; omega, ⟨⟨Nat.zero_le _, by simp, Nat.zero_le _⟩, fun f h => (by cases h), fun x h => (by rw [List.mem_singleton.1 h]; decide), fun m h => (by cases h)⟩⟩ ?_
    simp only [RUX, Nat.reduceAdd, reduceIte, Nat.reduceEqDiff, Nat.reduceLT, Nat.reduceLeDiff, reduceCtorEq, eq_self, FIX, forall_const, endE_n, endE_r, CHT, disj, Nat.reduceBEq, beq_self_eq_true, APT, APX, forall_eq, ALT, ALU, rH, rV, rdC, rdr, s48, en_nil]
    rfl
  rw [Bool.not_eq_true] at g0
  have hpos : 0 < (d.files.length : Int) := by
    have : ¬ ((d.files.length : Int) = 0) := by simpa using g0
    omega
  have hf64 := hD.f
  obtain ⟨i, i0, i1, C1⟩ := pick_ok bs hb p d.files.length (by omega) (by omega)
  obtain ⟨i, rfl⟩ : ∃ m : Nat, i = m := ⟨i.toNat, (Int.toNat_of_nonneg i0).symm⟩
  obtain ⟨f, hx⟩ : ∃ x, d.files[i]? = some x := ⟨_, List.getElem?_eq_getElem (by omega)⟩
  have hd2 := (hD.files i f hx).data
  obtain ⟨k, k0, k1, C2⟩ := pick_ok bs hb (p + 1) 10 (by omega) (by omega)
  simp only [RUX, Nat.reduceAdd, reduceIte, Nat.reduceEqDiff, Nat.reduceLT, Nat.reduceLeDiff, reduceCtorEq, eq_self, FIX, forall_const, endE_n, endE_r, CHT, disj, Nat.reduceBEq, beq_self_eq_true, APT, APX, forall_eq, ALT, ALU, rH, rV, rdC, rdr, USa_1.d, en_len, g0]
  refine callRc (C1 0) rfl rfl rfl rfl rfl ⟨?_, ?_⟩
  · simp only [RUX, Nat.reduceAdd, reduceIte, Nat.reduceEqDiff, Nat.reduceLT, Nat.reduceLeDiff, reduceCtorEq, eq_self, FIX, forall_const, endE_n, endE_r, CHT, disj, Nat.reduceBEq, beq_self_eq_true, APT, APX, forall_eq, ALT, ALU, rH, rV, rdC, rdr, s48]
  simp only [RUX, Nat.reduceAdd, reduceIte, Nat.reduceEqDiff, Nat.reduceLT, Nat.reduceLeDiff, reduceCtorEq, eq_self, FIX, forall_const, endE_n, endE_r, CHT, disj, Nat.reduceBEq, beq_self_eq_true, APT, APX, forall_eq, ALT, ALU, rH, rV, rdC, rdr, USa_1.d]
  refine callRc (C2 0) rfl rfl rfl rfl rfl ⟨?_, ?_⟩
  · simp only [RUX, Nat.reduceAdd, reduceIte, Nat.reduceEqDiff, Nat.reduceLT, Nat.reduceLeDiff, reduceCtorEq, eq_self, FIX, forall_const, endE_n, endE_r, CHT, disj, Nat.reduceBEq, beq_self_eq_true, APT, APX, forall_eq, ALT, ALU, rH, rV, rdC, rdr, s48]
  have hq : 0 ≤ p ∧ p ≤ 900000000000 ∧ p ≤ p + 1 + 1 ∧ p + 1 + 1 ≤ p + 100 := by omega
  have hn := hD.n
  have hm := hD.m
  simp only [RUX, Nat.reduceAdd, reduceIte, Nat.reduceEqDiff, Nat.reduceLT, Nat.reduceLeDiff, reduceCtorEq, eq_self, FIX, forall_const, endE_n, endE_r, CHT, disj, Nat.reduceBEq, beq_self_eq_true, APT, APX, forall_eq, ALT, ALU, rH, rV, rdC, rdr, USa_1.d]
  by_cases b0 : (k == 0) = true
  · simp only [RUX, Nat.reduceAdd, reduceIte, Nat.reduceEqDiff, Nat.reduceLT, Nat.reduceLeDiff, reduceCtorEq, eq_self, FIX, forall_const, endE_n, endE_r, CHT, disj, Nat.reduceBEq, beq_self_eq_true, APT, APX, forall_eq, ALT, ALU, rH, rV, rdC, rdr, USa_1.d, b0]
    exact sp0 hb hq hd hx hd2 (by omega) (by omega) ⟨_, _, _, _, _, rfl, rfl, rfl, rfl, rfl, rfl, rfl, rfl, rfl, rfl⟩
  rw [Bool.not_eq_true] at b0
  by_cases b1 : (k == 1) = true
  · simp only [RUX, Nat.reduceAdd, reduceIte, Nat.reduceEqDiff, Nat.reduceLT, Nat.reduceLeDiff, reduceCtorEq, eq_self, FIX, forall_const, endE_n, endE_r, CHT, disj, Nat.reduceBEq, beq_self_eq_true, APT, APX, forall_eq, ALT, ALU, rH, rV, rdC, rdr, USa_1.d, b0, b1]
    exact sp1 hb hq hd hx hd2 (by omega) (by omega) ⟨_, _, _, _, _, rfl, rfl, rfl, rfl, rfl, rfl, rfl, rfl, rfl, rfl⟩
  rw [Bool.not_eq_true] at b1
  by_cases b2 : (k == 2) = true
  · simp only [RUX, Nat.reduceAdd, reduceIte, Nat.reduceEqDiff, Nat.reduceLT, Nat.reduceLeDiff, reduceCtorEq, eq_self, FIX, forall_const, endE_n, endE_r, CHT, disj, Nat.reduceBEq, beq_self_eq_true, APT, APX, forall_eq, ALT, ALU, rH, rV, rdC, rdr, USa_1.d, b0, b1, b2]
    exact sp2 hb hq hd hx hd2 (by omega) (by omega) ⟨_, _, _, _, _, rfl, rfl, rfl, rfl, rfl, rfl, rfl, rfl, rfl, rfl⟩
  rw [Bool.not_eq_true] at b2
  by_cases b3 : (k == 3) = true
  · simp only [RUX, Nat.reduceAdd, reduceIte, Nat.reduceEqDiff, Nat.reduceLT, Nat.reduceLeDiff, reduceCtorEq, eq_self, FIX, forall_const, endE_n, endE_r, CHT, disj, Nat.reduceBEq, beq_self_eq_true, APT, APX, forall_eq, ALT, ALU, rH, rV, rdC, rdr, USa_1.d, b0, b1, b2, b3]
    exact sp3 hb hq hd hx hd2 (by omega) (by omega) ⟨_, _, _, _, _, rfl, rfl, rfl, rfl, rfl, rfl, rfl, rfl, rfl, rfl⟩
  rw [Bool.not_eq_true] at b3
  by_cases b4 : (k == 4) = true
  · simp only [RUX, Nat.reduceAdd, reduceIte, Nat.reduceEqDiff, Nat.reduceLT, Nat.reduceLeDiff, reduceCtorEq, eq_self, FIX, forall_const, endE_n, endE_r, CHT, disj, Nat.reduceBEq, beq_self_eq_true, APT, APX, forall_eq, ALT, ALU, rH, rV, rdC, rdr, USa_1.d, b0, b1, b2, b3, b4]
    exact sp4 hb hq hd hx hd2 (by omega) (by omega) ⟨_, _, _, _, _, rfl, rfl, rfl, rfl, rfl, rfl, rfl, rfl, rfl, rfl⟩
  rw [Bool.not_eq_true] at b4
  by_cases b5 : (k == 5) = true
  · simp only [RUX, Nat.reduceAdd, reduceIte, Nat.reduceEqDiff, Nat.reduceLT, Nat.reduceLeDiff, reduceCtorEq, eq_self, FIX, forall_const, endE_n, endE_r, CHT, disj, Nat.reduceBEq, beq_self_eq_true, APT, APX, forall_eq, ALT, ALU, rH, rV, rdC, rdr, USa_1.d, b0, b1, b2, b3, b4, b5]
    exact sp5 hb hq hd hx hd2 (by omega) (by omega) ⟨_, _, _, _, _, rfl, rfl, rfl, rfl, rfl, rfl, rfl, rfl, rfl, rfl⟩
  rw [Bool.not_eq_true] at b5
  by_cases b6 : (k == 6) = true
  · simp only [RUX, Nat.reduceAdd, reduceIte, Nat.reduceEqDiff, Nat.reduceLT, Nat.reduceLeDiff, reduceCtorEq, eq_self, FIX, forall_const, endE_n, endE_r, CHT, disj, Nat.reduceBEq, beq_self_eq_true, APT, APX, forall_eq, ALT, ALU, rH, rV, rdC, rdr, USa_1.d, b0, b1, b2, b3, b4, b5, b6]
    exact sp6 hb hq hd hx hd2 (by omega) (by omega) ⟨_, _, _, _, _, rfl, rfl, rfl, rfl, rfl, rfl, rfl, rfl, rfl, rfl⟩
  rw [Bool.not_eq_true] at b6
  by_cases b7 : (k == 7) = true
  · simp only [RUX, Nat.reduceAdd, reduceIte, Nat.reduceEqDiff, Nat.reduceLT, Nat.reduceLeDiff, reduceCtorEq, eq_self, FIX, forall_const, endE_n, endE_r, CHT, disj, Nat.reduceBEq, beq_self_eq_true, APT, APX, forall_eq, ALT, ALU, rH, rV, rdC, rdr, USa_1.d, b0, b1, b2, b3, b4, b5, b6, b7]
    exact sp7 hb hq hd hx hd2 ⟨_, _, _, _, _, rfl, rfl, rfl, rfl, rfl, rfl, rfl, rfl, rfl, rfl⟩
  rw [Bool.not_eq_true] at b7
  by_cases b8 : (k == 8) = true
  · simp only [RUX, Nat.reduceAdd, reduceIte, Nat.reduceEqDiff, Nat.reduceLT, Nat.reduceLeDiff, reduceCtorEq, eq_self, FIX, forall_const, endE_n, endE_r, CHT, disj, Nat.reduceBEq, beq_self_eq_true, APT, APX, forall_eq, ALT, ALU, rH, rV, rdC, rdr, USa_1.d, b0, b1, b2, b3, b4, b5, b6, b7, b8]
    exact sp8 hb hq hd hx hd2 ⟨_, _, _, _, _, rfl, rfl, rfl, rfl, rfl, rfl, rfl, rfl, rfl, rfl⟩
  rw [Bool.not_eq_true] at b8
  simp only [RUX, Nat.reduceAdd, reduceIte, Nat.reduceEqDiff, Nat.reduceLT, Nat.reduceLeDiff, reduceCtorEq, eq_self, FIX, forall_const, endE_n, endE_r, CHT, disj, Nat.reduceBEq, beq_self_eq_true, APT, APX, forall_eq, ALT, ALU, rH, rV, rdC, rdr, USa_1.d, b0, b1, b2, b3, b4, b5, b6, b7, b8]
  exact sp9 hb hq ⟨_, _, _, _, _, rfl, rfl, rfl, rfl, rfl, rfl, rfl, rfl, rfl, rfl⟩ rfl rfl
end Go.V
set_option linter.unusedSimpArgs false
namespace Go.V
open Go.Proofs
/- loop.example/teagle/spec.l45Any -/
def r19_0 : List AOper := [ao 0 2 (.alloc 27 [.nil0, .nil0, .nil0])]
def r19_1 : List AOper := [ao 0 4 (.mv (.t 0)),
  ao 1 5 (.call (.k (.c (.fn 47 []))) [(.t 4)]),
  ao 2 3 (.alloc 27 [.nil0, .nil0, .nil0]),
  an 3 (.st 3 (.t 3) (.t 5))]
def r19_2 : List AOper := [ao 0 6 (.mv (.t 0)),
  ao 1 7 (.call (.k (.c (.fn 22 []))) [(.t 6), (.k (.i 8))]),
  ao 2 8 (.bin .eql (.t 7) (.k (.i 0)))]
def r19_3 : List AOper := [ao 0 9 (.mv (.t 0)),
  ao 1 10 (.ld 3 true (.t 3)),
  ao 2 11 (.call (.k (.c (.fn 48 []))) [(.t 9), (.t 10)]),
  an 3 (.st 3 (.t 2) (.t 11))]
def c19_4 : ACode := .seq (.reg r19_3) .ret
def c19_5 : ACode := .cond (.t 8) c19_4 .skip
def c19_6 : ACode := .seq (.reg r19_2) c19_5
def r19_7 : List AOper := [ao 0 12 (.ld 3 true (.t 3)),
  an 1 (.st 3 (.t 2) (.t 12))]
def c19 : ACode := .seq (.reg r19_0) (.seq (.reg r19_1) (.seq c19_6 (.seq (.reg r19_7) .ret)))
def s19 : List ARes := [.cell 2 3 true]
theorem ok19 : okF Try.prog 19 13 c19 s19 := ⟨Try.f19, Try.func19, Try.ntmps19, by kernel_rfl, by kernel_rfl, by kernel_rfl⟩
def USb_1 := Bx.mk <|
  aN (uA c19.eq_1) <| aN (uR r19_0.eq_1) <| aN (uR r19_1.eq_1) <| aN (uA c19_6.eq_1) <| aN (uR r19_2.eq_1) <| aN (uA c19_5.eq_1) <| aN (uA c19_4.eq_1) <| aN (uR r19_3.eq_1) <| aN (uR r19_7.eq_1) <| s19.eq_1
theorem any_ok (bs : List UInt8) (hb : bs.length ≤ 2000) (p : Int) (hp : 0 ≤ p ∧ p ≤ 600000000000) : RC 19 [] bs p 10000000 fineDk tDk := by
  obtain ⟨q, d, q0, q1, hD, C1⟩ := disk_ok bs hb p (by omega)
  obtain ⟨k, k0, k1, C2⟩ := pick_ok bs hb q 8 (by omega) (by omega)
  refine RC.intro ok19 rfl (fun _ => rfl) fun X => ?_
  simp only [RUX, Nat.reduceAdd, reduceIte, Nat.reduceEqDiff, Nat.reduceLT, Nat.reduceLeDiff, reduceCtorEq, eq_self, FIX, forall_const, endE_n, endE_r, CHT, disj, Nat.reduceBEq, beq_self_eq_true, APT, APX, forall_eq, ALT, ALU, rH, rV, rdC, rdr, USb_1.d]
  refine callRc (C1 0) rfl rfl rfl rfl rfl ⟨?_, ?_⟩
  · simp only [RUX, Nat.reduceAdd, reduceIte, Nat.reduceEqDiff, Nat.reduceLT, Nat.reduceLeDiff, reduceCtorEq, eq_self, FIX, forall_const, endE_n, endE_r, CHT, disj, Nat.reduceBEq, beq_self_eq_true, APT, APX, forall_eq, ALT, ALU, rH, rV, rdC, rdr, s19]
  simp only [RUX, Nat.reduceAdd, reduceIte, Nat.reduceEqDiff, Nat.reduceLT, Nat.reduceLeDiff, reduceCtorEq, eq_self, FIX, forall_const, endE_n, endE_r, CHT, disj, Nat.reduceBEq, beq_self_eq_true, APT, APX, forall_eq, ALT, ALU, rH, rV, rdC, rdr, USb_1.d]
  refine callRc (C2 0) rfl rfl rfl rfl rfl ⟨?_, ?_⟩
  · simp only [RUX, Nat.reduceAdd, reduceIte, Nat.reduceEqDiff, Nat.reduceLT, Nat.reduceLeDiff, reduceCtorEq, eq_self, FIX, forall_const, endE_n, endE_r, CHT, disj, Nat.reduceBEq, beq_self_eq_true, APT, APX, forall_eq, ALT, ALU, rH, rV, rdC, rdr, s19]
  by_cases g : (k == 0) = true
  · obtain ⟨q2, d', q20, q21, hd', C3⟩ := spoil_ok bs hb (q + 1) (by omega) d hD
    simp only [RUX, Nat.reduceAdd, reduceIte, Nat.reduceEqDiff, Nat.reduceLT, Nat.reduceLeDiff, reduceCtorEq, eq_self, FIX, forall_const, endE_n, endE_r, CHT, disj, Nat.reduceBEq, beq_self_eq_true, APT, APX, forall_eq, ALT, ALU, rH, rV, rdC, rdr, USb_1.d, g]
    refine callRc (C3 0) rfl rfl rfl rfl rfl ⟨?_, ?_⟩
    · simp only [RUX, Nat.reduceAdd, reduceIte, Nat.reduceEqDiff, Nat.reduceLT, Nat.reduceLeDiff, reduceCtorEq, eq_self, FIX, forall_const, endE_n, endE_r, CHT, disj, Nat.reduceBEq, beq_self_eq_true, APT, APX, forall_eq, ALT, ALU, rH, rV, rdC, rdr, s19]
    simp only [RUX, Nat.reduceAdd, reduceIte, Nat.reduceEqDiff, Nat.reduceLT, Nat.reduceLeDiff, reduceCtorEq, eq_self, FIX, forall_const, endE_n, endE_r, CHT, disj, Nat.reduceBEq, beq_self_eq_true, APT, APX, forall_eq, ALT, ALU, rH, rV, rdC, rdr, USb_1.d]
    refine ES.mk (q2, d') ⟨by simp only; omega, by simp only; omega, hd'⟩ ?_
    simp only [RUX, Nat.reduceAdd, reduceIte, Nat.reduceEqDiff, Nat.reduceLT, Nat.reduceLeDiff, reduceCtorEq, eq_self, FIX, forall_const, endE_n, endE_r, CHT, disj, Nat.reduceBEq, beq_self_eq_true, APT, APX, forall_eq, ALT, ALU, rH, rV, rdC, rdr, USb_1.d]
  · rw [Bool.not_eq_true] at g
    simp only [RUX, Nat.reduceAdd, reduceIte, Nat.reduceEqDiff, Nat.reduceLT, Nat.reduceLeDiff, reduceCtorEq, eq_self, FIX, forall_const, endE_n, endE_r, CHT, disj, Nat.reduceBEq, beq_self_eq_true, APT, APX, forall_eq, ALT, ALU, rH, rV, rdC, rdr, USb_1.d, g]
    refine ES.mk (q + 1, d) ⟨by simp only; omega, by simp only; omega, hD.fine⟩ ?_
    simp only [RUX, Nat.reduceAdd, reduceIte, Nat.reduceEqDiff, Nat.reduceLT, Nat.reduceLeDiff, reduceCtorEq, eq_self, FIX, forall_const, endE_n, endE_r, CHT, disj, Nat.reduceBEq, beq_self_eq_true, APT, APX, forall_eq, ALT, ALU, rH, rV, rdC, rdr, USb_1.d]
abbrev tDkW (x : Dk × DW) : T := .tup [.agg (cDk x.1), .agg [.v (.s (.int .i64 x.2.kind)), .v (.s (.string x.2.name)), .v (.s (.string x.2.data))]]
/- loop.example/teagle/spec.DrawDiskDo -/
def r5_0 : List AOper := [ao 0 2 (.alloc 27 [.nil0, .nil0, .nil0]),
  ao 1 3 (.alloc 29 [(.v (.s (.int .i64 0))), (.v (.s (.string ⟨#[]⟩))), (.v (.s (.string ⟨#[]⟩)))])]
def r5_1 : List AOper := [ao 0 7 (.mv (.t 0)),
  ao 1 8 (.call (.k (.c (.fn 18 []))) [(.t 7)]),
  ao 2 4 (.mv (.t 8))]
def r5_2 : List AOper := [ao 0 9 (.mv (.t 4)),
  ao 1 10 (.call (.k (.c (.fn 19 []))) [(.t 9)]),
  ao 2 5 (.alloc 27 [.nil0, .nil0, .nil0]),
  an 3 (.st 3 (.t 5) (.t 10))]
def r5_3 : List AOper := [ao 0 11 (.mv (.t 4)),
  au 1 12 [0] (.ld 3 true (.t 5)),
  au 2 13 [0, 1] (.mv (.t 4)),
  au 3 14 [0, 1] (.call (.k (.c (.fn 22 []))) [(.t 13), (.k (.i 3))]),
  au 4 15 [0, 1] (.bin .sub (.k (.i 20000)) (.t 14)),
  au 5 16 [0, 1] (.call (.k (.c (.fn 21 []))) [(.k (.s (.string ⟨#[119]⟩))), (.t 15)]),
  ao 6 17 (.call (.k (.c (.fn 20 []))) [(.t 11), (.t 12), (.t 16)]),
  au 7 6 (ru 7) (.alloc 29 [(.v (.s (.int .i64 0))), (.v (.s (.string ⟨#[]⟩))), (.v (.s (.string ⟨#[]⟩)))]),
  an 8 (.st 3 (.t 6) (.t 17))]
def r5_4 : List AOper := [ao 0 18 (.ld 3 true (.t 5)),
  au 1 19 [0] (.ld 3 true (.t 6)),
  ax 2 none none [1] (.st 3 (.t 2) (.t 18)),
  an 3 (.st 3 (.t 3) (.t 19))]
def c5 : ACode := .seq (.reg r5_0) (.seq (.reg r5_1) (.seq (.reg r5_2) (.seq (.reg r5_3) (.seq (.reg r5_4) .ret))))
def s5 : List ARes := [.cell 2 3 true, .cell 3 3 true]
theorem ok5 : okF Try.prog 5 20 c5 s5 := ⟨Try.f5, Try.func5, Try.ntmps5, by kernel_rfl, by kernel_rfl, by kernel_rfl⟩
def USb_2 := Bx.mk <|
  aN (uA c5.eq_1) <| aN (uR r5_0.eq_1) <| aN (uR r5_1.eq_1) <| aN (uR r5_2.eq_1) <| aN (uR r5_3.eq_1) <| aN (uR r5_4.eq_1) <| s5.eq_1
theorem drawDo_ok (bs : List UInt8) : PC 5 [.c (.v (.sl (encB bs)))] (fun x : Dk × DW => fineDk x.1 ∧ fineDW x.2) tDkW := by
  have hb : (bs.take 2000).length ≤ 2000 := by rw [List.length_take]; omega
  obtain ⟨q, d, q0, q1, hd, C1⟩ := any_ok (bs.take 2000) hb 0 (by omega)
  obtain ⟨k, k0, k1, C2⟩ := pick_ok (bs.take 2000) hb q 3 (by omega) (by omega)
  have w1 : IntKind.i64.wrap (20000 - k) = ((20000 - k).toNat : Int) := (wrap64 ⟨by omega, by omega⟩).trans (by omega)
  obtain ⟨s, hs, C3⟩ := many_ok ⟨#[119]⟩ (20000 - k).toNat (by omega) (by decide)
  have hz : (⟨#[119]⟩ : ByteArray).size = 1 := rfl
  obtain ⟨q2, w, q20, q21, hw, C4⟩ := write20_ok (bs.take 2000) hb (q + 1) (by omega) d hd s (by rw [hs, hz]; omega)
  refine PC.intro ok5 rfl (fun _ => rfl) fun X => ?_
  simp only [RUX, Nat.reduceAdd, reduceIte, Nat.reduceEqDiff, Nat.reduceLT, Nat.reduceLeDiff, reduceCtorEq, eq_self, FIX, forall_const, endE_n, endE_r, CHT, disj, Nat.reduceBEq, beq_self_eq_true, APT, APX, forall_eq, ALT, ALU, rH, rV, rdC, rdr, USb_2.d]
  refine callOpen rfl rfl ⟨?_, ?_⟩
  · simp only [RUX, Nat.reduceAdd, reduceIte, Nat.reduceEqDiff, Nat.reduceLT, Nat.reduceLeDiff, reduceCtorEq, eq_self, FIX, forall_const, endE_n, endE_r, CHT, disj, Nat.reduceBEq, beq_self_eq_true, APT, APX, forall_eq, ALT, ALU, rH, rV, rdC, rdr, s5]
  simp only [RUX, Nat.reduceAdd, reduceIte, Nat.reduceEqDiff, Nat.reduceLT, Nat.reduceLeDiff, reduceCtorEq, eq_self, FIX, forall_const, endE_n, endE_r, CHT, disj, Nat.reduceBEq, beq_self_eq_true, APT, APX, forall_eq, ALT, ALU, rH, rV, rdC, rdr, USb_2.d]
  refine callRc (C1 _) rfl rfl rfl rfl rfl ⟨?_, ?_⟩
  · simp only [RUX, Nat.reduceAdd, reduceIte, Nat.reduceEqDiff, Nat.reduceLT, Nat.reduceLeDiff, reduceCtorEq, eq_self, FIX, forall_const, endE_n, endE_r, CHT, disj, Nat.reduceBEq, beq_self_eq_true, APT, APX, forall_eq, ALT, ALU, rH, rV, rdC, rdr, s5]
  simp only [RUX, Nat.reduceAdd, reduceIte, Nat.reduceEqDiff, Nat.reduceLT, Nat.reduceLeDiff, reduceCtorEq, eq_self, FIX, forall_const, endE_n, endE_r, CHT, disj, Nat.reduceBEq, beq_self_eq_true, APT, APX, forall_eq, ALT, ALU, rH, rV, rdC, rdr, USb_2.d]
  refine callRc (C2 _) rfl rfl rfl rfl rfl ⟨?_, ?_⟩
  · simp only [RUX, Nat.reduceAdd, reduceIte, Nat.reduceEqDiff, Nat.reduceLT, Nat.reduceLeDiff, reduceCtorEq, eq_self, FIX, forall_const, endE_n, endE_r, CHT, disj, Nat.reduceBEq, beq_self_eq_true, APT, APX, forall_eq, ALT, ALU, rH, rV, rdC, rdr, s5]
  simp only [RUX, Nat.reduceAdd, reduceIte, Nat.reduceEqDiff, Nat.reduceLT, Nat.reduceLeDiff, reduceCtorEq, eq_self, FIX, forall_const, endE_n, endE_r, CHT, disj, Nat.reduceBEq, beq_self_eq_true, APT, APX, forall_eq, ALT, ALU, rH, rV, rdC, rdr, USb_2.d, w1]
  refine callC C3 rfl rfl rfl rfl ?_
  simp only [RUX, Nat.reduceAdd, reduceIte, Nat.reduceEqDiff, Nat.reduceLT, Nat.reduceLeDiff, reduceCtorEq, eq_self, FIX, forall_const, endE_n, endE_r, CHT, disj, Nat.reduceBEq, beq_self_eq_true, APT, APX, forall_eq, ALT, ALU, rH, rV, rdC, rdr, USb_2.d]
  refine callRc (C4 _) rfl rfl rfl rfl rfl ⟨?_, ?_⟩
  · simp only [RUX, Nat.reduceAdd, reduceIte, Nat.reduceEqDiff, Nat.reduceLT, Nat.reduceLeDiff, reduceCtorEq, eq_self, FIX, forall_const, endE_n, endE_r, CHT, disj, Nat.reduceBEq, beq_self_eq_true, APT, APX, forall_eq, ALT, ALU, rH, rV, rdC, rdr, s5]
  simp only [RUX, Nat.reduceAdd, reduceIte, Nat.reduceEqDiff, Nat.reduceLT, Nat.reduceLeDiff, reduceCtorEq, eq_self, FIX, forall_const, endE_n, endE_r, CHT, disj, Nat.reduceBEq, beq_self_eq_true, APT, APX, forall_eq, ALT, ALU, rH, rV, rdC, rdr, USb_2.d]
  refine ES.mk (d, w) ⟨hd, hw⟩ ?_
  simp only [RUX, Nat.reduceAdd, reduceIte, Nat.reduceEqDiff, Nat.reduceLT, Nat.reduceLeDiff, reduceCtorEq, eq_self, FIX, forall_const, endE_n, endE_r, CHT, disj, Nat.reduceBEq, beq_self_eq_true, APT, APX, forall_eq, ALT, ALU, rH, rV, rdC, rdr, USb_2.d]
end Go.V
set_option linter.unusedSimpArgs false
namespace Go.V
open Go.Proofs
theorem doS_code {d : Dk} {w : DW} (h : (doS d w).2 ≠ 0) : (doS d w).1 = d := by
  revert h
  unfold doS
  repeat' split
  all_goals simp
theorem DOk.fileAt {d : Dk} (hD : DOk d) {i : Nat} {f : DF} (hi : d.files[i]? = some f) : fileOf d.files f.name = f := by
  have h := hD.files i f hi
  obtain ⟨j, k1, k2, k3⟩ := hD.find (List.mem_of_getElem? h.made)
  rw [h.one] at k1
  have : j = i := by omega
  subst this
  rw [hi] at k2
  exact (Option.some.inj k2).symm
theorem lk_in {d : Dk} {nm : ByteArray} {x : ByteArray × Bool} (h : LkR d nm x) (hD : DOk d) (hm : nm ∈ aft d.names d.moves) : x = ((fileOf d.files nm).data, true) := by
  rcases h with ⟨_, h⟩ | ⟨h, _⟩
  · exact h
  · exact absurd ⟨hD, hm⟩ h
theorem lk_out {d : Dk} {nm : ByteArray} {x : ByteArray × Bool} (h : LkR d nm x) (hm : ¬ (DOk d ∧ nm ∈ aft d.names d.moves)) : x = (⟨#[]⟩, false) := by
  rcases h with ⟨h, _⟩ | ⟨_, h⟩
  · exact absurd h hm
  · exact h
theorem DOk.aftFind {d : Dk} (hD : DOk d) {nm : ByteArray} (hm : nm ∈ aft d.names d.moves) : ∃ i : Nat, fnd d.files nm = i ∧ d.files[i]? = some (fileOf d.files nm) ∧ (fileOf d.files nm).name = nm :=
  hD.find (DOk.aft_made (n := d.moves.length) (by rw [List.take_length]; exact hm))
theorem wo_not (nm : ByteArray) (ns : List ByteArray) : nm ∉ wo nm ns := by
  intro h
  have := (List.mem_filter.1 h).2
  simp at this
/-- What a write that is done does to its file. -/
structure Done (d : Dk) (w : DW) (x y : ByteArray × Bool) : Prop where
  make : w.kind = 1 → x.2 = false ∧ y = (⟨#[]⟩, true)
  add : w.kind = 2 → x.2 = true ∧ y = (x.1 ++ w.data, true)
  gone : w.kind = 4 → x.2 = true ∧ y = (⟨#[]⟩, false)
  rest : w.kind ≠ 1 → w.kind ≠ 2 → w.kind ≠ 4 → y = x
theorem fileOf_new {d : Dk} {nm : ByteArray} (h : DOk d) (hm : nm ∈ aft d.names d.moves) {i : Nat} (hf : fnd d.files nm = i) {g : DF} (hg : g.name = nm) {d' : Dk} (hd' : d' = ⟨d.files.set i g, d.names, d.moves⟩) (hD' : DOk d') : fileOf d'.files nm = g := by
  obtain ⟨j, k1, k2, k3⟩ := h.aftFind hm
  have : j = i := by rw [hf] at k1; omega
  subst this
  have hi : d'.files[j]? = some g := by rw [hd']; exact List.getElem?_set_self (List.getElem?_eq_some_iff.1 k2).1
  have := hD'.fileAt hi
  rwa [hg] at this
theorem do_done {d : Dk} {w : DW} (h : DOk d) (hc : (doS d w).2 = 0) {x y : ByteArray × Bool} (hx : LkR d w.name x) (hy : LkR (doS d w).1 w.name y) : Done d w x y := by
  have hS := h.step w
  revert hc hy hS
  unfold doS
  split
  · rename_i hk
    split
    · intro hc; simp at hc
    · rename_i hN
      split
      · intro hc; simp at hc
      · intro _ hy hS
        have hfn : ¬ 0 ≤ fnd d.files w.name := fun e => hN (.inr e)
        have hnm : w.name ∉ aft d.names d.moves := fun hm => by
          obtain ⟨i, k1, _⟩ := h.aftFind hm
          omega
        have hin : w.name ∈ aft d.names (d.moves ++ [⟨false, w.name⟩]) := by rw [aft_snoc]; simp
        have e1 := lk_out hx fun e => hnm e.2
        have e2 := lk_in hy hS hin
        have hi : (d.files ++ [(⟨w.name, ⟨#[]⟩, 0⟩ : DF)])[d.files.length]? = some ⟨w.name, ⟨#[]⟩, 0⟩ := by simp
        have e3 := hS.fileAt hi
        simp only at e3
        rw [e3] at e2
        refine ⟨fun _ => ⟨by rw [e1], e2⟩, fun e => ?_, fun e => ?_, fun e => absurd hk e⟩
        · rw [hk] at e; cases e
        · rw [hk] at e; cases e
  · rename_i hk1
    split
    · rename_i hk
      intro _ hy hS
      refine ⟨fun e => absurd e hk1, fun e => ?_, fun e => ?_, fun _ _ _ => ?_⟩
      · rw [hk] at e; cases e
      · rw [hk] at e; cases e
      · by_cases hm : w.name ∈ aft d.names d.moves
        · have e1 := lk_in hx h hm
          have e2 := lk_in hy hS hm
          obtain ⟨j, hj⟩ := List.mem_iff_getElem?.1 hm
          obtain ⟨_, _, _, k3⟩ := h.aftFind hm
          have hi : (keepD d (aft d.names d.moves)).files[j]? = some (fileOf d.files w.name) := by
            show ((aft d.names d.moves).map (fileOf d.files))[j]? = _
            rw [List.getElem?_map, hj]; rfl
          have e3 := hS.fileAt hi
          rw [k3] at e3
          rw [e1, e2, e3]
        · rw [lk_out hx fun e => hm e.2, lk_out hy fun e => hm e.2]
    · rename_i hk5
      split
      · intro hc; simp at hc
      · rename_i hr
        split
        · intro hc; simp at hc
        · rename_i hh
          have hm : w.name ∈ aft d.names d.moves := has_true.1 (by cases hq : has (aft d.names d.moves) w.name with | true => rfl | false => exact absurd hq hh)
          have e1 := lk_in hx h hm
          obtain ⟨i, h3, h4, h5⟩ := h.aftFind hm
          rw [h3, Int.toNat_natCast]
          split
          · rename_i hk
            split
            · intro hc; simp at hc
            · intro _ hy hS
              have e2 := lk_in hy hS hm
              have e3 := fileOf_new h hm h3 (g := ⟨(fileOf d.files w.name).name, (fileOf d.files w.name).data ++ w.data, (fileOf d.files w.name).kept⟩) h5 rfl hS
              simp only at e2 e3
              rw [e3] at e2
              refine ⟨fun e => absurd e hk1, fun _ => ⟨by rw [e1], by rw [e2, e1]⟩, fun e => ?_, fun _ e => absurd hk e⟩
              rw [hk] at e; cases e
          · rename_i hk2
            split
            · rename_i hk
              intro _ hy hS
              have e2 := lk_in hy hS hm
              have e3 := fileOf_new h hm h3 (g := ⟨(fileOf d.files w.name).name, (fileOf d.files w.name).data, (fileOf d.files w.name).data.size⟩) h5 rfl hS
              simp only at e2 e3
              rw [e3] at e2
              refine ⟨fun e => absurd e hk1, fun e => absurd e hk2, fun e => ?_, fun _ _ _ => by rw [e2, e1]⟩
              rw [hk] at e; cases e
            · rename_i hk3
              split
              · intro hc; simp at hc
              · intro _ hy hS
                have hno : w.name ∉ aft d.names (d.moves ++ [⟨true, w.name⟩]) := by rw [aft_snoc]; exact wo_not _ _
                have e2 := lk_out hy fun e => hno e.2
                refine ⟨fun e => absurd e hk1, fun e => absurd e hk2, fun _ => ⟨by rw [e1], e2⟩, fun _ _ e => ?_⟩
                have : w.kind = 4 := by omega
                exact absurd this e
end Go.V
set_option linter.unusedSimpArgs false
namespace Go.V
open Go.Proofs
theorem not_t {b : Bool} (h : b = true) : (!b) = false := by rw [h]; rfl
theorem not_f {b : Bool} (h : b = false) : (!b) = true := by rw [h]; rfl
theorem zDk_fine : fineDk ⟨[], [], []⟩ := ⟨⟨Nat.zero_le _, Nat.zero_le _, Nat.zero_le _⟩, fun f h => (by cases h), fun f h => (by cases h), fun f h => (by cases h)⟩
/- loop.example/teagle/laws.FnDiskDo -/
def r3_0 : List AOper := [ao 0 2 (.mv (.k (.b false)))]
def r3_1 : List AOper := [ao 0 14 (.mv (.t 0)),
  ao 1 15 (.len (.t 14)),
  ao 2 16 (.bin .gtr (.t 15) (.k (.i 1048576)))]
def r3_2 : List AOper := [ao 0 2 (.mv (.k (.b true)))]
def c3_3 : ACode := .seq (.reg r3_2) .ret
def c3_4 : ACode := .cond (.t 16) c3_3 .skip
def c3_5 : ACode := .seq (.reg r3_1) c3_4
def r3_6 : List AOper := [ao 0 18 (.mv (.t 0)),
  ao 1 19 (.call (.k (.c (.fn 5 []))) [(.t 18)]),
  ao 2 17 (.mv (.t 19)),
  ao 3 20 (.ext 0 (.t 17)),
  ao 4 21 (.ext 1 (.t 17)),
  ao 5 3 (.alloc 27 [.nil0, .nil0, .nil0]),
  ao 6 4 (.alloc 29 [(.v (.s (.int .i64 0))), (.v (.s (.string ⟨#[]⟩))), (.v (.s (.string ⟨#[]⟩)))]),
  an 7 (.st 3 (.t 3) (.t 20)),
  an 8 (.st 3 (.t 4) (.t 21))]
def r3_7 : List AOper := [ao 0 23 (.ld 3 true (.t 3)),
  ao 1 24 (.ld 3 true (.t 4)),
  ao 2 25 (.call (.k (.c (.fn 6 []))) [(.t 23), (.t 24)]),
  ao 3 22 (.mv (.t 25)),
  ao 4 26 (.ext 0 (.t 22)),
  ao 5 27 (.ext 1 (.t 22)),
  ao 6 5 (.alloc 27 [.nil0, .nil0, .nil0]),
  an 7 (.st 3 (.t 5) (.t 26)),
  ao 8 6 (.mv (.t 27))]
def r3_8 : List AOper := [ao 0 28 (.ld 3 true (.t 3)),
  ao 1 29 (.call (.k (.c (.fn 7 []))) [(.t 28)]),
  ao 2 7 (.mv (.t 29))]
def r3_9 : List AOper := [ao 0 31 (.ld 3 true (.t 3)),
  ao 1 32 (.fa 1 (.t 4)),
  ao 2 33 (.ld 1 false (.t 32)),
  ao 3 34 (.call (.k (.c (.fn 8 []))) [(.t 31), (.t 33)]),
  ao 4 30 (.mv (.t 34)),
  ao 5 35 (.ext 0 (.t 30)),
  ao 6 36 (.ext 1 (.t 30)),
  ao 7 8 (.mv (.t 35)),
  ao 8 9 (.mv (.t 36))]
def r3_10 : List AOper := [ao 0 38 (.ld 3 true (.t 3)),
  ao 1 39 (.ld 3 true (.t 4)),
  ao 2 40 (.call (.k (.c (.fn 9 []))) [(.t 38), (.t 39)]),
  ao 3 37 (.mv (.t 40)),
  ao 4 41 (.ext 0 (.t 37)),
  ao 5 42 (.ext 1 (.t 37)),
  ao 6 10 (.alloc 27 [.nil0, .nil0, .nil0]),
  an 7 (.st 3 (.t 10) (.t 41)),
  ao 8 11 (.mv (.t 42))]
def r3_11 : List AOper := [ao 0 43 (.mv (.t 11)),
  ao 1 44 (.mv (.t 6)),
  ao 2 45 (.bin .neq (.t 43) (.t 44)),
  ao 3 46 (.mv (.t 45)),
  ag 4 47 46 false [] (.ld 3 true (.t 10)),
  ag 5 48 46 false [] (.ld 3 true (.t 5)),
  ag 6 49 46 false [] (.call (.k (.c (.fn 10 []))) [(.t 47), (.t 48)]),
  ag 7 50 46 false [] (.un .not (.t 49)),
  ao 8 51 (.pick (.t 46) (.k (.b true)) (.t 50))]
def r3_12 : List AOper := [ao 0 2 (.mv (.k (.b false)))]
def c3_13 : ACode := .seq (.reg r3_12) .ret
def c3_14 : ACode := .cond (.t 51) c3_13 .skip
def c3_15 : ACode := .seq (.reg r3_11) c3_14
def r3_16 : List AOper := [ao 0 52 (.mv (.t 7)),
  ao 1 53 (.un .not (.t 52))]
def r3_17 : List AOper := [ao 0 54 (.mv (.t 11)),
  ao 1 55 (.bin .eql (.t 54) (.k (.i 1))),
  ao 2 56 (.mv (.t 55)),
  ag 3 57 56 true [] (.fa 0 (.t 10)),
  ag 4 58 56 true [] (.ld 1 false (.t 57)),
  ag 5 59 56 true [] (.len (.t 58)),
  ag 6 60 56 true [] (.bin .eql (.t 59) (.k (.i 0))),
  ao 7 61 (.pick (.t 56) (.t 60) (.k (.b false))),
  ao 8 2 (.mv (.t 61))]
def c3_18 : ACode := .seq (.reg r3_17) .ret
def c3_19 : ACode := .cond (.t 53) c3_18 .skip
def c3_20 : ACode := .seq (.reg r3_16) c3_19
def r3_21 : List AOper := [ao 0 62 (.mv (.t 11)),
  ao 1 63 (.bin .neq (.t 62) (.k (.i 0)))]
def r3_22 : List AOper := [ao 0 64 (.ld 3 true (.t 10)),
  ao 1 65 (.ld 3 true (.t 3)),
  ao 2 66 (.call (.k (.c (.fn 10 []))) [(.t 64), (.t 65)]),
  ao 3 2 (.mv (.t 66))]
def c3_23 : ACode := .seq (.reg r3_22) .ret
def c3_24 : ACode := .cond (.t 63) c3_23 .skip
def c3_25 : ACode := .seq (.reg r3_21) c3_24
def r3_26 : List AOper := [ao 0 68 (.ld 3 true (.t 10)),
  ao 1 69 (.fa 1 (.t 4)),
  ao 2 70 (.ld 1 false (.t 69)),
  ao 3 71 (.call (.k (.c (.fn 11 []))) [(.t 68), (.t 70)]),
  ao 4 67 (.mv (.t 71)),
  ao 5 72 (.ext 0 (.t 67)),
  ao 6 73 (.ext 1 (.t 67)),
  ao 7 12 (.mv (.t 72)),
  ao 8 13 (.mv (.t 73))]
def r3_27 : List AOper := [ao 0 74 (.fa 0 (.t 4)),
  ao 1 75 (.ld 1 false (.t 74))]
def r3_28 : List AOper := [ao 0 77 (.bin .eql (.t 75) (.k (.i 1))),
  ao 1 76 (.mv (.t 77))]
def r3_29 : List AOper := [ao 0 78 (.ld 3 true (.t 10)),
  ao 1 79 (.call (.k (.c (.fn 12 []))) [(.t 78)]),
  ao 2 80 (.mv (.t 79)),
  ag 3 81 80 true [] (.mv (.t 9)),
  ag 4 82 80 true [] (.un .not (.t 81)),
  ao 5 83 (.pick (.t 80) (.t 82) (.k (.b false))),
  ao 6 84 (.mv (.t 83)),
  ag 7 85 84 true [] (.mv (.t 13)),
  ao 8 86 (.pick (.t 84) (.t 85) (.k (.b false))),
  ao 9 87 (.mv (.t 86)),
  ag 10 88 87 true [] (.mv (.t 12)),
  ag 11 89 87 true [] (.bin .eql (.t 88) (.k (.s (.string ⟨#[]⟩)))),
  ao 12 90 (.pick (.t 87) (.t 89) (.k (.b false))),
  ao 13 2 (.mv (.t 90))]
def c3_30 : ACode := .seq (.reg r3_29) .ret
def r3_31 : List AOper := [ao 0 92 (.bin .eql (.t 75) (.k (.i 2))),
  ao 1 91 (.mv (.t 92))]
def r3_32 : List AOper := [ao 0 93 (.ld 3 true (.t 10)),
  ao 1 94 (.call (.k (.c (.fn 12 []))) [(.t 93)]),
  ao 2 95 (.mv (.t 94)),
  ag 3 96 95 true [] (.mv (.t 9)),
  ao 4 97 (.pick (.t 95) (.t 96) (.k (.b false))),
  ao 5 98 (.mv (.t 97)),
  ag 6 99 98 true [] (.mv (.t 13)),
  ao 7 100 (.pick (.t 98) (.t 99) (.k (.b false))),
  ao 8 101 (.mv (.t 100)),
  ag 9 102 101 true [] (.mv (.t 12)),
  ag 10 103 101 true [] (.mv (.t 8)),
  ag 11 104 101 true [] (.fa 2 (.t 4)),
  ag 12 105 101 true [] (.ld 1 false (.t 104)),
  ag 13 106 101 true [] (.bin .add (.t 103) (.t 105)),
  ag 14 107 101 true [] (.bin .eql (.t 102) (.t 106)),
  ao 15 108 (.pick (.t 101) (.t 107) (.k (.b false))),
  ao 16 2 (.mv (.t 108))]
def c3_33 : ACode := .seq (.reg r3_32) .ret
def r3_34 : List AOper := [ao 0 110 (.bin .eql (.t 75) (.k (.i 4))),
  ao 1 109 (.mv (.t 110))]
def r3_35 : List AOper := [ao 0 111 (.ld 3 true (.t 10)),
  ao 1 112 (.call (.k (.c (.fn 12 []))) [(.t 111)]),
  ao 2 113 (.mv (.t 112)),
  ag 3 114 113 true [] (.mv (.t 9)),
  ao 4 115 (.pick (.t 113) (.t 114) (.k (.b false))),
  ao 5 116 (.mv (.t 115)),
  ag 6 117 116 true [] (.mv (.t 13)),
  ag 7 118 116 true [] (.un .not (.t 117)),
  ao 8 119 (.pick (.t 116) (.t 118) (.k (.b false))),
  ao 9 2 (.mv (.t 119))]
def c3_36 : ACode := .seq (.reg r3_35) .ret
def c3_37 : ACode := .cond (.t 109) c3_36 .skip
def c3_38 : ACode := .seq (.reg r3_34) c3_37
def c3_39 : ACode := .cond (.t 91) c3_33 c3_38
def c3_40 : ACode := .seq (.reg r3_31) c3_39
def c3_41 : ACode := .cond (.t 76) c3_30 c3_40
def c3_42 : ACode := .seq (.reg r3_28) c3_41
def c3_43 : ACode := .block 0 c3_42
def c3_44 : ACode := .seq (.reg r3_27) c3_43
def r3_45 : List AOper := [ao 0 120 (.ld 3 true (.t 10)),
  ao 1 121 (.call (.k (.c (.fn 12 []))) [(.t 120)]),
  ao 2 122 (.mv (.t 121)),
  ag 3 123 122 true [] (.mv (.t 13)),
  ag 4 124 122 true [] (.mv (.t 9)),
  ag 5 125 122 true [] (.binB .eql (.t 123) (.t 124)),
  ao 6 126 (.pick (.t 122) (.t 125) (.k (.b false))),
  ao 7 127 (.mv (.t 126)),
  ag 8 128 127 true [] (.mv (.t 12)),
  ag 9 129 127 true [] (.mv (.t 8)),
  ag 10 130 127 true [] (.bin .eql (.t 128) (.t 129)),
  ao 11 131 (.pick (.t 127) (.t 130) (.k (.b false))),
  ao 12 2 (.mv (.t 131))]
def c3 : ACode := .seq (.reg r3_0) (.seq c3_5 (.seq (.reg r3_6) (.seq (.reg r3_7) (.seq (.reg r3_8) (.seq (.reg r3_9) (.seq (.reg r3_10) (.seq c3_15 (.seq c3_20 (.seq c3_25 (.seq (.reg r3_26) (.seq c3_44 (.seq (.reg r3_45) .ret))))))))))))
def s3 : List ARes := [.tmp 2]
theorem ok3 : okF Try.prog 3 132 c3 s3 := ⟨Try.f3, Try.func3, Try.ntmps3, by kernel_rfl, by kernel_rfl, by kernel_rfl⟩
def USd_1 := Bx.mk <|
  aN (uA c3.eq_1) <| aN (uR r3_0.eq_1) <| aN (uA c3_5.eq_1) <| aN (uR r3_1.eq_1) <| aN (uA c3_4.eq_1) <| aN (uA c3_3.eq_1) <| aN (uR r3_2.eq_1) <| aN (uR r3_6.eq_1) <| aN (uR r3_7.eq_1) <| aN (uR r3_8.eq_1) <| aN (uR r3_9.eq_1) <| aN (uR r3_10.eq_1) <| aN (uA c3_15.eq_1) <| aN (uR r3_11.eq_1) <| aN (uA c3_14.eq_1) <| aN (uA c3_13.eq_1) <| aN (uR r3_12.eq_1) <| aN (uA c3_20.eq_1) <| aN (uR r3_16.eq_1) <| aN (uA c3_19.eq_1) <| aN (uA c3_18.eq_1) <| aN (uR r3_17.eq_1) <| aN (uA c3_25.eq_1) <| aN (uR r3_21.eq_1) <| aN (uA c3_24.eq_1) <| aN (uA c3_23.eq_1) <| aN (uR r3_22.eq_1) <| aN (uR r3_26.eq_1) <| aN (uA c3_44.eq_1) <| aN (uR r3_27.eq_1) <| aN (uA c3_43.eq_1) <| aN (uA c3_42.eq_1) <| aN (uR r3_28.eq_1) <| aN (uA c3_41.eq_1) <| aN (uA c3_30.eq_1) <| aN (uR r3_29.eq_1) <| aN (uA c3_40.eq_1) <| aN (uR r3_31.eq_1) <| aN (uA c3_39.eq_1) <| aN (uA c3_33.eq_1) <| aN (uR r3_32.eq_1) <| aN (uA c3_38.eq_1) <| aN (uR r3_34.eq_1) <| aN (uA c3_37.eq_1) <| aN (uA c3_36.eq_1) <| aN (uR r3_35.eq_1) <| aN (uR r3_45.eq_1) <| s3.eq_1
set_option maxHeartbeats 2000000 in
theorem lawDo_ok (bs : List UInt8) : ACallsF Try.prog 3 [.c (.v (.sl (encB bs)))] [] (.b true) := by
  obtain ⟨⟨d, w⟩, ⟨hd, hw⟩, C1⟩ := drawDo_ok bs
  simp only at hd hw C1
  obtain ⟨r, hr, C2⟩ := doS_ok d w hd hw
  obtain ⟨b, hb, C3⟩ := okS_ok d hd
  obtain ⟨x, hx, C4⟩ := look_ok d hd w.name
  obtain ⟨r', hr', C5⟩ := doC_ok d w hd hw
  have he := do_det hr' hr
  subst he
  clear hr'
  refine ACallsF.intro ok3 follows fun X c0 => ?_
  by_cases g0 : (bs.length : Int) > 1048576
  · simp only [RUX, Nat.reduceAdd, reduceIte, Nat.reduceEqDiff, Nat.reduceLT, Nat.reduceLeDiff, reduceCtorEq, eq_self, FIX, forall_const, endE_n, endE_r, CHT, disj, Nat.reduceBEq, beq_self_eq_true, APT, APX, forall_eq, ALT, ALU, USd_1.d, encB_len, g0]
  simp only [RUX, Nat.reduceAdd, reduceIte, Nat.reduceEqDiff, Nat.reduceLT, Nat.reduceLeDiff, reduceCtorEq, eq_self, FIX, forall_const, endE_n, endE_r, CHT, disj, Nat.reduceBEq, beq_self_eq_true, APT, APX, forall_eq, ALT, ALU, USd_1.d, encB_len, g0]
  refine callC C1 rfl rfl rfl rfl ?_
  simp only [RUX, Nat.reduceAdd, reduceIte, Nat.reduceEqDiff, Nat.reduceLT, Nat.reduceLeDiff, reduceCtorEq, eq_self, FIX, forall_const, endE_n, endE_r, CHT, disj, Nat.reduceBEq, beq_self_eq_true, APT, APX, forall_eq, ALT, ALU, USd_1.d]
  refine callC C2 rfl rfl rfl rfl ?_
  simp only [RUX, Nat.reduceAdd, reduceIte, Nat.reduceEqDiff, Nat.reduceLT, Nat.reduceLeDiff, reduceCtorEq, eq_self, FIX, forall_const, endE_n, endE_r, CHT, disj, Nat.reduceBEq, beq_self_eq_true, APT, APX, forall_eq, ALT, ALU, USd_1.d]
  refine callC C3 rfl rfl rfl rfl ?_
  simp only [RUX, Nat.reduceAdd, reduceIte, Nat.reduceEqDiff, Nat.reduceLT, Nat.reduceLeDiff, reduceCtorEq, eq_self, FIX, forall_const, endE_n, endE_r, CHT, disj, Nat.reduceBEq, beq_self_eq_true, APT, APX, forall_eq, ALT, ALU, USd_1.d]
  refine callC C4 rfl rfl rfl rfl ?_
  simp only [RUX, Nat.reduceAdd, reduceIte, Nat.reduceEqDiff, Nat.reduceLT, Nat.reduceLeDiff, reduceCtorEq, eq_self, FIX, forall_const, endE_n, endE_r, CHT, disj, Nat.reduceBEq, beq_self_eq_true, APT, APX, forall_eq, ALT, ALU, USd_1.d]
  refine callC C5 rfl rfl rfl rfl ?_
  simp only [RUX, Nat.reduceAdd, reduceIte, Nat.reduceEqDiff, Nat.reduceLT, Nat.reduceLeDiff, reduceCtorEq, eq_self, FIX, forall_const, endE_n, endE_r, CHT, disj, Nat.reduceBEq, beq_self_eq_true, APT, APX, forall_eq, ALT, ALU, USd_1.d, ne0]
  by_cases hD : DOk d
  rotate_left
  · have hb0 : b = false := by cases hq : b with
      | false => rfl
      | true => exact absurd (hb.1 hq) hD
    have hr0 : r' = (⟨[], [], []⟩, 1) := by
      rcases hr with ⟨h, _⟩ | ⟨_, h⟩
      · exact absurd h hD
      · exact h
    subst hb0 hr0
    refine callC (loDisk_ok _ zDk_fine.s) rfl rfl rfl rfl ?_
    simp only [RUX, Nat.reduceAdd, reduceIte, Nat.reduceEqDiff, Nat.reduceLT, Nat.reduceLeDiff, reduceCtorEq, eq_self, FIX, forall_const, endE_n, endE_r, CHT, disj, Nat.reduceBEq, beq_self_eq_true, APT, APX, forall_eq, ALT, ALU, USd_1.d, en_nil]
    rfl
  have hb1 : b = true := hb.2 hD
  have hr1 : r' = doS d w := by
    rcases hr with ⟨_, h⟩ | ⟨h, _⟩
    · exact h
    · exact absurd hD h
  subst hb1 hr1
  have hS := hD.step w
  have hSf := hS.fine
  refine callC (loDisk_ok _ hSf.s) rfl rfl rfl rfl ?_
  by_cases hc : (doS d w).2 = 0
  rotate_left
  · have hcn : ((doS d w).2 != 0) = true := by simpa using hc
    have hsame := doS_code hc
    simp only [RUX, Nat.reduceAdd, reduceIte, Nat.reduceEqDiff, Nat.reduceLT, Nat.reduceLeDiff, reduceCtorEq, eq_self, FIX, forall_const, endE_n, endE_r, CHT, disj, Nat.reduceBEq, beq_self_eq_true, APT, APX, forall_eq, ALT, ALU, USd_1.d, hcn, hsame]
    refine callC (loDisk_ok _ hd.s) rfl rfl rfl rfl ?_
    simp only [RUX, Nat.reduceAdd, reduceIte, Nat.reduceEqDiff, Nat.reduceLT, Nat.reduceLeDiff, reduceCtorEq, eq_self, FIX, forall_const, endE_n, endE_r, CHT, disj, Nat.reduceBEq, beq_self_eq_true, APT, APX, forall_eq, ALT, ALU, USd_1.d]
  have hcn : ((doS d w).2 != 0) = false := by simpa using hc
  obtain ⟨y, hy, C6⟩ := lookI_ok (doS d w).1 hSf w.name
  obtain ⟨b2, hb2, C7⟩ := okI_ok (doS d w).1 hSf
  have hb3 : b2 = true := hb2.2 hS
  subst hb3
  have hsz : x.1.size + w.data.size ≤ 9223372036854775807 := by have := lk_size hx; have := hw.2; omega
  obtain ⟨m1, m2, m3, m4⟩ := do_done hD hc hx hy
  simp only [RUX, Nat.reduceAdd, reduceIte, Nat.reduceEqDiff, Nat.reduceLT, Nat.reduceLeDiff, reduceCtorEq, eq_self, FIX, forall_const, endE_n, endE_r, CHT, disj, Nat.reduceBEq, beq_self_eq_true, APT, APX, forall_eq, ALT, ALU, USd_1.d, hcn]
  refine callC C6 rfl rfl rfl rfl ?_
  by_cases k1 : w.kind = 1
  · obtain ⟨a1, a2⟩ := m1 k1
    subst a2
    have q1 : (w.kind == 1) = true := by simpa using k1
    simp only [RUX, Nat.reduceAdd, reduceIte, Nat.reduceEqDiff, Nat.reduceLT, Nat.reduceLeDiff, reduceCtorEq, eq_self, FIX, forall_const, endE_n, endE_r, CHT, disj, Nat.reduceBEq, beq_self_eq_true, APT, APX, forall_eq, ALT, ALU, USd_1.d, q1]
    refine callC C7 rfl rfl rfl rfl ?_
    simp only [RUX, Nat.reduceAdd, reduceIte, Nat.reduceEqDiff, Nat.reduceLT, Nat.reduceLeDiff, reduceCtorEq, eq_self, FIX, forall_const, endE_n, endE_r, CHT, disj, Nat.reduceBEq, beq_self_eq_true, APT, APX, forall_eq, ALT, ALU, USd_1.d, q1, a1, sStr]
  have q1 : (w.kind == 1) = false := by simpa using k1
  by_cases k2 : w.kind = 2
  · obtain ⟨a1, a2⟩ := m2 k2
    subst a2
    have q2 : (w.kind == 2) = true := by simpa using k2
    simp only [RUX, Nat.reduceAdd, reduceIte, Nat.reduceEqDiff, Nat.reduceLT, Nat.reduceLeDiff, reduceCtorEq, eq_self, FIX, forall_const, endE_n, endE_r, CHT, disj, Nat.reduceBEq, beq_self_eq_true, APT, APX, forall_eq, ALT, ALU, USd_1.d, q1, q2]
    refine callC C7 rfl rfl rfl rfl ?_
    simp only [RUX, Nat.reduceAdd, reduceIte, Nat.reduceEqDiff, Nat.reduceLT, Nat.reduceLeDiff, reduceCtorEq, eq_self, FIX, forall_const, endE_n, endE_r, CHT, disj, Nat.reduceBEq, beq_self_eq_true, APT, APX, forall_eq, ALT, ALU, USd_1.d, q1, q2, a1, sStr, hsz]
  have q2 : (w.kind == 2) = false := by simpa using k2
  by_cases k4 : w.kind = 4
  · obtain ⟨a1, a2⟩ := m3 k4
    subst a2
    have q4 : (w.kind == 4) = true := by simpa using k4
    simp only [RUX, Nat.reduceAdd, reduceIte, Nat.reduceEqDiff, Nat.reduceLT, Nat.reduceLeDiff, reduceCtorEq, eq_self, FIX, forall_const, endE_n, endE_r, CHT, disj, Nat.reduceBEq, beq_self_eq_true, APT, APX, forall_eq, ALT, ALU, USd_1.d, q1, q2, q4]
    refine callC C7 rfl rfl rfl rfl ?_
    simp only [RUX, Nat.reduceAdd, reduceIte, Nat.reduceEqDiff, Nat.reduceLT, Nat.reduceLeDiff, reduceCtorEq, eq_self, FIX, forall_const, endE_n, endE_r, CHT, disj, Nat.reduceBEq, beq_self_eq_true, APT, APX, forall_eq, ALT, ALU, USd_1.d, q1, q2, q4, a1, sStr]
  have q4 : (w.kind == 4) = false := by simpa using k4
  have a2 := m4 k1 k2 k4
  subst a2
  simp only [RUX, Nat.reduceAdd, reduceIte, Nat.reduceEqDiff, Nat.reduceLT, Nat.reduceLeDiff, reduceCtorEq, eq_self, FIX, forall_const, endE_n, endE_r, CHT, disj, Nat.reduceBEq, beq_self_eq_true, APT, APX, forall_eq, ALT, ALU, USd_1.d, q1, q2, q4]
  refine callC C7 rfl rfl rfl rfl ?_
  simp only [RUX, Nat.reduceAdd, reduceIte, Nat.reduceEqDiff, Nat.reduceLT, Nat.reduceLeDiff, reduceCtorEq, eq_self, FIX, forall_const, endE_n, endE_r, CHT, disj, Nat.reduceBEq, beq_self_eq_true, APT, APX, forall_eq, ALT, ALU, USd_1.d, q1, q2, q4, sStr]
end Go.V
set_option linter.unusedSimpArgs false
set_option linter.unusedVariables false
namespace Go.V
open Go.Proofs Go.ChangeShapes Go.WideShapes Go.ChangeAt Go.RowKit
/-- All that is there at the start stays. -/
def Stays (W W' : World) : Prop := W'.os = W.os ∧ W'.output = W.output ∧ ∀ b, b < W.heap.size → W'.heap[b]? = W.heap[b]?
theorem Stays.kept {W W' : World} (h : Stays W W') (may : MemPlace → Prop) : W.keptBut W' may := by
  refine ⟨h.1, h.2.1, fun i hi => ?_⟩
  rw [h.2.2 i hi]
  cases W.heap[i]? with
  | none => trivial
  | some o => cases o <;> simp
theorem Stays.cell {W W' : World} (h : Stays W W') {a : Addr} {v : Value} (hc : W.cell? a = some v) : W'.cell? a = some v := by
  unfold World.cell? at hc ⊢
  by_cases hb : a.block < W.heap.size
  · rw [h.2.2 _ hb]; exact hc
  · rw [Array.getElem?_eq_none (by omega)] at hc; simp at hc
abbrev oldImm (W : World) : Imm := fun b _ => b < W.heap.size
/-- A law whose arguments are only read. -/
theorem calls_true {P : Program} {f : FuncId} {args : List T} {W : World} {vs : List Value} (hC : ACallsF P f args [] (.b true)) (hT : TsRep W (oldImm W) (hinOf []) (fun _ => none) (· < 0) vs args) :
    Calls P f vs.toArray W fun e W' => e = .returned (.bool true) ∧ Stays W W' := by
  have hH : HOk W (oldImm W) (hinOf []) (fun _ => none) (· < 0) := ⟨fun n B h => by simp [hinOf, renN] at h, fun n m g h => by simp [hinOf, renN] at h, fun b o h => h⟩
  refine (hC.2 W (oldImm W) (fun _ => none) 0 vs hH hT).mono fun e W' ⟨x, r, h, imm', L', c', he, ⟨ν, hr, _⟩, hx, _, hS, _, _⟩ => ?_
  subst hr
  have hx : x = .bool true := rep_s (y := .bool true) hx
  subst hx
  exact ⟨he, hS.os, hS.output, fun b hb => hS.frame b hb fun ⟨n, h1, _⟩ => h1 (by simp [hinOf, renN])⟩
theorem post_same {P : Program} {H : Type} {enc : TypeId × Value → H} {f : Func} {s : ChangeSpec} {apart fresh handsOn : Bool} {W W' : World} {args : Array Value} {v : Value} {ds gs : List (DataW H)} {before pa pv : List MemPlace}
    (hW : DataW.Whole enc P f.params.toList s.vars apart W args.toList ds gs before)
    (hres : ∀ (b : Nat) (sp : Nat → Bool) (hd : Bool), DataW.TrodAll enc P W' b sp hd f.resultTypes.toList (v.resultList f.resultTypes.size) (s.fn H (ds ++ gs)).results [])
    (hargs : ∀ sp : Nat → Bool, (∀ p ∈ before, sp p.block = true) → DataW.TrodAll enc P W' 0 sp true f.params.toList args.toList (s.fn H (ds ++ gs)).args pa)
    (hvars : ∀ sp : Nat → Bool, (∀ p ∈ before, sp p.block = true) → DataW.TrodVars enc P W' sp s.vars (s.fn H (ds ++ gs)).vars pv)
    (hps : before = pa ++ pv) (hk : Stays W W') : s.post enc P f apart fresh handsOn false W args v W' := by
  have hold : ∀ p ∈ before, (fun b => decide (b < W.heap.size)) p.block = true := fun p hp => by simpa using hW.lt p hp
  refine ⟨ds, gs, before, [], pa, pv, hW, hres _ _ _, hargs _ hold, hvars _ hold, World.keptBut_mono (fun p hp => ⟨hp, ?_⟩) (hk.kept (· ∈ before)), fun h => by cases h⟩
  rw [hps, List.mem_append] at hp
  exact Or.inr hp
/-- An argument that is a slice of bytes. -/
theorem open_bytes {P : Program} {H : Type} {enc : TypeId × Value → H} {W : World} {r : Reach} {b0 : Nat} {t e : TypeId} {v : Value} {d : DataW H} {p : List MemPlace} (ht : P.underlying t = some (.slice e)) (he : P.underlying e = some (.int .u8)) (hc : P.cellsOf e = 1)
    (hval : Value.okWide P W r b0 t v) (h : DataW.Trod enc P W 0 (fun _ => true) true t v d p) :
    ∃ bs : List UInt8, VRep W (oldImm W) v (.sl (encB bs)) ∧ ∀ W', Stays W W' → ∀ sp : Nat → Bool, (∀ q ∈ p, sp q.block = true) → DataW.Trod enc P W' 0 sp true t v d p := by
  obtain ⟨a0, len, cap, rfl⟩ := okWide_slice ht hval
  obtain ⟨fuel, hf⟩ := h
  rcases open_ints ht he hc hf with ⟨hcs, hx⟩ | ⟨a, len', cap', zs, hcs, _, hl, hm, hz, hx, hcell, hwz⟩
  · obtain ⟨rfl, rfl, rfl⟩ : a0 = none ∧ len = 0 ∧ cap = 0 := by simpa [Value.cells] using hcs
    cases hx
    exact ⟨[], .nil _ _, fun W' _ sp _ => shut_slice_nil ht⟩
  · obtain ⟨rfl, rfl, rfl⟩ : a0 = some a ∧ len = len' ∧ cap = cap' := by simpa [Value.cells] using hcs
    simp only [if_true] at hz
    cases hx
    have wz : ∀ i, i < zs.length → 0 ≤ zs.getD i 0 ∧ zs.getD i 0 < 256 := by
      intro i hi
      have e1 : zs.getD i 0 = zs[i] := by simp [List.getD, hi]
      have := hwz zs[i] (List.getElem_mem hi)
      rw [e1]
      simp [Lit.wf, IntKind.min, IntKind.max, IntKind.signed, IntKind.bits] at this
      omega
    refine ⟨(List.range len).map fun i => UInt8.ofNat (zs.getD i 0).toNat, ?_, fun W' hS sp hsp => ⟨2, ?_⟩⟩
    · by_cases h0 : len = 0
      · subst h0; exact .nil _ _
      · have hp : a = ⟨a.block, a.off, none⟩ ∧ a.block < W.heap.size := by
          have := hcell 0 (by omega)
          have e0 : a.add 0 = a := by simp [Addr.add]
          rw [e0] at this
          unfold World.cell? at this
          split at this
          · rename_i c ty fr hh
            split at this
            · cases this
            · rename_i hs
              refine ⟨?_, heap_lt hh⟩
              obtain ⟨b, o, s⟩ := a
              simp at hs
              subst hs; rfl
          · cases this
        obtain ⟨hp1, hp2⟩ := hp
        have hlen : (encB ((List.range len).map fun i => UInt8.ofNat (zs.getD i 0).toNat)).length = len := by simp [encB]
        rw [hp1]
        have := VRep.sl (w := W) (imm := oldImm W) (encB ((List.range len).map fun i => UInt8.ofNat (zs.getD i 0).toNat)) 1 a.block a.off cap (fun i _ => .int .u8 (zs.getD i 0)) (by omega) (fun e => h0 (by rw [← hlen, e]; rfl)) (by rw [hlen]; exact hl) (fun e he2 => by simp only [encB, List.mem_map] at he2; obtain ⟨_, _, rfl⟩ := he2; rfl) (fun i j x hx => ?_) (fun i j x hx => ?_)
        · rw [hlen] at this; exact this
        · have hi : i < len := by
            by_cases hi : i < len
            · exact hi
            · rw [at2, List.getElem?_eq_none (by rw [hlen]; omega)] at hx; simp at hx
          have hj : j = 0 := by
            rw [at2] at hx
            cases j with
            | zero => rfl
            | succ j => simp [encB, hi] at hx
          subst hj
          refine ⟨?_, hp2⟩
          have := hcell i (by omega)
          rw [hp1, add_eq] at this
          simpa using this
        · have hi : i < len := by
            by_cases hi : i < len
            · exact hi
            · rw [at2, List.getElem?_eq_none (by rw [hlen]; omega)] at hx; simp at hx
          have hj : j = 0 := by
            rw [at2] at hx
            cases j with
            | zero => rfl
            | succ j => simp [encB, hi] at hx
          subst hj
          obtain ⟨w1, w2⟩ := wz i (by omega)
          have e3 : ((UInt8.ofNat (zs.getD i 0).toNat).toNat : Int) = zs.getD i 0 := by
            rw [UInt8.toNat_ofNat']; omega
          have : x = .s (.int .u8 (zs.getD i 0)) := by
            have h9 : (encB ((List.range len).map fun i => UInt8.ofNat (zs.getD i 0).toNat))[i]? = some [.s (.int .u8 ((UInt8.ofNat (zs.getD i 0).toNat).toNat : Int))] := encB_at (by simp [hi])
            rw [at2, h9, e3] at hx
            simpa using hx.symm
          subst this
          exact .s _ rfl
    · refine shut_ints 0 ht he hc (Nat.zero_le _) hl hm ?_ (fun i hi => hS.cell (hcell i hi)) hwz
      by_cases h0 : cap = 0
      · have : len = 0 := by omega
        subst h0 this
        simp at hz
        simp [hz]
      · have : sp a.block = true := by
          refine hsp (MemPlace.cell a.block a.off) ?_
          simp only [MemPlace.row]
          exact List.mem_map.2 ⟨0, List.mem_range.2 (by omega), by simp⟩
        rw [this]; exact hz
end Go.V
set_option linter.unusedSimpArgs false
set_option linter.unusedVariables false
namespace Go.Proofs.Ytfemebnmlclibaa.fnDiskDo
open Go.ChangeShapes Go.WideShapes Go.ChangeAt Go.RowKit
theorem cells5 : Try.prog.cellsOf 5 = 1 := by kernel_rfl
theorem own : ownKnob Try.prog.godebug = none := by kernel_rfl
set_option maxRecDepth 100000 in
theorem contract (H : Type) (enc : TypeId × Value → H) (W : World) (base : Nat) (args : Array Value) (ds gs : List (DataW H)) (before : List MemPlace)
    (hval : ∀ (j : Nat) t v, Try.f3.params[j]? = some t → args[j]? = some v → Value.okWide Try.prog W .any base t v)
    (hW : DataW.Whole enc Try.prog Try.f3.params.toList Rows.fnDiskDoSpec.vars false W args.toList ds gs before) :
    Calls Try.prog 3 args W fun e W' => ∃ v, e = .returned v ∧ Rows.fnDiskDoSpec.post enc Try.prog Try.f3 false true false false W args v W' := by
  have hW' := hW
  obtain ⟨p, q, hA0, hV, rfl, hfz, hnd⟩ := hW
  have hA : DataW.TrodAll enc Try.prog W 0 (fun _ => true) true Try.f3.params.toList args.toList ds p := hA0
  rw [Try.params3] at hA hval
  obtain ⟨v0, vs0, d0, ds0, p0, q0, hargs, rfl, rfl, h0, r0⟩ := trodAll_cons hA
  obtain ⟨rfl, rfl, rfl⟩ := trodAll_nil r0
  obtain rfl : args = #[v0] := by cases args; simp_all
  obtain ⟨rfl, rfl⟩ := trodVars_none hV
  obtain ⟨bs0, V0, S0⟩ := V.open_bytes Try.underlying22 Try.underlying5 cells5 (hval 0 22 v0 rfl rfl) h0
  clear hA0
  simp only [List.append_nil] at hW'
  have hT : V.TsRep W (V.oldImm W) (V.hinOf []) (fun _ => none) (· < 0) [v0] [.c (.v (.sl (V.encB bs0)))] := ⟨rfl, fun k x y hx hy => by
    cases k with
    | zero => simp at hx hy; subst hx hy; exact V0
    | succ k => simp at hx⟩
  refine (V.calls_true (V.lawDo_ok bs0) hT).mono fun e W' ⟨he, hS⟩ => ?_
  subst he
  refine ⟨_, rfl, V.post_same (pa := p0) (pv := []) hW' (fun _ _ _ => (trodAll_cons_mk (shut_bool Try.underlying4 _) trodAll_mk0)) (fun sp hsp => ?_) (fun _ _ => rfl) (by simp) hS⟩
  have := trodAll_cons_mk (S0 W' hS sp fun q hq => hsp q (by simp [hq])) trodAll_mk0
  simp only [List.append_nil] at this
  exact this
set_option maxRecDepth 100000 in
theorem lifted (os : Os) (started : os.Started) (H : Type) (enc : TypeId × Value → H) :
    ReturnsInHanded {} Try.checked os 3 .any (Rows.fnDiskDoSpec.pre6 enc Try.prog Try.f3 Rows.fnDiskDoRow.domain false) (Rows.fnDiskDoSpec.post enc Try.prog Try.f3 false true false false) := by
  refine returnsInHanded_of_change (C := Try.checked) own started (by kernel_rfl) Try.func3
    (ChangeSpec.witness6 (enc := enc) (C := Try.checked) false ⟨#[], #[.slice none 0 0], []⟩ 8 (by kernel_rfl) (by kernel_rfl) (by kernel_rfl) (by kernel_rfl)) ?_
  intro W base args ds gs before hval hW _ _
  exact contract H enc W base args ds gs before hval hW
theorem over : Rows.fnDiskDoRow.holds Try.pinned (OpenSpec.ofChange Rows.fnDiskDoSpec) :=
  OpenClaim.holds_of_wide 3 Try.f3 rfl rfl rfl rfl rfl rfl rfl ⟨rfl, rfl, rfl, rfl, rfl⟩ rfl rfl rfl rfl rfl (by kernel_rfl) Try.func3 (by kernel_rfl)
    (of_decide_eq_true (by kernel_rfl)) (by unfold Func.isWrapper; first | (rw [if_pos (by decide +kernel)]; kernel_rfl) | (rw [if_neg (by decide +kernel)]; exact ⟨rfl, rfl⟩))
    (fun os started H enc _ => lifted os started H enc)
theorem proved : Rows.FnDiskDoSaid := over
#print axioms proved
end Go.Proofs.Ytfemebnmlclibaa.fnDiskDo

/- The Go function laws.FnLogTop returns true for every input, in the program's own Lean form: whatever drawn acts are played and wherever power is lost, no record that was synced is lost, and none is there in part. Conditions: those of the given row and card. -/
import Derived.Test.YtaojogkldejmhaaGreatDoorMX9
import Derived.Test.YtaojogkldejmhaaGreatDoorMK1
set_option linter.unusedVariables false
set_option linter.unusedSimpArgs false
set_option linter.defProp false
set_option maxRecDepth 20000
namespace Go.V
open Go.Proofs
def ok49 := okF.gu (P := Tryz.prog) tab Tryz.func49 Tryz.ntmps49 (by conv => lhs; cbv) (by kernel_rfl)
def inv49 (ns : List ByteArray) (i : Nat) (σ : St) : Prop := σ.t 0 = tL (en eS ns) ∧ σ.t 1 = tL (en eS ns) ∧ σ.t 5 = .i i
theorem loTexts_ok (ns : List ByteArray) (hl : ns.length ≤ 9000000000000000000) : ACallsF Tryz.prog 49 [tL (en eS ns), tL (en eS ns)] [] (.b true) := by
  refine ACallsF.intro ok49 follows fun X c0 => ?_
  simp only [go_sem, en_len, ne0]
  refine AW.upto ns.length (inv49 ns) ⟨rfl, rfl, rfl⟩ fun i t H c hi h => ?_
  obtain ⟨e0, e1, e5⟩ := h
  simp only [T.c, T.i, tL] at e0 e1 e5
  by_cases k1 : (i : Int) < ns.length
  · obtain ⟨x, hx⟩ : ∃ x, ns[i]? = some x := ⟨_, List.getElem?_eq_getElem (by omega)⟩
    have ex := en_at eS hx
    have gz : (0 : Int) ≤ i := by omega
    have w2 : IntKind.i64.wrap ((i : Int) + 1) = ((i + 1 : Nat) : Int) := wrap64 (x := (i : Int) + 1) ⟨by omega, by omega⟩
    simp only [go_sem, e0, e1, e5, en_len, k1, ex, gz, Int.toNat_natCast, eS, sStr, w2]
    exact ⟨by omega, e0, e1, rfl⟩
  · simp only [go_sem, e0, e1, e5, en_len, k1]
set_option maxRecDepth 20000 in
def ok12 := okF.of (P := Tryz.prog) Tryz.func12 Tryz.ntmps12 (by kernel_rfl) (by conv => lhs; cbv) (by conv => lhs; cbv)
def Hd12 (d : Dk) (σ : St) : Prop := (∃ u, σ.t 2 = .c (.ptr 2 u 0) ∧ σ.H 2 = some (.var u 29 (cDk d))) ∧ (∃ u, σ.t 3 = .c (.ptr 3 u 0) ∧ σ.H 3 = some (.var u 29 (cDk d)))
def inv12 (d : Dk) (i : Nat) (σ : St) : Prop := Hd12 d σ ∧ σ.t 5 = .i i
def inv12b (d : Dk) (i : Nat) (σ : St) : Prop := Hd12 d σ ∧ σ.t 6 = .i i
theorem loDisk_ok (d : Dk) (hd : smallDk d) : ACallsF Tryz.prog 12 [tDk d, tDk d] [] (.b true) := by
  have l1 := hd.f
  have l2 := hd.n
  have l3 := hd.m
  refine ACallsF.intro ok12 follows fun X c0 => ?_
  simp only [go_sem, en_len, ne0]
  refine callC (loTexts_ok d.names (by omega)) rfl rfl rfl rfl ?_
  simp only [go_sem]
  refine AW.upto d.files.length (inv12 d) ⟨⟨⟨_, rfl, rfl⟩, ⟨_, rfl, rfl⟩⟩, rfl⟩ fun i t H c hi h => ?_
  obtain ⟨⟨⟨u2, e2, eH2⟩, ⟨u3, e3, eH3⟩⟩, e5⟩ := h
  simp only [T.c, T.i] at e2 eH2 e3 eH3 e5
  by_cases k1 : (i : Int) < d.files.length
  · obtain ⟨x, hx⟩ : ∃ x, d.files[i]? = some x := ⟨_, List.getElem?_eq_getElem (by omega)⟩
    have ex := en_at eF hx
    have gz : (0 : Int) ≤ i := by omega
    have w2 : IntKind.i64.wrap ((i : Int) + 1) = ((i + 1 : Nat) : Int) := wrap64 (x := (i : Int) + 1) ⟨by omega, by omega⟩
    simp only [go_sem, e2, eH2, e3, eH3, e5, en_len, k1, ex, gz, Int.toNat_natCast, eF, w2]
    exact ⟨by omega, ⟨⟨u2, e2, eH2⟩, ⟨u3, e3, eH3⟩⟩, rfl⟩
  · simp only [go_sem, e2, eH2, e3, eH3, e5, en_len, k1]
    refine AW.upto d.moves.length (inv12b d) ⟨⟨⟨u2, e2, eH2⟩, ⟨u3, e3, eH3⟩⟩, rfl⟩ fun j t H c hj h => ?_
    clear e2 eH2 e3 eH3
    obtain ⟨⟨⟨u2, e2, eH2⟩, ⟨u3, e3, eH3⟩⟩, e6⟩ := h
    simp only [T.c, T.i] at e2 eH2 e3 eH3 e6
    by_cases k2 : (j : Int) < d.moves.length
    · obtain ⟨x, hx⟩ : ∃ x, d.moves[j]? = some x := ⟨_, List.getElem?_eq_getElem (by omega)⟩
      have ex := en_at eM hx
      have gz : (0 : Int) ≤ j := by omega
      have w2 : IntKind.i64.wrap ((j : Int) + 1) = ((j + 1 : Nat) : Int) := wrap64 (x := (j : Int) + 1) ⟨by omega, by omega⟩
      simp only [go_sem, e2, eH2, e3, eH3, e6, en_len, k2, ex, gz, Int.toNat_natCast, eM, w2]
      exact ⟨by omega, ⟨⟨u2, e2, eH2⟩, ⟨u3, e3, eH3⟩⟩, rfl⟩
    · simp only [go_sem, e2, eH2, e3, eH3, e6, en_len, k2]
def ok14 := okF.gu (P := Tryz.prog) tab Tryz.func14 Tryz.ntmps14 (by conv => lhs; cbv) (by kernel_rfl)
def inv14 (L : List ByteArray) (i : Nat) (σ : St) : Prop := σ.t 0 = tL (en eR (recsL L)) ∧ σ.t 1 = tL (en eS L) ∧ σ.t 5 = .i i
theorem loSays_ok (L : List ByteArray) (hl : L.length ≤ 9000000000000000000) : ACallsF Tryz.prog 14 [tL (en eR (recsL L)), tL (en eS L)] [] (.b true) := by
  have hrl := recsL_len L
  refine ACallsF.intro ok14 follows fun X c0 => ?_
  simp only [go_sem, en_len, ne0, hrl]
  refine AW.upto L.length (inv14 L) ⟨rfl, rfl, rfl⟩ fun i t H c hi h => ?_
  obtain ⟨e0, e1, e5⟩ := h
  simp only [T.c, T.i, tL] at e0 e1 e5
  by_cases k1 : (i : Int) < L.length
  · obtain ⟨x, hx⟩ : ∃ x, L[i]? = some x := ⟨_, List.getElem?_eq_getElem (by omega)⟩
    have ex := en_at eS hx
    have hr : (recsL L)[i]? = some ⟨((i + 1 : Nat) : Int), x⟩ := by rw [recsL_at, hx]; rfl
    have er := en_at eR hr
    have gz : (0 : Int) ≤ i := by omega
    have w2 : IntKind.i64.wrap ((i : Int) + 1) = ((i + 1 : Nat) : Int) := wrap64 (x := (i : Int) + 1) ⟨by omega, by omega⟩
    simp only [go_sem, e0, e1, e5, en_len, hrl, k1, ex, er, gz, Int.toNat_natCast, eR, eS, sStr, w2, ne0]
    exact ⟨by omega, e0, e1, rfl⟩
  · simp only [go_sem, e0, e1, e5, en_len, hrl, k1]
end Go.V
set_option linter.unusedSimpArgs false
namespace Go.V
open Go.Proofs
end Go.V
set_option linter.unusedSimpArgs false
set_option maxRecDepth 20000
namespace Go.V
open Go.Proofs
/-! Contracts whose results are closed. -/
theorem stepC_ok (d : Dk) (a : LA) (hd : fineDk d) (ha : a.data.size ≤ 1048576) : ∃ r, StpR d a r ∧ ACallsF Tryz.prog 11 [tDk d, tLA a] [] (tDkII r) := by
  obtain ⟨b, hb, hC⟩ := okI_ok d hd
  by_cases hD : DOk d
  rotate_left
  · have hbf : b = false := by cases hq : b with | false => rfl | true => exact absurd (hb.1 hq) hD
    rw [hbf] at hC
    refine ⟨_, .inr ⟨hD, rfl⟩, ACallsF.intro ok11 follows fun X c0 => ?_⟩
    simp only [go_sem]
    refine callC hC rfl rfl rfl rfl ?_
    simp only [go_sem, en_nil]
  rw [hb.2 hD] at hC
  refine ⟨_, .inl ⟨hD, rfl⟩, ?_⟩
  have hS := istep_ok d a hD ha 2101 2102 2103
  obtain ⟨l1, l2, l3⟩ := stepR_len hD a
  generalize stepR d a = r at *
  obtain ⟨rd, rp, rc⟩ := r
  refine ACallsF.intro ok11 follows fun X c0 => ?_
  simp only [go_sem]
  refine callC hC rfl rfl rfl rfl ?_
  simp only [go_sem]
  refine callDkII (ws := []) (ns := []) hS rfl rfl rfl (by decide) ⟨?_, ?_⟩
  · simp only [go_sem]
  simp only [go_sem, false_implies, and_self, imp_self, en_take2]
def ok13 := okF.gu (P := Tryz.prog) tab Tryz.func13 Tryz.ntmps13 (by conv => lhs; cbv) (by kernel_rfl)
/-- What LogOpen says of any disk. -/
def OpnR (d : Dk) (s : Ls) : Prop := (DOk d ∧ s = opn d) ∨ (¬ DOk d ∧ s = zLs 7)
theorem openI_ok (d : Dk) (hd : fineDk d) : ∃ s, OpnR d s ∧ ACallsF Tryz.prog 13 [tDk d] [] (tLs s) := by
  obtain ⟨b, hb, hC⟩ := okI_ok d hd
  by_cases hD : DOk d
  rotate_left
  · have hbf : b = false := by cases hq : b with | false => rfl | true => exact absurd (hb.1 hq) hD
    rw [hbf] at hC
    refine ⟨_, .inr ⟨hD, rfl⟩, ACallsF.intro ok13 follows fun X c0 => ?_⟩
    simp only [go_sem]
    refine callC hC rfl rfl rfl rfl ?_
    simp only [go_sem, zLs, zPl, en_nil]
  rw [hb.2 hD] at hC
  refine ⟨_, .inl ⟨hD, rfl⟩, ?_⟩
  have hS := opnI_ok d hD
  generalize opn d = s at *
  refine ACallsF.intro ok13 follows fun X c0 => ?_
  simp only [go_sem]
  refine callC hC rfl rfl rfl rfl ?_
  simp only [go_sem]
  refine callC hS rfl rfl rfl rfl ?_
  simp only [go_sem]
end Go.V
set_option linter.unusedSimpArgs false
namespace Go.V
open Go.Proofs
theorem inv_zero : Inv zDk [] 0 0 := by
  refine ⟨[], fileOf [], ⟨zDk_ok, rfl, rfl, fun _ _ => rfl⟩, (fun nm hm => by cases hm), Int.le_refl _, .inl ⟨fun m _ _ y hy => ?_, rfl, rfl, (fun nm hm => by cases hm), Nat.zero_le _⟩⟩
  have := (vw_mem hy).1
  cases this
/-- What is read of a played log. -/
theorem Inv.opn {d : Dk} {L : List ByteArray} {lo : Nat} {T : Int} (h : Inv d L lo T) : DOk d ∧ (opn d = zLs 1 ∧ L = [] ∨ (opn d).code = 0 ∧ (opn d).recs = recsL L ∧ (opn d).next = (L.length : Int) + 1) := by
  obtain ⟨N, φ, hd, hT, hL, hI⟩ := h
  refine ⟨hd.ok, ?_⟩
  rcases hI with ⟨g1, g2, _⟩ | ⟨n, p, rs, x, h, hlo⟩
  · exact .inl ⟨opn_none (by rw [hd.vw]; exact g1), g2⟩
  · obtain ⟨hop, hx⟩ := hd.opn h
    rw [hop]
    refine .inr ⟨rfl, h.recs, ?_⟩
    show p.first + ((frames x).1.length : Int) = _
    rw [h.first, h.len]; omega
theorem Inv.recs {d : Dk} {L : List ByteArray} {lo : Nat} {T : Int} (h : Inv d L lo T) : (Go.V.opn d).recs = recsL L := by
  rcases h.opn.2 with ⟨h1, h2⟩ | ⟨_, h2, _⟩
  · rw [h1, h2]; rfl
  · exact h2
theorem Inv.code {d : Dk} {L : List ByteArray} {lo : Nat} {T : Int} (h : Inv d L lo T) : (Go.V.opn d).code = 0 ∨ ((Go.V.opn d).code = 1 ∧ L = []) := by
  rcases h.opn.2 with ⟨h1, h2⟩ | ⟨h1, _⟩
  · exact .inr ⟨by rw [h1]; rfl, h2⟩
  · exact .inl h1
theorem InvW.opn {d : Dk} {L : List ByteArray} {lo : Nat} {T : Int} (h : InvW d L lo T) : (opn d).code = 0 ∧ (opn d).torn = false := by
  obtain ⟨N, φ, n, p, rs, x, h1, h2, h3, h4, h5, h6⟩ := h
  obtain ⟨hop, hx⟩ := h1.opn h4
  rw [hop]
  exact ⟨rfl, h4.torn.2 h6⟩
theorem wr_code {d : Dk} {a : LA} (h : (opn d).code = 0 ∨ (opn d).code = 1) : (wr d a).2.2 ≠ 6 := by
  unfold wr
  split
  · simp only; split <;> decide
  split
  · simp only; omega
  split
  · simp only; decide
  split
  · simp only; split <;> decide
  split
  · simp only; decide
  split
  · simp only; decide
  split
  · split <;> (simp only; decide)
  split
  · simp only; decide
  split
  · simp only; decide
  · simp only; decide
/-- An act on a played log. -/
theorem inv_step {d : Dk} {L : List ByteArray} {lo : Nat} {T : Int} (hI : Inv d L lo T) (a : LA) :
    ((stepR d a).2.2 = 0 → InvW (stepR d a).1 (if a.kind = 1 then L ++ [a.data] else L) (if a.kind = 1 then lo else L.length) (T + 1) ∧ (a.kind = 1 → (stepR d a).2.1 = (L.length : Int) + 1) ∧ (a.kind = 4 → Neat (stepR d a).1 L (T + 1)) ∧ a.cuts = false) ∧
    ((stepR d a).2.2 = 6 → a.cuts = true ∧ ∃ k, lo ≤ k ∧ k ≤ (if a.kind = 1 then L ++ [a.data] else L).length ∧ Inv (stepR d a).1 ((if a.kind = 1 then L ++ [a.data] else L).take k) k (T + 1)) ∧
    ((stepR d a).2.2 ≠ 0 → (stepR d a).2.2 ≠ 6 → (stepR d a).1 = d) := by
  by_cases hw : (wr d a).2.2 = 0
  · obtain ⟨hs, hp⟩ := wr_safe hI a hw
    obtain ⟨g1, g2⟩ := Safe.go (a := a) _ 0 _ hs
    have e : stepR d a = ((goS a 0 d (wr d a).1).1, if (goS a 0 d (wr d a).1).2 = 0 then (wr d a).2.1 else 0, (goS a 0 d (wr d a).1).2) := by rw [stepR, if_neg (by rw [hw]; decide)]
    rw [e]
    cases hc : a.cuts with
    | true =>
      obtain ⟨d', hG, hgo⟩ := g1 hc
      rw [hgo]
      refine ⟨fun h => absurd (show (6 : Int) = 0 from h) (by decide), fun _ => ⟨rfl, hG a.moves a.keep⟩, fun _ h => absurd rfl h⟩
    | false =>
      obtain ⟨h0, hW, hN⟩ := g2 hc
      rw [h0]
      refine ⟨fun _ => ⟨hW, fun k => ?_, hN, rfl⟩, fun h => absurd h (by decide), fun h => absurd rfl h⟩
      rw [if_pos rfl]; exact hp k
  · have e : stepR d a = (d, 0, (wr d a).2.2) := by rw [stepR, if_pos hw]
    have h6 := wr_code (d := d) (a := a) (by rcases hI.code with h | ⟨h, _⟩; exact .inl h; exact .inr h)
    rw [e]
    exact ⟨fun h => absurd h hw, fun h => absurd h h6, fun _ _ => rfl⟩
theorem Inv.up {d : Dk} {L : List ByteArray} {lo : Nat} {T T' : Int} (h : Inv d L lo T) (hT : T ≤ T') : Inv d L lo T' := by
  obtain ⟨N, φ, h1, h2, h3, h4⟩ := h
  exact ⟨N, φ, h1, fun nm hm => by have := h2 nm hm; omega, by omega, h4⟩
end Go.V
set_option linter.unusedSimpArgs false
namespace Go.V
open Go.Proofs
theorem InvW.gd {d : Dk} {L : List ByteArray} {lo : Nat} {T : Int} (h : InvW d L lo T) : Gd L lo T d := by
  obtain ⟨N, φ, n, p, rs, x, h1, h2, h3, h4, h5, h6⟩ := h
  exact gd_log h1 h4 h5 h2 h3
end Go.V
set_option linter.unusedSimpArgs false
set_option maxRecDepth 20000
namespace Go.V
open Go.Proofs
end Go.V
set_option linter.unusedSimpArgs false
set_option maxRecDepth 20000
namespace Go.V
open Go.Proofs
theorem openD_ok {d : Dk} (hD : DOk d) : ACallsF Tryz.prog 13 [tDk d] [] (tLs (opn d)) := by
  obtain ⟨s, hs, C⟩ := openI_ok d hD.fine
  rcases hs with ⟨_, rfl⟩ | ⟨h, _⟩
  · exact C
  · exact absurd hD h
end Go.V
set_option linter.unusedSimpArgs false
set_option maxRecDepth 20000
namespace Go.V
open Go.Proofs
theorem stepD_ok {d : Dk} (hD : DOk d) {a : LA} (ha : a.data.size ≤ 1048576) : ACallsF Tryz.prog 11 [tDk d, tLA a] [] (tDkII (stepR d a)) := by
  obtain ⟨r, hr, C⟩ := stepC_ok d a hD.fine ha
  rcases hr with ⟨_, rfl⟩ | ⟨h, _⟩
  · exact C
  · exact absurd hD h
end Go.V
set_option linter.unusedSimpArgs false
namespace Go.V
open Go.Proofs
/-- An own array in a slot, told as a closed value: it is written no more. -/
theorem AW.seal0 {P : Program} {X : Ctx} {ac : ACode} {Q : Exit → St → Prop} {t : Nat → T} {H : HMap} {c : Nat} (i : Nat) {x : C} {v : V} {ws : List (Nat × Blk)} {ns : List Nat} (h1 : t i = .c x) (h2 : sealC H x = some (v, ws, ns)) (h : AW P X ac Q ⟨upd t i (.c (.v v)), updH H ws, c⟩) : AW P X ac Q ⟨t, H, c⟩ := by
  intro cd hcc hm a w hS
  refine h cd hcc hm a w ?_
  obtain ⟨imm, L, hS⟩ := hS
  have hx : TRep w imm H L (· < c) (a.tmps.getD i undef) (t i) := hS.tmp i
  rw [h1] at hx
  obtain ⟨imm', k1, k2, k3, _, k5, k6⟩ := seal1 hS.hok (fun _ _ wr _ _ _ h => ⟨wr, h⟩) h2 hx
  obtain ⟨s3, s4⟩ := Step.trans hS.step hS.near k5 k6
  refine ⟨imm', L, k1, fun j => ?_, hS.size, hS.defers, s3, s4, hS.ext.trans k3⟩
  show TRep w imm' (updH H ws) L _ _ (upd t i (.c (.v v)) j)
  unfold upd
  split
  · rename_i e
    rw [e]; exact k2
  · exact (hS.tmp j).mono k5.keep k3
def nilV : C → C
  | .nil0 => .v (.sl [])
  | x => x
/-- Nil slices in a variable, told as empty lists. -/
theorem AW.renil0 {P : Program} {X : Ctx} {ac : ACode} {Q : Exit → St → Prop} {t : Nat → T} {H : HMap} {c : Nat} (n : Nat) {v : Nat} {ty : TypeId} {cs : List C} (h1 : H n = some (.var v ty cs)) (h : AW P X ac Q ⟨t, upd H n (some (.var v ty (cs.map nilV))), c⟩) : AW P X ac Q ⟨t, H, c⟩ := by
  intro cd hcc hm a w hS
  refine h cd hcc hm a w ?_
  obtain ⟨imm, L, hS⟩ := hS
  obtain ⟨k1, k2, k3, k4⟩ := recell2 (ds := cs.map nilV) hS.hok h1 fun g cur _ _ hcr => ⟨by rw [List.length_map]; exact hcr.1, fun k u y hu hy => by
    rw [List.getElem?_map] at hy
    cases hk : cs[k]? with
    | none => rw [hk] at hy; cases hy
    | some z =>
      rw [hk] at hy
      cases hy
      have hz := hcr.2 k u z hu hk
      cases z with
      | nil0 =>
        obtain ⟨b, rfl⟩ := hz
        exact .nil b 0
      | _ => exact hz⟩
  have hk : ∀ b o, imm b o → imm b o ∧ w.cell? ⟨b, o, none⟩ = w.cell? ⟨b, o, none⟩ := fun _ _ h => ⟨h, rfl⟩
  obtain ⟨s3, s4⟩ := Step.trans hS.step hS.near k3 k4
  exact ⟨imm, L, k1, fun i => (hS.tmp i).mono hk k2, hS.size, hS.defers, s3, s4, hS.ext.trans k2⟩
/-- A loop that counts up to n; at its head the state may be told anew. -/
theorem AW.uptoR {P : Program} {X : Ctx} {Q : Exit → St → Prop} {t : Nat → T} {H : HMap} {c : Nat} {x : ACode} (n : Nat) (I J : Nat → St → Prop) (h0 : I 0 ⟨t, H, c⟩)
    (re : ∀ i t H c, I i ⟨t, H, c⟩ → ∃ t' H', J i ⟨t', H', c⟩ ∧ ∀ X Q, AW P X x Q ⟨t', H', c⟩ → AW P X x Q ⟨t, H, c⟩)
    (round : ∀ i t H c, i ≤ n → J i ⟨t, H, c⟩ → wpa P X x (thenA (fun σ => i < n ∧ I (i + 1) σ) Q) ⟨t, H, c⟩) : oneW P X (.loop x) Q ⟨t, H, c⟩ :=
  AW.uptoA n I h0 fun i t H c hi hI => by
    obtain ⟨t', H', hJ, hr⟩ := re i t H c hI
    exact oneW.re hr (oneW.of (round i t' H' c hi hJ))
end Go.V
set_option linter.unusedSimpArgs false
set_option maxRecDepth 20000
namespace Go.V
open Go.Proofs
theorem stepSD_ok {d : Dk} (hD : DOk d) {a : LA} (ha : a.data.size ≤ 1048576) : ACallsF Tryz.prog 10 [tDk d, tLA a] [] (tDkII (stepR d a)) := by
  obtain ⟨r, hr, C⟩ := stepS_ok d a hD.fine ha
  rcases hr with ⟨_, rfl⟩ | ⟨h, _⟩
  · exact C
  · exact absurd hD h
/-- How the list of what was appended stands in the law's slot. -/
def listC (L : List ByteArray) (σ : St) : Prop := σ.t 5 = tL (en eS L) ∨ ∃ id v wr es, id ≠ 4 ∧ σ.t 5 = .c (.own id v L.length) ∧ σ.H id = some (.arr v wr 1 9 es) ∧ L.length ≤ es.length ∧ es.take L.length = en eS L
def ok3 := okF.gu (P := Tryz.prog) tab Tryz.func3 Tryz.ntmps3 (by conv => lhs; cbv) (by kernel_rfl)
def inv3 (acts : List LA) (i : Nat) (σ : St) : Prop := ∃ d L sure cs, Inv d L sure i ∧ isDk cs d ∧ σ.t 3 = tL (en eLA acts) ∧ (∃ u, σ.t 4 = .c (.ptr 4 u 0) ∧ σ.H 4 = some (.var u 29 cs)) ∧ listC L σ ∧ σ.t 6 = .i sure ∧ σ.t 7 = .i i
def inv3j (acts : List LA) (i : Nat) (σ : St) : Prop := ∃ d L sure, Inv d L sure i ∧ σ.t 3 = tL (en eLA acts) ∧ (∃ u, σ.t 4 = .c (.ptr 4 u 0) ∧ σ.H 4 = some (.var u 29 (cDk d))) ∧ σ.t 5 = tL (en eS L) ∧ σ.t 6 = .i sure ∧ σ.t 7 = .i i
theorem retell {P : Program} {x : ACode} (acts : List LA) (i : Nat) (t : Nat → T) (H : HMap) (c : Nat) (h : inv3 acts i ⟨t, H, c⟩) : ∃ t' H', inv3j acts i ⟨t', H', c⟩ ∧ ∀ X Q, AW P X x Q ⟨t', H', c⟩ → AW P X x Q ⟨t, H, c⟩ := by
  obtain ⟨d, L, sure, cs, hI, hcs, e3, ⟨u4, e4, eH4⟩, hL, e6, e7⟩ := h
  simp only at e3 e4 eH4 e6 e7
  have hmap : cs.map nilV = cDk d := by
    rcases hcs with ⟨rfl, rfl⟩ | rfl <;> rfl
  rcases hL with e5 | ⟨id, v, wr, es, hne, e5, eid, hle, hes⟩
  · refine ⟨t, upd H 4 (some (.var u4 29 (cs.map nilV))), ⟨d, L, sure, hI, e3, ⟨u4, e4, by rw [hmap]; rfl⟩, e5, e6, e7⟩, fun X Q h => AW.renil0 4 eH4 h⟩
  · simp only at e5 eid
    have hs : sealC H (.own id v L.length) = some (.sl (en eS L), [(id, .arr v false 1 9 es)], [id]) := by
      simp only [sealC, eid, hle, and_self, if_true, hes]
    have h4 : updH H [(id, .arr v false 1 9 es)] 4 = some (.var u4 29 cs) := by
      simp only [updH, upd, if_neg (Ne.symm hne)]
      exact eH4
    refine ⟨upd t 5 (tL (en eS L)), upd (updH H [(id, .arr v false 1 9 es)]) 4 (some (.var u4 29 (cs.map nilV))), ⟨d, L, sure, hI, e3, ⟨u4, e4, by rw [hmap]; rfl⟩, rfl, e6, e7⟩, fun X Q h => AW.seal0 5 e5 hs (AW.renil0 4 h4 h)⟩
set_option maxHeartbeats 8000000 in
theorem lawTop_ok (bs : List UInt8) : ACallsF Tryz.prog 3 [.c (.v (.sl (encB bs)))] [] (.b true) := by
  refine ACallsF.intro ok3 follows fun X c0 => ?_
  by_cases hb : (bs.length : Int) > 1048576
  · simp only [go_sem, encB_len, hb]
  obtain ⟨acts, ⟨hl, hok⟩, C1⟩ := drawPlay_ok bs
  simp only [go_sem, encB_len, hb]
  refine callC C1 rfl rfl rfl rfl ?_
  simp only [go_sem]
  refine AW.uptoR acts.length (inv3 acts) (inv3j acts) ⟨zDk, [], 0, _, inv_zero, .inl ⟨rfl, rfl⟩, rfl, ⟨_, rfl, rfl⟩, .inr ⟨23, _, _, [], by decide, rfl, rfl, Nat.le_refl _, rfl⟩, rfl, rfl⟩ (fun i t H c h => retell acts i t H c h) fun i t H c hi h => ?_
  obtain ⟨d, L, sure, hI, e3, ⟨u4, e4, eH4⟩, e5, e6, e7⟩ := h
  simp only [T.c, T.i, tL] at e3 e4 eH4 e5 e6 e7
  by_cases k1 : (i : Int) < acts.length
  rotate_left
  · simp only [go_sem, e3, e7, en_len, k1]
  show wpa _ _ (.seq _ (.seq (.block 1 (.seq _ (.seq _ (.seq _ (.seq _ (.seq _ (.seq _ (ok3.sub [1, 1, 1, 1, 1, 1, 0, 1, 0, 0, 1, 0, 0, 1, 1, 1, 1, 1, 1]))))))))  (ok3.sub [1, 1, 1, 1, 1, 1, 0, 1, 0, 0, 1, 1]))) _ _
  obtain ⟨a, hx⟩ : ∃ x, acts[i]? = some x := ⟨_, List.getElem?_eq_getElem (by omega)⟩
  have ex := en_at eLA hx
  have gz : (0 : Int) ≤ i := by omega
  have w2 : IntKind.i64.wrap ((i : Int) + 1) = ((i + 1 : Nat) : Int) := wrap64 (x := (i : Int) + 1) ⟨by omega, by omega⟩
  have ha1 : a.data.size ≤ 1048576 := by have := (hok a (List.mem_of_getElem? hx)).1; omega
  have hD := hI.opn.1
  have C2 := stepSD_ok hD ha1
  have C3 := stepD_ok hD ha1
  have C6 := loDisk_ok d hD.fine.s
  have hDx := stepR_ok hD a
  obtain ⟨s1, s2, s3⟩ := inv_step hI a
  have hLi : L.length ≤ i := by
    obtain ⟨N, φ, _, _, hl, _⟩ := hI
    omega
  have hTi : ((i : Nat) : Int) + 1 = ((i + 1 : Nat) : Int) := by omega
  rw [hTi] at s1 s2
  generalize stepR d a = r at *
  obtain ⟨x, pos, code⟩ := r
  simp only at hDx s1 s2 s3
  have C4 := loDisk_ok x hDx.fine.s
  have C5 := openD_ok hDx
  have rest : ∀ {Q0 : Exit → St → Prop} {t : Nat → T} {H : HMap} {c : Nat} {L : List ByteArray} {sure : Nat}, Inv x L sure (i + 1 : Nat) → L.length ≤ 2000 → t 3 = tL (en eLA acts) → (∃ u, t 4 = .c (.ptr 4 u 0) ∧ H 4 = some (.var u 29 (cDk d))) → (∃ u, t 12 = .c (.ptr 12 u 0) ∧ H 12 = some (.var u 29 (cDk x))) → (∃ u, t 15 = .c (.ptr 15 u 0) ∧ H 15 = some (.var u 41 (cLs (opn x)))) →
      (t 5 = tL (en eS L) ∨ ∃ id v wr es, (id = 76 ∨ id = 98) ∧ t 5 = .c (.own id v L.length) ∧ H id = some (.arr v wr 1 9 es) ∧ L.length ≤ es.length ∧ es.take L.length = en eS L) → t 6 = .i sure → t 7 = .i i →
      wpa Tryz.prog X (ok3.sub [1, 1, 1, 1, 1, 1, 0, 1, 0, 0, 1, 0, 0, 1, 1, 1, 1, 1, 1]) (inW 1 (thenW Tryz.prog X (ok3.sub [1, 1, 1, 1, 1, 1, 0, 1, 0, 0, 1, 1]) (thenA (fun σ => i < acts.length ∧ inv3 acts (i + 1) σ) Q0))) ⟨t, H, c⟩ := by
    clear e3 e4 eH4 e5 e6 e7 s1 s2 s3 hLi
    intro Q0 t H c L sure hI hL2 e3 ⟨u4, e4, eH4⟩ ⟨u12, e12, eH12⟩ ⟨u15, e15, eH15⟩ e5 e6 e7
    simp only [T.c, T.i, tL, cLs] at e3 e4 e12 eH12 e15 eH15 e5 e6 e7
    have hrec := hI.recs
    have hcode := hI.code
    have C7 := loSays_ok L (by omega)
    rw [hrec] at eH15
    dsimp only [okF.sub, ACode.sub]
    have z01 : ((0 : Int) == 1) = false := rfl
    have z11 : ((1 : Int) == 1) = true := rfl
    have zn0 : ((0 : Int) != 0) = false := rfl
    have zn1 : ((1 : Int) != 0) = true := rfl
    have zl : ¬ (((0 : Nat) : Int) > 0) := by omega
    rcases e5 with e5 | ⟨id, v, wr, es, hid, e5, eid, hle, hes⟩
    · rcases hcode with h0 | ⟨h1, hL0⟩
      · rw [h0] at eH15
        simp only [go_sem, e3, e4, eH4, e12, eH12, e15, eH15, e5, e6, e7, z01, zn0]
        refine callC C7 rfl rfl rfl rfl ?_
        simp only [go_sem, e3, e4, eH4, e12, eH12, e5, e6, e7, w2]
        exact ⟨by omega, x, L, sure, cDk x, hI, .inr rfl, e3, ⟨u4, e4, rfl⟩, .inl e5, e6, rfl⟩
      · rw [h1] at eH15
        have hl0 : L.length = 0 := by rw [hL0]; rfl
        simp only [go_sem, e3, e4, eH4, e12, eH12, e15, eH15, e5, e6, e7, en_len, hl0, z11, zl, zn1, ne0]
        refine callC C7 rfl rfl rfl rfl ?_
        simp only [go_sem, e3, e4, eH4, e12, eH12, e5, e6, e7, w2]
        exact ⟨by omega, x, L, sure, cDk x, hI, .inr rfl, e3, ⟨u4, e4, rfl⟩, .inl e5, e6, rfl⟩
    · rcases hid with rfl | rfl
      · rcases hcode with h0 | ⟨h1, hL0⟩
        · rw [h0] at eH15
          simp only [go_sem, e3, e4, eH4, e12, eH12, e15, eH15, e5, e6, e7, z01, zn0]
          refine callL (ws := [(76, .arr v false 1 9 es)]) (ns := [76]) C7 rfl ?_ rfl rfl ?_
          · simp only [go_sem, lendTs, lendT, e5, eid, hle, and_self, if_true, hes]
          simp only [go_sem, scalarT, scalarP, scalarC, List.all_cons, Bool.false_and, ite_self, e3, e4, eH4, e12, eH12, e5, e6, e7, w2]
          exact ⟨by omega, x, L, sure, cDk x, hI, .inr rfl, e3, ⟨u4, e4, rfl⟩, .inr ⟨76, v, _, es, by decide, e5, eid, hle, hes⟩, e6, rfl⟩
        · rw [h1] at eH15
          have hl0 : L.length = 0 := by rw [hL0]; rfl
          simp only [go_sem, e3, e4, eH4, e12, eH12, e15, eH15, e5, e6, e7, en_len, hl0, z11, zl, zn1, ne0]
          refine callL (ws := [(76, .arr v false 1 9 es)]) (ns := [76]) C7 rfl ?_ rfl rfl ?_
          · rw [hl0] at hes
            simp only [go_sem, lendTs, lendT, e5, eid, hl0, Nat.zero_le, and_self, if_true, hes]
          simp only [go_sem, scalarT, scalarP, scalarC, List.all_cons, Bool.false_and, ite_self, e3, e4, eH4, e12, eH12, e5, e6, e7, w2]
          exact ⟨by omega, x, L, sure, cDk x, hI, .inr rfl, e3, ⟨u4, e4, rfl⟩, .inr ⟨76, v, _, es, by decide, e5, eid, hle, hes⟩, e6, rfl⟩
      · rcases hcode with h0 | ⟨h1, hL0⟩
        · rw [h0] at eH15
          simp only [go_sem, e3, e4, eH4, e12, eH12, e15, eH15, e5, e6, e7, z01, zn0]
          refine callL (ws := [(98, .arr v false 1 9 es)]) (ns := [98]) C7 rfl ?_ rfl rfl ?_
          · simp only [go_sem, lendTs, lendT, e5, eid, hle, and_self, if_true, hes]
          simp only [go_sem, scalarT, scalarP, scalarC, List.all_cons, Bool.false_and, ite_self, e3, e4, eH4, e12, eH12, e5, e6, e7, w2]
          exact ⟨by omega, x, L, sure, cDk x, hI, .inr rfl, e3, ⟨u4, e4, rfl⟩, .inr ⟨98, v, _, es, by decide, e5, eid, hle, hes⟩, e6, rfl⟩
        · rw [h1] at eH15
          have hl0 : L.length = 0 := by rw [hL0]; rfl
          simp only [go_sem, e3, e4, eH4, e12, eH12, e15, eH15, e5, e6, e7, en_len, hl0, z11, zl, zn1, ne0]
          refine callL (ws := [(98, .arr v false 1 9 es)]) (ns := [98]) C7 rfl ?_ rfl rfl ?_
          · rw [hl0] at hes
            simp only [go_sem, lendTs, lendT, e5, eid, hl0, Nat.zero_le, and_self, if_true, hes]
          simp only [go_sem, scalarT, scalarP, scalarC, List.all_cons, Bool.false_and, ite_self, e3, e4, eH4, e12, eH12, e5, e6, e7, w2]
          exact ⟨by omega, x, L, sure, cDk x, hI, .inr rfl, e3, ⟨u4, e4, rfl⟩, .inr ⟨98, v, _, es, by decide, e5, eid, hle, hes⟩, e6, rfl⟩
  simp only [go_sem, e3, e4, eH4, e7, en_len, k1, ex, gz, Int.toNat_natCast, eLA]
  refine callL (ws := []) (ns := []) C2 rfl ?_ rfl rfl ?_
  · simp only [go_sem, lendTs, lendT, en_nil]
  simp only [go_sem, scalarT, scalarP, scalarC, List.all_cons, Bool.false_and, ite_self, e4, eH4]
  refine callL (ws := []) (ns := []) C3 rfl ?_ rfl rfl ?_
  · simp only [go_sem, lendTs, lendT, en_nil]
  simp only [go_sem, scalarT, scalarP, scalarC, List.all_cons, Bool.false_and, ite_self, ne0]
  refine callC C4 rfl rfl rfl rfl ?_
  simp only [go_sem, ne0]
  refine callC C5 rfl rfl rfl rfl ?_
  have z00 : ((0 : Int) == 0) = true := rfl
  have ht1 : (en eS L).take L.length = en eS L := en_take eS L
  by_cases h0 : code = 0
  · subst h0
    obtain ⟨w1, hp, _⟩ := s1 rfl
    by_cases hk : a.kind = 1
    · rw [if_pos hk, if_pos hk] at w1
      have hp := hp hk
      have hk' : (a.kind == 1) = true := by rw [hk]; rfl
      have l1 : L.length * 16 ≤ 140737488355328 := by omega
      have l2 : L.length ≤ 9223372036854775807 := by omega
      have l3 : (L.length + 1) * 16 ≤ 140737488355328 := by omega
      have l4 : L.length ≤ 9223372036854775806 := by omega
      have l5 : L.length + 1 ≤ 9223372036854775807 := by omega
      have hp2 : (L.length : Int) + 1 = ((L.length + 1 : Nat) : Int) := by omega
      subst hp
      simp only [go_sem, z00, hk', e5, ht1, l1, l2, l3, l4, l5, Nat.zero_add, en_len, eS, hp2, ne0]
      exact rest w1.inv (by rw [List.length_append, List.length_singleton]; omega) e3 ⟨u4, e4, eH4⟩ ⟨_, rfl, rfl⟩ ⟨_, rfl, rfl⟩ (.inr ⟨76, _, _, _, .inl rfl, by rw [List.length_append]; rfl, rfl, by rw [List.length_append, List.length_append, en_len]; exact Nat.le_refl _, (by rw [en_snoc]; exact List.take_of_length_le (by rw [List.length_append, List.length_append, en_len]; exact Nat.le_refl _))⟩) e6 e7
    · rw [if_neg hk, if_neg hk] at w1
      have hk' : (a.kind == 1) = false := beq_eq_false_iff_ne.2 hk
      simp only [go_sem, z00, hk', e5, en_len]
      exact rest w1.inv (by omega) e3 ⟨u4, e4, eH4⟩ ⟨_, rfl, rfl⟩ ⟨_, rfl, rfl⟩ (.inl e5) rfl e7
  have n0 : (code == 0) = false := beq_eq_false_iff_ne.2 h0
  by_cases h6 : code = 6
  · subst h6
    obtain ⟨_, k, k1', k2, hk6⟩ := s2 rfl
    have z66 : ((6 : Int) == 6) = true := rfl
    have hrl : (opn x).recs.length = k := by
      rw [hk6.recs, recsL_len, List.length_take]; omega
    have gk : (0 : Int) ≤ k := by omega
    have gs : ¬ (k : Int) < sure := by omega
    by_cases hk : a.kind = 1
    · rw [if_pos hk] at k2 hk6
      rw [List.length_append, List.length_singleton] at k2
      have hk' : (a.kind == 1) = true := by rw [hk]; rfl
      have l1 : L.length * 16 ≤ 140737488355328 := by omega
      have l2 : L.length ≤ 9223372036854775807 := by omega
      have l3 : (L.length + 1) * 16 ≤ 140737488355328 := by omega
      have l4 : L.length ≤ 9223372036854775806 := by omega
      have l5 : L.length + 1 ≤ 9223372036854775807 := by omega
      have gl : ¬ (k : Int) > ((L.length + 1 : Nat) : Int) := by omega
      have gl2 : (k : Int) ≤ ((L.length + 1 : Nat) : Int) := by omega
      have hkl : ((L ++ [a.data]).take k).length = k := by rw [List.length_take, List.length_append, List.length_singleton]; omega
      simp only [go_sem, n0, z66, hk', e5, e6, ht1, l1, l2, l3, l4, l5, Nat.zero_add, en_len, eS, hrl, gs, gl, gl2, gk, lohi, Int.toNat_natCast, Int.le_refl, Int.toNat_zero]
      exact rest hk6 (by rw [hkl]; omega) e3 ⟨u4, e4, eH4⟩ ⟨_, rfl, rfl⟩ ⟨_, rfl, rfl⟩ (.inr ⟨98, _, _, _, .inr rfl, by rw [hkl]; rfl, rfl, by rw [hkl, List.length_append, en_len]; exact k2, (by
        rw [hkl]
        have e : en eS L ++ [[V.s (.string a.data)]] = en eS (L ++ [a.data]) := by rw [en_snoc]; rfl
        rw [e, en, en, List.map_take])⟩) rfl e7
    · rw [if_neg hk] at k2 hk6
      have hk' : (a.kind == 1) = false := beq_eq_false_iff_ne.2 hk
      have gl : ¬ (k : Int) > (L.length : Int) := by omega
      have gl2 : (k : Int) ≤ (L.length : Int) := by omega
      have eSl : ∀ x, (eS x).length = 1 := fun _ => rfl
      have et : (en eS L).take k = en eS (L.take k) := by rw [en, en, List.map_take]
      simp only [go_sem, n0, z66, hk', e5, e6, en_len, hrl, gs, gl, gl2, gk, lohi, Int.toNat_natCast, Int.le_refl, Int.toNat_zero, List.drop_zero, Nat.sub_zero, en_all eS eSl, et]
      exact rest hk6 (by rw [List.length_take]; omega) e3 ⟨u4, e4, eH4⟩ ⟨_, rfl, rfl⟩ ⟨_, rfl, rfl⟩ (.inl rfl) rfl e7
  · have n6 : (code == 6) = false := beq_eq_false_iff_ne.2 h6
    have hxd := s3 h0 h6
    subst hxd
    simp only [go_sem, n0, n6, e4, eH4]
    refine callC C6 rfl rfl rfl rfl ?_
    simp only [go_sem]
    exact rest (hI.up (by omega)) (by omega) e3 ⟨u4, e4, eH4⟩ ⟨_, rfl, rfl⟩ ⟨_, rfl, rfl⟩ (.inl e5) e6 e7
end Go.V

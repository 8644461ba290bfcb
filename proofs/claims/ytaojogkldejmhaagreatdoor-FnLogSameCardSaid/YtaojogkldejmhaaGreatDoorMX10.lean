/- The Go function laws.FnLogSame returns true for every input, in the program's own Lean form: rolls, syncs and mends never change what was appended. Conditions: those of the given row and card. -/
import Derived.Test.YtaojogkldejmhaaGreatDoorMX9
import Derived.Test.YtaojogkldejmhaaGreatDoorMK1
set_option linter.unusedVariables false
set_option linter.unusedSimpArgs false
set_option linter.defProp false
set_option maxRecDepth 20000
namespace Go.V
open Go.Proofs
def ok49 := okF.gu (P := Tryz.prog) tab Tryz.func49 Tryz.ntmps49 (by conv => lhs; cbv) (by kernel_rfl)
def inv49 (ns : List ByteArray) (i : Nat) (σ : St) : Prop := σ.t 0 = tL (en eS ns) ∧ σ.t 1 = tL (en eS ns) ∧ σ.t 5 = .i i
theorem loTexts_ok (ns : List ByteArray) (hl : ns.length ≤ 9000000000000000000) : ACallsF Tryz.prog 49 [tL (en eS ns), tL (en eS ns)] [] (.b true) := by
  refine ACallsF.intro ok49 follows fun X c0 => ?_
  simp only [go_sem, en_len, ne0]
  refine AW.upto ns.length (inv49 ns) ⟨rfl, rfl, rfl⟩ fun i t H c hi h => ?_
  obtain ⟨e0, e1, e5⟩ := h
  simp only [T.c, T.i, tL] at e0 e1 e5
  by_cases k1 : (i : Int) < ns.length
  · obtain ⟨x, hx⟩ : ∃ x, ns[i]? = some x := ⟨_, List.getElem?_eq_getElem (by omega)⟩
    have ex := en_at eS hx
    have gz : (0 : Int) ≤ i := by omega
    have w2 : IntKind.i64.wrap ((i : Int) + 1) = ((i + 1 : Nat) : Int) := wrap64 (x := (i : Int) + 1) ⟨by omega, by omega⟩
    simp only [go_sem, e0, e1, e5, en_len, k1, ex, gz, Int.toNat_natCast, eS, sStr, w2]
    exact ⟨by omega, e0, e1, rfl⟩
  · simp only [go_sem, e0, e1, e5, en_len, k1]
set_option maxRecDepth 20000 in
def ok12 := okF.of (P := Tryz.prog) Tryz.func12 Tryz.ntmps12 (by kernel_rfl) (by conv => lhs; cbv) (by conv => lhs; cbv)
def Hd12 (d : Dk) (σ : St) : Prop := (∃ u, σ.t 2 = .c (.ptr 2 u 0) ∧ σ.H 2 = some (.var u 29 (cDk d))) ∧ (∃ u, σ.t 3 = .c (.ptr 3 u 0) ∧ σ.H 3 = some (.var u 29 (cDk d)))
def inv12 (d : Dk) (i : Nat) (σ : St) : Prop := Hd12 d σ ∧ σ.t 5 = .i i
def inv12b (d : Dk) (i : Nat) (σ : St) : Prop := Hd12 d σ ∧ σ.t 6 = .i i
theorem loDisk_ok (d : Dk) (hd : smallDk d) : ACallsF Tryz.prog 12 [tDk d, tDk d] [] (.b true) := by
  have l1 := hd.f
  have l2 := hd.n
  have l3 := hd.m
  refine ACallsF.intro ok12 follows fun X c0 => ?_
  simp only [go_sem, en_len, ne0]
  refine callC (loTexts_ok d.names (by omega)) rfl rfl rfl rfl ?_
  simp only [go_sem]
  refine AW.upto d.files.length (inv12 d) ⟨⟨⟨_, rfl, rfl⟩, ⟨_, rfl, rfl⟩⟩, rfl⟩ fun i t H c hi h => ?_
  obtain ⟨⟨⟨u2, e2, eH2⟩, ⟨u3, e3, eH3⟩⟩, e5⟩ := h
  simp only [T.c, T.i] at e2 eH2 e3 eH3 e5
  by_cases k1 : (i : Int) < d.files.length
  · obtain ⟨x, hx⟩ : ∃ x, d.files[i]? = some x := ⟨_, List.getElem?_eq_getElem (by omega)⟩
    have ex := en_at eF hx
    have gz : (0 : Int) ≤ i := by omega
    have w2 : IntKind.i64.wrap ((i : Int) + 1) = ((i + 1 : Nat) : Int) := wrap64 (x := (i : Int) + 1) ⟨by omega, by omega⟩
    simp only [go_sem, e2, eH2, e3, eH3, e5, en_len, k1, ex, gz, Int.toNat_natCast, eF, w2]
    exact ⟨by omega, ⟨⟨u2, e2, eH2⟩, ⟨u3, e3, eH3⟩⟩, rfl⟩
  · simp only [go_sem, e2, eH2, e3, eH3, e5, en_len, k1]
    refine AW.upto d.moves.length (inv12b d) ⟨⟨⟨u2, e2, eH2⟩, ⟨u3, e3, eH3⟩⟩, rfl⟩ fun j t H c hj h => ?_
    clear e2 eH2 e3 eH3
    obtain ⟨⟨⟨u2, e2, eH2⟩, ⟨u3, e3, eH3⟩⟩, e6⟩ := h
    simp only [T.c, T.i] at e2 eH2 e3 eH3 e6
    by_cases k2 : (j : Int) < d.moves.length
    · obtain ⟨x, hx⟩ : ∃ x, d.moves[j]? = some x := ⟨_, List.getElem?_eq_getElem (by omega)⟩
      have ex := en_at eM hx
      have gz : (0 : Int) ≤ j := by omega
      have w2 : IntKind.i64.wrap ((j : Int) + 1) = ((j + 1 : Nat) : Int) := wrap64 (x := (j : Int) + 1) ⟨by omega, by omega⟩
      simp only [go_sem, e2, eH2, e3, eH3, e6, en_len, k2, ex, gz, Int.toNat_natCast, eM, w2]
      exact ⟨by omega, ⟨⟨u2, e2, eH2⟩, ⟨u3, e3, eH3⟩⟩, rfl⟩
    · simp only [go_sem, e2, eH2, e3, eH3, e6, en_len, k2]
set_option maxRecDepth 20000 in
def ok18 := okF.of (P := Tryz.prog) Tryz.func18 Tryz.ntmps18 (by kernel_rfl) (by conv => lhs; cbv) (by conv => lhs; cbv)
def inv18 (rs : List LR) (i : Nat) (σ : St) : Prop := σ.t 0 = tL (en eR rs) ∧ σ.t 1 = tL (en eR rs) ∧ σ.t 5 = .i i
theorem loRecords_ok (rs : List LR) (hl : rs.length ≤ 9000000000000000000) : ACallsF Tryz.prog 18 [tL (en eR rs), tL (en eR rs)] [] (.b true) := by
  refine ACallsF.intro ok18 follows fun X c0 => ?_
  simp only [go_sem, en_len, ne0]
  refine AW.upto rs.length (inv18 rs) ⟨rfl, rfl, rfl⟩ fun i t H c hi h => ?_
  obtain ⟨e0, e1, e5⟩ := h
  simp only [T.c, T.i, tL] at e0 e1 e5
  by_cases k1 : (i : Int) < rs.length
  · obtain ⟨x, hx⟩ : ∃ x, rs[i]? = some x := ⟨_, List.getElem?_eq_getElem (by omega)⟩
    have ex := en_at eR hx
    have gz : (0 : Int) ≤ i := by omega
    have w2 : IntKind.i64.wrap ((i : Int) + 1) = ((i + 1 : Nat) : Int) := wrap64 (x := (i : Int) + 1) ⟨by omega, by omega⟩
    simp only [go_sem, e0, e1, e5, en_len, k1, ex, gz, Int.toNat_natCast, eR, w2]
    exact ⟨by omega, e0, e1, rfl⟩
  · simp only [go_sem, e0, e1, e5, en_len, k1]
end Go.V
set_option linter.unusedSimpArgs false
namespace Go.V
open Go.Proofs
theorem opn_recs {d : Dk} (hD : DOk d) : (opn d).recs.length ≤ 3000000 := by
  by_cases hc : (opn d).code = 0
  · obtain ⟨n, p, rs, x, hl, ho⟩ := opn_at hc
    rw [ho]
    have hx := lk_size hD hl.opn
    obtain ⟨h5, h6, h7, h8, h9⟩ := planOk_ok hl.ok
    have key : ∀ (ps : List LP) (rs : List LR), prtsV (lk d) ps = some rs → rs.length ≤ 20000 * ps.length := by
      intro ps
      induction ps with
      | nil => intro rs h; rw [prtsV] at h; cases h; simp
      | cons q ps ih =>
        intro rs h
        rw [prtsV] at h
        split at h
        · cases h
        · rename_i l hq
          cases hr : prtsV (lk d) ps with
          | none => rw [hr] at h; cases h
          | some m =>
            rw [hr] at h
            cases h
            have h1 := ih m hr
            have h2 : l.length ≤ 20000 := by
              rw [prtV] at hq
              split at hq
              · cases hq
              · rename_i y hy
                split at hq
                · cases hq
                · split at hq
                  · cases hq
                    have hf := frames_le (y.extract 0 q.size.toNat)
                    have hs := lk_size hD hy
                    have : (y.extract 0 q.size.toNat).size ≤ y.size := by rw [ByteArray.size_extract]; omega
                    omega
                  · cases hq
            rw [List.length_append, List.length_cons]; omega
    have h1 := key _ _ hl.parts
    have h2 := frames_le x
    show (rs ++ (frames x).1).length ≤ _
    rw [List.length_append]
    omega
  · have : (opn d).recs = [] := by
      rcases opn_ok hD with ⟨h, _⟩ | h | h
      · exact absurd h hc
      · rw [h]; rfl
      · rw [h]; rfl
    rw [this]; exact Nat.zero_le _
end Go.V
set_option linter.unusedSimpArgs false
set_option maxRecDepth 20000
namespace Go.V
open Go.Proofs
theorem istepC_ok (d : Dk) (a : LA) (hD : DOk d) (ha : a.data.size ≤ 1048576) : ACallsF Tryz.prog 48 [tDk d, tLA a] [] (tDkII (stepR d a)) := by
  have hd := hD.fine
  obtain ⟨s1, s2, s3⟩ := stepR_len hD a
  have hcl := cloneDk_ok (stepR d a).1 ⟨by omega, by omega, by omega⟩ 2101 2102 2103
  have hW := writesI_ok d hD a ha
  obtain ⟨hw, hwl⟩ := wr_fine hD a
  have hG := writes_ok d (wr d a).1 a hD (by omega) hw
  unfold stepR at hcl ⊢
  generalize wr d a = W at *
  obtain ⟨ws, p, wc⟩ := W
  simp only at hw hwl hG hcl ⊢
  by_cases k : wc = 0
  rotate_left
  · have k' : (wc != 0) = true := bne_iff_ne.2 k
    rw [if_pos k] at hcl ⊢
    refine ACallsF.intro ok48 follows fun X c0 => ?_
    simp only [go_sem]
    refine callC hW rfl rfl rfl rfl ?_
    simp only [go_sem, k']
    refine callDk (ws := []) (ns := []) hcl rfl rfl rfl (by decide) ⟨rfl, ?_⟩
    simp only [go_sem, false_implies, and_self, imp_self, en_take2]
  subst k
  rw [if_neg (by omega)] at hcl ⊢
  have n0 : ((0 : Int) != 0) = false := rfl
  generalize goS a 0 d ws = r at *
  obtain ⟨rd, rc⟩ := r
  simp only at hcl ⊢
  by_cases k : rc = 0
  · subst k
    rw [if_pos rfl]
    refine ACallsF.intro ok48 follows fun X c0 => ?_
    simp only [go_sem]
    refine callC hW rfl rfl rfl rfl ?_
    simp only [go_sem, n0]
    refine callC hG rfl rfl rfl rfl ?_
    simp only [go_sem, n0]
    refine callDk (ws := []) (ns := []) hcl rfl rfl rfl (by decide) ⟨rfl, ?_⟩
    simp only [go_sem, false_implies, and_self, imp_self, en_take2]
  · have k' : (rc != 0) = true := bne_iff_ne.2 k
    rw [if_neg k]
    refine ACallsF.intro ok48 follows fun X c0 => ?_
    simp only [go_sem]
    refine callC hW rfl rfl rfl rfl ?_
    simp only [go_sem, n0]
    refine callC hG rfl rfl rfl rfl ?_
    simp only [go_sem, k']
    refine callDk (ws := []) (ns := []) hcl rfl rfl rfl (by decide) ⟨rfl, ?_⟩
    simp only [go_sem, false_implies, and_self, imp_self, en_take2]
def ok13 := okF.gu (P := Tryz.prog) tab Tryz.func13 Tryz.ntmps13 (by conv => lhs; cbv) (by kernel_rfl)
/-- What LogOpen says of any disk. -/
def OpnR (d : Dk) (s : Ls) : Prop := (DOk d ∧ s = opn d) ∨ (¬ DOk d ∧ s = zLs 7)
theorem openI_ok (d : Dk) (hd : fineDk d) : ∃ s, OpnR d s ∧ ACallsF Tryz.prog 13 [tDk d] [] (tLs s) := by
  obtain ⟨b, hb, hC⟩ := okI_ok d hd
  by_cases hD : DOk d
  rotate_left
  · have hbf : b = false := by cases hq : b with | false => rfl | true => exact absurd (hb.1 hq) hD
    rw [hbf] at hC
    refine ⟨_, .inr ⟨hD, rfl⟩, ACallsF.intro ok13 follows fun X c0 => ?_⟩
    simp only [go_sem]
    refine callC hC rfl rfl rfl rfl ?_
    simp only [go_sem, zLs, zPl, en_nil]
  rw [hb.2 hD] at hC
  refine ⟨_, .inl ⟨hD, rfl⟩, ?_⟩
  have hS := opnI_ok d hD
  generalize opn d = s at *
  refine ACallsF.intro ok13 follows fun X c0 => ?_
  simp only [go_sem]
  refine callC hC rfl rfl rfl rfl ?_
  simp only [go_sem]
  refine callC hS rfl rfl rfl rfl ?_
  simp only [go_sem]
end Go.V
set_option linter.unusedSimpArgs false
namespace Go.V
open Go.Proofs
theorem inv_zero : Inv zDk [] 0 0 := by
  refine ⟨[], fileOf [], ⟨zDk_ok, rfl, rfl, fun _ _ => rfl⟩, (fun nm hm => by cases hm), Int.le_refl _, .inl ⟨fun m _ _ y hy => ?_, rfl, rfl, (fun nm hm => by cases hm), Nat.zero_le _⟩⟩
  have := (vw_mem hy).1
  cases this
/-- What is read of a played log. -/
theorem Inv.opn {d : Dk} {L : List ByteArray} {lo : Nat} {T : Int} (h : Inv d L lo T) : DOk d ∧ (opn d = zLs 1 ∧ L = [] ∨ (opn d).code = 0 ∧ (opn d).recs = recsL L ∧ (opn d).next = (L.length : Int) + 1) := by
  obtain ⟨N, φ, hd, hT, hL, hI⟩ := h
  refine ⟨hd.ok, ?_⟩
  rcases hI with ⟨g1, g2, _⟩ | ⟨n, p, rs, x, h, hlo⟩
  · exact .inl ⟨opn_none (by rw [hd.vw]; exact g1), g2⟩
  · obtain ⟨hop, hx⟩ := hd.opn h
    rw [hop]
    refine .inr ⟨rfl, h.recs, ?_⟩
    show p.first + ((frames x).1.length : Int) = _
    rw [h.first, h.len]; omega
theorem Inv.recs {d : Dk} {L : List ByteArray} {lo : Nat} {T : Int} (h : Inv d L lo T) : (Go.V.opn d).recs = recsL L := by
  rcases h.opn.2 with ⟨h1, h2⟩ | ⟨_, h2, _⟩
  · rw [h1, h2]; rfl
  · exact h2
theorem Inv.code {d : Dk} {L : List ByteArray} {lo : Nat} {T : Int} (h : Inv d L lo T) : (Go.V.opn d).code = 0 ∨ ((Go.V.opn d).code = 1 ∧ L = []) := by
  rcases h.opn.2 with ⟨h1, h2⟩ | ⟨h1, _⟩
  · exact .inr ⟨by rw [h1]; rfl, h2⟩
  · exact .inl h1
theorem InvW.opn {d : Dk} {L : List ByteArray} {lo : Nat} {T : Int} (h : InvW d L lo T) : (opn d).code = 0 ∧ (opn d).torn = false := by
  obtain ⟨N, φ, n, p, rs, x, h1, h2, h3, h4, h5, h6⟩ := h
  obtain ⟨hop, hx⟩ := h1.opn h4
  rw [hop]
  exact ⟨rfl, h4.torn.2 h6⟩
theorem wr_code {d : Dk} {a : LA} (h : (opn d).code = 0 ∨ (opn d).code = 1) : (wr d a).2.2 ≠ 6 := by
  unfold wr
  split
  · simp only; split <;> decide
  split
  · simp only; omega
  split
  · simp only; decide
  split
  · simp only; split <;> decide
  split
  · simp only; decide
  split
  · simp only; decide
  split
  · split <;> (simp only; decide)
  split
  · simp only; decide
  split
  · simp only; decide
  · simp only; decide
/-- An act on a played log. -/
theorem inv_step {d : Dk} {L : List ByteArray} {lo : Nat} {T : Int} (hI : Inv d L lo T) (a : LA) :
    ((stepR d a).2.2 = 0 → InvW (stepR d a).1 (if a.kind = 1 then L ++ [a.data] else L) (if a.kind = 1 then lo else L.length) (T + 1) ∧ (a.kind = 1 → (stepR d a).2.1 = (L.length : Int) + 1) ∧ (a.kind = 4 → Neat (stepR d a).1 L (T + 1)) ∧ a.cuts = false) ∧
    ((stepR d a).2.2 = 6 → a.cuts = true ∧ ∃ k, lo ≤ k ∧ k ≤ (if a.kind = 1 then L ++ [a.data] else L).length ∧ Inv (stepR d a).1 ((if a.kind = 1 then L ++ [a.data] else L).take k) k (T + 1)) ∧
    ((stepR d a).2.2 ≠ 0 → (stepR d a).2.2 ≠ 6 → (stepR d a).1 = d) := by
  by_cases hw : (wr d a).2.2 = 0
  · obtain ⟨hs, hp⟩ := wr_safe hI a hw
    obtain ⟨g1, g2⟩ := Safe.go (a := a) _ 0 _ hs
    have e : stepR d a = ((goS a 0 d (wr d a).1).1, if (goS a 0 d (wr d a).1).2 = 0 then (wr d a).2.1 else 0, (goS a 0 d (wr d a).1).2) := by rw [stepR, if_neg (by rw [hw]; decide)]
    rw [e]
    cases hc : a.cuts with
    | true =>
      obtain ⟨d', hG, hgo⟩ := g1 hc
      rw [hgo]
      refine ⟨fun h => absurd (show (6 : Int) = 0 from h) (by decide), fun _ => ⟨rfl, hG a.moves a.keep⟩, fun _ h => absurd rfl h⟩
    | false =>
      obtain ⟨h0, hW, hN⟩ := g2 hc
      rw [h0]
      refine ⟨fun _ => ⟨hW, fun k => ?_, hN, rfl⟩, fun h => absurd h (by decide), fun h => absurd rfl h⟩
      rw [if_pos rfl]; exact hp k
  · have e : stepR d a = (d, 0, (wr d a).2.2) := by rw [stepR, if_pos hw]
    have h6 := wr_code (d := d) (a := a) (by rcases hI.code with h | ⟨h, _⟩; exact .inl h; exact .inr h)
    rw [e]
    exact ⟨fun h => absurd h hw, fun h => absurd h h6, fun _ _ => rfl⟩
theorem Inv.up {d : Dk} {L : List ByteArray} {lo : Nat} {T T' : Int} (h : Inv d L lo T) (hT : T ≤ T') : Inv d L lo T' := by
  obtain ⟨N, φ, h1, h2, h3, h4⟩ := h
  exact ⟨N, φ, h1, fun nm hm => by have := h2 nm hm; omega, by omega, h4⟩
/-- A mend of a played log goes well. -/
theorem mend_zero {d : Dk} {L : List ByteArray} {lo : Nat} {T : Int} (hI : Inv d L lo T) (hT : T < 999999) {a : LA} (ha : a.kind = 4) (hc : a.cuts = false) : ((opn d).torn = true ∧ 40 ≤ (opn d).plan.parts.length ∧ stepR d a = (d, 0, 4)) ∨ (¬ ((opn d).torn = true ∧ 40 ≤ (opn d).plan.parts.length) ∧ (stepR d a).2.2 = 0) := by
  have hn6 : (stepR d a).2.2 ≠ 6 := fun h => by
    have := ((inv_step hI a).2.1 h).1
    rw [hc] at this; cases this
  by_cases hw : (wr d a).2.2 = 0
  · obtain ⟨hs, _⟩ := wr_safe hI a hw
    obtain ⟨_, g2⟩ := Safe.go (a := a) _ 0 _ hs
    have e : stepR d a = ((goS a 0 d (wr d a).1).1, if (goS a 0 d (wr d a).1).2 = 0 then (wr d a).2.1 else 0, (goS a 0 d (wr d a).1).2) := by rw [stepR, if_neg (by rw [hw]; decide)]
    refine .inr ⟨fun h => ?_, by rw [e]; exact (g2 hc).1⟩
    obtain ⟨N, φ, hd, hTN, hL, hI⟩ := hI
    rcases hI with ⟨g1, _⟩ | ⟨n, p, rs, x, hl, hlo⟩
    · rw [opn_none (by rw [hd.vw]; exact g1)] at h
      cases h.1
    · obtain ⟨hop, hx⟩ := hd.opn hl
      rw [hop] at h
      unfold wr at hw
      rw [hop, if_neg (fun h => by cases h.1), if_neg (fun h => h rfl), if_neg (by omega), if_pos ha] at hw
      have hm : md d (lsOf n p rs x) = none := by
        unfold md
        rw [if_pos h.1]
        unfold cl
        rw [if_neg (by have := h.2; omega)]
        rfl
      rw [hm] at hw
      cases hw
  · have e : stepR d a = (d, 0, (wr d a).2.2) := by rw [stepR, if_pos hw]
    left
    obtain ⟨N, φ, hd, hTN, hL, hI⟩ := hI
    rcases hI with ⟨g1, g2, g3, g4, g5⟩ | ⟨n, p, rs, x, hl, hlo⟩
    · have hop := opn_none (by rw [hd.vw]; exact g1)
      obtain ⟨e1, e2, e3⟩ := hd.nms
      have hT2 := topN_bd hTN (by have := hL; omega)
      have hb : (bi d).isSome = true := by
        unfold bi
        rw [e1, e3, if_pos ⟨by omega, by omega⟩]
        rfl
      unfold wr at hw
      rw [if_pos ⟨by rw [hop]; rfl, ha⟩, hb] at hw
      exact absurd rfl hw
    · obtain ⟨hop, hx⟩ := hd.opn hl
      have hwr : wr d a = ((md d (lsOf n p rs x)).getD [], 0, if (md d (lsOf n p rs x)).isSome = true then 0 else 4) := by
        unfold wr
        rw [hop, if_neg (fun h => by cases h.1), if_neg (fun h => h rfl), if_neg (by omega), if_pos ha]
      rw [hwr] at hw
      have hm : md d (lsOf n p rs x) = none := by
        cases hq : md d (lsOf n p rs x) with
        | none => rfl
        | some l => rw [hq] at hw; exact absurd rfl hw
      have hmm := hm
      unfold md at hm
      by_cases ht : (lsOf n p rs x).torn = true
      · rw [if_pos ht] at hm
        have hcl : cl (ours (lsOf n p rs x)).length (topN (ours (lsOf n p rs x))) (lsOf n p rs x) = none := by
          cases hq : cl (ours (lsOf n p rs x)).length (topN (ours (lsOf n p rs x))) (lsOf n p rs x) with
          | none => rfl
          | some l => rw [hq] at hm; cases hm
        unfold cl at hcl
        split at hcl
        · cases hcl
        · rename_i hcond
          have hp : p.parts.length ≤ 40 := (planOk_ok hl.here.ok).1
          have hT2 := topN_bd (fun nm hm => hTN nm (hl.ours hm)) (by have := hL; omega)
          have hol := ours_len (lsOf n p rs x)
          have hpl : (lsOf n p rs x).plan.parts.length = p.parts.length := rfl
          rw [hpl] at hcond hol
          refine ⟨by rw [hop]; exact ht, ?_, ?_⟩
          · rw [hop]
            show 40 ≤ p.parts.length
            refine Classical.byContradiction fun h => hcond ⟨by omega, by omega, by omega⟩
          · rw [e, hwr, hmm]; rfl
      · rw [if_neg ht] at hm; cases hm
end Go.V
set_option linter.unusedSimpArgs false
namespace Go.V
open Go.Proofs
theorem InvW.gd {d : Dk} {L : List ByteArray} {lo : Nat} {T : Int} (h : InvW d L lo T) : Gd L lo T d := by
  obtain ⟨N, φ, n, p, rs, x, h1, h2, h3, h4, h5, h6⟩ := h
  exact gd_log h1 h4 h5 h2 h3
/-- An act without a loss of power is done or refused by what it finds. -/
theorem calm_code {d : Dk} {L : List ByteArray} {lo : Nat} {T : Int} (hI : Inv d L lo T) {a : LA} (hc : a.cuts = false) : (stepR d a).2.2 = (wr d a).2.2 := by
  by_cases hw : (wr d a).2.2 = 0
  · obtain ⟨hs, _⟩ := wr_safe hI a hw
    obtain ⟨_, g2⟩ := Safe.go (a := a) _ 0 _ hs
    rw [hw, stepR, if_neg (by rw [hw]; decide)]
    exact (g2 hc).1
  · rw [stepR, if_pos hw]
theorem app_code {d : Dk} {a : LA} (h0 : (opn d).code = 0) (ht : (opn d).torn = false) (hk : a.kind = 1) : (wr d a).2.2 = if 2000 < a.data.size then 5 else if (opn d).next > 999999 ∨ (opn d).size + 5 + a.data.size > 8000 then 4 else 0 := by
  unfold wr
  rw [if_neg (by rw [h0]; simp), if_neg (by rw [h0]; decide), if_neg (by omega), if_neg (by omega), if_neg (by rw [ht]; decide), if_neg (by omega), if_neg (by omega)]
  split
  · rfl
  · split <;> rfl
theorem torn_no {d : Dk} {a : LA} (h0 : (opn d).code = 0) (ht : (opn d).torn = true) (hk : a.kind = 1) : (wr d a).2.2 ≠ 0 := by
  unfold wr
  rw [if_neg (by rw [h0]; simp), if_neg (by rw [h0]; decide), if_neg (by omega), if_neg (by omega), if_pos ht]
  decide
/-- What was appended is of bounded length. -/
theorem app_short {d : Dk} {L : List ByteArray} {lo : Nat} {T : Int} (hI : Inv d L lo T) {a : LA} (hc : a.cuts = false) (hk : a.kind = 1) (h0 : (stepR d a).2.2 = 0) : a.data.size ≤ 2000 := by
  rw [calm_code hI hc] at h0
  have hcd : (opn d).code = 0 := by
    rcases hI.code with h | ⟨h, _⟩
    · exact h
    · unfold wr at h0
      rw [h, if_neg (by omega), if_pos (by decide)] at h0
      exact absurd h0 (by decide)
  cases ht : (opn d).torn with
  | true => exact absurd h0 (torn_no hcd ht hk)
  | false =>
    rw [app_code hcd ht hk] at h0
    split at h0
    · cases h0
    · omega
/-- Acts without a loss of power: the first, and what is appended. -/
def bareL (acts : List LA) (codes : List Int) : Nat → List LA
  | 0 => []
  | i + 1 => bareL acts codes i ++ (match acts[i]?, codes[i]? with
    | some a, some c => if i = 0 ∨ (a.kind = 1 ∧ c = 0) then [a] else []
    | _, _ => [])
theorem bareL_len (acts : List LA) (codes : List Int) : ∀ i, (bareL acts codes i).length ≤ i
  | 0 => Nat.le_refl _
  | i + 1 => by
    rw [bareL, List.length_append]
    have ih := bareL_len acts codes i
    have : (match acts[i]?, codes[i]? with
      | some a, some c => if i = 0 ∨ (a.kind = 1 ∧ c = 0) then [a] else []
      | _, _ => []).length ≤ 1 := by
      split
      · split <;> simp
      · simp
    omega
theorem playG_codes : ∀ (l : List LA) (x : Dk × List Int), (playG x l).2.take x.2.length = x.2
  | [], x => by rw [playG, List.take_length]
  | a :: l, x => by
    rw [playG]
    have h := playG_codes l ((stepR x.1 a).1, x.2 ++ [(stepR x.1 a).2.2])
    simp only [List.length_append, List.length_singleton] at h
    have h2 := congrArg (List.take x.2.length) h
    rw [List.take_take, Nat.min_eq_left (by omega), List.take_left' rfl] at h2
    exact h2
theorem playG_app (l m : List LA) : ∀ x, playG x (l ++ m) = playG (playG x l) m := by
  induction l with
  | nil => intro x; rfl
  | cons a l ih => intro x; rw [List.cons_append, playG, playG, ih]
theorem playG_code {acts : List LA} {i : Nat} {a : LA} (h : acts[i]? = some a) : (playG (zDk, []) acts).2[i]? = some (stepR (playG (zDk, []) (acts.take i)).1 a).2.2 := by
  have hi := (List.getElem?_eq_some_iff.1 h).1
  have e : playG (zDk, []) acts = playG (playG (zDk, []) (acts.take (i + 1))) (acts.drop (i + 1)) := by rw [← playG_app, List.take_append_drop]
  have hl : (playG (zDk, []) (acts.take (i + 1))).2.length = i + 1 := by rw [playG_len]; simp; omega
  have h1 := playG_codes (acts.drop (i + 1)) (playG (zDk, []) (acts.take (i + 1)))
  rw [← e, hl] at h1
  have h2 : (playG (zDk, []) acts).2[i]? = ((playG (zDk, []) acts).2.take (i + 1))[i]? := by rw [List.getElem?_take, if_pos (by omega)]
  rw [h2, h1, playG_take h]
  have hl2 : (playG (zDk, []) (acts.take i)).2.length = i := by rw [playG_len]; simp; omega
  simp only
  rw [List.getElem?_append_right (by omega), hl2, Nat.sub_self]
  rfl
def mendA : LA := ⟨4, ⟨#[]⟩, false, 0, 0, []⟩
theorem first_ok : (stepR zDk mendA).2.2 = 0 ∧ InvW (stepR zDk mendA).1 [] 0 1 := by
  have h0 : (stepR zDk mendA).2.2 = 0 := by
    rcases mend_zero inv_zero (by decide) (a := mendA) rfl rfl with ⟨h, _⟩ | ⟨_, h⟩
    · rcases inv_zero.opn.2 with ⟨g, _⟩ | ⟨g, _⟩
      · rw [g] at h; cases h
      · rcases inv_zero.code with g2 | ⟨g2, _⟩ <;> rw [opn_none (d := zDk) (fun m _ _ y hy => by
          have := lk_some hy
          cases this)] at h <;> cases h
    · exact h
  exact ⟨h0, ((inv_step inv_zero mendA).1 h0).1⟩
/-- Acts without a loss of power, as they go. -/
theorem calm_run {acts : List LA} (hh : ∃ l, acts = mendA :: l) (hc : ∀ a ∈ acts, a.cuts = false) : ∀ i, 1 ≤ i → i ≤ acts.length → ∃ B lo, Inv (playG (zDk, []) (acts.take i)).1 (B.map LA.data) lo i ∧ (opn (playG (zDk, []) (acts.take i)).1).torn = false ∧ bareL acts (playG (zDk, []) acts).2 i = mendA :: B ∧ ∀ b ∈ B, b ∈ acts ∧ b.kind = 1 ∧ b.data.size ≤ 2000 := by
  intro i
  induction i with
  | zero => intro h; omega
  | succ i ih =>
    intro _ hi
    obtain ⟨a, ha⟩ : ∃ a, acts[i]? = some a := ⟨_, List.getElem?_eq_getElem (by omega)⟩
    have hcode := playG_code ha
    rw [playG_take ha]
    by_cases hi0 : i = 0
    · subst hi0
      obtain ⟨l, rfl⟩ := hh
      have : a = mendA := by simpa using ha.symm
      subst this
      obtain ⟨f0, fW⟩ := first_ok
      refine ⟨[], 0, fW.inv, fW.opn.2, ?_, fun b hb => by cases hb⟩
      rw [bareL, ha, hcode]
      simp [bareL]
    · obtain ⟨B, lo, h1, h2, h3, h4⟩ := ih (by omega) (by omega)
      have hca := hc a (List.mem_of_getElem? ha)
      obtain ⟨s1, s2, s3⟩ := inv_step h1 a
      have hb : bareL acts (playG (zDk, []) acts).2 (i + 1) = bareL acts (playG (zDk, []) acts).2 i ++ if a.kind = 1 ∧ (stepR (playG (zDk, []) (acts.take i)).1 a).2.2 = 0 then [a] else [] := by
        rw [bareL, ha, hcode]
        simp only [hi0, false_or]
      have hT : ((i + 1 : Nat) : Int) = (i : Int) + 1 := by omega
      rw [hT]
      simp only
      by_cases h0 : (stepR (playG (zDk, []) (acts.take i)).1 a).2.2 = 0
      · obtain ⟨w1, w2, _⟩ := s1 h0
        by_cases hk : a.kind = 1
        · rw [if_pos hk, if_pos hk] at w1
          refine ⟨B ++ [a], lo, by rw [List.map_append]; exact w1.inv, w1.opn.2, by rw [hb, h3, if_pos ⟨hk, h0⟩]; rfl, fun b hb => ?_⟩
          rcases List.mem_append.1 hb with hb | hb
          · exact h4 b hb
          · rw [List.mem_singleton.1 hb]
            exact ⟨List.mem_of_getElem? ha, hk, app_short h1 hca hk h0⟩
        · rw [if_neg hk, if_neg hk] at w1
          exact ⟨B, _, w1.inv, w1.opn.2, by rw [hb, h3, if_neg fun h => hk h.1, List.append_nil], h4⟩
      · have h6 : (stepR (playG (zDk, []) (acts.take i)).1 a).2.2 ≠ 6 := fun h => by
          have := (s2 h).1
          rw [hca] at this; cases this
        rw [s3 h0 h6]
        exact ⟨B, lo, h1.up (by omega), h2, by rw [hb, h3, if_neg fun h => h0 h.2, List.append_nil], h4⟩
/-- What is appended alone. -/
theorem bare_run {B : List LA} (hB : ∀ b ∈ B, b.kind = 1 ∧ b.data.size ≤ 2000 ∧ b.cuts = false) : ∀ i, i ≤ B.length → ∃ L lo, Inv (playG (zDk, []) (mendA :: B.take i)).1 L lo (i + 1 : Nat) ∧ (opn (playG (zDk, []) (mendA :: B.take i)).1).torn = false ∧ (opn (playG (zDk, []) (mendA :: B.take i)).1).code = 0 ∧ (∀ c ∈ (playG (zDk, []) (mendA :: B.take i)).2, c = 0 ∨ c = 4) ∧ ((∀ c ∈ (playG (zDk, []) (mendA :: B.take i)).2, c = 0) → L = (B.take i).map LA.data) := by
  intro i
  induction i with
  | zero =>
    intro _
    obtain ⟨f0, fW⟩ := first_ok
    have e : playG (zDk, []) (mendA :: B.take 0) = ((stepR zDk mendA).1, [0]) := by
      rw [List.take_zero, playG, playG, f0]; rfl
    rw [e]
    exact ⟨[], 0, fW.inv, fW.opn.2, fW.opn.1, fun c hc => .inl (List.mem_singleton.1 hc), fun _ => rfl⟩
  | succ i ih =>
    intro hi
    obtain ⟨b, hb⟩ : ∃ b, B[i]? = some b := ⟨_, List.getElem?_eq_getElem (by omega)⟩
    obtain ⟨L, lo, h1, h2, h3, h4, h5⟩ := ih (by omega)
    have e : mendA :: B.take (i + 1) = (mendA :: B.take i) ++ [b] := by rw [take_snoc hb]; rfl
    rw [e, playG_snoc]
    obtain ⟨k1, k2, k3⟩ := hB b (List.mem_of_getElem? hb)
    obtain ⟨s1, s2, s3⟩ := inv_step h1 b
    have hcode := calm_code h1 k3
    rw [app_code h3 h2 k1, if_neg (by omega)] at hcode
    generalize playG (zDk, []) (mendA :: B.take i) = X at *
    have hT : ((i + 1 + 1 : Nat) : Int) = ((i + 1 : Nat) : Int) + 1 := by omega
    rw [hT]
    simp only
    by_cases hq : (opn X.1).next > 999999 ∨ (opn X.1).size + 5 + b.data.size > 8000
    · rw [if_pos hq] at hcode
      rw [hcode] at s3
      rw [s3 (by decide) (by decide)]
      refine ⟨L, lo, h1.up (by omega), h2, h3, fun c hc => ?_, fun h => ?_⟩
      · rcases List.mem_append.1 hc with hc | hc
        · exact h4 c hc
        · rw [List.mem_singleton.1 hc]; exact .inr hcode
      · have := h (stepR X.1 b).2.2 (by simp)
        rw [hcode] at this
        cases this
    · rw [if_neg hq] at hcode
      obtain ⟨w1, _⟩ := s1 hcode
      rw [if_pos k1, if_pos k1] at w1
      refine ⟨L ++ [b.data], lo, w1.inv, w1.opn.2, w1.opn.1, fun c hc => ?_, fun h => ?_⟩
      · rcases List.mem_append.1 hc with hc | hc
        · exact h4 c hc
        · rw [List.mem_singleton.1 hc]; exact .inl hcode
      · rw [h5 fun c hc => h c (List.mem_append.2 (.inl hc)), take_snoc hb, List.map_append]; rfl
theorem take_all {α : Type} (l : List α) : l.take l.length = l := List.take_length
/-- Rolls, syncs and mends never change what was appended. -/
theorem same_law {acts : List LA} (hl : acts.length ≤ 200) (hh : ∃ l, acts = mendA :: l) (hc : ∀ a ∈ acts, a.cuts = false) : (∀ b ∈ bareL acts (playR acts).2 acts.length, b ∈ acts) ∧ (bareL acts (playR acts).2 acts.length).length ≤ 200 ∧ (∀ c ∈ (playR (bareL acts (playR acts).2 acts.length)).2, c = 0 ∨ c = 4) ∧ ((∀ c ∈ (playR (bareL acts (playR acts).2 acts.length)).2, c = 0) → (opn (playR (bareL acts (playR acts).2 acts.length)).1).recs = (opn (playR acts).1).recs) := by
  have e : playR acts = playG (zDk, []) acts := if_neg (by omega)
  rw [e]
  have hpos : 1 ≤ acts.length := by
    obtain ⟨l, rfl⟩ := hh
    simp
  have hbl := bareL_len acts (playG (zDk, []) acts).2
  obtain ⟨B, lo, h1, h2, h3, h4⟩ := calm_run hh hc acts.length hpos (Nat.le_refl _)
  have hlen := hbl acts.length
  rw [h3] at hlen ⊢
  have e2 : playR (mendA :: B) = playG (zDk, []) (mendA :: B) := if_neg (by omega)
  rw [e2]
  rw [take_all] at h1
  have hmem : ∀ b ∈ mendA :: B, b ∈ acts := fun b hb => by
    rcases List.mem_cons.1 hb with rfl | hb
    · obtain ⟨l, rfl⟩ := hh
      exact List.mem_cons_self ..
    · exact (h4 b hb).1
  obtain ⟨L, lo', g1, g2, g3, g4, g5⟩ := bare_run (B := B) (fun b hb => ⟨(h4 b hb).2.1, (h4 b hb).2.2, hc b (h4 b hb).1⟩) B.length (Nat.le_refl _)
  rw [take_all] at g1 g2 g3 g4 g5
  refine ⟨hmem, by omega, g4, fun h => ?_⟩
  rw [g1.recs, h1.recs, g5 h]
end Go.V
set_option linter.unusedSimpArgs false
set_option maxRecDepth 20000
namespace Go.V
open Go.Proofs
def ok17 := okF.gu (P := Tryz.prog) tab Tryz.func17 Tryz.ntmps17 (by conv => lhs; cbv) (by kernel_rfl)
def inv17 (acts : List LA) (i : Nat) (σ : St) : Prop := ∃ d codes cs v, (d, codes) = playG (zDk, []) (acts.take i) ∧ isDk cs d ∧ codes.length = i ∧ σ.t 17 = tL (en eLA acts) ∧ σ.t 18 = .i acts.length ∧ (∃ u, σ.t 2 = .c (.ptr 2 u 0) ∧ σ.H 2 = some (.var u 29 [.nil0, .nil0, .nil0])) ∧ (∃ u, σ.t 4 = .c (.ptr 4 u 0) ∧ σ.H 4 = some (.var u 29 cs)) ∧ σ.t 19 = .i i ∧ σ.t 5 = .c (.own 16 v codes.length) ∧ σ.H 16 = some (.arr v true 1 3 (en eI codes))
set_option maxHeartbeats 1000000 in
theorem logPlayI_ok (acts : List LA) (ha : ∀ a ∈ acts, okA a) : ACallsF Tryz.prog 17 [tL (en eLA acts)] [] (tDIs (playR acts)) := by
  refine ACallsF.intro ok17 follows fun X c0 => ?_
  by_cases g1 : (acts.length : Int) > 200
  · have e : playR acts = (zDk, []) := if_pos (by omega)
    rw [e]
    simp only [go_sem, en_len, g1, zDk, en_nil]
  have e : playR acts = playG (zDk, []) acts := if_neg (by omega)
  rw [e]
  simp only [go_sem, en_len, g1]
  refine AW.upto acts.length (inv17 acts) ⟨zDk, [], _, _, rfl, .inl ⟨rfl, rfl⟩, rfl, rfl, rfl, ⟨_, rfl, rfl⟩, ⟨_, rfl, rfl⟩, rfl, rfl, rfl⟩ fun i t H c hi h => ?_
  obtain ⟨d, codes, cs, v, hpl, hcs, hl, e0, e18, ⟨u2, e2, eH2⟩, ⟨u4, e4, eH4⟩, e6, e5, eH5⟩ := h
  simp only [T.c, T.i, tL] at e0 e18 e2 eH2 e4 eH4 e6 e5 eH5
  have ht1 : (en eI codes).take codes.length = en eI codes := en_take eI codes
  by_cases k1 : (i : Int) < acts.length
  rotate_left
  · have hi2 : i = acts.length := by omega
    rw [hi2, List.take_length] at hpl
    rw [← hpl]
    rcases hcs with ⟨rfl, rfl⟩ | rfl
    · simp only [go_sem, e0, e18, e2, eH2, e4, eH4, e6, e5, eH5, en_len, k1, ht1, zDk, en_nil]
    · simp only [go_sem, e0, e18, e2, eH2, e4, eH4, e6, e5, eH5, en_len, k1, ht1]
  obtain ⟨a, hx⟩ : ∃ x, acts[i]? = some x := ⟨_, List.getElem?_eq_getElem (by omega)⟩
  have ex := en_at eLA hx
  have gz : (0 : Int) ≤ i := by omega
  have w2 : IntKind.i64.wrap ((i : Int) + 1) = ((i + 1 : Nat) : Int) := wrap64 (x := (i : Int) + 1) ⟨by omega, by omega⟩
  have hD : DOk d := by
    have := playG_ok (acts.take i) (zDk, []) zDk_ok
    rw [← hpl] at this
    exact this
  have C1 := istepC_ok d a hD (by have := (ha a (List.mem_of_getElem? hx)).1; omega)
  have hpl2 := playG_take hx (zDk, [])
  rw [← hpl] at hpl2
  simp only at hpl2
  generalize stepR d a = r at *
  obtain ⟨d', p, code⟩ := r
  have q1 : (codes.length + 1) * 8 ≤ 140737488355328 := by omega
  have q2 : codes.length ≤ 9223372036854775806 := by omega
  rcases hcs with ⟨rfl, rfl⟩ | rfl
  · simp only [go_sem, e0, e18, e2, eH2, e4, eH4, e6, e5, eH5, en_len, k1, ex, gz, Int.toNat_natCast, eLA]
    refine callL (ws := []) (ns := []) C1 rfl ?_ rfl rfl ?_
    · simp only [go_sem, lendTs, lendT, zDk, en_nil]
      rfl
    simp only [go_sem, e0, e18, e2, eH2, e4, eH4, e6, e5, eH5, en_len, k1, scalarT, scalarP, scalarC, List.all_cons, Bool.false_and, w2, ht1, q1, q2, ite_self]
    refine ⟨by omega, d', codes ++ [code], cDk d', _, hpl2.symm, .inr rfl, by rw [List.length_append, hl]; rfl, e0, e18, ⟨u2, e2, eH2⟩, ⟨u4, e4, rfl⟩, rfl, by rw [List.length_append]; rfl, ?_⟩
    rw [en_snoc]; rfl
  · simp only [go_sem, e0, e18, e2, eH2, e4, eH4, e6, e5, eH5, en_len, k1, ex, gz, Int.toNat_natCast, eLA]
    refine callL (ws := []) (ns := []) C1 rfl ?_ rfl rfl ?_
    · simp only [go_sem, lendTs, lendT, en_nil]
    simp only [go_sem, e0, e18, e2, eH2, e4, eH4, e6, e5, eH5, en_len, k1, scalarT, scalarP, scalarC, List.all_cons, Bool.false_and, w2, ht1, q1, q2, ite_self]
    refine ⟨by omega, d', codes ++ [code], cDk d', _, hpl2.symm, .inr rfl, by rw [List.length_append, hl]; rfl, e0, e18, ⟨u2, e2, eH2⟩, ⟨u4, e4, rfl⟩, rfl, by rw [List.length_append]; rfl, ?_⟩
    rw [en_snoc]; rfl
end Go.V
set_option linter.unusedSimpArgs false
set_option maxRecDepth 20000
namespace Go.V
open Go.Proofs
theorem openD_ok {d : Dk} (hD : DOk d) : ACallsF Tryz.prog 13 [tDk d] [] (tLs (opn d)) := by
  obtain ⟨s, hs, C⟩ := openI_ok d hD.fine
  rcases hs with ⟨_, rfl⟩ | ⟨h, _⟩
  · exact C
  · exact absurd hD h
theorem cLs8 (s : Ls) : (cLs s)[8]? = some (.v (.sl (en eR s.recs))) := rfl
def ok4 := okF.gu (P := Tryz.prog) tab Tryz.func4 Tryz.ntmps4 (by conv => lhs; cbv) (by kernel_rfl)
def inv4 (acts : List LA) (d : Dk) (codes : List Int) (i : Nat) (σ : St) : Prop := ∃ v, σ.t 3 = tL (en eLA acts) ∧ σ.t 7 = tL (en eI codes) ∧ (∃ u, σ.t 6 = .c (.ptr 6 u 0) ∧ σ.H 6 = some (.var u 29 (cDk d))) ∧ σ.t 9 = .i i ∧ σ.t 8 = .c (.own 39 v (bareL acts codes i).length) ∧ σ.H 39 = some (.arr v true 6 32 (en eLA (bareL acts codes i)))
def inv4b (d x : Dk) (others : List Int) (i : Nat) (σ : St) : Prop := (∀ c ∈ others.take i, c = 0) ∧ σ.t 11 = tL (en eI others) ∧ (∃ u, σ.t 6 = .c (.ptr 6 u 0) ∧ σ.H 6 = some (.var u 29 (cDk d))) ∧ (∃ u, σ.t 10 = .c (.ptr 10 u 0) ∧ σ.H 10 = some (.var u 29 (cDk x))) ∧ σ.t 12 = .i i
set_option maxHeartbeats 2000000 in
theorem lawSame_ok (bs : List UInt8) : ACallsF Tryz.prog 4 [.c (.v (.sl (encB bs)))] [] (.b true) := by
  refine ACallsF.intro ok4 follows fun X c0 => ?_
  by_cases hb : (bs.length : Int) > 1048576
  · simp only [go_sem, encB_len, hb]
  obtain ⟨acts, ⟨hl, hok, hh, hc⟩, C1⟩ := drawCalm_ok bs
  have hc := hc (Int.le_refl _)
  have C2 := logPlay_ok acts hok
  have C3 := logPlayI_ok acts hok
  have hD := playR_ok acts
  obtain ⟨b1, b2, b3, b4⟩ := same_law (acts := acts) (by omega) hh hc
  have hcl : (playR acts).2.length = acts.length := by
    have e : playR acts = playG (zDk, []) acts := if_neg (by omega)
    rw [e, playG_len]; simp
  generalize playR acts = pr at *
  obtain ⟨d, codes⟩ := pr
  simp only at C2 C3 hD b1 b2 b3 b4 hcl
  have C4 := loDisk_ok d hD.fine.s
  have C6 := openD_ok hD
  have hbok : ∀ a ∈ bareL acts codes acts.length, okA a := fun a ha => hok a (b1 a ha)
  have C5 := logPlayI_ok _ hbok
  have hDx := playR_ok (bareL acts codes acts.length)
  have hol : (playR (bareL acts codes acts.length)).2.length ≤ 200 := by
    have e : playR (bareL acts codes acts.length) = playG (zDk, []) (bareL acts codes acts.length) := if_neg (by omega)
    rw [e, playG_len]; simp; exact b2
  simp only [go_sem, encB_len, hb]
  refine callC C1 rfl rfl rfl rfl ?_
  simp only [go_sem]
  refine callC C2 rfl rfl rfl rfl ?_
  simp only [go_sem]
  refine callC C3 rfl rfl rfl rfl ?_
  simp only [go_sem, en_len, hcl, ne0]
  refine callC C4 rfl rfl rfl rfl ?_
  simp only [go_sem, en_len, hcl, ne0]
  refine AW.upto acts.length (inv4 acts d codes) ⟨_, rfl, rfl, ⟨_, rfl, rfl⟩, rfl, rfl, rfl⟩ fun i t H c hi h => ?_
  obtain ⟨v, e3, e7, ⟨u6, e6, eH6⟩, e9, e8, eH8⟩ := h
  simp only [T.c, T.i, tL] at e3 e7 e6 eH6 e9 e8 eH8
  have ht1 : (en eLA (bareL acts codes i)).take (bareL acts codes i).length = en eLA (bareL acts codes i) := en_take eLA _
  by_cases k1 : (i : Int) < acts.length
  · obtain ⟨a, hx⟩ : ∃ x, acts[i]? = some x := ⟨_, List.getElem?_eq_getElem (by omega)⟩
    obtain ⟨cd, hy⟩ : ∃ x, codes[i]? = some x := ⟨_, List.getElem?_eq_getElem (by omega)⟩
    have ex := en_at eLA hx
    have ey := en_at eI hy
    have gz : (0 : Int) ≤ i := by omega
    have gc : (i : Int) < codes.length := by omega
    have w2 : IntKind.i64.wrap ((i : Int) + 1) = ((i + 1 : Nat) : Int) := wrap64 (x := (i : Int) + 1) ⟨by omega, by omega⟩
    have hst : bareL acts codes (i + 1) = bareL acts codes i ++ if i = 0 ∨ (a.kind = 1 ∧ cd = 0) then [a] else [] := by rw [bareL, hx, hy]
    have hbl := bareL_len acts codes i
    have l1 : ((bareL acts codes i).length + 1) * 72 ≤ 140737488355328 := by omega
    have l2 : (bareL acts codes i).length ≤ 9223372036854775806 := by omega
    have hadd : (i = 0 ∨ (a.kind = 1 ∧ cd = 0)) → bareL acts codes (i + 1) = bareL acts codes i ++ [a] := fun h => by rw [hst, if_pos h]
    have hnot : ¬ (i = 0 ∨ (a.kind = 1 ∧ cd = 0)) → bareL acts codes (i + 1) = bareL acts codes i := fun h => by rw [hst, if_neg h, List.append_nil]
    clear hst
    by_cases q0 : ((i : Int) == 0) = true
    · have hn := hadd (.inl (by simpa using q0))
      simp only [go_sem, e3, e7, e6, e9, e8, eH8, en_len, k1, q0, ex, ey, gz, gc, Int.toNat_natCast, eLA, eI, ht1, l1, l2, w2, ALV, List.not_mem_nil, false_implies, implies_true, and_self]
      refine ⟨by omega, _, e3, e7, ⟨u6, e6, eH6⟩, rfl, (by rw [hn, List.length_append]; rfl), ?_⟩
      rw [hn, en_snoc]; rfl
    rw [Bool.not_eq_true] at q0
    have q0' : i ≠ 0 := fun h => by rw [h] at q0; cases q0
    by_cases q1 : (a.kind == 1) = true
    · by_cases q2 : (cd == 0) = true
      · have hn := hadd (.inr ⟨by simpa using q1, by simpa using q2⟩)
        simp only [go_sem, e3, e7, e6, e9, e8, eH8, en_len, k1, q0, q1, q2, ex, ey, gz, gc, Int.toNat_natCast, eLA, eI, ht1, l1, l2, w2, ALV, List.not_mem_nil, false_implies, implies_true, and_self]
        refine ⟨by omega, _, e3, e7, ⟨u6, e6, eH6⟩, rfl, (by rw [hn, List.length_append]; rfl), ?_⟩
        rw [hn, en_snoc]; rfl
      · have hn := hnot fun h => h.elim q0' fun h => q2 (by simp [h.2])
        rw [Bool.not_eq_true] at q2
        simp only [go_sem, e3, e7, e6, e9, e8, eH8, en_len, k1, q0, q1, q2, ex, ey, gz, gc, Int.toNat_natCast, eLA, eI, ht1, l1, l2, w2]
        refine ⟨by omega, v, e3, e7, ⟨u6, e6, eH6⟩, rfl, ?_, ?_⟩
        · rw [hn]; exact e8
        · rw [hn]; exact eH8
    · have hn := hnot fun h => h.elim q0' fun h => q1 (by simp [h.1])
      rw [Bool.not_eq_true] at q1
      simp only [go_sem, e3, e7, e6, e9, e8, eH8, en_len, k1, q0, q1, ex, ey, gz, gc, Int.toNat_natCast, eLA, eI, ht1, l1, l2, w2]
      refine ⟨by omega, v, e3, e7, ⟨u6, e6, eH6⟩, rfl, ?_, ?_⟩
      · rw [hn]; exact e8
      · rw [hn]; exact eH8
  have hi2 : i = acts.length := by omega
  subst hi2
  generalize bareL acts codes acts.length = bare at *
  generalize playR bare = px at *
  obtain ⟨x, others⟩ := px
  simp only at C5 hDx b3 b4 hol
  have C7 := openD_ok hDx
  have hrl := opn_recs hD
  have C8 := loRecords_ok (opn d).recs (by omega)
  simp only [go_sem, e3, e7, e6, eH6, e9, e8, eH8, en_len, k1]
  refine callL (ws := [(39, .arr v false 6 32 (en eLA bare))]) (ns := [39]) C5 rfl ?_ rfl rfl ?_
  · simp only [go_sem, lendTs, lendT, e8, eH8, ht1, en_len]
  simp only [go_sem, scalarT, scalarP, scalarC, List.all_cons, Bool.false_and, ite_self]
  refine AW.upto others.length (inv4b d x others) ⟨(fun c hc => by rw [List.take_zero] at hc; cases hc), rfl, ⟨_, e6, eH6⟩, ⟨_, rfl, rfl⟩, rfl⟩ fun j t H c hj h => ?_
  clear e3 e7 e6 eH6 e9 e8 eH8 ht1
  obtain ⟨hz, e11, ⟨u6, e6, eH6⟩, ⟨u10, e10, eH10⟩, e12⟩ := h
  simp only [T.c, T.i, tL] at e11 e6 eH6 e10 eH10 e12
  by_cases k2 : (j : Int) < others.length
  · obtain ⟨cd, hy⟩ : ∃ x, others[j]? = some x := ⟨_, List.getElem?_eq_getElem (by omega)⟩
    have ey := en_at eI hy
    have gz : (0 : Int) ≤ j := by omega
    have w2 : IntKind.i64.wrap ((j : Int) + 1) = ((j + 1 : Nat) : Int) := wrap64 (x := (j : Int) + 1) ⟨by omega, by omega⟩
    rcases b3 cd (List.mem_of_getElem? hy) with rfl | rfl
    · simp only [go_sem, e11, e6, eH6, e10, eH10, e12, en_len, k2, ey, gz, Int.toNat_natCast, eI, w2, ne0]
      refine ⟨by omega, fun c hc => ?_, e11, ⟨u6, e6, eH6⟩, ⟨u10, e10, eH10⟩, rfl⟩
      rw [take_snoc hy, List.mem_append, List.mem_singleton] at hc
      exact hc.elim (hz c) fun h => h
    · have q1 : ((4 : Int) != 0) = true := rfl
      simp only [go_sem, e11, e6, eH6, e10, eH10, e12, en_len, k2, ey, gz, Int.toNat_natCast, eI, w2, q1]
  have hj2 : j = others.length := by omega
  rw [hj2, List.take_length] at hz
  have hrec := b4 hz
  simp only [go_sem, e11, e6, eH6, e10, eH10, e12, en_len, k2]
  refine callC C7 rfl rfl rfl rfl ?_
  simp only [go_sem, e6, eH6, cLs8]
  refine callC C6 rfl rfl rfl rfl ?_
  simp only [go_sem, hrec, cLs8]
  refine callC C8 rfl rfl rfl rfl ?_
  simp only [go_sem]
end Go.V

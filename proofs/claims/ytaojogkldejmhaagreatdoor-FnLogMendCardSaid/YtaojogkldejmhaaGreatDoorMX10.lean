/- The Go function laws.FnLogMend returns true for every input, in the program's own Lean form: however power was lost, the log can be mended, and goes on. Conditions: those of the given row and card. -/
import Derived.Test.YtaojogkldejmhaaGreatDoorMX9
import Derived.Test.YtaojogkldejmhaaGreatDoorMK1
set_option linter.unusedVariables false
set_option linter.unusedSimpArgs false
set_option linter.defProp false
set_option maxRecDepth 20000
namespace Go.V
open Go.Proofs
def ok49 := okF.gu (P := Tryz.prog) tab Tryz.func49 Tryz.ntmps49 (by conv => lhs; cbv) (by kernel_rfl)
def inv49 (ns : List ByteArray) (i : Nat) (σ : St) : Prop := σ.t 0 = tL (en eS ns) ∧ σ.t 1 = tL (en eS ns) ∧ σ.t 5 = .i i
theorem loTexts_ok (ns : List ByteArray) (hl : ns.length ≤ 9000000000000000000) : ACallsF Tryz.prog 49 [tL (en eS ns), tL (en eS ns)] [] (.b true) := by
  refine ACallsF.intro ok49 follows fun X c0 => ?_
  simp only [go_sem, en_len, ne0]
  refine AW.upto ns.length (inv49 ns) ⟨rfl, rfl, rfl⟩ fun i t H c hi h => ?_
  obtain ⟨e0, e1, e5⟩ := h
  simp only [T.c, T.i, tL] at e0 e1 e5
  by_cases k1 : (i : Int) < ns.length
  · obtain ⟨x, hx⟩ : ∃ x, ns[i]? = some x := ⟨_, List.getElem?_eq_getElem (by omega)⟩
    have ex := en_at eS hx
    have gz : (0 : Int) ≤ i := by omega
    have w2 : IntKind.i64.wrap ((i : Int) + 1) = ((i + 1 : Nat) : Int) := wrap64 (x := (i : Int) + 1) ⟨by omega, by omega⟩
    simp only [go_sem, e0, e1, e5, en_len, k1, ex, gz, Int.toNat_natCast, eS, sStr, w2]
    exact ⟨by omega, e0, e1, rfl⟩
  · simp only [go_sem, e0, e1, e5, en_len, k1]
set_option maxRecDepth 20000 in
def ok12 := okF.of (P := Tryz.prog) Tryz.func12 Tryz.ntmps12 (by kernel_rfl) (by conv => lhs; cbv) (by conv => lhs; cbv)
def Hd12 (d : Dk) (σ : St) : Prop := (∃ u, σ.t 2 = .c (.ptr 2 u 0) ∧ σ.H 2 = some (.var u 29 (cDk d))) ∧ (∃ u, σ.t 3 = .c (.ptr 3 u 0) ∧ σ.H 3 = some (.var u 29 (cDk d)))
def inv12 (d : Dk) (i : Nat) (σ : St) : Prop := Hd12 d σ ∧ σ.t 5 = .i i
def inv12b (d : Dk) (i : Nat) (σ : St) : Prop := Hd12 d σ ∧ σ.t 6 = .i i
theorem loDisk_ok (d : Dk) (hd : smallDk d) : ACallsF Tryz.prog 12 [tDk d, tDk d] [] (.b true) := by
  have l1 := hd.f
  have l2 := hd.n
  have l3 := hd.m
  refine ACallsF.intro ok12 follows fun X c0 => ?_
  simp only [go_sem, en_len, ne0]
  refine callC (loTexts_ok d.names (by omega)) rfl rfl rfl rfl ?_
  simp only [go_sem]
  refine AW.upto d.files.length (inv12 d) ⟨⟨⟨_, rfl, rfl⟩, ⟨_, rfl, rfl⟩⟩, rfl⟩ fun i t H c hi h => ?_
  obtain ⟨⟨⟨u2, e2, eH2⟩, ⟨u3, e3, eH3⟩⟩, e5⟩ := h
  simp only [T.c, T.i] at e2 eH2 e3 eH3 e5
  by_cases k1 : (i : Int) < d.files.length
  · obtain ⟨x, hx⟩ : ∃ x, d.files[i]? = some x := ⟨_, List.getElem?_eq_getElem (by omega)⟩
    have ex := en_at eF hx
    have gz : (0 : Int) ≤ i := by omega
    have w2 : IntKind.i64.wrap ((i : Int) + 1) = ((i + 1 : Nat) : Int) := wrap64 (x := (i : Int) + 1) ⟨by omega, by omega⟩
    simp only [go_sem, e2, eH2, e3, eH3, e5, en_len, k1, ex, gz, Int.toNat_natCast, eF, w2]
    exact ⟨by omega, ⟨⟨u2, e2, eH2⟩, ⟨u3, e3, eH3⟩⟩, rfl⟩
  · simp only [go_sem, e2, eH2, e3, eH3, e5, en_len, k1]
    refine AW.upto d.moves.length (inv12b d) ⟨⟨⟨u2, e2, eH2⟩, ⟨u3, e3, eH3⟩⟩, rfl⟩ fun j t H c hj h => ?_
    clear e2 eH2 e3 eH3
    obtain ⟨⟨⟨u2, e2, eH2⟩, ⟨u3, e3, eH3⟩⟩, e6⟩ := h
    simp only [T.c, T.i] at e2 eH2 e3 eH3 e6
    by_cases k2 : (j : Int) < d.moves.length
    · obtain ⟨x, hx⟩ : ∃ x, d.moves[j]? = some x := ⟨_, List.getElem?_eq_getElem (by omega)⟩
      have ex := en_at eM hx
      have gz : (0 : Int) ≤ j := by omega
      have w2 : IntKind.i64.wrap ((j : Int) + 1) = ((j + 1 : Nat) : Int) := wrap64 (x := (j : Int) + 1) ⟨by omega, by omega⟩
      simp only [go_sem, e2, eH2, e3, eH3, e6, en_len, k2, ex, gz, Int.toNat_natCast, eM, w2]
      exact ⟨by omega, ⟨⟨u2, e2, eH2⟩, ⟨u3, e3, eH3⟩⟩, rfl⟩
    · simp only [go_sem, e2, eH2, e3, eH3, e6, en_len, k2]
set_option maxRecDepth 20000 in
def ok18 := okF.of (P := Tryz.prog) Tryz.func18 Tryz.ntmps18 (by kernel_rfl) (by conv => lhs; cbv) (by conv => lhs; cbv)
def inv18 (rs : List LR) (i : Nat) (σ : St) : Prop := σ.t 0 = tL (en eR rs) ∧ σ.t 1 = tL (en eR rs) ∧ σ.t 5 = .i i
theorem loRecords_ok (rs : List LR) (hl : rs.length ≤ 9000000000000000000) : ACallsF Tryz.prog 18 [tL (en eR rs), tL (en eR rs)] [] (.b true) := by
  refine ACallsF.intro ok18 follows fun X c0 => ?_
  simp only [go_sem, en_len, ne0]
  refine AW.upto rs.length (inv18 rs) ⟨rfl, rfl, rfl⟩ fun i t H c hi h => ?_
  obtain ⟨e0, e1, e5⟩ := h
  simp only [T.c, T.i, tL] at e0 e1 e5
  by_cases k1 : (i : Int) < rs.length
  · obtain ⟨x, hx⟩ : ∃ x, rs[i]? = some x := ⟨_, List.getElem?_eq_getElem (by omega)⟩
    have ex := en_at eR hx
    have gz : (0 : Int) ≤ i := by omega
    have w2 : IntKind.i64.wrap ((i : Int) + 1) = ((i + 1 : Nat) : Int) := wrap64 (x := (i : Int) + 1) ⟨by omega, by omega⟩
    simp only [go_sem, e0, e1, e5, en_len, k1, ex, gz, Int.toNat_natCast, eR, w2]
    exact ⟨by omega, e0, e1, rfl⟩
  · simp only [go_sem, e0, e1, e5, en_len, k1]
end Go.V
set_option linter.unusedSimpArgs false
namespace Go.V
open Go.Proofs
theorem i64_len {rs : List LR} (h : rs.length ≤ 3000000) : IntKind.i64.wrap ((rs.length : Int) + 1) = ((rs.length + 1 : Nat) : Int) := wrap64 (x := (rs.length : Int) + 1) ⟨by omega, by omega⟩
theorem opn_recs {d : Dk} (hD : DOk d) : (opn d).recs.length ≤ 3000000 := by
  by_cases hc : (opn d).code = 0
  · obtain ⟨n, p, rs, x, hl, ho⟩ := opn_at hc
    rw [ho]
    have hx := lk_size hD hl.opn
    obtain ⟨h5, h6, h7, h8, h9⟩ := planOk_ok hl.ok
    have key : ∀ (ps : List LP) (rs : List LR), prtsV (lk d) ps = some rs → rs.length ≤ 20000 * ps.length := by
      intro ps
      induction ps with
      | nil => intro rs h; rw [prtsV] at h; cases h; simp
      | cons q ps ih =>
        intro rs h
        rw [prtsV] at h
        split at h
        · cases h
        · rename_i l hq
          cases hr : prtsV (lk d) ps with
          | none => rw [hr] at h; cases h
          | some m =>
            rw [hr] at h
            cases h
            have h1 := ih m hr
            have h2 : l.length ≤ 20000 := by
              rw [prtV] at hq
              split at hq
              · cases hq
              · rename_i y hy
                split at hq
                · cases hq
                · split at hq
                  · cases hq
                    have hf := frames_le (y.extract 0 q.size.toNat)
                    have hs := lk_size hD hy
                    have : (y.extract 0 q.size.toNat).size ≤ y.size := by rw [ByteArray.size_extract]; omega
                    omega
                  · cases hq
            rw [List.length_append, List.length_cons]; omega
    have h1 := key _ _ hl.parts
    have h2 := frames_le x
    show (rs ++ (frames x).1).length ≤ _
    rw [List.length_append]
    omega
  · have : (opn d).recs = [] := by
      rcases opn_ok hD with ⟨h, _⟩ | h | h
      · exact absurd h hc
      · rw [h]; rfl
      · rw [h]; rfl
    rw [this]; exact Nat.zero_le _
end Go.V
set_option linter.unusedSimpArgs false
set_option maxRecDepth 20000
namespace Go.V
open Go.Proofs
/-! Contracts whose results are closed. -/
theorem stepC_ok (d : Dk) (a : LA) (hd : fineDk d) (ha : a.data.size ≤ 1048576) : ∃ r, StpR d a r ∧ ACallsF Tryz.prog 11 [tDk d, tLA a] [] (tDkII r) := by
  obtain ⟨b, hb, hC⟩ := okI_ok d hd
  by_cases hD : DOk d
  rotate_left
  · have hbf : b = false := by cases hq : b with | false => rfl | true => exact absurd (hb.1 hq) hD
    rw [hbf] at hC
    refine ⟨_, .inr ⟨hD, rfl⟩, ACallsF.intro ok11 follows fun X c0 => ?_⟩
    simp only [go_sem]
    refine callC hC rfl rfl rfl rfl ?_
    simp only [go_sem, en_nil]
  rw [hb.2 hD] at hC
  refine ⟨_, .inl ⟨hD, rfl⟩, ?_⟩
  have hS := istep_ok d a hD ha 2101 2102 2103
  obtain ⟨l1, l2, l3⟩ := stepR_len hD a
  generalize stepR d a = r at *
  obtain ⟨rd, rp, rc⟩ := r
  refine ACallsF.intro ok11 follows fun X c0 => ?_
  simp only [go_sem]
  refine callC hC rfl rfl rfl rfl ?_
  simp only [go_sem]
  refine callDkII (ws := []) (ns := []) hS rfl rfl rfl (by decide) ⟨?_, ?_⟩
  · simp only [go_sem]
  simp only [go_sem, false_implies, and_self, imp_self, en_take2]
theorem istepC_ok (d : Dk) (a : LA) (hD : DOk d) (ha : a.data.size ≤ 1048576) : ACallsF Tryz.prog 48 [tDk d, tLA a] [] (tDkII (stepR d a)) := by
  have hd := hD.fine
  obtain ⟨s1, s2, s3⟩ := stepR_len hD a
  have hcl := cloneDk_ok (stepR d a).1 ⟨by omega, by omega, by omega⟩ 2101 2102 2103
  have hW := writesI_ok d hD a ha
  obtain ⟨hw, hwl⟩ := wr_fine hD a
  have hG := writes_ok d (wr d a).1 a hD (by omega) hw
  unfold stepR at hcl ⊢
  generalize wr d a = W at *
  obtain ⟨ws, p, wc⟩ := W
  simp only at hw hwl hG hcl ⊢
  by_cases k : wc = 0
  rotate_left
  · have k' : (wc != 0) = true := bne_iff_ne.2 k
    rw [if_pos k] at hcl ⊢
    refine ACallsF.intro ok48 follows fun X c0 => ?_
    simp only [go_sem]
    refine callC hW rfl rfl rfl rfl ?_
    simp only [go_sem, k']
    refine callDk (ws := []) (ns := []) hcl rfl rfl rfl (by decide) ⟨rfl, ?_⟩
    simp only [go_sem, false_implies, and_self, imp_self, en_take2]
  subst k
  rw [if_neg (by omega)] at hcl ⊢
  have n0 : ((0 : Int) != 0) = false := rfl
  generalize goS a 0 d ws = r at *
  obtain ⟨rd, rc⟩ := r
  simp only at hcl ⊢
  by_cases k : rc = 0
  · subst k
    rw [if_pos rfl]
    refine ACallsF.intro ok48 follows fun X c0 => ?_
    simp only [go_sem]
    refine callC hW rfl rfl rfl rfl ?_
    simp only [go_sem, n0]
    refine callC hG rfl rfl rfl rfl ?_
    simp only [go_sem, n0]
    refine callDk (ws := []) (ns := []) hcl rfl rfl rfl (by decide) ⟨rfl, ?_⟩
    simp only [go_sem, false_implies, and_self, imp_self, en_take2]
  · have k' : (rc != 0) = true := bne_iff_ne.2 k
    rw [if_neg k]
    refine ACallsF.intro ok48 follows fun X c0 => ?_
    simp only [go_sem]
    refine callC hW rfl rfl rfl rfl ?_
    simp only [go_sem, n0]
    refine callC hG rfl rfl rfl rfl ?_
    simp only [go_sem, k']
    refine callDk (ws := []) (ns := []) hcl rfl rfl rfl (by decide) ⟨rfl, ?_⟩
    simp only [go_sem, false_implies, and_self, imp_self, en_take2]
def ok13 := okF.gu (P := Tryz.prog) tab Tryz.func13 Tryz.ntmps13 (by conv => lhs; cbv) (by kernel_rfl)
/-- What LogOpen says of any disk. -/
def OpnR (d : Dk) (s : Ls) : Prop := (DOk d ∧ s = opn d) ∨ (¬ DOk d ∧ s = zLs 7)
theorem openI_ok (d : Dk) (hd : fineDk d) : ∃ s, OpnR d s ∧ ACallsF Tryz.prog 13 [tDk d] [] (tLs s) := by
  obtain ⟨b, hb, hC⟩ := okI_ok d hd
  by_cases hD : DOk d
  rotate_left
  · have hbf : b = false := by cases hq : b with | false => rfl | true => exact absurd (hb.1 hq) hD
    rw [hbf] at hC
    refine ⟨_, .inr ⟨hD, rfl⟩, ACallsF.intro ok13 follows fun X c0 => ?_⟩
    simp only [go_sem]
    refine callC hC rfl rfl rfl rfl ?_
    simp only [go_sem, zLs, zPl, en_nil]
  rw [hb.2 hD] at hC
  refine ⟨_, .inl ⟨hD, rfl⟩, ?_⟩
  have hS := opnI_ok d hD
  generalize opn d = s at *
  refine ACallsF.intro ok13 follows fun X c0 => ?_
  simp only [go_sem]
  refine callC hC rfl rfl rfl rfl ?_
  simp only [go_sem]
  refine callC hS rfl rfl rfl rfl ?_
  simp only [go_sem]
def ok24 := okF.gu (P := Tryz.prog) tab Tryz.func24 Tryz.ntmps24 (by conv => lhs; cbv) (by kernel_rfl)
theorem cutI17_ok (d : Dk) (hD : DOk d) (m : Int) (keep : List Int) : ACallsF Tryz.prog 24 [tDk d, .i m, tL (en eI keep)] [] (tDk (cutD d m keep)) := by
  obtain ⟨b, hb, hC⟩ := okI_ok d hD.fine
  rw [hb.2 hD] at hC
  refine ACallsF.intro ok24 follows fun X c0 => ?_
  simp only [go_sem]
  refine callC hC rfl rfl rfl rfl ?_
  simp only [go_sem]
  refine callC (cutI_ok d hD m keep) rfl rfl rfl rfl ?_
  simp only [go_sem]
end Go.V
set_option linter.unusedSimpArgs false
namespace Go.V
open Go.Proofs
theorem inv_zero : Inv zDk [] 0 0 := by
  refine ⟨[], fileOf [], ⟨zDk_ok, rfl, rfl, fun _ _ => rfl⟩, (fun nm hm => by cases hm), Int.le_refl _, .inl ⟨fun m _ _ y hy => ?_, rfl, rfl, (fun nm hm => by cases hm), Nat.zero_le _⟩⟩
  have := (vw_mem hy).1
  cases this
/-- What is read of a played log. -/
theorem Inv.opn {d : Dk} {L : List ByteArray} {lo : Nat} {T : Int} (h : Inv d L lo T) : DOk d ∧ (opn d = zLs 1 ∧ L = [] ∨ (opn d).code = 0 ∧ (opn d).recs = recsL L ∧ (opn d).next = (L.length : Int) + 1) := by
  obtain ⟨N, φ, hd, hT, hL, hI⟩ := h
  refine ⟨hd.ok, ?_⟩
  rcases hI with ⟨g1, g2, _⟩ | ⟨n, p, rs, x, h, hlo⟩
  · exact .inl ⟨opn_none (by rw [hd.vw]; exact g1), g2⟩
  · obtain ⟨hop, hx⟩ := hd.opn h
    rw [hop]
    refine .inr ⟨rfl, h.recs, ?_⟩
    show p.first + ((frames x).1.length : Int) = _
    rw [h.first, h.len]; omega
theorem Inv.recs {d : Dk} {L : List ByteArray} {lo : Nat} {T : Int} (h : Inv d L lo T) : (Go.V.opn d).recs = recsL L := by
  rcases h.opn.2 with ⟨h1, h2⟩ | ⟨_, h2, _⟩
  · rw [h1, h2]; rfl
  · exact h2
theorem Inv.code {d : Dk} {L : List ByteArray} {lo : Nat} {T : Int} (h : Inv d L lo T) : (Go.V.opn d).code = 0 ∨ ((Go.V.opn d).code = 1 ∧ L = []) := by
  rcases h.opn.2 with ⟨h1, h2⟩ | ⟨h1, _⟩
  · exact .inr ⟨by rw [h1]; rfl, h2⟩
  · exact .inl h1
theorem InvW.opn {d : Dk} {L : List ByteArray} {lo : Nat} {T : Int} (h : InvW d L lo T) : (opn d).code = 0 ∧ (opn d).torn = false := by
  obtain ⟨N, φ, n, p, rs, x, h1, h2, h3, h4, h5, h6⟩ := h
  obtain ⟨hop, hx⟩ := h1.opn h4
  rw [hop]
  exact ⟨rfl, h4.torn.2 h6⟩
theorem wr_code {d : Dk} {a : LA} (h : (opn d).code = 0 ∨ (opn d).code = 1) : (wr d a).2.2 ≠ 6 := by
  unfold wr
  split
  · simp only; split <;> decide
  split
  · simp only; omega
  split
  · simp only; decide
  split
  · simp only; split <;> decide
  split
  · simp only; decide
  split
  · simp only; decide
  split
  · split <;> (simp only; decide)
  split
  · simp only; decide
  split
  · simp only; decide
  · simp only; decide
/-- An act on a played log. -/
theorem inv_step {d : Dk} {L : List ByteArray} {lo : Nat} {T : Int} (hI : Inv d L lo T) (a : LA) :
    ((stepR d a).2.2 = 0 → InvW (stepR d a).1 (if a.kind = 1 then L ++ [a.data] else L) (if a.kind = 1 then lo else L.length) (T + 1) ∧ (a.kind = 1 → (stepR d a).2.1 = (L.length : Int) + 1) ∧ (a.kind = 4 → Neat (stepR d a).1 L (T + 1)) ∧ a.cuts = false) ∧
    ((stepR d a).2.2 = 6 → a.cuts = true ∧ ∃ k, lo ≤ k ∧ k ≤ (if a.kind = 1 then L ++ [a.data] else L).length ∧ Inv (stepR d a).1 ((if a.kind = 1 then L ++ [a.data] else L).take k) k (T + 1)) ∧
    ((stepR d a).2.2 ≠ 0 → (stepR d a).2.2 ≠ 6 → (stepR d a).1 = d) := by
  by_cases hw : (wr d a).2.2 = 0
  · obtain ⟨hs, hp⟩ := wr_safe hI a hw
    obtain ⟨g1, g2⟩ := Safe.go (a := a) _ 0 _ hs
    have e : stepR d a = ((goS a 0 d (wr d a).1).1, if (goS a 0 d (wr d a).1).2 = 0 then (wr d a).2.1 else 0, (goS a 0 d (wr d a).1).2) := by rw [stepR, if_neg (by rw [hw]; decide)]
    rw [e]
    cases hc : a.cuts with
    | true =>
      obtain ⟨d', hG, hgo⟩ := g1 hc
      rw [hgo]
      refine ⟨fun h => absurd (show (6 : Int) = 0 from h) (by decide), fun _ => ⟨rfl, hG a.moves a.keep⟩, fun _ h => absurd rfl h⟩
    | false =>
      obtain ⟨h0, hW, hN⟩ := g2 hc
      rw [h0]
      refine ⟨fun _ => ⟨hW, fun k => ?_, hN, rfl⟩, fun h => absurd h (by decide), fun h => absurd rfl h⟩
      rw [if_pos rfl]; exact hp k
  · have e : stepR d a = (d, 0, (wr d a).2.2) := by rw [stepR, if_pos hw]
    have h6 := wr_code (d := d) (a := a) (by rcases hI.code with h | ⟨h, _⟩; exact .inl h; exact .inr h)
    rw [e]
    exact ⟨fun h => absurd h hw, fun h => absurd h h6, fun _ _ => rfl⟩
theorem Inv.up {d : Dk} {L : List ByteArray} {lo : Nat} {T T' : Int} (h : Inv d L lo T) (hT : T ≤ T') : Inv d L lo T' := by
  obtain ⟨N, φ, h1, h2, h3, h4⟩ := h
  exact ⟨N, φ, h1, fun nm hm => by have := h2 nm hm; omega, by omega, h4⟩
/-- A mend of a played log goes well. -/
theorem mend_zero {d : Dk} {L : List ByteArray} {lo : Nat} {T : Int} (hI : Inv d L lo T) (hT : T < 999999) {a : LA} (ha : a.kind = 4) (hc : a.cuts = false) : ((opn d).torn = true ∧ 40 ≤ (opn d).plan.parts.length ∧ stepR d a = (d, 0, 4)) ∨ (¬ ((opn d).torn = true ∧ 40 ≤ (opn d).plan.parts.length) ∧ (stepR d a).2.2 = 0) := by
  have hn6 : (stepR d a).2.2 ≠ 6 := fun h => by
    have := ((inv_step hI a).2.1 h).1
    rw [hc] at this; cases this
  by_cases hw : (wr d a).2.2 = 0
  · obtain ⟨hs, _⟩ := wr_safe hI a hw
    obtain ⟨_, g2⟩ := Safe.go (a := a) _ 0 _ hs
    have e : stepR d a = ((goS a 0 d (wr d a).1).1, if (goS a 0 d (wr d a).1).2 = 0 then (wr d a).2.1 else 0, (goS a 0 d (wr d a).1).2) := by rw [stepR, if_neg (by rw [hw]; decide)]
    refine .inr ⟨fun h => ?_, by rw [e]; exact (g2 hc).1⟩
    obtain ⟨N, φ, hd, hTN, hL, hI⟩ := hI
    rcases hI with ⟨g1, _⟩ | ⟨n, p, rs, x, hl, hlo⟩
    · rw [opn_none (by rw [hd.vw]; exact g1)] at h
      cases h.1
    · obtain ⟨hop, hx⟩ := hd.opn hl
      rw [hop] at h
      unfold wr at hw
      rw [hop, if_neg (fun h => by cases h.1), if_neg (fun h => h rfl), if_neg (by omega), if_pos ha] at hw
      have hm : md d (lsOf n p rs x) = none := by
        unfold md
        rw [if_pos h.1]
        unfold cl
        rw [if_neg (by have := h.2; omega)]
        rfl
      rw [hm] at hw
      cases hw
  · have e : stepR d a = (d, 0, (wr d a).2.2) := by rw [stepR, if_pos hw]
    left
    obtain ⟨N, φ, hd, hTN, hL, hI⟩ := hI
    rcases hI with ⟨g1, g2, g3, g4, g5⟩ | ⟨n, p, rs, x, hl, hlo⟩
    · have hop := opn_none (by rw [hd.vw]; exact g1)
      obtain ⟨e1, e2, e3⟩ := hd.nms
      have hT2 := topN_bd hTN (by have := hL; omega)
      have hb : (bi d).isSome = true := by
        unfold bi
        rw [e1, e3, if_pos ⟨by omega, by omega⟩]
        rfl
      unfold wr at hw
      rw [if_pos ⟨by rw [hop]; rfl, ha⟩, hb] at hw
      exact absurd rfl hw
    · obtain ⟨hop, hx⟩ := hd.opn hl
      have hwr : wr d a = ((md d (lsOf n p rs x)).getD [], 0, if (md d (lsOf n p rs x)).isSome = true then 0 else 4) := by
        unfold wr
        rw [hop, if_neg (fun h => by cases h.1), if_neg (fun h => h rfl), if_neg (by omega), if_pos ha]
      rw [hwr] at hw
      have hm : md d (lsOf n p rs x) = none := by
        cases hq : md d (lsOf n p rs x) with
        | none => rfl
        | some l => rw [hq] at hw; exact absurd rfl hw
      have hmm := hm
      unfold md at hm
      by_cases ht : (lsOf n p rs x).torn = true
      · rw [if_pos ht] at hm
        have hcl : cl (ours (lsOf n p rs x)).length (topN (ours (lsOf n p rs x))) (lsOf n p rs x) = none := by
          cases hq : cl (ours (lsOf n p rs x)).length (topN (ours (lsOf n p rs x))) (lsOf n p rs x) with
          | none => rfl
          | some l => rw [hq] at hm; cases hm
        unfold cl at hcl
        split at hcl
        · cases hcl
        · rename_i hcond
          have hp : p.parts.length ≤ 40 := (planOk_ok hl.here.ok).1
          have hT2 := topN_bd (fun nm hm => hTN nm (hl.ours hm)) (by have := hL; omega)
          have hol := ours_len (lsOf n p rs x)
          have hpl : (lsOf n p rs x).plan.parts.length = p.parts.length := rfl
          rw [hpl] at hcond hol
          refine ⟨by rw [hop]; exact ht, ?_, ?_⟩
          · rw [hop]
            show 40 ≤ p.parts.length
            refine Classical.byContradiction fun h => hcond ⟨by omega, by omega, by omega⟩
          · rw [e, hwr, hmm]; rfl
      · rw [if_neg ht] at hm; cases hm
/-- What is neat is not changed by a mend. -/
theorem mend_again {d : Dk} {L : List ByteArray} {T : Int} (h : Neat d L T) {a : LA} (ha : a.kind = 4) (hc : a.cuts = false) : (stepR d a).2.2 = 0 ∧ (stepR d a).1 = d := by
  obtain ⟨N, φ, n, p, rs, x, hd, hT, hL, hl, hk, hw, ho⟩ := h
  obtain ⟨hop, hx⟩ := hd.opn hl
  have hth : th d = N := hd.nms.2.1
  have hno : notOurs (lsOf n p rs x) N = [] := List.filter_eq_nil_iff.2 fun y hy => by simp [has_true.2 (ho y hy)]
  have hmd : md d (lsOf n p rs x) = some [⟨3, seg p.opn, e0⟩, ⟨5, e0, e0⟩] := by
    unfold md
    rw [if_neg (by rw [hl.torn.2 hw]; decide), mdL, hth, hno]
    rfl
  have hwr : wr d a = ([⟨3, seg p.opn, e0⟩, ⟨5, e0, e0⟩], 0, 0) := by
    unfold wr
    rw [hop, if_neg (fun h => by cases h.1), if_neg (fun h => h rfl), if_neg (by omega), if_pos ha, hmd]
    rfl
  -- the sync leaves the disk
  obtain ⟨k1, k2⟩ := hd.sync (nm := seg p.opn) (x := e0) hl.data.1
  have same : ∀ {d' : Dk} {ψ : ByteArray → DF}, Is d' N [] ψ → (∀ nm ∈ N, ψ nm = φ nm) → d' = d := by
    intro d' ψ hd' hψ
    have hm1 : made d = N := by rw [hd.made]; simp [mades]
    have hm2 : made d' = N := by rw [hd'.made]; simp [mades]
    have hf : ∀ {e : Dk} (_ : DOk e), e.files = (made e).map (fileOf e.files) := fun {e} hD => by
      refine List.ext_getElem? fun i => ?_
      rw [List.getElem?_map]
      cases hi : e.files[i]? with
      | none =>
        have := hD.l
        rw [List.getElem?_eq_none_iff] at hi
        rw [List.getElem?_eq_none (by omega)]; rfl
      | some f =>
        have hF := hD.files i f hi
        rw [hF.made]
        obtain ⟨j, q1, q2, q3⟩ := hD.find (List.mem_of_getElem? hF.made)
        have : j = i := by have := hF.one; omega
        subst this
        rw [hi] at q2
        exact congrArg some (Option.some.inj q2)
    have e1 : d'.files = d.files := by
      rw [hf hd'.ok, hf hd.ok, hm1, hm2]
      refine List.map_congr_left fun nm hm => ?_
      rw [hd'.f nm (by rw [hm2]; exact hm), hd.f nm (by rw [hm1]; exact hm), hψ nm hm]
    have e2 := hd'.n.trans hd.n.symm
    have e3 := hd'.m.trans hd.m.symm
    cases d; cases d'
    simp only at e1 e2 e3
    rw [e1, e2, e3]
  have hφ : ∀ nm ∈ N, upF φ (seg p.opn) ⟨seg p.opn, (φ (seg p.opn)).data, (φ (seg p.opn)).data.size⟩ nm = φ nm := fun nm hm => by
    by_cases e : nm = seg p.opn
    · rw [e, upF_at, ← hk _ hl.data.1]
      have := hd.name (hd.mem hl.data.1)
      cases hz : φ (seg p.opn) with
      | mk a b c => rw [hz] at this; simp only at this; rw [this]
    · rw [upF_ne e]
  have hs1 := same k2 hφ
  obtain ⟨k3, k4⟩ := hd.dirs (nm := e0) (x := e0)
  have hs2 := same k4 fun _ _ => rfl
  have hgo : goS a 0 d [⟨3, seg p.opn, e0⟩, ⟨5, e0, e0⟩] = (d, 0) := by
    unfold goS
    rw [if_neg (by rw [hc]; simp), if_pos k1, hs1]
    unfold goS
    rw [if_neg (by rw [hc]; simp), if_pos k3, hs2]
    unfold goS
    rw [if_neg (by rw [hc]; simp)]
  have e : stepR d a = (d, 0, 0) := by
    rw [stepR, hwr, if_neg (fun h => h rfl)]
    simp only [hgo]
    rfl
  rw [e]
  exact ⟨rfl, rfl⟩
end Go.V
set_option linter.unusedSimpArgs false
namespace Go.V
open Go.Proofs
theorem InvW.gd {d : Dk} {L : List ByteArray} {lo : Nat} {T : Int} (h : InvW d L lo T) : Gd L lo T d := by
  obtain ⟨N, φ, n, p, rs, x, h1, h2, h3, h4, h5, h6⟩ := h
  exact gd_log h1 h4 h5 h2 h3
/-- An act without a loss of power is done or refused by what it finds. -/
theorem calm_code {d : Dk} {L : List ByteArray} {lo : Nat} {T : Int} (hI : Inv d L lo T) {a : LA} (hc : a.cuts = false) : (stepR d a).2.2 = (wr d a).2.2 := by
  by_cases hw : (wr d a).2.2 = 0
  · obtain ⟨hs, _⟩ := wr_safe hI a hw
    obtain ⟨_, g2⟩ := Safe.go (a := a) _ 0 _ hs
    rw [hw, stepR, if_neg (by rw [hw]; decide)]
    exact (g2 hc).1
  · rw [stepR, if_pos hw]
theorem app_code {d : Dk} {a : LA} (h0 : (opn d).code = 0) (ht : (opn d).torn = false) (hk : a.kind = 1) : (wr d a).2.2 = if 2000 < a.data.size then 5 else if (opn d).next > 999999 ∨ (opn d).size + 5 + a.data.size > 8000 then 4 else 0 := by
  unfold wr
  rw [if_neg (by rw [h0]; simp), if_neg (by rw [h0]; decide), if_neg (by omega), if_neg (by omega), if_neg (by rw [ht]; decide), if_neg (by omega), if_neg (by omega)]
  split
  · rfl
  · split <;> rfl
theorem sync_code {d : Dk} {a : LA} (h0 : (opn d).code = 0) (ht : (opn d).torn = false) (hk : a.kind = 2) : (wr d a).2.2 = 0 := by
  unfold wr
  rw [if_neg (by rw [h0]; simp), if_neg (by rw [h0]; decide), if_neg (by omega), if_neg (by omega), if_neg (by rw [ht]; decide), if_pos hk]
/-- What acts make of a log. -/
theorem inv_play : ∀ (l : List LA) (x : Dk × List Int) (L : List ByteArray) (lo : Nat) (T : Int), Inv x.1 L lo T → ∃ L' lo', Inv (playG x l).1 L' lo' (T + l.length)
  | [], x, L, lo, T, h => ⟨L, lo, by rw [playG, List.length_nil]; simpa using h⟩
  | a :: l, x, L, lo, T, h => by
    obtain ⟨s1, s2, s3⟩ := inv_step h a
    have key : ∃ L' lo', Inv (stepR x.1 a).1 L' lo' (T + 1) := by
      by_cases h0 : (stepR x.1 a).2.2 = 0
      · exact ⟨_, _, (s1 h0).1.inv⟩
      · by_cases h6 : (stepR x.1 a).2.2 = 6
        · obtain ⟨_, k, _, _, hk⟩ := s2 h6
          exact ⟨_, _, hk⟩
        · rw [s3 h0 h6]; exact ⟨L, lo, h.up (by omega)⟩
    obtain ⟨L', lo', h'⟩ := key
    obtain ⟨L2, lo2, h2⟩ := inv_play l ((stepR x.1 a).1, x.2 ++ [(stepR x.1 a).2.2]) L' lo' (T + 1) h'
    refine ⟨L2, lo2, ?_⟩
    rw [playG]
    have e : T + ((a :: l).length : Int) = T + 1 + (l.length : Int) := by rw [List.length_cons]; omega
    rw [e]; exact h2
def mendA : LA := ⟨4, ⟨#[]⟩, false, 0, 0, []⟩
/-- However power was lost, the log can be mended, and goes on. -/
theorem mend_law {d : Dk} {L : List ByteArray} {lo : Nat} {T : Int} (hI : Inv d L lo T) (hT : T ≤ 300) (s : ByteArray) (hs : s.size = 4) :
    ((opn d).torn = true ∧ 40 ≤ (opn d).plan.parts.length ∧ stepR d mendA = (d, 0, 4)) ∨
    (¬ ((opn d).torn = true ∧ 40 ≤ (opn d).plan.parts.length) ∧ (stepR d mendA).2.2 = 0 ∧ (opn (stepR d mendA).1).code = 0 ∧ (opn (stepR d mendA).1).torn = false ∧ (opn (stepR d mendA).1).recs = (opn d).recs ∧ (stepR (stepR d mendA).1 mendA).2.2 = 0 ∧ (stepR (stepR d mendA).1 mendA).1 = (stepR d mendA).1 ∧
      ((stepR (stepR d mendA).1 ⟨1, s, false, 0, 0, []⟩).2.2 = 4 ∧ (opn (stepR d mendA).1).size + 9 > 8000 ∨
      (stepR (stepR d mendA).1 ⟨1, s, false, 0, 0, []⟩).2.2 = 0 ∧ (stepR (stepR d mendA).1 ⟨1, s, false, 0, 0, []⟩).2.1 = (L.length : Int) + 1 ∧ (stepR (stepR (stepR d mendA).1 ⟨1, s, false, 0, 0, []⟩).1 ⟨2, ⟨#[]⟩, false, 0, 0, []⟩).2.2 = 0 ∧
        ∀ m keep, (opn (cutD (stepR (stepR (stepR d mendA).1 ⟨1, s, false, 0, 0, []⟩).1 ⟨2, ⟨#[]⟩, false, 0, 0, []⟩).1 m keep)).recs = (opn d).recs ++ [⟨(L.length : Int) + 1, s⟩])) := by
  rcases mend_zero hI (by omega) (a := mendA) rfl rfl with h | ⟨hno, h0⟩
  · exact .inl h
  right
  obtain ⟨_, _, hN, _⟩ := (inv_step hI mendA).1 h0
  have hN := hN rfl
  have hW := hN.whole
  generalize (stepR d mendA).1 = x at *
  obtain ⟨c0, ct⟩ := hW.opn
  have hIx := hW.inv
  obtain ⟨a1, a2⟩ := mend_again hN (a := mendA) rfl rfl
  refine ⟨hno, h0, c0, ct, by rw [hIx.recs, hI.recs], a1, a2, ?_⟩
  have hcode := calm_code hIx (a := ⟨1, s, false, 0, 0, []⟩) rfl
  rw [app_code c0 ct rfl, if_neg (by simp only [hs]; omega)] at hcode
  have hnx : (opn x).next ≤ 999999 := by
    rcases hIx.opn.2 with ⟨g, _⟩ | ⟨_, _, g⟩
    · rw [g] at c0; cases c0
    · obtain ⟨N, φ, _, _, hl, _⟩ := hIx
      rw [g]; omega
  by_cases hq : (opn x).next > 999999 ∨ (opn x).size + 5 + s.size > 8000
  · rw [if_pos hq] at hcode
    exact .inl ⟨hcode, by rw [hs] at hq; omega⟩
  · rw [if_neg hq] at hcode
    right
    obtain ⟨w1, w2, _⟩ := (inv_step hIx ⟨1, s, false, 0, 0, []⟩).1 hcode
    have w2 := w2 rfl
    rw [if_pos rfl, if_pos rfl] at w1
    generalize stepR x ⟨1, s, false, 0, 0, []⟩ = y at *
    obtain ⟨y1, y2, y3⟩ := y
    simp only at w1 w2 hcode
    simp only
    obtain ⟨e0, et⟩ := w1.opn
    have scode := calm_code w1.inv (a := ⟨2, ⟨#[]⟩, false, 0, 0, []⟩) rfl
    rw [sync_code e0 et rfl] at scode
    obtain ⟨v1, _⟩ := (inv_step w1.inv ⟨2, ⟨#[]⟩, false, 0, 0, []⟩).1 scode
    rw [if_neg (by decide), if_neg (by decide)] at v1
    refine ⟨hcode, w2, scode, fun m keep => ?_⟩
    obtain ⟨k, k1, k2, k3⟩ := v1.gd m keep
    have : k = (L ++ [s]).length := by omega
    subst this
    rw [List.take_length] at k3
    rw [k3.recs, recsL_snoc, hI.recs]
end Go.V
set_option linter.unusedSimpArgs false
set_option maxRecDepth 20000
namespace Go.V
open Go.Proofs
def ok17 := okF.gu (P := Tryz.prog) tab Tryz.func17 Tryz.ntmps17 (by conv => lhs; cbv) (by kernel_rfl)
def inv17 (acts : List LA) (i : Nat) (σ : St) : Prop := ∃ d codes cs v, (d, codes) = playG (zDk, []) (acts.take i) ∧ isDk cs d ∧ codes.length = i ∧ σ.t 17 = tL (en eLA acts) ∧ σ.t 18 = .i acts.length ∧ (∃ u, σ.t 2 = .c (.ptr 2 u 0) ∧ σ.H 2 = some (.var u 29 [.nil0, .nil0, .nil0])) ∧ (∃ u, σ.t 4 = .c (.ptr 4 u 0) ∧ σ.H 4 = some (.var u 29 cs)) ∧ σ.t 19 = .i i ∧ σ.t 5 = .c (.own 16 v codes.length) ∧ σ.H 16 = some (.arr v true 1 3 (en eI codes))
set_option maxHeartbeats 1000000 in
theorem logPlayI_ok (acts : List LA) (ha : ∀ a ∈ acts, okA a) : ACallsF Tryz.prog 17 [tL (en eLA acts)] [] (tDIs (playR acts)) := by
  refine ACallsF.intro ok17 follows fun X c0 => ?_
  by_cases g1 : (acts.length : Int) > 200
  · have e : playR acts = (zDk, []) := if_pos (by omega)
    rw [e]
    simp only [go_sem, en_len, g1, zDk, en_nil]
  have e : playR acts = playG (zDk, []) acts := if_neg (by omega)
  rw [e]
  simp only [go_sem, en_len, g1]
  refine AW.upto acts.length (inv17 acts) ⟨zDk, [], _, _, rfl, .inl ⟨rfl, rfl⟩, rfl, rfl, rfl, ⟨_, rfl, rfl⟩, ⟨_, rfl, rfl⟩, rfl, rfl, rfl⟩ fun i t H c hi h => ?_
  obtain ⟨d, codes, cs, v, hpl, hcs, hl, e0, e18, ⟨u2, e2, eH2⟩, ⟨u4, e4, eH4⟩, e6, e5, eH5⟩ := h
  simp only [T.c, T.i, tL] at e0 e18 e2 eH2 e4 eH4 e6 e5 eH5
  have ht1 : (en eI codes).take codes.length = en eI codes := en_take eI codes
  by_cases k1 : (i : Int) < acts.length
  rotate_left
  · have hi2 : i = acts.length := by omega
    rw [hi2, List.take_length] at hpl
    rw [← hpl]
    rcases hcs with ⟨rfl, rfl⟩ | rfl
    · simp only [go_sem, e0, e18, e2, eH2, e4, eH4, e6, e5, eH5, en_len, k1, ht1, zDk, en_nil]
    · simp only [go_sem, e0, e18, e2, eH2, e4, eH4, e6, e5, eH5, en_len, k1, ht1]
  obtain ⟨a, hx⟩ : ∃ x, acts[i]? = some x := ⟨_, List.getElem?_eq_getElem (by omega)⟩
  have ex := en_at eLA hx
  have gz : (0 : Int) ≤ i := by omega
  have w2 : IntKind.i64.wrap ((i : Int) + 1) = ((i + 1 : Nat) : Int) := wrap64 (x := (i : Int) + 1) ⟨by omega, by omega⟩
  have hD : DOk d := by
    have := playG_ok (acts.take i) (zDk, []) zDk_ok
    rw [← hpl] at this
    exact this
  have C1 := istepC_ok d a hD (by have := (ha a (List.mem_of_getElem? hx)).1; omega)
  have hpl2 := playG_take hx (zDk, [])
  rw [← hpl] at hpl2
  simp only at hpl2
  generalize stepR d a = r at *
  obtain ⟨d', p, code⟩ := r
  have q1 : (codes.length + 1) * 8 ≤ 140737488355328 := by omega
  have q2 : codes.length ≤ 9223372036854775806 := by omega
  rcases hcs with ⟨rfl, rfl⟩ | rfl
  · simp only [go_sem, e0, e18, e2, eH2, e4, eH4, e6, e5, eH5, en_len, k1, ex, gz, Int.toNat_natCast, eLA]
    refine callL (ws := []) (ns := []) C1 rfl ?_ rfl rfl ?_
    · simp only [go_sem, lendTs, lendT, zDk, en_nil]
      rfl
    simp only [go_sem, e0, e18, e2, eH2, e4, eH4, e6, e5, eH5, en_len, k1, scalarT, scalarP, scalarC, List.all_cons, Bool.false_and, w2, ht1, q1, q2, ite_self]
    refine ⟨by omega, d', codes ++ [code], cDk d', _, hpl2.symm, .inr rfl, by rw [List.length_append, hl]; rfl, e0, e18, ⟨u2, e2, eH2⟩, ⟨u4, e4, rfl⟩, rfl, by rw [List.length_append]; rfl, ?_⟩
    rw [en_snoc]; rfl
  · simp only [go_sem, e0, e18, e2, eH2, e4, eH4, e6, e5, eH5, en_len, k1, ex, gz, Int.toNat_natCast, eLA]
    refine callL (ws := []) (ns := []) C1 rfl ?_ rfl rfl ?_
    · simp only [go_sem, lendTs, lendT, en_nil]
    simp only [go_sem, e0, e18, e2, eH2, e4, eH4, e6, e5, eH5, en_len, k1, scalarT, scalarP, scalarC, List.all_cons, Bool.false_and, w2, ht1, q1, q2, ite_self]
    refine ⟨by omega, d', codes ++ [code], cDk d', _, hpl2.symm, .inr rfl, by rw [List.length_append, hl]; rfl, e0, e18, ⟨u2, e2, eH2⟩, ⟨u4, e4, rfl⟩, rfl, by rw [List.length_append]; rfl, ?_⟩
    rw [en_snoc]; rfl
end Go.V
set_option linter.unusedSimpArgs false
set_option maxRecDepth 20000
namespace Go.V
open Go.Proofs
theorem openD_ok {d : Dk} (hD : DOk d) : ACallsF Tryz.prog 13 [tDk d] [] (tLs (opn d)) := by
  obtain ⟨s, hs, C⟩ := openI_ok d hD.fine
  rcases hs with ⟨_, rfl⟩ | ⟨h, _⟩
  · exact C
  · exact absurd hD h
end Go.V
set_option linter.unusedSimpArgs false
set_option maxRecDepth 20000
namespace Go.V
open Go.Proofs
theorem stepD_ok {d : Dk} (hD : DOk d) {a : LA} (ha : a.data.size ≤ 1048576) : ACallsF Tryz.prog 11 [tDk d, tLA a] [] (tDkII (stepR d a)) := by
  obtain ⟨r, hr, C⟩ := stepC_ok d a hD.fine ha
  rcases hr with ⟨_, rfl⟩ | ⟨h, _⟩
  · exact C
  · exact absurd hD h
def sLast : ByteArray := ⟨#[108, 97, 115, 116]⟩
def ok6 := okF.gu (P := Tryz.prog) tab Tryz.func6 Tryz.ntmps6 (by conv => lhs; cbv) (by kernel_rfl)
def inv6 (d : Dk) (codes : List Int) (more : List UInt8) (i : Nat) (σ : St) : Prop := σ.t 1 = .c (.v (.sl (encB more))) ∧ σ.t 9 = tL (en eI codes) ∧ σ.t 7 = tL (en eI codes) ∧ (∃ u, σ.t 6 = .c (.ptr 6 u 0) ∧ σ.H 6 = some (.var u 29 (cDk d))) ∧ (∃ u, σ.t 8 = .c (.ptr 8 u 0) ∧ σ.H 8 = some (.var u 29 (cDk d))) ∧ σ.t 10 = .i i
set_option maxHeartbeats 4000000 in
theorem lawMend_ok (bs more : List UInt8) : ACallsF Tryz.prog 6 [.c (.v (.sl (encB bs))), .c (.v (.sl (encB more)))] [] (.b true) := by
  refine ACallsF.intro ok6 follows fun X c0 => ?_
  show wpa _ _ (.seq _ (.seq _ (.seq _ (.seq _ (.seq _ (.seq _ (.seq _ (.seq _ (.seq _ (.seq _ (ok6.sub [1, 1, 1, 1, 1, 1, 1, 1, 1, 1]))))))))))) _ _
  by_cases hb : (bs.length : Int) > 1048576
  · simp only [go_sem, encB_len, hb]
  by_cases hb2 : (more.length : Int) > 1048576
  · simp only [go_sem, encB_len, hb, hb2]
  obtain ⟨acts, ⟨hl, hok⟩, C1⟩ := drawPlay_ok bs
  have C2 := logPlay_ok acts hok
  have C3 := logPlayI_ok acts hok
  have hI : ∃ L lo, Inv (playR acts).1 L lo 201 := by
    by_cases h : 200 < acts.length
    · have e : playR acts = (zDk, []) := if_pos h
      rw [e]
      exact ⟨[], 0, inv_zero.up (by decide)⟩
    · have e : playR acts = playG (zDk, []) acts := if_neg h
      rw [e]
      obtain ⟨L, lo, hI⟩ := inv_play acts (zDk, []) [] 0 0 inv_zero
      exact ⟨L, lo, hI.up (by omega)⟩
  have hcl : (playR acts).2.length ≤ 1000 := by
    unfold playR
    split
    · simp
    · rw [playG_len]; simp; omega
  generalize playR acts = pr at *
  obtain ⟨d, codes⟩ := pr
  simp only at C2 C3 hI hcl
  obtain ⟨L, lo, hI⟩ := hI
  have hD := hI.opn.1
  have C4 := loDisk_ok d hD.fine.s
  have C5 := opnS_ok d hD
  obtain ⟨⟨md, mj, mk⟩, _, C6⟩ := drawCut_ok more
  have C7 := stepD_ok hD (a := mendA) (Nat.zero_le _)
  have hrl := opn_recs hD
  have C8 := loRecords_ok (opn d).recs (by omega)
  have hlaw := mend_law hI (by decide) sLast rfl
  have hrecs := hI.recs
  have hDx := stepR_ok hD mendA
  simp only [go_sem, encB_len, hb, hb2]
  refine callC C1 rfl rfl rfl rfl ?_
  simp only [go_sem]
  refine callC C2 rfl rfl rfl rfl ?_
  simp only [go_sem]
  refine callC C3 rfl rfl rfl rfl ?_
  simp only [go_sem, en_len, ne0]
  refine callC C4 rfl rfl rfl rfl ?_
  simp only [go_sem, en_len, ne0]
  refine AW.upto codes.length (inv6 d codes more) ⟨rfl, rfl, rfl, ⟨_, rfl, rfl⟩, ⟨_, rfl, rfl⟩, rfl⟩ fun i t H c hi h => ?_
  obtain ⟨e1, e9, e7, ⟨u6, e6, eH6⟩, ⟨u8, e8, eH8⟩, e10⟩ := h
  simp only [T.c, T.i, tL] at e1 e9 e7 e6 eH6 e8 eH8 e10
  by_cases k1 : (i : Int) < codes.length
  · obtain ⟨cd, hy⟩ : ∃ x, codes[i]? = some x := ⟨_, List.getElem?_eq_getElem (by omega)⟩
    have ey := en_at eI hy
    have gz : (0 : Int) ≤ i := by omega
    have w2 : IntKind.i64.wrap ((i : Int) + 1) = ((i + 1 : Nat) : Int) := wrap64 (x := (i : Int) + 1) ⟨by omega, by omega⟩
    simp only [go_sem, e9, e7, e10, en_len, k1, ey, gz, Int.toNat_natCast, eI, w2, ne0]
    exact ⟨by omega, e1, e9, e7, ⟨u6, e6, eH6⟩, ⟨u8, e8, eH8⟩, rfl⟩
  generalize stepR d mendA = r1 at *
  obtain ⟨x, px, c1⟩ := r1
  simp only at hlaw hDx
  have z4 : ((4 : Int) == 4) = true := rfl
  have z0 : ((0 : Int) == 0) = true := rfl
  have zn : ((0 : Int) != 0) = false := rfl
  have z04 : ((0 : Int) == 4) = false := rfl
  rcases hlaw with ⟨h1, h2, h3⟩ | ⟨hno, h0, q1, q2, q3, q4, q5, hend⟩
  · rw [Prod.mk.injEq, Prod.mk.injEq] at h3
    obtain ⟨rfl, rfl, rfl⟩ := h3
    have h2' : ((opn x).plan.parts.length : Int) ≥ 40 := by omega
    generalize opn x = s at *
    simp only [go_sem, e9, e7, e10, en_len, k1, e6, eH6]
    refine callC C5 rfl rfl rfl rfl ?_
    simp only [go_sem, e8, eH8]
    refine callL (ws := []) (ns := []) C7 rfl ?_ rfl rfl ?_
    · simp only [go_sem, lendTs, lendT, en_nil, mendA]
      rfl
    simp only [go_sem, scalarT, scalarP, scalarC, List.all_cons, Bool.false_and, ite_self, h1, h2', en_len, z4, e8, eH8]
    refine callC C4 rfl rfl rfl rfl ?_
    simp only [go_sem]
  subst h0
  have C9 := openD_ok hDx
  have C10 := stepD_ok hDx (a := mendA) (Nat.zero_le _)
  have C11 := loDisk_ok x hDx.fine.s
  have C12 := stepD_ok hDx (a := ⟨1, sLast, false, 0, 0, []⟩) (by decide)
  have hDy := stepR_ok hDx ⟨1, sLast, false, 0, 0, []⟩
  generalize stepR x mendA = r2 at *
  obtain ⟨x2, px2, c2⟩ := r2
  simp only at q4 q5
  subst q4
  subst q5
  generalize stepR x2 ⟨1, sLast, false, 0, 0, []⟩ = r3 at *
  obtain ⟨y, py, c3⟩ := r3
  simp only at hend hDy
  have C13 := stepD_ok hDy (a := ⟨2, ⟨#[]⟩, false, 0, 0, []⟩) (by decide)
  have hDz := stepR_ok hDy ⟨2, ⟨#[]⟩, false, 0, 0, []⟩
  generalize stepR y ⟨2, ⟨#[]⟩, false, 0, 0, []⟩ = r4 at *
  obtain ⟨z, pz, c4⟩ := r4
  simp only at hend hDz
  have C14 := cutI17_ok z hDz mj mk
  have hDe := hDz.cut mj mk
  have C15 := openD_ok hDe
  have hsz : 0 ≤ (opn x2).size ∧ (opn x2).size ≤ 20000 := by
    rcases opn_ok hDx with ⟨_, hg, _⟩ | h | h
    · exact hg.size
    · rw [h]; decide
    · rw [h]; decide
  have w9 : IntKind.i64.wrap ((opn x2).size + 9) = (opn x2).size + 9 := wrap64 ⟨by omega, by omega⟩
  have hnt : (opn d).torn = true → ¬ ((opn d).plan.parts.length : Int) ≥ 40 := fun h h2 => hno ⟨h, by omega⟩
  have hrL : (opn d).recs.length = L.length := by rw [hrecs, recsL_len]
  generalize opn d = s at *
  generalize opn x2 = tt at *
  have start : ∀ (P : Prop), (s.torn = false → P) → (s.torn = true → ¬ (s.plan.parts.length : Int) ≥ 40 → P) → P := fun P p q => by
    cases ht : s.torn with
    | false => exact p ht
    | true => exact q ht (hnt ht)
  simp only [go_sem, e9, e7, e10, en_len, k1, e6, eH6]
  refine callC C5 rfl rfl rfl rfl ?_
  simp only [go_sem, e8, eH8]
  refine callL (ws := []) (ns := []) C7 rfl ?_ rfl rfl ?_
  · simp only [go_sem, lendTs, lendT, en_nil, mendA]
    rfl
  have rest : ∀ {t : Nat → T} {H : HMap} {c : Nat}, t 1 = .c (.v (.sl (encB more))) → (∃ u, t 12 = .c (.ptr 12 u 0) ∧ H 12 = some (.var u 29 (cDk x2))) → (∃ u, t 11 = .c (.ptr 11 u 0) ∧ H 11 = some (.var u 41 (cLs s))) → t 14 = .i 0 →
      wpa Tryz.prog X (ok6.sub [1, 1, 1, 1, 1, 1, 1, 1, 1, 1]) (endA (FinC [.tmp 4] (.b true) [])) ⟨t, H, c⟩ := by
    intro t H c e1 ⟨u12, e12, eH12⟩ ⟨u11, e11, eH11⟩ e14
    simp only [T.c, T.i, cLs] at e1 e12 eH12 e11 eH11 e14
    dsimp only [okF.sub, ACode.sub]
    simp only [go_sem, e12, eH12]
    refine callC C9 rfl rfl rfl rfl ?_
    simp only [go_sem, e12, eH12, e11, eH11, e14, zn, q1, q2, q3]
    refine callC C8 rfl rfl rfl rfl ?_
    simp only [go_sem, e12, eH12]
    refine callL (ws := []) (ns := []) C10 rfl ?_ rfl rfl ?_
    · simp only [go_sem, lendTs, lendT, en_nil, mendA]
      rfl
    simp only [go_sem, scalarT, scalarP, scalarC, List.all_cons, Bool.false_and, ite_self, e12, eH12, zn]
    refine callC C11 rfl rfl rfl rfl ?_
    simp only [go_sem, e12, eH12]
    refine callL (ws := []) (ns := []) C12 rfl ?_ rfl rfl ?_
    · simp only [go_sem, lendTs, lendT, en_nil, sLast]
      rfl
    rcases hend with ⟨g3, hbig⟩ | ⟨g3, gp, g4, hE⟩
    · subst g3
      simp only [go_sem, scalarT, scalarP, scalarC, List.all_cons, Bool.false_and, ite_self, z4, w9, hbig]
    subst g3
    subst gp
    subst g4
    have hEr := hE mj mk
    have hl : IntKind.i64.wrap ((s.recs.length : Int) + 1) = ((s.recs.length + 1 : Nat) : Int) := i64_len hrl
    have hpl : (L.length : Int) + 1 = ((s.recs.length + 1 : Nat) : Int) := by omega
    rw [hpl] at C12 hEr
    generalize opn (cutD z mj mk) = en2 at *
    have gz : (0 : Int) ≤ s.recs.length := by omega
    have gl : (s.recs.length : Int) ≤ ((s.recs.length + 1 : Nat) : Int) := by omega
    have e1' : (en eR (s.recs ++ [⟨((s.recs.length + 1 : Nat) : Int), sLast⟩])).take s.recs.length = en eR s.recs := by rw [en_app, List.take_left' (by rw [en_len])]
    have e2' : (en eR (s.recs ++ [⟨((s.recs.length + 1 : Nat) : Int), sLast⟩]))[s.recs.length]? = some (eR ⟨((s.recs.length + 1 : Nat) : Int), sLast⟩) := en_at eR (by simp)
    have e3' : (en eR (s.recs ++ [⟨((s.recs.length + 1 : Nat) : Int), sLast⟩])).length = s.recs.length + 1 := by rw [en_len]; simp
    have e4' : (s.recs.length : Int) < ((s.recs.length + 1 : Nat) : Int) := by omega
    have eRl : ∀ x, (eR x).length = 2 := fun _ => rfl
    simp only [go_sem, scalarT, scalarP, scalarC, List.all_cons, Bool.false_and, ite_self, z04]
    refine callL (ws := []) (ns := []) C13 rfl ?_ rfl rfl ?_
    · simp only [go_sem, lendTs, lendT, en_nil]
      rfl
    simp only [go_sem, scalarT, scalarP, scalarC, List.all_cons, Bool.false_and, ite_self, e1]
    refine callC C6 rfl rfl rfl rfl ?_
    simp only [go_sem]
    refine callC C14 rfl rfl rfl rfl ?_
    simp only [go_sem]
    refine callC C15 rfl rfl rfl rfl ?_
    simp only [go_sem, e11, eH11, en_len, z0, hpl, hEr, hl, e3', gz, gl, lohi, Int.toNat_natCast, e1', List.drop_zero, Nat.sub_zero, Int.le_refl, Int.toNat_zero, en_all eR eRl]
    refine callC C8 rfl rfl rfl rfl ?_
    have hsl : (sLast = (⟨#[108, 97, 115, 116]⟩ : ByteArray)) = True := eq_true rfl
    simp only [go_sem, hpl, hEr, e2', e3', e4', gz, Int.toNat_natCast, eR, sStr, str_beq, hsl, decide_true]
  simp only [go_sem, scalarT, scalarP, scalarC, List.all_cons, Bool.false_and, ite_self]
  apply start
  · intro ht
    simp only [go_sem, ht]
    exact rest e1 ⟨_, rfl, rfl⟩ ⟨_, rfl, rfl⟩ rfl
  · intro ht hp
    simp only [go_sem, ht, en_len, hp]
    exact rest e1 ⟨_, rfl, rfl⟩ ⟨_, rfl, rfl⟩ rfl
end Go.V

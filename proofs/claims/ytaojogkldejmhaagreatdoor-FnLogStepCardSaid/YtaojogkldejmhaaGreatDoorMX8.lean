/- The Go function laws.FnLogStep returns true for every slice of bytes, in the program's own Lean form: an act of the log that is refused changes nothing, and an append adds just its record. Conditions: those of the given row and card. -/
import Derived.Test.YtaojogkldejmhaaGreatDoorMX7
import Derived.Test.YtaojogkldejmhaaGreatDoorMK1
set_option linter.unusedSimpArgs false
set_option linter.defProp false
set_option maxRecDepth 20000
namespace Go.V
open Go.Proofs
def ok49 := okF.gu (P := Tryz.prog) tab Tryz.func49 Tryz.ntmps49 (by conv => lhs; cbv) (by kernel_rfl)
def inv49 (ns : List ByteArray) (i : Nat) (σ : St) : Prop := σ.t 0 = tL (en eS ns) ∧ σ.t 1 = tL (en eS ns) ∧ σ.t 5 = .i i
theorem loTexts_ok (ns : List ByteArray) (hl : ns.length ≤ 9000000000000000000) : ACallsF Tryz.prog 49 [tL (en eS ns), tL (en eS ns)] [] (.b true) := by
  refine ACallsF.intro ok49 follows fun X c0 => ?_
  simp only [go_sem, en_len, ne0]
  refine AW.upto ns.length (inv49 ns) ⟨rfl, rfl, rfl⟩ fun i t H c hi h => ?_
  obtain ⟨e0, e1, e5⟩ := h
  simp only [T.c, T.i, tL] at e0 e1 e5
  by_cases k1 : (i : Int) < ns.length
  · obtain ⟨x, hx⟩ : ∃ x, ns[i]? = some x := ⟨_, List.getElem?_eq_getElem (by omega)⟩
    have ex := en_at eS hx
    have gz : (0 : Int) ≤ i := by omega
    have w2 : IntKind.i64.wrap ((i : Int) + 1) = ((i + 1 : Nat) : Int) := wrap64 (x := (i : Int) + 1) ⟨by omega, by omega⟩
    simp only [go_sem, e0, e1, e5, en_len, k1, ex, gz, Int.toNat_natCast, eS, sStr, w2]
    exact ⟨by omega, e0, e1, rfl⟩
  · simp only [go_sem, e0, e1, e5, en_len, k1]
set_option maxRecDepth 20000 in
def ok12 := okF.of (P := Tryz.prog) Tryz.func12 Tryz.ntmps12 (by kernel_rfl) (by conv => lhs; cbv) (by conv => lhs; cbv)
def Hd12 (d : Dk) (σ : St) : Prop := (∃ u, σ.t 2 = .c (.ptr 2 u 0) ∧ σ.H 2 = some (.var u 29 (cDk d))) ∧ (∃ u, σ.t 3 = .c (.ptr 3 u 0) ∧ σ.H 3 = some (.var u 29 (cDk d)))
def inv12 (d : Dk) (i : Nat) (σ : St) : Prop := Hd12 d σ ∧ σ.t 5 = .i i
def inv12b (d : Dk) (i : Nat) (σ : St) : Prop := Hd12 d σ ∧ σ.t 6 = .i i
theorem loDisk_ok (d : Dk) (hd : smallDk d) : ACallsF Tryz.prog 12 [tDk d, tDk d] [] (.b true) := by
  have l1 := hd.f
  have l2 := hd.n
  have l3 := hd.m
  refine ACallsF.intro ok12 follows fun X c0 => ?_
  simp only [go_sem, en_len, ne0]
  refine callC (loTexts_ok d.names (by omega)) rfl rfl rfl rfl ?_
  simp only [go_sem]
  refine AW.upto d.files.length (inv12 d) ⟨⟨⟨_, rfl, rfl⟩, ⟨_, rfl, rfl⟩⟩, rfl⟩ fun i t H c hi h => ?_
  obtain ⟨⟨⟨u2, e2, eH2⟩, ⟨u3, e3, eH3⟩⟩, e5⟩ := h
  simp only [T.c, T.i] at e2 eH2 e3 eH3 e5
  by_cases k1 : (i : Int) < d.files.length
  · obtain ⟨x, hx⟩ : ∃ x, d.files[i]? = some x := ⟨_, List.getElem?_eq_getElem (by omega)⟩
    have ex := en_at eF hx
    have gz : (0 : Int) ≤ i := by omega
    have w2 : IntKind.i64.wrap ((i : Int) + 1) = ((i + 1 : Nat) : Int) := wrap64 (x := (i : Int) + 1) ⟨by omega, by omega⟩
    simp only [go_sem, e2, eH2, e3, eH3, e5, en_len, k1, ex, gz, Int.toNat_natCast, eF, w2]
    exact ⟨by omega, ⟨⟨u2, e2, eH2⟩, ⟨u3, e3, eH3⟩⟩, rfl⟩
  · simp only [go_sem, e2, eH2, e3, eH3, e5, en_len, k1]
    refine AW.upto d.moves.length (inv12b d) ⟨⟨⟨u2, e2, eH2⟩, ⟨u3, e3, eH3⟩⟩, rfl⟩ fun j t H c hj h => ?_
    clear e2 eH2 e3 eH3
    obtain ⟨⟨⟨u2, e2, eH2⟩, ⟨u3, e3, eH3⟩⟩, e6⟩ := h
    simp only [T.c, T.i] at e2 eH2 e3 eH3 e6
    by_cases k2 : (j : Int) < d.moves.length
    · obtain ⟨x, hx⟩ : ∃ x, d.moves[j]? = some x := ⟨_, List.getElem?_eq_getElem (by omega)⟩
      have ex := en_at eM hx
      have gz : (0 : Int) ≤ j := by omega
      have w2 : IntKind.i64.wrap ((j : Int) + 1) = ((j + 1 : Nat) : Int) := wrap64 (x := (j : Int) + 1) ⟨by omega, by omega⟩
      simp only [go_sem, e2, eH2, e3, eH3, e6, en_len, k2, ex, gz, Int.toNat_natCast, eM, w2]
      exact ⟨by omega, ⟨⟨u2, e2, eH2⟩, ⟨u3, e3, eH3⟩⟩, rfl⟩
    · simp only [go_sem, e2, eH2, e3, eH3, e6, en_len, k2]
set_option maxRecDepth 20000 in
def ok18 := okF.of (P := Tryz.prog) Tryz.func18 Tryz.ntmps18 (by kernel_rfl) (by conv => lhs; cbv) (by conv => lhs; cbv)
def inv18 (rs : List LR) (i : Nat) (σ : St) : Prop := σ.t 0 = tL (en eR rs) ∧ σ.t 1 = tL (en eR rs) ∧ σ.t 5 = .i i
theorem loRecords_ok (rs : List LR) (hl : rs.length ≤ 9000000000000000000) : ACallsF Tryz.prog 18 [tL (en eR rs), tL (en eR rs)] [] (.b true) := by
  refine ACallsF.intro ok18 follows fun X c0 => ?_
  simp only [go_sem, en_len, ne0]
  refine AW.upto rs.length (inv18 rs) ⟨rfl, rfl, rfl⟩ fun i t H c hi h => ?_
  obtain ⟨e0, e1, e5⟩ := h
  simp only [T.c, T.i, tL] at e0 e1 e5
  by_cases k1 : (i : Int) < rs.length
  · obtain ⟨x, hx⟩ : ∃ x, rs[i]? = some x := ⟨_, List.getElem?_eq_getElem (by omega)⟩
    have ex := en_at eR hx
    have gz : (0 : Int) ≤ i := by omega
    have w2 : IntKind.i64.wrap ((i : Int) + 1) = ((i + 1 : Nat) : Int) := wrap64 (x := (i : Int) + 1) ⟨by omega, by omega⟩
    simp only [go_sem, e0, e1, e5, en_len, k1, ex, gz, Int.toNat_natCast, eR, w2]
    exact ⟨by omega, e0, e1, rfl⟩
  · simp only [go_sem, e0, e1, e5, en_len, k1]
end Go.V
set_option linter.unusedSimpArgs false
namespace Go.V
open Go.Proofs
theorem i64_len {rs : List LR} (h : rs.length ≤ 3000000) : IntKind.i64.wrap ((rs.length : Int) + 1) = ((rs.length + 1 : Nat) : Int) := wrap64 (x := (rs.length : Int) + 1) ⟨by omega, by omega⟩
theorem opn_recs {d : Dk} (hD : DOk d) : (opn d).recs.length ≤ 3000000 := by
  by_cases hc : (opn d).code = 0
  · obtain ⟨n, p, rs, x, hl, ho⟩ := opn_at hc
    rw [ho]
    have hx := lk_size hD hl.opn
    obtain ⟨h5, h6, h7, h8, h9⟩ := planOk_ok hl.ok
    have key : ∀ (ps : List LP) (rs : List LR), prtsV (lk d) ps = some rs → rs.length ≤ 20000 * ps.length := by
      intro ps
      induction ps with
      | nil => intro rs h; rw [prtsV] at h; cases h; simp
      | cons q ps ih =>
        intro rs h
        rw [prtsV] at h
        split at h
        · cases h
        · rename_i l hq
          cases hr : prtsV (lk d) ps with
          | none => rw [hr] at h; cases h
          | some m =>
            rw [hr] at h
            cases h
            have h1 := ih m hr
            have h2 : l.length ≤ 20000 := by
              rw [prtV] at hq
              split at hq
              · cases hq
              · rename_i y hy
                split at hq
                · cases hq
                · split at hq
                  · cases hq
                    have hf := frames_le (y.extract 0 q.size.toNat)
                    have hs := lk_size hD hy
                    have : (y.extract 0 q.size.toNat).size ≤ y.size := by rw [ByteArray.size_extract]; omega
                    omega
                  · cases hq
            rw [List.length_append, List.length_cons]; omega
    have h1 := key _ _ hl.parts
    have h2 := frames_le x
    show (rs ++ (frames x).1).length ≤ _
    rw [List.length_append]
    omega
  · have : (opn d).recs = [] := by
      rcases opn_ok hD with ⟨h, _⟩ | h | h
      · exact absurd h hc
      · rw [h]; rfl
      · rw [h]; rfl
    rw [this]; exact Nat.zero_le _
end Go.V
set_option linter.unusedSimpArgs false
set_option maxRecDepth 20000
namespace Go.V
open Go.Proofs
/-! Contracts whose results are closed. -/
theorem stepC_ok (d : Dk) (a : LA) (hd : fineDk d) (ha : a.data.size ≤ 1048576) : ∃ r, StpR d a r ∧ ACallsF Tryz.prog 11 [tDk d, tLA a] [] (tDkII r) := by
  obtain ⟨b, hb, hC⟩ := okI_ok d hd
  by_cases hD : DOk d
  rotate_left
  · have hbf : b = false := by cases hq : b with | false => rfl | true => exact absurd (hb.1 hq) hD
    rw [hbf] at hC
    refine ⟨_, .inr ⟨hD, rfl⟩, ACallsF.intro ok11 follows fun X c0 => ?_⟩
    simp only [go_sem]
    refine callC hC rfl rfl rfl rfl ?_
    simp only [go_sem, en_nil]
  rw [hb.2 hD] at hC
  refine ⟨_, .inl ⟨hD, rfl⟩, ?_⟩
  have hS := istep_ok d a hD ha 2101 2102 2103
  obtain ⟨l1, l2, l3⟩ := stepR_len hD a
  generalize stepR d a = r at *
  obtain ⟨rd, rp, rc⟩ := r
  refine ACallsF.intro ok11 follows fun X c0 => ?_
  simp only [go_sem]
  refine callC hC rfl rfl rfl rfl ?_
  simp only [go_sem]
  refine callDkII (ws := []) (ns := []) hS rfl rfl rfl (by decide) ⟨?_, ?_⟩
  · simp only [go_sem]
  simp only [go_sem, false_implies, and_self, imp_self, en_take2]
def ok13 := okF.gu (P := Tryz.prog) tab Tryz.func13 Tryz.ntmps13 (by conv => lhs; cbv) (by kernel_rfl)
/-- What LogOpen says of any disk. -/
def OpnR (d : Dk) (s : Ls) : Prop := (DOk d ∧ s = opn d) ∨ (¬ DOk d ∧ s = zLs 7)
theorem openI_ok (d : Dk) (hd : fineDk d) : ∃ s, OpnR d s ∧ ACallsF Tryz.prog 13 [tDk d] [] (tLs s) := by
  obtain ⟨b, hb, hC⟩ := okI_ok d hd
  by_cases hD : DOk d
  rotate_left
  · have hbf : b = false := by cases hq : b with | false => rfl | true => exact absurd (hb.1 hq) hD
    rw [hbf] at hC
    refine ⟨_, .inr ⟨hD, rfl⟩, ACallsF.intro ok13 follows fun X c0 => ?_⟩
    simp only [go_sem]
    refine callC hC rfl rfl rfl rfl ?_
    simp only [go_sem, zLs, zPl, en_nil]
  rw [hb.2 hD] at hC
  refine ⟨_, .inl ⟨hD, rfl⟩, ?_⟩
  have hS := opnI_ok d hD
  generalize opn d = s at *
  refine ACallsF.intro ok13 follows fun X c0 => ?_
  simp only [go_sem]
  refine callC hC rfl rfl rfl rfl ?_
  simp only [go_sem]
  refine callC hS rfl rfl rfl rfl ?_
  simp only [go_sem]
theorem openS_ok (d : Dk) (hd : fineDk d) : ∃ s, OpnR d s ∧ ACallsF Tryz.prog 20 [tDk d] [] (tLs s) := by
  by_cases hD : DOk d
  · exact ⟨_, .inl ⟨hD, rfl⟩, opnS_ok d hD⟩
  obtain ⟨b, hb, hC⟩ := okS_ok d hd
  have hbf : b = false := by cases hq : b with | false => rfl | true => exact absurd (hb.1 hq) hD
  rw [hbf] at hC
  refine ⟨_, .inr ⟨hD, rfl⟩, ACallsF.intro ok20 follows fun X c0 => ?_⟩
  simp only [go_sem]
  refine callC hC rfl rfl rfl rfl ?_
  simp only [go_sem, zLs, zPl, en_nil]
end Go.V

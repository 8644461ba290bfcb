/- The program's StoreOpen returns what the reference's returns, for every disk: no condition but the ones of the given statement. -/
import Derived.Test.YtmcekakcogcckaaGreatDoorMX4
import Derived.Test.YtmcekakcogcckaaGreatDoorMK1
set_option linter.unusedVariables false
set_option linter.unusedSimpArgs false
set_option maxRecDepth 20000
namespace Go.V
open Go.Proofs
theorem trI_zero (p : PI) : trF RI 0 p = (.mk (oneI p).1 0 ⟨#[]⟩ [] [], ((oneI p).2.1, true)) := rfl
theorem trI_succ (f : Nat) (p : PI) : trF RI (f + 1) p = if (oneI p).2.2 = true then (.mk (oneI p).1 0 ⟨#[]⟩ [] [], ((oneI p).2.1, true))
    else if (oneI p).1 = 1 then (.mk 1 (numI (oneI p).2).1 ⟨#[]⟩ [] [], (numI (oneI p).2).2)
    else if (oneI p).1 = 2 then (.mk 2 0 (textI (oneI p).2).1 [] [], (textI (oneI p).2).2)
    else if (oneI p).1 = 3 then (.mk 3 (oneI (oneI p).2).1 ⟨#[]⟩ [] [], (oneI (oneI p).2).2)
    else (.mk (oneI p).1 0 ⟨#[]⟩ (kdF RI (trF RI f) (decide ((oneI p).1 = 5)) (oneI (oneI p).2).1 ⟨[], [], (oneI (oneI p).2).2⟩).ns (kdF RI (trF RI f) (decide ((oneI p).1 = 5)) (oneI (oneI p).2).1 ⟨[], [], (oneI (oneI p).2).2⟩).ks, (kdF RI (trF RI f) (decide ((oneI p).1 = 5)) (oneI (oneI p).2).1 ⟨[], [], (oneI (oneI p).2).2⟩).p) := rfl
theorem kdI_succ (g : PI → Tr × PI) (f5 : Bool) (n : Nat) (x : KSt PI) : kdF RI g f5 (n + 1) x = kdF RI g f5 n (if x.p.2 = true then x else
    if f5 then ⟨x.ns ++ [(textI x.p).1], x.ks ++ [(g (textI x.p).2).1], (g (textI x.p).2).2⟩ else ⟨x.ns, x.ks ++ [(g x.p).1], (g x.p).2⟩) := rfl
theorem trI_le : ∀ f p, (trF RI f p).2.1.length ≤ p.1.length
  | 0, p => (oneI_le p).1
  | f + 1, p => by
    have h1 := (oneI_le p).1
    have hk : ∀ (f5 : Bool) n (x : KSt PI), (kdF RI (trF RI f) f5 n x).p.1.length ≤ x.p.1.length := by
      intro f5 n
      induction n with
      | zero => intro x; exact Nat.le_refl _
      | succ n ih =>
        intro x
        rw [kdI_succ]
        refine Nat.le_trans (ih _) ?_
        split
        · exact Nat.le_refl _
        · split
          · exact Nat.le_trans (trI_le f _) (textI_le _).1
          · exact trI_le f _
    rw [trI_succ]
    split
    · exact h1
    split
    · exact Nat.le_trans (Nat.le_trans (szI_le _ _ _ _) (oneI_le _).1) h1
    split
    · exact Nat.le_trans (textI_le _).1 h1
    split
    · exact Nat.le_trans (oneI_le _).1 h1
    · exact Nat.le_trans (hk _ _ _) (Nat.le_trans (oneI_le _).1 h1)
def ok118 := okF.gu (P := Tryz.prog) tab Tryz.func118 Tryz.ntmps118 (by conv => lhs; cbv) (by kernel_rfl)
def inv118 (v d : Nat) (s n0 : Nat) (g : PI → Tr × PI) (R : KSt PI) (k : Nat) (σ : St) : Prop :=
  ∃ (i : Nat) (x : KSt PI), i + k = n0 ∧ kdF RI g (decide (s = 5)) k x = R ∧ x.p.1.length ≤ 1000000 ∧ x.ns.length + k ≤ 255 ∧ x.ks.length + k ≤ 255 ∧ σ.t 0 = rp v ∧ σ.t 1 = .i d ∧ σ.t 55 = .i n0 ∧ σ.t 56 = .i i ∧ σ.H 1000 = some (.var v 149 ((rcI x.p).map .v)) ∧
    (∃ u, σ.t 4 = .c (.ptr 4 u 0) ∧ σ.H 4 = some (.var u 118 [.v (.s (.int .i64 0)), .v (.s (.int .i64 0)), .v (.s (.string ⟨#[]⟩)), .nil0, .nil0])) ∧
    ∃ u a b, σ.t 5 = .c (.ptr 5 u 0) ∧ σ.H 5 = some (.var u 118 [.v (.s (.int .i64 s)), .v (.s (.int .i64 0)), .v (.s (.string ⟨#[]⟩)), .own 2005 a x.ns.length, .tr 2004 b x.ks.length]) ∧ σ.H 2005 = some (.arr a true 1 9 (encS x.ns)) ∧ σ.H 2004 = some (.tree b true 5 118 (encTs x.ks) none)
set_option maxHeartbeats 8000000 in
theorem treeI_ok : ∀ f d : Nat, f + d = 7 → ∀ p : PI, p.1.length ≤ 1000000 → ∀ m v m1 m2, ACallsF Tryz.prog 118 [rp v, .i d] (trR m v 2005 2004 m1 m2 p (trF RI f p).2 (trF RI f p).1) (.pt (oTr 2005 0 2004 0 (trF RI f p).1)) := by
  intro f
  induction f with
  | zero =>
    intro d hd p hp m v m1 m2
    have hC := oneI_ok p hp 1000 v
    rw [trI_zero]
    generalize oneI p = q at *
    obtain ⟨s, at_, bad⟩ := q
    have k0 : (d : Int) > 6 := by omega
    refine ownLeaf ?_
    refine ACallsF.intro ok118 follows fun X c0 => ?_
    simp only [go_sem]
    refine callQ (m := 1000) hC rfl rfl rfl rfl rfl ⟨?_, ?_⟩
    · simp only [go_sem]
    cases bad <;> simp only [go_sem, List.map_cons, List.map_nil, k0]
  | succ f ih =>
    intro d hd p hp m v m1 m2
    have hC := oneI_ok p hp 1000 v
    obtain ⟨h1, h2⟩ := oneI_le p
    rw [trI_succ]
    generalize oneI p = q at *
    obtain ⟨s, p1⟩ := q
    simp only at h1 h2 hC ⊢
    have k6 : ¬ (d : Int) > 6 := by omega
    obtain ⟨at1, bad1⟩ := p1
    simp only at h1
    cases bad1 with
    | true =>
      rw [if_pos rfl]
      refine ownLeaf ?_
      refine ACallsF.intro ok118 follows fun X c0 => ?_
      simp only [go_sem]
      refine callQ (m := 1000) hC rfl rfl rfl rfl rfl ⟨?_, ?_⟩
      · simp only [go_sem]
      simp only [go_sem, List.map_cons, List.map_nil]
    | false =>
    rw [if_neg (by simp)]
    by_cases s1 : s = 1
    · rw [if_pos s1]
      have hN := oneI_ok (at1, false) (by simp only; omega) 1000 v
      obtain ⟨h3, h4⟩ := oneI_le (at1, false)
      unfold numI
      generalize oneI (at1, false) = q at *
      obtain ⟨sg, p2⟩ := q
      simp only at h3 h4 hN ⊢
      have hZ := sizeI_ok p2 (by omega) 1000 v
      have hlt := szI_lt 5 0 0 p2 (by omega) (by simp)
      generalize szI 5 0 0 p2 = q at *
      obtain ⟨z, p3⟩ := q
      simp only at hlt hZ ⊢
      have q1 : ((s : Int) == 1) = true := beq_iff_eq.2 (by omega)
      refine ownLeaf ?_
      refine ACallsF.intro ok118 follows fun X c0 => ?_
      simp only [go_sem]
      refine callQ (m := 1000) hC rfl rfl rfl rfl rfl ⟨?_, ?_⟩
      · simp only [go_sem]
      simp only [go_sem, List.map_cons, List.map_nil, k6, q1]
      refine callQ (m := 1000) hN rfl rfl rfl rfl rfl ⟨?_, ?_⟩
      · simp only [go_sem]
      simp only [go_sem]
      refine callQ (m := 1000) hZ rfl rfl rfl rfl rfl ⟨?_, ?_⟩
      · simp only [go_sem]
      by_cases hs : sg = 1
      · have k0 : ((sg : Int) == 1) = true := beq_iff_eq.2 (by omega)
        have gn : IntKind.i64.wrap (0 - (z : Int)) = -(z : Int) := (wrap64 (x := 0 - (z : Int)) ⟨by omega, by omega⟩).trans (by omega)
        rw [if_pos hs]
        simp only [go_sem, k0, gn, s1]
        rfl
      · have k0 : ((sg : Int) == 1) = false := beq_eq_false_iff_ne.2 (by omega)
        rw [if_neg hs]
        simp only [go_sem, k0, s1]
        rfl
    rw [if_neg s1]
    have q1 : ((s : Int) == 1) = false := beq_eq_false_iff_ne.2 (by omega)
    by_cases s2 : s = 2
    · rw [if_pos s2]
      have hN := textI_ok (at1, false) (by simp only; omega) 1000 v
      generalize textI (at1, false) = q at *
      obtain ⟨xx, p2⟩ := q
      have q2 : ((s : Int) == 2) = true := beq_iff_eq.2 (by omega)
      refine ownLeaf ?_
      refine ACallsF.intro ok118 follows fun X c0 => ?_
      simp only [go_sem]
      refine callQ (m := 1000) hC rfl rfl rfl rfl rfl ⟨?_, ?_⟩
      · simp only [go_sem]
      simp only [go_sem, List.map_cons, List.map_nil, k6, q1, q2]
      refine callQ (m := 1000) hN rfl rfl rfl rfl rfl ⟨?_, ?_⟩
      · simp only [go_sem]
      simp only [go_sem, s2]
      rfl
    rw [if_neg s2]
    have q2 : ((s : Int) == 2) = false := beq_eq_false_iff_ne.2 (by omega)
    by_cases s3 : s = 3
    · rw [if_pos s3]
      have hN := oneI_ok (at1, false) (by simp only; omega) 1000 v
      generalize oneI (at1, false) = q at *
      obtain ⟨xx, p2⟩ := q
      have q3 : ((s : Int) == 3) = true := beq_iff_eq.2 (by omega)
      refine ownLeaf ?_
      refine ACallsF.intro ok118 follows fun X c0 => ?_
      simp only [go_sem]
      refine callQ (m := 1000) hC rfl rfl rfl rfl rfl ⟨?_, ?_⟩
      · simp only [go_sem]
      simp only [go_sem, List.map_cons, List.map_nil, k6, q1, q2, q3]
      refine callQ (m := 1000) hN rfl rfl rfl rfl rfl ⟨?_, ?_⟩
      · simp only [go_sem]
      simp only [go_sem, s3]
      rfl
    rw [if_neg s3]
    have q3 : ((s : Int) == 3) = false := beq_eq_false_iff_ne.2 (by omega)
    have hN := oneI_ok (at1, false) (by simp only; omega) 1000 v
    obtain ⟨h3, h4⟩ := oneI_le (at1, false)
    generalize oneI (at1, false) = q at *
    obtain ⟨n0, p2⟩ := q
    simp only at h3 h4 hN ⊢
    have hlen := kdF_len RI (trF RI f) (decide (s = 5)) ⟨[], [], p2⟩ n0
    generalize hR : kdF RI (trF RI f) (decide (s = 5)) n0 ⟨[], [], p2⟩ = R at *
    simp only [List.length_nil, Nat.zero_add] at hlen
    refine ACallsF.intro ok118 follows fun X c0 => ?_
    have loop : ∀ (Q : Exit → St → Prop) (t : Nat → T) (H : HMap) (c : Nat), inv118 v d s n0 (trF RI f) R n0 ⟨t, H, c⟩ → (∀ t H c u4 u a b, H 1000 = some (.var v 149 ((rcI R.p).map .v)) → t 4 = .c (.ptr 4 u4 0) → H 4 = some (.var u4 118 [.v (.s (.int .i64 0)), .v (.s (.int .i64 0)), .v (.s (.string ⟨#[]⟩)), .nil0, .nil0]) →
        t 5 = .c (.ptr 5 u 0) → H 5 = some (.var u 118 [.v (.s (.int .i64 s)), .v (.s (.int .i64 0)), .v (.s (.string ⟨#[]⟩)), .own 2005 a R.ns.length, .tr 2004 b R.ks.length]) → H 2005 = some (.arr a true 1 9 (encS R.ns)) → H 2004 = some (.tree b true 5 118 (encTs R.ks) none) → Q (.exit 1) ⟨t, H, c⟩) →
        oneW Tryz.prog X (ok118.sub [1, 1, 1, 1, 0, 1, 0]) Q ⟨t, H, c⟩ := by
      intro Q t0 H0 c0' h0 hQ
      dsimp only [okF.sub, ACode.sub]
      refine AW.loopM (inv118 v d s n0 (trF RI f) R) (fun k => k) n0 h0 fun k σ hI => ?_
      obtain ⟨t, H, c⟩ := σ
      obtain ⟨i, x, hik, hx, hxp, hl1, hl2, e0, e1, e55, e56, eH, ⟨u4, e4, eH4⟩, u5, a, b, e5, eH5, eHa, eHb⟩ := hI
      obtain ⟨ns, ks, at_, bad⟩ := x
      simp only [T.c, T.i, List.map_cons, List.map_nil] at e0 e1 e55 e56 eH e4 eH4 e5 eH5 eHa eHb hxp hl1 hl2
      cases k with
      | zero =>
        rw [kdF] at hx
        subst hx
        have k0 : ¬ (i : Int) < n0 := by omega
        refine oneW.of ?_
        simp only [go_sem, e55, e56, k0]
        exact hQ _ _ _ _ _ _ _ eH e4 eH4 e5 eH5 eHa eHb
      | succ n =>
        have k0 : (i : Int) < n0 := by omega
        rw [kdI_succ] at hx
        cases bad with
        | true =>
          rw [if_pos rfl] at hx
          have hx2 : (⟨ns, ks, (at_, true)⟩ : KSt PI) = R := by
            rw [← hx]
            have := kdF_fail RI (trF RI f) (decide (s = 5)) (i := 0) (x := ⟨ns, ks, (at_, true)⟩) rfl n
            rw [Nat.zero_add] at this
            exact this.symm
          subst hx2
          refine oneW.of ?_
          simp only [go_sem, e55, e56, k0, e0, eH]
          exact hQ _ _ _ _ _ _ _ eH e4 eH4 e5 eH5 eHa eHb
        | false =>
          rw [if_neg (by simp)] at hx
          have gw : IntKind.i64.wrap ((d : Int) + 1) = ((d + 1 : Nat) : Int) := wrap64 (x := (d : Int) + 1) ⟨by omega, by omega⟩
          have gi : IntKind.i64.wrap ((i : Int) + 1) = ((i + 1 : Nat) : Int) := wrap64 (x := (i : Int) + 1) ⟨by omega, by omega⟩
          have w1 : (ks.length + 1) * 80 ≤ 140737488355328 := by omega
          have w2 : ks.length + 1 ≤ 9223372036854775807 := by omega
          have w3 : (ns.length + 1) * 16 ≤ 140737488355328 := by omega
          have w4 : ns.length + 1 ≤ 9223372036854775807 := by omega
          have tn : List.take ns.length (encS ns) = encS ns := take_encS ns
          have tk : List.take ks.length (encTs ks) = encTs ks := take_encTs ks
          have ll1 : (encS ns).length = ns.length := encS_len ns
          have ll2 : (encTs ks).length = ks.length := encTs_len ks
          have nd : (([4005, 4004] : List Nat).Nodup ∧ ¬ 78 ∈ ([4005, 4004] : List Nat)) = True := eq_true (by decide)
          by_cases s5 : s = 5
          · have q5 : ((s : Int) == 5) = true := beq_iff_eq.2 (by omega)
            have d5 : decide (s = 5) = true := decide_eq_true s5
            simp only [d5, if_true] at hx
            have hT := textI_ok (at_, false) (by simp only; omega) 1000 v
            have hTl := (textI_le (at_, false)).1
            generalize textI (at_, false) = q at *
            obtain ⟨xx, p3⟩ := q
            simp only at hTl hT hx
            have hC3 := ih (d + 1) (by omega) p3 (by omega) 1000 v 4005 4004
            have hl3 := trI_le f p3
            generalize trF RI f p3 = q at *
            obtain ⟨kk, p4⟩ := q
            simp only at hC3 hl3 hx
            refine oneW.of ?_
            simp only [go_sem, e55, e56, k0, e0, eH, e5, eH5, q5]
            refine callQ (m := 1000) hT rfl rfl rfl rfl eH ⟨?_, ?_⟩
            · simp only [go_sem]
            simp only [go_sem, e5, eH5, eHa, ll1, tn, w3, w4, e0, e1, gw]
            refine callQt (m := 1000) (m1 := 4005) (m2 := 4004) hC3 (by decide) (by decide) rfl rfl rfl rfl ⟨?_, ?_⟩
            · simp only [go_sem]
            simp only [go_sem, e5, eHb, ll2, tk, w1, w2, nd, take_encS, take_encTs, e56, gi]
            refine ⟨n, Nat.lt_succ_self _, i + 1, ⟨ns ++ [xx], ks ++ [kk], p4⟩, ?_⟩
            simp only [List.length_append, List.length_singleton, encS_snoc, encTs_snoc, encT_eta]
            exact ⟨by omega, by rw [d5]; exact hx, by omega, by omega, by omega, e0, e1, e55, rfl, rfl, ⟨u4, e4, eH4⟩, u5, _, _, e5, rfl, rfl, rfl⟩
          · have q5 : ((s : Int) == 5) = false := beq_eq_false_iff_ne.2 (by omega)
            have d5 : decide (s = 5) = false := decide_eq_false s5
            simp only [d5, Bool.false_eq_true, if_false] at hx
            have hC3 := ih (d + 1) (by omega) (at_, false) (by simp only; omega) 1000 v 4005 4004
            have hl3 := trI_le f (at_, false)
            generalize trF RI f (at_, false) = q at *
            obtain ⟨kk, p4⟩ := q
            simp only at hC3 hl3 hx
            refine oneW.of ?_
            simp only [go_sem, e55, e56, k0, e0, eH, e5, eH5, q5, eHb, e1, gw]
            refine callQt (m := 1000) (m1 := 4005) (m2 := 4004) hC3 (by decide) (by decide) rfl rfl rfl eH ⟨?_, ?_⟩
            · simp only [go_sem]
            simp only [go_sem, e5, eH5, eHb, ll2, tk, w1, w2, nd, take_encS, take_encTs, e56, gi]
            refine ⟨n, Nat.lt_succ_self _, i + 1, ⟨ns, ks ++ [kk], p4⟩, ?_⟩
            simp only [List.length_append, List.length_singleton, encTs_snoc, encT_eta]
            exact ⟨by omega, by rw [d5]; exact hx, by omega, by omega, by omega, e0, e1, e55, rfl, rfl, ⟨u4, e4, eH4⟩, u5, _, _, e5, rfl, eHa, rfl⟩
    simp only [go_sem]
    refine callQ (m := 1000) hC rfl rfl rfl rfl rfl ⟨?_, ?_⟩
    · simp only [go_sem]
    simp only [go_sem, List.map_cons, List.map_nil, k6, q1, q2, q3]
    refine callQ (m := 1000) hN rfl rfl rfl rfl rfl ⟨?_, ?_⟩
    · simp only [go_sem]
    simp only [go_sem]
    refine Gh.one (gh_reify2 (n := 5) (j := 3) (id := 2005) (st := 1) (aty := 9) rfl rfl (by decide) (by decide)) ?_
    refine Gh.one (gh_reify2 (n := 5) (j := 4) (id := 2004) (st := 5) (aty := 118) rfl rfl (by decide) (by decide)) ?_
    refine Gh.one (gh_plant (n := 5) (j := 4) (id := 2004) rfl rfl rfl (by simp)) ?_
    refine loop _ _ _ _ ⟨0, ⟨[], [], p2⟩, by omega, hR, by simp only; omega, by simp only [List.length_nil]; omega, by simp only [List.length_nil]; omega, rfl, rfl, rfl, rfl, rfl, ⟨_, rfl, rfl⟩, _, _, _, rfl, rfl, rfl, rfl⟩ fun t H c u4 u a b eH e4 eH4 e5 eH5 eHa eHb => ?_
    obtain ⟨ns, ks, p3⟩ := R
    simp only [T.c, T.i, List.map_cons, List.map_nil] at e4 eH4 e5 eH5 eHa eHb hlen eH
    simp only [go_sem, eH, e4, eH4, e5, eH5, eHa, eHb, List.map_cons, List.map_nil, imp_self]
end Go.V
set_option linter.unusedSimpArgs false
set_option maxRecDepth 20000
namespace Go.V
open Go.Proofs
def ok119 := okF.gu (P := Tryz.prog) tab Tryz.func119 Tryz.ntmps119 (by conv => lhs; cbv) (by kernel_rfl)
def inv119 (xs ys : List UInt8) (i : Nat) (σ : St) : Prop := (∀ j, j < i → xs[j]? = ys[j]?) ∧ σ.t 0 = .c (.v (.sl (encB xs))) ∧ σ.t 1 = .c (.v (.sl (encB ys))) ∧ σ.t 12 = .i xs.length ∧ σ.t 13 = .i i
theorem equalB_ok (xs ys : List UInt8) (hx : xs.length ≤ 4611686018427387904) : ACallsF Tryz.prog 119 [.c (.v (.sl (encB xs))), .c (.v (.sl (encB ys)))] [] (.b (decide (xs = ys))) := by
  refine ACallsF.intro ok119 follows fun X c0 => ?_
  by_cases hl : xs.length = ys.length
  · have hl' : ((xs.length : Int) != (ys.length : Int)) = false := by simp [hl]
    simp only [go_sem, encB_len, hl']
    refine AW.upto xs.length (inv119 xs ys) ⟨fun j hj => absurd hj (Nat.not_lt_zero j), rfl, rfl, rfl, rfl⟩ fun i t H c h0 h => ?_
    obtain ⟨h2, h3, h4, h5, h6⟩ := h
    simp only [T.c, T.i] at h3 h4 h5 h6
    by_cases hi : i < xs.length
    · have hi' : (i : Int) < xs.length := by omega
      have e1 := encB_at (List.getElem?_eq_getElem hi)
      have e2 := encB_at (List.getElem?_eq_getElem (hl ▸ hi))
      have ew : IntKind.i64.wrap ((i : Int) + 1) = ((i + 1 : Nat) : Int) := wrap64 (by omega)
      have hn : (0 : Int) ≤ i := by omega
      by_cases he : xs[i] = ys[i]
      · have hq : (((xs[i]).toNat : Int) != (ys[i]).toNat) = false := by rw [he]; simp
        simp only [go_sem, hi', h3, h4, h5, h6, e1, e2, hn, Int.toNat_natCast, hq, ew]
        exact ⟨hi, fun j hj => by
          rcases Nat.lt_succ_iff_lt_or_eq.1 hj with hj | rfl
          · exact h2 j hj
          · rw [List.getElem?_eq_getElem hi, List.getElem?_eq_getElem (hl ▸ hi), he], h3, h4, h5, rfl⟩
      · have hne : xs ≠ ys := fun e => he (by subst e; rfl)
        have hq : (((xs[i]).toNat : Int) != (ys[i]).toNat) = true := bne_iff_ne.2 fun h => he (UInt8.toNat_inj.1 (Int.ofNat.inj h))
        simp only [go_sem, hi', h3, h4, h5, h6, e1, e2, hn, Int.toNat_natCast, hq, ew, hne]
    · have hi' : ¬ (i : Int) < xs.length := by omega
      have hne : xs = ys := List.ext_getElem? fun j => by
        by_cases hj : j < xs.length
        · exact h2 j (by omega)
        · rw [List.getElem?_eq_none (by omega), List.getElem?_eq_none (by omega)]
      simp only [go_sem, hi', h3, h4, h5, h6]
      simp only [hne, decide_true]
  · have hl' : ((xs.length : Int) != (ys.length : Int)) = true := by simp; omega
    have hne : xs ≠ ys := fun e => hl (by rw [e])
    simp only [go_sem, encB_len, hl', hne]
theorem packIO_ok (e : Ev) (hB : EvB e) (m : Nat) : ACallsF Tryz.prog 120 [tE e] [newH 2010 m 1 5 (encB (if evOk e = true then pkE e else []))] (.c (.own 2010 0 (if evOk e = true then pkE e else []).length)) := by
  have hC := evOkI_ok e hB
  cases h : evOk e with
  | false =>
    rw [h] at hC
    refine ownNil (by decide) (ACallsF.intro ok120 follows fun X c0 => ?_)
    simp only [go_sem]
    refine callC hC rfl rfl (by simp [closedA, closedP, closedC]) rfl ?_
    simp only [go_sem]
  | true =>
    rw [h] at hC
    rw [if_pos rfl]
    have hle := pkE_le h
    have hpe : pkE e = pkX e.typ ++ [byt e.ver] ++ pkT e.body := by rw [pkE]; simp
    rw [hpe] at hle ⊢
    have hle2 : (pkX e.typ ++ [byt e.ver]).length ≤ 9000 := by rw [List.length_append] at hle; omega
    simp only [List.length_append, List.length_singleton] at hle2
    simp only [evOk, Bool.and_eq_true] at h
    obtain ⟨k1, k2⟩ := okT_true.1 h.2.2.2
    have hn := nameOk_size h.1
    have hC3 := packTree' e.body 1 k1 (by omega) (pkX e.typ ++ [byt e.ver]) 2010
    simp only [tT, encT_eta, List.map_cons, List.map_nil] at hC3
    have w1 : ((pkX e.typ).length + 1) * 1 ≤ 140737488355328 := by omega
    have w2 : (pkX e.typ).length + 1 ≤ 9223372036854775807 := by omega
    have tk := take_own (pkX e.typ)
    generalize hW : pkX e.typ ++ [byt e.ver] ++ pkT e.body = W at *
    refine ACallsF.intro ok120 follows fun X c0 => ?_
    simp only [go_sem]
    refine callC hC rfl rfl (by simp [closedA, closedP, closedC]) rfl ?_
    simp only [go_sem]
    refine callA (m := 2010) (packTextN_ok e.typ (by omega) 2010) rfl rfl rfl rfl ⟨?_, ?_⟩
    · simp only [go_sem]
    simp only [go_sem, wrapb, tk, w1, w2, encB_len]
    refine callG (n := 2010) (m := 2010) (hC3 _ ((pkX e.typ).length + 1) (encB (pkX e.typ) ++ [[V.s (.int .u8 (byt e.ver).toNat)]]) (by simp only [List.length_append, List.length_singleton]; omega) (by simp) (by rw [encB_app, encB_one])) rfl rfl (by simp [closedA, closedP, closedC]) rfl ⟨?_, ?_⟩
    · simp only [go_sem]
    simp only [go_sem, imp_self]
/-! An event with all that it holds. -/
abbrev oEc (c1 v1 c2 v2 : Nat) (e : Ev) : List C := [.v (.s (.string e.typ)), .v (.s (.int .i64 e.ver)), .v (.s (.int .i64 e.body.s)), .v (.s (.int .i64 e.body.m)), .v (.s (.string e.body.x)), .own c1 v1 e.body.n.length, .tr c2 v2 e.body.k.length]
abbrev oEb (c1 v1 c2 v2 : Nat) (e : Ev) (b : Bool) : T := .tup [.agg (oEc c1 v1 c2 v2 e), .one (.v (.s (.bool b)))]
theorem lendE {H : HMap} {m1 v1 m2 v2 n1 n2 : Nat} {w1 w2 : Bool} {e : Ev} (h1 : H m1 = some (.arr v1 w1 1 9 (encS e.body.n))) (h2 : H m2 = some (.tree v2 w2 5 118 (encTs e.body.k) none)) (e1 : n1 = e.body.n.length) (e2 : n2 = e.body.k.length) :
    lendTs H [tE e] [.pt (.agg [.v (.s (.string e.typ)), .v (.s (.int .i64 e.ver)), .v (.s (.int .i64 e.body.s)), .v (.s (.int .i64 e.body.m)), .v (.s (.string e.body.x)), .own m1 v1 n1, .tr m2 v2 n2])] = some ([tE e], trL m1 v1 m2 v2 e.body, [m1, m2]) := by
  subst e1 e2
  simp only [lendTs, tE, cE, List.map_cons, List.map_nil, lendT, lendCs, lendC, sealC, h1, h2, encS_len, encTs_len, take_encS, take_encTs, Nat.le_refl, and_self, if_true, Option.map_some, List.cons_append, List.nil_append, List.append_nil]
theorem ownE0 {P : Program} {f : FuncId} {args : List T} {m1 m2 : Nat} {b : Bool} (h : ACallsF P f args [] (.tup [.agg [.v (.s (.string ⟨#[]⟩)), .v (.s (.int .i64 0)), .v (.s (.int .i64 0)), .v (.s (.int .i64 0)), .v (.s (.string ⟨#[]⟩)), .nil0, .nil0], .one (.v (.s (.bool b)))])) :
    ACallsF P f args (trH2 2005 2004 m1 m2 zE.body) (oEb 2005 0 2004 0 zE b) :=
  own0 (r := .tup [.agg [.v (.s (.string ⟨#[]⟩)), .v (.s (.int .i64 0)), .v (.s (.int .i64 0)), .v (.s (.int .i64 0)), .v (.s (.string ⟨#[]⟩)), .nil0, .tr 2004 0 0], .one (.v (.s (.bool b)))]) (hs := [newT 2004 m2 5 118 []]) false 0 5 2005 m1 1 9 (by decide) rfl rfl (fun ν ν' h => by simp [verT, verP, verC, h]) (fun ν ν' h x hx v => by simp at hx; subst hx; rfl)
    (own0 (r := .tup [.agg [.v (.s (.string ⟨#[]⟩)), .v (.s (.int .i64 0)), .v (.s (.int .i64 0)), .v (.s (.int .i64 0)), .v (.s (.string ⟨#[]⟩)), .nil0, .nil0], .one (.v (.s (.bool b)))]) (hs := []) true 0 6 2004 m2 5 118 (by decide) rfl rfl (fun ν ν' h => by simp [verT, verP, verC]) (fun ν ν' h x hx v => by cases hx) h)
end Go.V
set_option linter.unusedSimpArgs false
set_option maxRecDepth 20000
namespace Go.V
open Go.Proofs
theorem lendB {H : HMap} {m v n : Nat} {w : Bool} {L bs : List UInt8} (h1 : H m = some (.arr v w 1 5 (encB L))) (e1 : n = L.length) : lendTs H [tL (encB L), tL (encB bs)] [.c (.own m v n), tL (encB bs)] = some ([tL (encB L), tL (encB bs)], [(m, .arr v false 1 5 (encB L))], [m]) := by
  subst e1
  have h2 : L.length ≤ (encB L).length := by rw [encB_len]; omega
  simp only [tL, T.c, lendTs, lendT, lendC, sealC, h1, h2, take_own, and_self, if_true, Option.map_some, List.append_nil, encB_len, Nat.le_refl]
def ok104 := okF.gu (P := Tryz.prog) tab Tryz.func104 Tryz.ntmps104 (by conv => lhs; cbv) (by kernel_rfl)
set_option maxHeartbeats 2000000 in
theorem unpackI_ok (bs : List UInt8) (hb : bs.length ≤ 1000000) (m1 m2 : Nat) : ACallsF Tryz.prog 104 [tL (encB bs)] (trH2 2005 2004 m1 m2 (evU bs).1.body) (oEb 2005 0 2004 0 (evU bs).1 (evU bs).2) := by
  by_cases h9 : bs.length > 9000
  · have k0 : (bs.length : Int) > 9000 := by omega
    have hno : evU bs = (zE, false) := evU_no fun e h1 h2 => by have := pkE_le h1; rw [h2] at this; omega
    rw [hno]
    refine ownE0 ?_
    refine ACallsF.intro ok104 follows fun X c0 => ?_
    simp only [go_sem, encB_len, k0]
  have k0 : ¬ (bs.length : Int) > 9000 := by omega
  have hT := textI_ok (bs, false) hb 12
  have hTl := textI_le (bs, false)
  have hback : ∀ e, evOk e = true → pkE e = bs → (textI (bs, false)).1 = e.typ ∧ ((oneI (textI (bs, false)).2).1 : Int) = e.ver ∧ (trF RI 6 (oneI (textI (bs, false)).2).2).1 = e.body ∧ HasI (trF RI 6 (oneI (textI (bs, false)).2).2).2 [] := fun e h1 h2 => by
    subst h2
    exact ev_back RI_ok h1 (p := (pkE e, false)) (l := []) (by rw [List.append_nil]; rfl)
  generalize textI (bs, false) = q at *
  obtain ⟨ty, p1⟩ := q
  simp only at hT hTl hback
  have hO := oneI_ok p1 (by omega) 12
  have hOl := oneI_le p1
  generalize oneI p1 = q at *
  obtain ⟨ve, p2⟩ := q
  simp only at hO hOl hback
  have hR := treeI_ok 6 1 rfl p2 (by omega) 12
  have hRb := trF_TB RI RI_B 6 p2
  generalize trF RI 6 p2 = q at *
  obtain ⟨bo, rest, bad⟩ := q
  simp only [Int.natCast_one] at hR hRb hback
  have hE : EvB ⟨ty, ve, bo⟩ := ⟨by show ty.size ≤ _; omega, hRb.le (by omega)⟩
  have hP := packIO_ok _ hE 2011
  have hPl : (if evOk ⟨ty, ve, bo⟩ = true then pkE ⟨ty, ve, bo⟩ else []).length ≤ 9000 := by
    split
    · rename_i h; exact pkE_le h
    · simp
  generalize hL : (if evOk ⟨ty, ve, bo⟩ = true then pkE ⟨ty, ve, bo⟩ else []) = L at *
  have hQ := equalB_ok L bs (by omega)
  have end_ : ∀ e, evOk e = true → pkE e = bs → bad = false ∧ rest = [] ∧ (⟨ty, ve, bo⟩ : Ev) = e := fun e h1 h2 => by
    obtain ⟨b1, b2, b3, b4⟩ := hback e h1 h2
    obtain ⟨b5, b6⟩ := Prod.mk.inj b4
    refine ⟨b6, b5, ?_⟩
    rw [b1, b2, b3]
  have tkL := take_own L
  have qL : L.length ≤ (encB L).length := by rw [encB_len]; omega
  by_cases good : bad = false ∧ rest = [] ∧ bs ≠ [] ∧ L = bs
  · obtain ⟨rfl, rfl, g3, g4⟩ := good
    have hok : evOk ⟨ty, ve, bo⟩ = true := by
      cases h : evOk ⟨ty, ve, bo⟩ with
      | true => rfl
      | false =>
        rw [h, if_neg (by simp)] at hL
        exact absurd (hL.trans g4).symm g3
    rw [if_pos hok] at hL
    have hev : evU bs = (⟨ty, ve, bo⟩, true) := by rw [← g4, ← hL]; exact evU_pk hok
    rw [hev]
    have k1 : ¬ ((0 : Nat) : Int) > 0 := by omega
    have k2 : ((bs.length : Int) == 0) = false := beq_eq_false_iff_ne.2 (by have := List.length_pos_iff.2 g3; omega)
    refine ACallsF.intro ok104 follows fun X c0 => ?_
    simp only [go_sem, encB_len, k0]
    refine callQ (m := 12) (hT _) rfl rfl rfl rfl rfl ⟨?_, ?_⟩
    · simp only [go_sem]
    simp only [go_sem]
    refine callQ (m := 12) (hO _) rfl rfl rfl rfl rfl ⟨?_, ?_⟩
    · simp only [go_sem]
    simp only [go_sem]
    refine callQt (m := 12) (m1 := 2005) (m2 := 2004) (hR _ 2005 2004) (by decide) (by decide) rfl rfl rfl rfl ⟨?_, ?_⟩
    · simp only [go_sem]
    simp only [go_sem, List.map_cons, List.map_nil, encB_nil, k1, encB_len, k2]
    refine callA1 (m := 2011) (ws := trL 2005 _ 2004 _ bo) (ns := [2005, 2004]) hP rfl (lendE rfl rfl rfl rfl) (by simp [closedA, closedP, closedC]) (encB_flat _) ⟨?_, ?_⟩
    · simp only [go_sem]
    simp only [go_sem]
    refine callL (ns := [2011]) hQ rfl (lendB rfl rfl) (by simp [closedA, closedP, closedC]) rfl ⟨?_, ?_⟩
    · simp only [go_sem]
    simp only [go_sem, g4, scalarT, scalarP, scalarC, imp_self]
  · have hno : evU bs = (zE, false) := evU_no fun e h1 h2 => by
      obtain ⟨g1, g2, g3⟩ := end_ e h1 h2
      refine good ⟨g1, g2, fun h => ?_, ?_⟩
      · rw [h] at h2
        have := congrArg List.length h2
        rw [pkE, List.length_append, List.length_cons] at this
        simp at this
      · rw [g3, if_pos h1] at hL
        exact hL.symm.trans h2
    rw [hno]
    refine ownE0 ?_
    refine ACallsF.intro ok104 follows fun X c0 => ?_
    simp only [go_sem, encB_len, k0]
    refine callQ (m := 12) (hT _) rfl rfl rfl rfl rfl ⟨?_, ?_⟩
    · simp only [go_sem]
    simp only [go_sem]
    refine callQ (m := 12) (hO _) rfl rfl rfl rfl rfl ⟨?_, ?_⟩
    · simp only [go_sem]
    simp only [go_sem]
    refine callQt (m := 12) (m1 := 2005) (m2 := 2004) (hR _ 2005 2004) (by decide) (by decide) rfl rfl rfl rfl ⟨?_, ?_⟩
    · simp only [go_sem]
    cases bad with
    | true => simp only [go_sem, List.map_cons, List.map_nil, imp_self]
    | false =>
      cases hre : rest with
      | cons x xs =>
        have k1 : ((xs.length + 1 : Nat) : Int) > 0 := by omega
        simp only [go_sem, List.map_cons, List.map_nil, encB_len, k1, imp_self]
      | nil =>
        have k1 : ¬ ((0 : Nat) : Int) > 0 := by omega
        cases hbs : bs with
        | nil =>
          have k2 : (((0 : Nat) : Int) == 0) = true := rfl
          simp only [go_sem, List.map_cons, List.map_nil, encB_nil, k1, k2, imp_self]
        | cons y ys =>
          have k2 : ((bs.length : Int) == 0) = false := beq_eq_false_iff_ne.2 (by rw [hbs, List.length_cons]; omega)
          rw [← hbs]
          have hne : ¬ L = bs := fun h => good ⟨rfl, hre, by rw [hbs]; simp, h⟩
          simp only [go_sem, List.map_cons, List.map_nil, encB_nil, k1, encB_len, k2]
          refine callA1 (m := 2011) (ws := trL 2005 _ 2004 _ bo) (ns := [2005, 2004]) hP rfl (lendE rfl rfl rfl rfl) (by simp [closedA, closedP, closedC]) (encB_flat _) ⟨?_, ?_⟩
          · simp only [go_sem]
          simp only [go_sem]
          refine callL (ns := [2011]) hQ rfl (lendB rfl rfl) (by simp [closedA, closedP, closedC]) rfl ⟨?_, ?_⟩
          · simp only [go_sem]
          simp only [go_sem, hne, scalarT, scalarP, scalarC, imp_self]
end Go.V
set_option linter.unusedSimpArgs false
set_option maxRecDepth 20000
namespace Go.V
open Go.Proofs
def ok136 := okF.gu (P := Tryz.prog) tab Tryz.func136 Tryz.ntmps136 (by conv => lhs; cbv) (by kernel_rfl)
theorem evBad_ok (e : Ev) (hB : EvB e) : ACallsF Tryz.prog 136 [tE e] [] (.b (!evOk e)) := by
  have hC := evOkI_ok e hB
  refine ACallsF.intro ok136 follows fun X c0 => ?_
  simp only [go_sem]
  refine callC hC rfl rfl (by simp [closedA, closedP, closedC]) rfl ?_
  cases h : evOk e with
  | false => simp only [go_sem]
  | true => simp only [go_sem]
def ok153 := okF.gu (P := Tryz.prog) tab Tryz.func153 Tryz.ntmps153 (by conv => lhs; cbv) (by kernel_rfl)
def inv153 (es : List Ev) (i : Nat) (σ : St) : Prop := σ.t 0 = tL (en cE es) ∧ σ.t 1 = .c (.fn 136 []) ∧ σ.t 7 = .i es.length ∧ σ.t 8 = .i i
theorem idxBad_ok (es : List Ev) (hl : es.length ≤ 2000000) (hB : ∀ e ∈ es, EvB e) : ∃ k : Int, (k ≥ 0 ↔ es.all evOk = false) ∧ ACallsF Tryz.prog 153 [tL (en cE es), .c (.fn 136 [])] [] (.i k) := by
  rcases firstBad es with hall | ⟨N, eb, hN, hbad, hgood⟩
  · refine ⟨-1, ⟨fun h => by omega, fun h => ?_⟩, ?_⟩
    · rw [List.all_eq_true.2 hall] at h; cases h
    refine ACallsF.intro ok153 follows fun X c0 => ?_
    simp only [go_sem, en_len]
    refine AW.upto es.length (inv153 es) ⟨rfl, rfl, rfl, rfl⟩ fun i t H c hi hI => ?_
    obtain ⟨e0, e1, e7, e8⟩ := hI
    simp only [T.c, T.i, T.s, tL] at e0 e1 e7 e8
    by_cases hlt : i < es.length
    · have k0 : (i : Int) < es.length := by omega
      have gz : (0 : Int) ≤ i := by omega
      have gw : IntKind.i64.wrap ((i : Int) + 1) = ((i + 1 : Nat) : Int) := wrap64 (x := (i : Int) + 1) ⟨by omega, by omega⟩
      obtain ⟨e, he⟩ : ∃ e, es[i]? = some e := ⟨_, List.getElem?_eq_getElem hlt⟩
      have hm := List.mem_of_getElem? he
      have ee := en_at cE he
      have hP := evBad_ok e (hB e hm)
      rw [hall e hm] at hP
      simp only [go_sem, e0, e1, e7, e8, k0, gz, ee, en_len, Int.toNat_natCast]
      refine callC hP rfl rfl (by simp [closedA, closedP, closedC]) rfl ?_
      simp only [go_sem, e8, gw]
      exact ⟨hlt, e0, e1, e7, rfl⟩
    · have k0 : ¬ (i : Int) < es.length := by omega
      simp only [go_sem, e0, e1, e7, e8, k0, en_len]
  · have hNl := (List.getElem?_eq_some_iff.1 hN).1
    refine ⟨N, ⟨fun _ => ?_, fun _ => by omega⟩, ?_⟩
    · rw [Bool.eq_false_iff]
      intro h
      rw [List.all_eq_true.1 h eb (List.mem_of_getElem? hN)] at hbad; cases hbad
    refine ACallsF.intro ok153 follows fun X c0 => ?_
    simp only [go_sem, en_len]
    refine AW.upto N (inv153 es) ⟨rfl, rfl, rfl, rfl⟩ fun i t H c hi hI => ?_
    obtain ⟨e0, e1, e7, e8⟩ := hI
    simp only [T.c, T.i, T.s, tL] at e0 e1 e7 e8
    have k0 : (i : Int) < es.length := by omega
    have gz : (0 : Int) ≤ i := by omega
    have gw : IntKind.i64.wrap ((i : Int) + 1) = ((i + 1 : Nat) : Int) := wrap64 (x := (i : Int) + 1) ⟨by omega, by omega⟩
    obtain ⟨e, he⟩ : ∃ e, es[i]? = some e := ⟨_, List.getElem?_eq_getElem (by omega)⟩
    have hm := List.mem_of_getElem? he
    have ee := en_at cE he
    have hP := evBad_ok e (hB e hm)
    by_cases hlt : i < N
    · rw [hgood i e hlt he] at hP
      simp only [go_sem, e0, e1, e7, e8, k0, gz, ee, en_len, Int.toNat_natCast]
      refine callC hP rfl rfl (by simp [closedA, closedP, closedC]) rfl ?_
      simp only [go_sem, e8, gw]
      exact ⟨hlt, e0, e1, e7, rfl⟩
    · have hi2 : i = N := by omega
      subst hi2
      rw [hN] at he; cases he
      rw [hbad] at hP
      simp only [go_sem, e0, e1, e7, e8, k0, gz, ee, en_len, Int.toNat_natCast]
      refine callC hP rfl rfl (by simp [closedA, closedP, closedC]) rfl ?_
      simp only [go_sem]
def ok135 := okF.gu (P := Tryz.prog) tab Tryz.func135 Tryz.ntmps135 (by conv => lhs; cbv) (by kernel_rfl)
theorem anyBad_ok (es : List Ev) (hl : es.length ≤ 2000000) (hB : ∀ e ∈ es, EvB e) : ACallsF Tryz.prog 135 [tL (en cE es), .c (.fn 136 [])] [] (.b (!es.all evOk)) := by
  obtain ⟨k, hk, hC⟩ := idxBad_ok es hl hB
  refine ACallsF.intro ok135 follows fun X c0 => ?_
  simp only [go_sem]
  refine callLf (ws := []) (ns := []) hC rfl rfl rfl rfl ⟨?_, ?_⟩
  · simp only [go_sem]
  by_cases h : k ≥ 0
  · have h2 := hk.1 h
    simp only [go_sem, h, h2]
  · have h2 : es.all evOk = true := by
      cases h3 : es.all evOk with
      | true => rfl
      | false => exact absurd (hk.2 h3) h
    simp only [go_sem, h, h2]
def ok121 := okF.gu (P := Tryz.prog) tab Tryz.func121 Tryz.ntmps121 (by conv => lhs; cbv) (by kernel_rfl)
theorem recOkI_ok (r : Rc) (hr : RcB r) : ACallsF Tryz.prog 121 [tRc r] [] (.b (recB r)) := by
  have hC1 := inRange_ok r.pos 1 999999
  have hC2 := isName_ok r.key (by have := hr.key; omega)
  have hC3 := inRange_ok r.evs.length 1 40
  have hC4 := anyBad_ok r.evs hr.len hr.evs
  unfold recB
  refine ACallsF.intro ok121 follows fun X c0 => ?_
  simp only [go_sem]
  refine callC hC1 rfl rfl rfl rfl ?_
  generalize (decide (1 ≤ r.pos) && decide (r.pos ≤ 999999)) = A
  cases A with
  | false => simp only [go_sem]
  | true =>
    simp only [go_sem]
    refine callC hC2 rfl rfl rfl rfl ?_
    cases h2 : nameOk r.key with
    | false => simp only [go_sem]
    | true =>
      simp only [go_sem, en_len]
      refine callC hC3 rfl rfl rfl rfl ?_
      generalize (decide (1 ≤ (r.evs.length : Int)) && decide ((r.evs.length : Int) ≤ 40)) = B
      cases B with
      | false => simp only [go_sem]
      | true =>
        simp only [go_sem]
        refine callLf (ws := []) (ns := []) hC4 rfl rfl rfl rfl ⟨?_, ?_⟩
        · simp only [go_sem]
        cases h4 : r.evs.all evOk with
        | false => simp only [go_sem]
        | true => simp only [go_sem]
end Go.V
set_option linter.unusedSimpArgs false
set_option maxRecDepth 20000
namespace Go.V
open Go.Proofs
theorem shr8 (n : Nat) : sInt .shr .i64 (n : Int) 8 = some (.int .i64 ((n / 256 : Nat) : Int)) := by
  have e : (n : Int).fdiv 256 = ((n / 256 : Nat) : Int) := (Int.ofNat_fdiv n 256).symm
  show some (Value.int .i64 ((n : Int).fdiv 256)) = _
  rw [e]
theorem two1 (a b : V) : (∀ e : List V, e ∈ [[a], [b]] → e.length = 1) = True := eq_true fun e h => by
  rcases List.mem_cons.1 h with rfl | h
  · rfl
  · rcases List.mem_cons.1 h with rfl | h
    · rfl
    · cases h
theorem byt_mod (n : Nat) : byt ((n % 256 : Nat) : Int) = byt (n : Int) := by
  have e : ((n % 256 : Nat) : Int) % 256 = (n : Int) % 256 := by omega
  simp only [byt, e]
theorem allB1 (bs : List UInt8) : (∀ e : List V, e ∈ encB bs → e.length = 1) = True := eq_true fun e h => by
  simp only [encB, List.mem_map] at h
  obtain ⟨b, _, rfl⟩ := h
  rfl
def ok122 := okF.gu (P := Tryz.prog) tab Tryz.func122 Tryz.ntmps122 (by conv => lhs; cbv) (by kernel_rfl)
def inv122 (r : Rc) (i : Nat) (σ : St) : Prop :=
  (∃ u, σ.t 1 = .c (.ptr 1 u 0) ∧ σ.H 1 = some (.var u 86 ((cR r).map .v))) ∧ σ.t 17 = tL (en cE r.evs) ∧ σ.t 18 = .i r.evs.length ∧ σ.t 19 = .i i ∧
  ∃ (cur : List UInt8) (v : Nat), cur = pkX r.key ++ byt r.evs.length :: pkEs (r.evs.take i) ∧ σ.t 3 = .c (.own 2010 v cur.length) ∧ σ.H 2010 = some (.arr v true 1 5 (encB cur))
theorem packR_ok (r : Rc) (hr : RcB r) (h : recB r = true) : ACallsF Tryz.prog 122 [tRc r] [] (tS (ofL (pkR r))) := by
  obtain ⟨_, h2, h3, h4, h5⟩ := recB_inv h
  have hk := nameOk_size h2
  have hxl := pkX_len r.key
  have w1 : ((pkX r.key).length + 1) * 1 ≤ 140737488355328 := by omega
  have w2 : (pkX r.key).length + 1 ≤ 9223372036854775807 := by omega
  have tk := take_own (pkX r.key)
  refine ACallsF.intro ok122 follows fun X c0 => ?_
  simp only [go_sem]
  refine callA (m := 2010) (packTextN_ok r.key (by omega) 2010) rfl rfl rfl rfl ⟨?_, ?_⟩
  · simp only [go_sem]
  simp only [go_sem, wrapb, tk, w1, w2, encB_len, en_len]
  refine AW.upto r.evs.length (inv122 r) ?_ fun i t H c hi hI => ?_
  · refine ⟨⟨_, rfl, rfl⟩, rfl, rfl, rfl, pkX r.key ++ [byt r.evs.length], ?_⟩
    simp only [List.length_append, List.length_singleton, encB_app, encB_one]
    exact ⟨_, by rw [List.take_zero, pkEs], rfl, rfl⟩
  obtain ⟨⟨u1, e1, eH1⟩, e17, e18, e19, cur, v, hcur, e3, eH⟩ := hI
  simp only [T.c, T.i, T.s, tL, List.map_cons, List.map_nil] at e1 eH1 e17 e18 e19 e3 eH
  by_cases hlt : i < r.evs.length
  · have k0 : (i : Int) < r.evs.length := by omega
    have gz : (0 : Int) ≤ i := by omega
    have gw : IntKind.i64.wrap ((i : Int) + 1) = ((i + 1 : Nat) : Int) := wrap64 (x := (i : Int) + 1) ⟨by omega, by omega⟩
    obtain ⟨e, he⟩ : ∃ e, r.evs[i]? = some e := ⟨_, List.getElem?_eq_getElem hlt⟩
    have hm := List.mem_of_getElem? he
    have ee := en_at cE he
    have hP := packIO_ok e (hr.evs e hm) 2011
    rw [if_pos (h5 e hm)] at hP
    have hl := pkE_le (h5 e hm)
    have hpre := pkEs_le (r.evs.take i) fun x hx => h5 x (List.mem_of_mem_take hx)
    have hti : (r.evs.take i).length ≤ 40 := by rw [List.length_take]; omega
    have hcl : cur.length ≤ 1000000 := by rw [hcur]; simp only [List.length_append, List.length_cons]; omega
    have tk1 := take_own cur
    have tk2 := take_own (pkE e)
    have r1 : (cur.length + 2) * 1 ≤ 140737488355328 := by omega
    have r2 : cur.length + 2 ≤ 9223372036854775807 := by omega
    have r3 : cur.length ≤ (encB cur).length := by rw [encB_len]; omega
    have r4 : (cur.length + 2 + (pkE e).length) * 1 ≤ 140737488355328 := by omega
    have r5 : cur.length + 2 + (pkE e).length ≤ 9223372036854775807 := by omega
    have hsh := shr8 (pkE e).length
    simp only [go_sem, e1, eH1, e17, e18, e19, k0, gz, ee, en_len, Int.toNat_natCast]
    refine callA1 (m := 2011) (ws := []) (ns := []) hP rfl rfl (by simp [closedA, closedP, closedC]) (encB_flat _) ⟨?_, ?_⟩
    · simp only [go_sem]
    have tk3 : ∀ a b : UInt8, List.take (cur.length + 2) (encB cur ++ [[V.s (.int .u8 a.toNat)], [V.s (.int .u8 b.toNat)]]) = encB cur ++ [[V.s (.int .u8 a.toNat)], [V.s (.int .u8 b.toNat)]] := fun a b => List.take_of_length_le (by simp only [List.length_append, encB_len, List.length_cons, List.length_nil]; omega)
    simp only [go_sem, e3, eH, encB_len, hsh, wrapb, tk1, tk2, r1, r2, r3, r4, r5, e19, gw, two1, tk3, allB1]
    refine ⟨hlt, ⟨u1, e1, eH1⟩, e17, e18, rfl, cur ++ [byt (((pkE e).length / 256 : Nat) : Int), byt ((pkE e).length : Int)] ++ pkE e, ?_⟩
    simp only [List.length_append, List.length_cons, List.length_nil, encB_app]
    exact ⟨_, by rw [hcur, pkEs_snoc he, byt_mod]; simp, rfl, rfl⟩
  · have hi2 : i = r.evs.length := by omega
    subst hi2
    have k0 : ¬ (r.evs.length : Int) < r.evs.length := by omega
    rw [List.take_length] at hcur
    have hcR : cur = pkR r := hcur
    clear hcur
    subst hcR
    have tk1 := take_own (pkR r)
    generalize pkR r = W at *
    simp only [go_sem, e1, eH1, e17, e18, e19, e3, eH, k0, en_len, tk1, bytesOf_enc, pushB_enc]
end Go.V
set_option linter.unusedSimpArgs false
set_option maxRecDepth 20000
namespace Go.V
open Go.Proofs
def ok106 := okF.gu (P := Tryz.prog) tab Tryz.func106 Tryz.ntmps106 (by conv => lhs; cbv) (by kernel_rfl)
theorem recPackI_ok (r : Rc) (hr : RcB r) : ACallsF Tryz.prog 106 [tRc r] [] (tS (pkd r)) := by
  have hC1 := recOkI_ok r hr
  unfold pkd rcOk
  cases h : recB r with
  | false =>
    rw [h] at hC1
    refine ACallsF.intro ok106 follows fun X c0 => ?_
    simp only [go_sem]
    refine callC hC1 rfl rfl (by simp [closedA, closedP, closedC]) rfl ?_
    simp only [go_sem]
  | true =>
    rw [h] at hC1
    have hC2 := packR_ok r hr h
    refine ACallsF.intro ok106 follows fun X c0 => ?_
    simp only [go_sem]
    refine callC hC1 rfl rfl (by simp [closedA, closedP, closedC]) rfl ?_
    simp only [go_sem]
    refine callC hC2 rfl rfl (by simp [closedA, closedP, closedC]) rfl ?_
    by_cases hl : ((pkR r).length : Int) ≤ 2000
    · have k0 : ¬ ((pkR r).length : Int) > 2000 := by omega
      simp only [go_sem, ofL_size, k0, hl, decide_true, Bool.and_self, if_true]
    · have k0 : ((pkR r).length : Int) > 2000 := by omega
      simp only [go_sem, ofL_size, k0, hl, decide_false]
end Go.V
set_option linter.unusedSimpArgs false
namespace Go.V
open Go.Proofs
/-! Records, read back by the program. -/
def p2E (p : PI) : PI := (oneI (oneI p).2).2
def szE (p : PI) : Nat := (oneI p).1 * 256 + (oneI (oneI p).2).1
noncomputable def evI (p : PI) : Ev × Bool := evU (takeI (szE p) (p2E p)).1
noncomputable def rkI : Nat → List Ev → PI → Option (List Ev × PI)
  | 0, es, p => some (es, p)
  | n + 1, es, p => if (takeI (szE p) (p2E p)).2.2 = true then none else if (evI p).2 = true then rkI n (es ++ [(evI p).1]) (takeI (szE p) (p2E p)).2 else none
theorem rkI_ok : ∀ (es es0 : List Ev) (l : List UInt8), (∀ e ∈ es, evOk e = true) → rkI es.length es0 (pkEs es ++ l, false) = some (es0 ++ es, (l, false))
  | [], es0, l, _ => by rw [List.append_nil]; rfl
  | e :: es, es0, l, he => by
    have hl := pkE_le (he e (by simp))
    have e1 := oneI_has (byt (((pkE e).length / 256 : Nat) : Int)) (byt (((pkE e).length % 256 : Nat) : Int) :: (pkE e ++ pkEs es) ++ l)
    have e2 := oneI_has (byt (((pkE e).length % 256 : Nat) : Int)) ((pkE e ++ pkEs es) ++ l)
    rw [byt_nat (by omega)] at e1 e2
    have h0 : (pkEs (e :: es) ++ l, false) = (byt (((pkE e).length / 256 : Nat) : Int) :: (byt (((pkE e).length % 256 : Nat) : Int) :: (pkE e ++ pkEs es) ++ l), false) := by rw [pkEs]; simp
    have e2' : oneI (byt (((pkE e).length % 256 : Nat) : Int) :: (pkE e ++ pkEs es) ++ l, false) = ((pkE e).length % 256, ((pkE e ++ pkEs es) ++ l, false)) := e2
    have hsz : szE (pkEs (e :: es) ++ l, false) = (pkE e).length := by rw [szE, h0, e1]; simp only; rw [e2']; simp only; omega
    have hp : p2E (pkEs (e :: es) ++ l, false) = ((pkE e ++ pkEs es) ++ l, false) := by rw [p2E, h0, e1]; simp only; rw [e2']
    have ht : takeI (pkE e).length ((pkE e ++ pkEs es) ++ l, false) = (pkE e, (pkEs es ++ l, false)) := by
      rw [takeI, if_pos (by simp only [List.length_append]; omega)]
      simp only
      rw [List.append_assoc, List.take_append_of_le_length (Nat.le_refl _), List.take_length, List.drop_append_of_le_length (Nat.le_refl _), List.drop_length, List.nil_append]
    have hev : evI (pkEs (e :: es) ++ l, false) = (e, true) := by rw [evI, hsz, hp, ht]; exact evU_pk (he e (by simp))
    rw [List.length_cons, rkI, hev, hsz, hp, ht, if_neg (by simp), if_pos rfl]
    simp only
    rw [rkI_ok es (es0 ++ [e]) l fun x hx => he x (by simp [hx])]
    simp
theorem recI_back {r : Rc} (h : recB r = true) {bs : List UInt8} (hb : pkR r = bs) : ∃ p1 p2 p3, textI (bs, false) = (r.key, p1) ∧ oneI p1 = (r.evs.length, p2) ∧ rkI r.evs.length [] p2 = some (r.evs, p3) := by
  obtain ⟨_, h2, h3, h4, h5⟩ := recB_inv h
  have hk := nameOk_size h2
  subst hb
  have t1 := textI_has r.key (byt r.evs.length :: pkEs r.evs) (by omega)
  have o1 := oneI_has (byt r.evs.length) (pkEs r.evs)
  rw [byt_nat (by omega)] at o1
  have i1 := rkI_ok r.evs [] [] h5
  rw [List.append_nil, List.nil_append] at i1
  exact ⟨_, _, _, t1, o1, i1⟩
theorem unI_law (pos : Int) (d : ByteArray) {key : ByteArray} {p1 p2 : PI} {n0 : Nat} {res : Option (List Ev × PI)} (ht : textI (d.data.toList, false) = (key, p1)) (ho : oneI p1 = (n0, p2)) (hr : rkI n0 [] p2 = res) :
    (res = none → unpR pos d = (zR, false)) ∧ ∀ es p3, res = some (es, p3) → (pkd ⟨pos, key, es⟩ ≠ d → unpR pos d = (zR, false)) ∧ (d = ⟨#[]⟩ → unpR pos d = (zR, false)) ∧ (pkd ⟨pos, key, es⟩ = d → d ≠ ⟨#[]⟩ → unpR pos d = (⟨pos, key, es⟩, true)) := by
  have back : ∀ r, rcOk r = true → r.pos = pos → ofL (pkR r) = d → key = r.key ∧ ∃ p3, res = some (r.evs, p3) := fun r h1 h2 h3 => by
    obtain ⟨q1, q2, q3, a1, a2, a3⟩ := recI_back (rcOk_B h1) (bs := d.data.toList) (by rw [← h3, ofL_toL])
    rw [ht] at a1
    obtain ⟨hk, hq⟩ := Prod.mk.inj a1
    subst hq
    rw [ho] at a2
    obtain ⟨hl, hq⟩ := Prod.mk.inj a2
    subst hq
    rw [← hl, hr] at a3
    exact ⟨hk, q3, a3⟩
  refine ⟨fun h => unpR_no fun r h1 h2 h3 => ?_, fun es p3 hs => ⟨fun h => unpR_no fun r h1 h2 h3 => ?_, fun hd0 => unpR_no fun r h1 h2 h3 => ?_, fun hp hd0 => ?_⟩⟩
  · obtain ⟨_, q, hq⟩ := back r h1 h2 h3
    rw [h] at hq; cases hq
  · obtain ⟨hk, q, hq⟩ := back r h1 h2 h3
    rw [hs] at hq; cases hq
    refine h ?_
    have : (⟨pos, key, r.evs⟩ : Rc) = r := by rw [← h2, hk]
    rw [this, pkd, if_pos h1, h3]
  · have := congrArg ByteArray.size h3
    rw [ofL_size, hd0, pkR, List.length_append, List.length_cons] at this
    simp only [ByteArray.size, List.size_toArray, List.length_nil] at this
    omega
  · have h1 : rcOk ⟨pos, key, es⟩ = true := by
      cases h : rcOk ⟨pos, key, es⟩ with
      | true => rfl
      | false =>
        rw [pkd, h, if_neg (by simp)] at hp
        exact absurd hp.symm hd0
    rw [pkd, if_pos h1] at hp
    have := unpR_pk h1
    rw [hp] at this
    exact this
theorem unI_big (pos : Int) (d : ByteArray) (h : d.size > 2000) : unpR pos d = (zR, false) := unpR_no fun r h1 _ h2 => by
  simp only [rcOk, Bool.and_eq_true, decide_eq_true_eq] at h1
  have := ofL_size (pkR r)
  rw [h2] at this
  omega
end Go.V
set_option linter.unusedSimpArgs false
namespace Go.V
open Go.Proofs
section
variable {P : Program} {t : Nat → T} {H : HMap} {c : Nat} {f : Opd} {args : List Opd} {fid : FuncId} {argsC : List T} {k : Nat} {d : Option Nat} {un : List Nat} {l : List AOper} {prev : List (Nat × List Nat × List Nat)} {K : St → Prop}
/-- A call that gives an event with all that it holds. -/
theorem callE {c1 c2 m1 m2 : Nat} {e : Ev} {b : Bool} (hC : ACallsF P fid argsC (trH2 c1 c2 m1 m2 e.body) (oEb c1 0 c2 0 e b)) (hcc : c1 ≠ c2) (hm : m1 ≠ m2) (hf : ev t f = .pt (.one (.fn fid []))) (hl : args.map (ev t) = argsC) (ha : argsC.all closedA = true)
    (hk : chk prev un ⟨oEb m1 (c + k) m2 (c + k) e b, [(m1, .arr (c + k) true 1 9 (encS e.body.n)), (m2, .tree (c + k) true 5 118 (encTs e.body.k) none)], [m1, m2], [m1, m2]⟩ = true ∧
      DRun P l ((k, [m1, m2], [m1, m2]) :: prev) K ⟨updD t d (oEb m1 (c + k) m2 (c + k) e b), upd (upd H m1 (some (.arr (c + k) true 1 9 (encS e.body.n)))) m2 (some (.tree (c + k) true 5 118 (encTs e.body.k) none)), c⟩) :
    step P k d un (.call f args) l prev K t H c := by
  subst hl
  generalize hhs : trH2 c1 c2 m1 m2 e.body = hs at hC
  have N1 : renN hs c1 = some (newH c1 m1 1 9 (encS e.body.n)) := by rw [← hhs]; simp [renN]
  have N2 : renN hs c2 = some (newT c2 m2 5 118 (encTs e.body.k)) := by rw [← hhs]; simp [renN, hcc]
  obtain ⟨x1, x2⟩ := closed_As hs H _ ha
  refine callW (caps := []) (ws := []) (ns := []) («as» := args.map (ev t)) (r' := oEb m1 (c + k) m2 (c + k) e b) (ob := [(m1, .arr (c + k) true 1 9 (encS e.body.n)), (m2, .tree (c + k) true 5 118 (encTs e.body.k) none)]) hs hC hf ?_ ?_ ?_ ?_ ?_ ?_ ?_ ?_
  · simpa using x1
  · simpa using x2
  · rw [← hhs]; exact ⟨trivial, trivial, trivial⟩
  · rw [← hhs]; simp [hm]
  · rw [← hhs]; simp [hcc]
  · simp only [renOT, renOPs, renOP, renOs, renO, N1, N2, Option.map_some, verOf]; rfl
  · have key : renOBs hs (c + k) (trH2 c1 c2 m1 m2 e.body) = some [(m1, .arr (c + k) true 1 9 (encS e.body.n)), (m2, .tree (c + k) true 5 118 (encTs e.body.k) none)] := by
      simp only [trH2, renOBs, renOB, verOf, Option.map_some]; rfl
    rw [hhs] at key
    exact key
  · have hms : hs.map (·.m) = [m1, m2] := by rw [← hhs]; rfl
    simp only [ite_self, hms]
    simpa [updH] using hk
end
/-! A record with all that it holds. -/
abbrev oRc (c1 v1 : Nat) (r : Rc) : List C := [.v (.s (.int .i64 r.pos)), .v (.s (.string r.key)), .tr c1 v1 r.evs.length]
abbrev oRb (c1 v1 : Nat) (r : Rc) (b : Bool) : T := .tup [.agg (oRc c1 v1 r), .one (.v (.s (.bool b)))]
abbrev newR (c1 m1 : Nat) (r : Rc) : List Hand := [newT c1 m1 7 120 (en cE r.evs)]
theorem lendRc {H : HMap} {m v n : Nat} {w : Bool} {pos : Int} {key : ByteArray} {es : List Ev} (h2 : H m = some (.tree v w 7 120 (en cE es) none)) (e2 : n = es.length) :
    lendTs H [tRc ⟨pos, key, es⟩] [.pt (.agg [.v (.s (.int .i64 pos)), .v (.s (.string key)), .tr m v n])] = some ([tRc ⟨pos, key, es⟩], [(m, .tree v false 7 120 (en cE es) none)], [m]) := by
  subst e2
  have tk : List.take es.length (en cE es) = en cE es := en_take cE es
  simp only [lendTs, tRc, cR, List.map_cons, List.map_nil, lendT, lendCs, lendC, sealC, h2, en_len, tk, Nat.le_refl, and_self, if_true, Option.map_some, List.cons_append, List.nil_append, List.append_nil]
theorem ownR0 {P : Program} {f : FuncId} {args : List T} {m : Nat} {b : Bool} (h : ACallsF P f args [] (.tup [.agg [.v (.s (.int .i64 0)), .v (.s (.string ⟨#[]⟩)), .nil0], .one (.v (.s (.bool b)))])) : ACallsF P f args (newR 2007 m zR) (oRb 2007 0 zR b) :=
  own0 (r := .tup [.agg [.v (.s (.int .i64 0)), .v (.s (.string ⟨#[]⟩)), .nil0], .one (.v (.s (.bool b)))]) (hs := []) true 0 2 2007 m 7 120 (by decide) rfl rfl (fun ν ν' h => by simp [verT, verP, verC]) (fun ν ν' h x hx v => by cases hx) h
end Go.V
set_option linter.unusedSimpArgs false
set_option maxRecDepth 20000
namespace Go.V
open Go.Proofs
theorem shl8 {n : Nat} (h : n ≤ 255) : sInt .shl .i64 (n : Int) 8 = some (.int .i64 ((n * 256 : Nat) : Int)) := by
  have g : IntKind.i64.wrap ((n : Int) * 256) = ((n * 256 : Nat) : Int) := (wrap64 (x := (n : Int) * 256) ⟨by omega, by omega⟩).trans (by omega)
  show some (Value.int .i64 (IntKind.i64.wrap ((n : Int) * 256))) = _
  rw [g]
theorem or8 {a b : Nat} (ha : a ≤ 255) (hb : b ≤ 255) : sInt .or .i64 ((a * 256 : Nat) : Int) (b : Int) = some (.int .i64 ((a * 256 + b : Nat) : Int)) := by
  have h := bv_or (a := b) (b := a) (k := 8) (by omega) (by decide) (by omega)
  have h2 : (BitVec.ofInt 64 ((a * 256 : Nat) : Int) ||| BitVec.ofInt 64 (b : Int)).toNat = a * 256 + b := by
    rw [BitVec.or_comm]
    exact h.trans (by omega)
  have g : IntKind.i64.wrap ((a * 256 + b : Nat) : Int) = ((a * 256 + b : Nat) : Int) := wrap64 ⟨by omega, by omega⟩
  show some (Value.int .i64 (IntKind.i64.wrap ((BitVec.ofInt 64 ((a * 256 : Nat) : Int) ||| BitVec.ofInt 64 (b : Int)).toNat : Nat))) = _
  rw [h2, g]
def ok81 := okF.gu (P := Tryz.prog) tab Tryz.func81 Tryz.ntmps81 (by conv => lhs; cbv) (by kernel_rfl)
def inv81 (pos : Int) (d : ByteArray) (w : Nat) (key : ByteArray) (n0 : Nat) (R : Option (List Ev × PI)) (n : Nat) (σ : St) : Prop :=
  ∃ (i : Nat) (es : List Ev) (p : PI), i + n = n0 ∧ rkI n es p = R ∧ p.1.length ≤ 1000000 ∧ es.length + n ≤ 255 ∧ (∀ e ∈ es, evOk e = true) ∧ σ.t 0 = .i pos ∧ σ.t 1 = tS d ∧ σ.t 6 = .c (.ptr 18 w 0) ∧ σ.H 18 = some (.var w 149 ((rcI p).map .v)) ∧ σ.t 24 = .i n0 ∧ σ.t 25 = .i i ∧
    (∃ u, σ.t 4 = .c (.ptr 4 u 0) ∧ σ.H 4 = some (.var u 86 [.v (.s (.int .i64 0)), .v (.s (.string ⟨#[]⟩)), .nil0])) ∧ σ.t 5 = .b false ∧
    ∃ u a, σ.t 7 = .c (.ptr 7 u 0) ∧ σ.H 7 = some (.var u 86 [.v (.s (.int .i64 pos)), .v (.s (.string key)), .tr 2007 a es.length]) ∧ σ.H 2007 = some (.tree a true 7 120 (en cE es) none)
def DoneI (pos : Int) (d : ByteArray) (key : ByteArray) (es : List Ev) (σ : St) : Prop :=
  es.length ≤ 255 ∧ (∀ e ∈ es, evOk e = true) ∧ σ.t 0 = .i pos ∧ σ.t 1 = tS d ∧
    (∃ u, σ.t 4 = .c (.ptr 4 u 0) ∧ σ.H 4 = some (.var u 86 [.v (.s (.int .i64 0)), .v (.s (.string ⟨#[]⟩)), .nil0])) ∧ σ.t 5 = .b false ∧
    ∃ u a, σ.t 7 = .c (.ptr 7 u 0) ∧ σ.H 7 = some (.var u 86 [.v (.s (.int .i64 pos)), .v (.s (.string key)), .tr 2007 a es.length]) ∧ σ.H 2007 = some (.tree a true 7 120 (en cE es) none)
set_option maxHeartbeats 4000000 in
theorem recLoop (X : Ctx) (pos : Int) (d : ByteArray) (w : Nat) (key : ByteArray) (n0 : Nat) (R : Option (List Ev × PI)) (hn0 : n0 ≤ 255) (Q : Exit → St → Prop) (t0 : Nat → T) (H0 : HMap) (c0 : Nat) (h0 : inv81 pos d w key n0 R n0 ⟨t0, H0, c0⟩) (hQ : ∀ t H c es p, R = some (es, p) → DoneI pos d key es ⟨t, H, c⟩ → Q (.exit 0) ⟨t, H, c⟩)
    (hR : R = none → ∀ t H c u, t 4 = .c (.ptr 4 u 0) → H 4 = some (.var u 86 [.v (.s (.int .i64 0)), .v (.s (.string ⟨#[]⟩)), .nil0]) → t 5 = .b false → Q .ret ⟨t, H, c⟩) :
    oneW Tryz.prog X (ok81.sub [1, 1, 1, 1, 0, 1, 0]) Q ⟨t0, H0, c0⟩ := by
  dsimp only [okF.sub, ACode.sub]
  refine AW.loopM (inv81 pos d w key n0 R) (fun k => k) n0 h0 fun n σ hI => ?_
  obtain ⟨t, H, c⟩ := σ
  obtain ⟨i, es, p, hi, hp, hpl, hel, hev, e0, e1, e6, eH, e24, e25, ⟨u4, e4, eH4⟩, e5, u7, a, e7, eH7, eHa⟩ := hI
  obtain ⟨at_, bad⟩ := p
  simp only [T.c, T.i, T.s, T.b, List.map_cons, List.map_nil] at e0 e1 e6 eH e24 e25 e4 eH4 e5 e7 eH7 eHa hpl
  cases n with
  | zero =>
    rw [rkI] at hp
    have k0 : ¬ (i : Int) < n0 := by omega
    refine oneW.of ?_
    simp only [go_sem, e24, e25, k0]
    exact hQ _ _ _ es (at_, bad) hp.symm ⟨by omega, hev, e0, e1, ⟨u4, e4, eH4⟩, e5, u7, a, e7, eH7, eHa⟩
  | succ n =>
    have k0 : (i : Int) < n0 := by omega
    have gi : IntKind.i64.wrap ((i : Int) + 1) = ((i + 1 : Nat) : Int) := wrap64 (x := (i : Int) + 1) ⟨by omega, by omega⟩
    have hC1 := oneI_ok (at_, bad) (by simp only; omega) 18 w
    obtain ⟨hl1, hb1⟩ := oneI_le (at_, bad)
    have hsz0 : szE (at_, bad) = (oneI (at_, bad)).1 * 256 + (oneI (oneI (at_, bad)).2).1 := rfl
    have hp20 : p2E (at_, bad) = (oneI (oneI (at_, bad)).2).2 := rfl
    generalize oneI (at_, bad) = q1 at *
    obtain ⟨hi_, p1⟩ := q1
    simp only at hC1 hl1 hb1 hsz0 hp20
    have hC2 := oneI_ok p1 (by omega) 18 w
    obtain ⟨hl2, hb2⟩ := oneI_le p1
    generalize oneI p1 = q2 at *
    obtain ⟨lo, p2⟩ := q2
    simp only at hC2 hl2 hb2 hsz0 hp20
    have A2 := shl8 hb1
    have A3 := or8 hb1 hb2
    have hC3 := takeI_ok (hi_ * 256 + lo) (by omega) p2 (by omega) 18 w
    obtain ⟨hl3, hl4⟩ := takeI_le (hi_ * 256 + lo) p2
    have hevI : evI (at_, bad) = evU (takeI (hi_ * 256 + lo) p2).1 := by rw [evI, hsz0, hp20]
    rw [rkI, hevI, hsz0, hp20] at hp
    have hszle : hi_ * 256 + lo ≤ 70000 := by omega
    generalize hi_ * 256 + lo = sz at *
    generalize takeI sz p2 = q3 at *
    obtain ⟨bs, at3, bad3⟩ := q3
    simp only at hC3 hl3 hl4 hp
    have hU := unpackI_ok bs (by omega) 4005 4004
    have hUt := @evU_true bs
    generalize evU bs = r at *
    obtain ⟨e, ok⟩ := r
    simp only at hU hUt hp
    obtain ⟨at1, bad1⟩ := p1
    obtain ⟨at2, bad2⟩ := p2
    refine oneW.of ?_
    simp only [go_sem, e24, e25, k0, e6, eH]
    refine callQ (m := 18) hC1 rfl rfl rfl rfl eH ⟨?_, ?_⟩
    · simp only [go_sem]
    simp only [go_sem, A2, e6]
    refine callQ (m := 18) hC2 rfl rfl rfl rfl rfl ⟨?_, ?_⟩
    · simp only [go_sem]
    simp only [go_sem, A3, e6]
    refine callQ (m := 18) hC3 rfl rfl rfl rfl rfl ⟨?_, ?_⟩
    · simp only [go_sem]
    simp only [go_sem, e6]
    refine callE (m1 := 4005) (m2 := 4004) hU (by decide) (by decide) rfl rfl (by simp [closedA, closedP, closedC]) ⟨?_, ?_⟩
    · simp only [go_sem]
    cases bad3 with
    | true =>
      rw [if_pos rfl] at hp
      simp only [go_sem, e6, List.map_cons, List.map_nil, e4, eH4]
      exact hR hp.symm _ _ _ _ e4 rfl rfl
    | false =>
      rw [if_neg (by simp)] at hp
      cases ok with
      | false =>
        rw [if_neg (by simp)] at hp
        simp only [go_sem, e6, List.map_cons, List.map_nil, e4, eH4]
        exact hR hp.symm _ _ _ _ e4 rfl rfl
      | true =>
        rw [if_pos rfl] at hp
        have w1 : (es.length + 1) * 104 ≤ 140737488355328 := by omega
        have w2 : es.length + 1 ≤ 9223372036854775807 := by omega
        have w3 : es.length ≤ (en cE es).length := by rw [en_len]; omega
        have tk : List.take es.length (en cE es) = en cE es := en_take cE es
        have nd : (([4005, 4004] : List Nat).Nodup ∧ ¬ 59 ∈ ([4005, 4004] : List Nat)) = True := eq_true (by decide)
        simp only [go_sem, e6, List.map_cons, List.map_nil, e4, eH4, e7, eH7, eHa, w1, w2, w3, tk, nd, take_encS, take_encTs, e25, gi]
        refine ⟨n, Nat.lt_succ_self _, i + 1, es ++ [e], (at3, false), ?_⟩
        simp only [List.length_append, List.length_singleton, en_snoc]
        refine ⟨by omega, hp, by omega, by omega, fun x hx => ?_, e0, e1, e6, rfl, e24, rfl, ⟨u4, e4, eH4⟩, e5, u7, _, e7, rfl, rfl⟩
        rcases List.mem_append.1 hx with h | h
        · exact hev x h
        · rw [List.mem_singleton.1 h]; exact (hUt rfl).1
end Go.V
set_option linter.unusedSimpArgs false
namespace Go.V
open Go.Proofs
set_option maxHeartbeats 4000000 in
theorem recUnI_ok (pos : Int) (d : ByteArray) (m : Nat) : ACallsF Tryz.prog 81 [.i pos, tS d] (newR 2007 m (unpR pos d).1) (oRb 2007 0 (unpR pos d).1 (unpR pos d).2) := by
  have hbl : d.data.toList.length = d.size := by rw [Array.length_toList]; rfl
  by_cases h9 : d.size > 2000
  · have k0 : (d.size : Int) > 2000 := by omega
    rw [unI_big pos d h9]
    refine ownR0 ?_
    refine ACallsF.intro ok81 follows fun X c0 => ?_
    simp only [go_sem, k0]
  have k0 : ¬ (d.size : Int) > 2000 := by omega
  have hT := textI_ok (d.data.toList, false) (by simp only; omega) 18
  obtain ⟨hTl, hTb⟩ := textI_le (d.data.toList, false)
  have hlaw := @unI_law pos d
  rcases ht : textI (d.data.toList, false) with ⟨key, p1⟩
  rw [ht] at hT hTl hTb
  simp only at hT hTl hTb
  have hO := oneI_ok p1 (by omega) 18
  obtain ⟨hOl, hOb⟩ := oneI_le p1
  rcases ho : oneI p1 with ⟨n0, p2⟩
  rw [ho] at hO hOl hOb
  simp only at hO hOl hOb
  generalize hres : rkI n0 [] p2 = res
  obtain ⟨law1, law2⟩ := hlaw ht ho hres
  clear hlaw ht ho
  obtain ⟨at1, bad1⟩ := p1
  obtain ⟨at2, bad2⟩ := p2
  simp only at hTl hOl
  have eb : eBs d = encB d.data.toList := eBs_enc d
  by_cases good : ∃ es p3, res = some (es, p3) ∧ pkd ⟨pos, key, es⟩ = d ∧ d ≠ ⟨#[]⟩
  · obtain ⟨es0, p3, hr, hp, hd0⟩ := good
    rw [(law2 es0 p3 hr).2.2 hp hd0]
    refine ACallsF.intro ok81 follows fun X c0 => ?_
    simp only [go_sem, k0, eb]
    refine callQ (m := 18) (hT _) rfl rfl rfl rfl rfl ⟨?_, ?_⟩
    · simp only [go_sem]
    simp only [go_sem]
    refine callQ (m := 18) (hO _) rfl rfl rfl rfl rfl ⟨?_, ?_⟩
    · simp only [go_sem]
    simp only [go_sem]
    refine Gh.one (gh_reify2 (n := 7) (j := 2) (id := 2007) (st := 7) (aty := 120) rfl rfl (by decide) (by decide)) ?_
    refine Gh.one (gh_plant (n := 7) (j := 2) (id := 2007) rfl rfl rfl (by simp)) ?_
    refine recLoop _ pos d _ key n0 res hOb _ _ _ _ ⟨0, [], (at2, bad2), by omega, hres, by simp only; omega, by simp only [List.length_nil]; omega, (fun _ h => by cases h), rfl, rfl, rfl, rfl, rfl, rfl, ⟨_, rfl, rfl⟩, rfl, _, _, rfl, rfl, rfl⟩ (fun t H c es p hr2 hD => ?_) fun hr2 => ?_
    · rw [hr] at hr2; cases hr2
      obtain ⟨hel, hev, e0, e1, ⟨u4, e4, eH4⟩, e5, u7, a, e7, eH7, eHa⟩ := hD
      simp only [T.c, T.i, T.s, T.b, List.map_cons, List.map_nil] at e0 e1 e4 eH4 e5 e7 eH7 eHa
      have w3 : es0.length ≤ (en cE es0).length := by rw [en_len]; omega
      have tk : List.take es0.length (en cE es0) = en cE es0 := en_take cE es0
      have hP := recPackI_ok ⟨pos, key, es0⟩ ⟨by show key.size ≤ _; omega, by show es0.length ≤ _; omega, fun x hx => evOk_B (hev x hx)⟩
      rw [hp] at hP
      simp only [go_sem, sStr, str_beq, e1, hd0, decide_false, e7, eH7]
      refine callL (ns := [2007]) hP rfl (lendRc eHa rfl) (by simp [closedA, closedP, closedC]) rfl ⟨?_, ?_⟩
      · simp only [go_sem]
      simp only [go_sem, sStr, str_beq, e1, e4, eH4, e7, eH7, eHa, w3, tk, scalarT, scalarP, scalarC, imp_self]
    · rw [hr] at hr2; cases hr2
  · have hno : unpR pos d = (zR, false) := by
      cases hr : res with
      | none => exact law1 hr
      | some q =>
        obtain ⟨es, p3⟩ := q
        obtain ⟨l1, l2, _⟩ := law2 es p3 hr
        by_cases hd0 : d = ⟨#[]⟩
        · exact l2 hd0
        · exact l1 fun hp => good ⟨es, p3, hr, hp, hd0⟩
    rw [hno]
    refine ownR0 ?_
    refine ACallsF.intro ok81 follows fun X c0 => ?_
    simp only [go_sem, k0, eb]
    refine callQ (m := 18) (hT _) rfl rfl rfl rfl rfl ⟨?_, ?_⟩
    · simp only [go_sem]
    simp only [go_sem]
    refine callQ (m := 18) (hO _) rfl rfl rfl rfl rfl ⟨?_, ?_⟩
    · simp only [go_sem]
    simp only [go_sem]
    refine Gh.one (gh_reify2 (n := 7) (j := 2) (id := 2007) (st := 7) (aty := 120) rfl rfl (by decide) (by decide)) ?_
    refine Gh.one (gh_plant (n := 7) (j := 2) (id := 2007) rfl rfl rfl (by simp)) ?_
    refine recLoop _ pos d _ key n0 res hOb _ _ _ _ ⟨0, [], (at2, bad2), by omega, hres, by simp only; omega, by simp only [List.length_nil]; omega, (fun _ h => by cases h), rfl, rfl, rfl, rfl, rfl, rfl, ⟨_, rfl, rfl⟩, rfl, _, _, rfl, rfl, rfl⟩ (fun t H c es p hr2 hD => ?_) fun hr2 t H c u e4 eH4 e5 => ?_
    · obtain ⟨hel, hev, e0, e1, ⟨u4, e4, eH4⟩, e5, u7, a, e7, eH7, eHa⟩ := hD
      simp only [T.c, T.i, T.s, T.b, List.map_cons, List.map_nil] at e0 e1 e4 eH4 e5 e7 eH7 eHa
      by_cases hd0 : d = ⟨#[]⟩
      · simp only [go_sem, sStr, str_beq, e1, hd0, e4, eH4]
      · have hP := recPackI_ok ⟨pos, key, es⟩ ⟨by show key.size ≤ _; omega, by show es.length ≤ _; omega, fun x hx => evOk_B (hev x hx)⟩
        have hp : ¬ pkd ⟨pos, key, es⟩ = d := fun hp => good ⟨es, p, hr2, hp, hd0⟩
        simp only [go_sem, sStr, str_beq, e1, hd0, decide_false, e7, eH7]
        refine callL (ns := [2007]) hP rfl (lendRc eHa rfl) (by simp [closedA, closedP, closedC]) rfl ⟨?_, ?_⟩
        · simp only [go_sem]
        simp only [go_sem, sStr, str_beq, e1, hp, e4, eH4, scalarT, scalarP, scalarC]
    · simp only [T.c, T.b] at e4 eH4 e5
      simp only [go_sem, e4, eH4, e5]
end Go.V
set_option linter.unusedSimpArgs false
set_option maxRecDepth 20000
namespace Go.V
open Go.Proofs
section
variable {P : Program} {t : Nat → T} {H : HMap} {c : Nat} {f : Opd} {args : List Opd} {fid : FuncId} {argsC : List T} {k : Nat} {d : Option Nat} {un : List Nat} {l : List AOper} {prev : List (Nat × List Nat × List Nat)} {K : St → Prop}
/-- A call that gives a record with all that it holds. -/
theorem callR {c1 m1 : Nat} {r : Rc} {b : Bool} (hC : ACallsF P fid argsC (newR c1 m1 r) (oRb c1 0 r b)) (hf : ev t f = .pt (.one (.fn fid []))) (hl : args.map (ev t) = argsC) (ha : argsC.all closedA = true)
    (hk : chk prev un ⟨oRb m1 (c + k) r b, [(m1, .tree (c + k) true 7 120 (en cE r.evs) none)], [m1], [m1]⟩ = true ∧
      DRun P l ((k, [m1], [m1]) :: prev) K ⟨updD t d (oRb m1 (c + k) r b), upd H m1 (some (.tree (c + k) true 7 120 (en cE r.evs) none)), c⟩) :
    step P k d un (.call f args) l prev K t H c := by
  subst hl
  generalize hhs : newR c1 m1 r = hs at hC
  have N1 : renN hs c1 = some (newT c1 m1 7 120 (en cE r.evs)) := by rw [← hhs]; simp [renN]
  obtain ⟨x1, x2⟩ := closed_As hs H _ ha
  refine callW (caps := []) (ws := []) (ns := []) («as» := args.map (ev t)) (r' := oRb m1 (c + k) r b) (ob := [(m1, .tree (c + k) true 7 120 (en cE r.evs) none)]) hs hC hf ?_ ?_ ?_ ?_ ?_ ?_ ?_ ?_
  · simpa using x1
  · simpa using x2
  · rw [← hhs]; exact ⟨trivial, trivial⟩
  · rw [← hhs]; simp
  · rw [← hhs]; simp
  · simp only [renOT, renOPs, renOP, renOs, renO, N1, Option.map_some, verOf]; rfl
  · have key : renOBs hs (c + k) (newR c1 m1 r) = some [(m1, .tree (c + k) true 7 120 (en cE r.evs) none)] := by
      simp only [newR, renOBs, renOB, verOf, Option.map_some]; rfl
    rw [hhs] at key
    exact key
  · have hms : hs.map (·.m) = [m1] := by rw [← hhs]; rfl
    simp only [ite_self, hms]
    simpa [updH] using hk
end
abbrev oRs (c1 v1 : Nat) (o : Option (List Rc)) : T := .tup [.one (.tr c1 v1 (o.getD []).length), .one (.v (.s (.bool o.isSome)))]
abbrev newRs (c1 m1 : Nat) (o : Option (List Rc)) : List Hand := [newT c1 m1 3 86 (en cR (o.getD []))]
theorem ownRs0 {P : Program} {f : FuncId} {args : List T} {m : Nat} (h : ACallsF P f args [] (.tup [.one .nil0, .one (.v (.s (.bool false)))])) : ACallsF P f args (newRs 9 m none) (oRs 9 0 none) :=
  own0 (r := .tup [.one .nil0, .one (.v (.s (.bool false)))]) (hs := []) true 0 0 9 m 3 86 (by decide) rfl rfl (fun ν ν' h => by simp [verT, verP, verC]) (fun ν ν' h x hx v => by cases hx) h
def ok52 := okF.gu (P := Tryz.prog) tab Tryz.func52 Tryz.ntmps52 (by conv => lhs; cbv) (by kernel_rfl)
def inv52 (ls : List LR) (R : Option (List Rc)) (k : Nat) (σ : St) : Prop :=
  ∃ (i : Nat) (acc : List Rc) (v : Nat), i + k = ls.length ∧ acc.length = i ∧ R = (rds (ls.drop i)).map (acc ++ ·) ∧ σ.t 10 = tL (en eR ls) ∧ σ.t 11 = .i ls.length ∧ σ.t 12 = .i i ∧ σ.t 4 = .c (.tr 9 v acc.length) ∧ σ.H 9 = some (.tree v true 3 86 (en cR acc) none)
theorem readLoop (X : Ctx) (ls : List LR) (R : Option (List Rc)) (hl : ls.length ≤ 10000000) (Q : Exit → St → Prop) (t0 : Nat → T) (H0 : HMap) (c0 : Nat) (h0 : inv52 ls R ls.length ⟨t0, H0, c0⟩)
    (hQ : ∀ t H c acc v, R = some acc → t 4 = .c (.tr 9 v acc.length) → H 9 = some (.tree v true 3 86 (en cR acc) none) → Q (.exit 0) ⟨t, H, c⟩)
    (hR : R = none → ∀ t H c, t 2 = .c .nil0 → t 3 = .b false → Q .ret ⟨t, H, c⟩) : oneW Tryz.prog X (ok52.sub [1, 1, 0, 1, 0]) Q ⟨t0, H0, c0⟩ := by
  dsimp only [okF.sub, ACode.sub]
  refine AW.loopM (inv52 ls R) (fun k => k) ls.length h0 fun k σ hI => ?_
  obtain ⟨t, H, c⟩ := σ
  obtain ⟨i, acc, v, hik, hal, hacc, e10, e11, e12, e4, eH⟩ := hI
  simp only [T.c, T.i, tL] at e10 e11 e12 e4 eH
  cases k with
  | zero =>
    have hi : i = ls.length := by omega
    have k0 : ¬ (i : Int) < ls.length := by omega
    rw [hi, List.drop_length, rds, Option.map_some, List.append_nil] at hacc
    refine oneW.of ?_
    simp only [go_sem, e11, e12, k0]
    exact hQ _ _ _ acc v hacc e4 eH
  | succ k =>
    have k0 : (i : Int) < ls.length := by omega
    have gz : (0 : Int) ≤ i := by omega
    have gw : IntKind.i64.wrap ((i : Int) + 1) = ((i + 1 : Nat) : Int) := wrap64 (x := (i : Int) + 1) ⟨by omega, by omega⟩
    obtain ⟨x, hx⟩ : ∃ x, ls[i]? = some x := ⟨_, List.getElem?_eq_getElem (by omega)⟩
    have ex := en_at eR hx
    have hC := recUnI_ok x.pos x.data 4007
    rw [drop_at2 hx, rds] at hacc
    generalize unpR x.pos x.data = u at *
    obtain ⟨r, ok⟩ := u
    simp only at hacc hC
    refine oneW.of ?_
    simp only [go_sem, e10, e11, e12, en_len, k0, gz, ex, eR, Int.toNat_natCast]
    refine callR (m1 := 4007) hC rfl rfl (by simp [closedA, closedP, closedC]) ⟨?_, ?_⟩
    · simp only [go_sem]
    cases ok with
    | false =>
      rw [if_neg (by simp), Option.map_none] at hacc
      simp only [go_sem]
      exact hR hacc _ _ _ rfl rfl
    | true =>
      rw [if_pos rfl] at hacc
      have tk : List.take acc.length (en cR acc) = en cR acc := en_take cR acc
      have tkr : List.take r.evs.length (en cE r.evs) = en cE r.evs := en_take cE r.evs
      have w3 : acc.length ≤ (en cR acc).length := by rw [en_len]; omega
      have w1 : (acc.length + 1) * 48 ≤ 140737488355328 := by omega
      have w2 : acc.length + 1 ≤ 9223372036854775807 := by omega
      have nd : (([4007] : List Nat).Nodup) = True := eq_true (by decide)
      simp only [go_sem, e4, eH, tk, tkr, w1, w2, w3, nd, e12, gw]
      refine ⟨k, Nat.lt_succ_self _, i + 1, acc ++ [r], ?_⟩
      simp only [List.length_append, List.length_singleton, en_snoc]
      refine ⟨_, by omega, by omega, ?_, e10, e11, rfl, rfl, rfl⟩
      rw [hacc, Option.map_map]
      congr 1
      funext l
      simp
end Go.V
set_option linter.unusedSimpArgs false
namespace Go.V
open Go.Proofs
theorem readI_ok (ls : List LR) (hl : ls.length ≤ 10000000) (m : Nat) : ACallsF Tryz.prog 52 [tL (en eR ls)] (newRs 9 m (rds ls)) (oRs 9 0 (rds ls)) := by
  have start : ∀ R, rds ls = R → R = (rds (ls.drop 0)).map (([] : List Rc) ++ ·) := fun R h => by rw [List.drop_zero, h]; cases R <;> rfl
  cases hr : rds ls with
  | none =>
    refine ownRs0 ?_
    refine ACallsF.intro ok52 follows fun X c0 => ?_
    simp only [go_sem, en_len]
    refine oneW.plantT 4 rfl rfl (fun e h => by cases h) ?_
    refine readLoop _ ls none hl _ _ _ _ ⟨0, [], _, by omega, rfl, start _ hr, rfl, rfl, rfl, rfl, rfl⟩ (fun t H c acc v h => by cases h) fun _ t H c e2 e3 => ?_
    simp only [T.c, T.b] at e2 e3
    simp only [go_sem, e2, e3]
  | some rs =>
    refine ACallsF.intro ok52 follows fun X c0 => ?_
    simp only [go_sem, en_len]
    refine oneW.plantT 4 rfl rfl (fun e h => by cases h) ?_
    refine readLoop _ ls (some rs) hl _ _ _ _ ⟨0, [], _, by omega, rfl, start _ hr, rfl, rfl, rfl, rfl, rfl⟩ (fun t H c acc v h e4 eH => ?_) fun h => by cases h
    cases h
    simp only [T.c] at e4 eH
    have tk : List.take rs.length (en cR rs) = en cR rs := en_take cR rs
    have w3 : rs.length ≤ (en cR rs).length := by rw [en_len]; omega
    simp only [go_sem, e4, eH, tk, w3, Option.getD_some, Option.isSome_some, imp_self]
end Go.V
set_option linter.unusedSimpArgs false
set_option maxRecDepth 20000
namespace Go.V
open Go.Proofs
section
variable {P : Program} {t : Nat → T} {H : HMap} {c : Nat} {f : Opd} {args : List Opd} {fid : FuncId} {argsC : List T} {k : Nat} {d : Option Nat} {un : List Nat} {l : List AOper} {prev : List (Nat × List Nat × List Nat)} {K : St → Prop}
/-- A call that gives one tree, wherever it stands in the result. -/
theorem callT1 {c1 m1 st : Nat} {ty : TypeId} {es : List (List V)} {r r' : T} (hC : ACallsF P fid argsC [newT c1 m1 st ty es] r) (hf : ev t f = .pt (.one (.fn fid []))) (hl : args.map (ev t) = argsC) (ha : argsC.all closedA = true) (hr : renOT [newT c1 m1 st ty es] (c + k) r = some r')
    (hk : chk prev un ⟨r', [(m1, .tree (c + k) true st ty es none)], [m1], [m1]⟩ = true ∧
      DRun P l ((k, [m1], [m1]) :: prev) K ⟨updD t d r', upd H m1 (some (.tree (c + k) true st ty es none)), c⟩) :
    step P k d un (.call f args) l prev K t H c := by
  subst hl
  generalize hhs : [newT c1 m1 st ty es] = hs at hC hr
  obtain ⟨x1, x2⟩ := closed_As hs H _ ha
  refine callW (caps := []) (ws := []) (ns := []) («as» := args.map (ev t)) (r' := r') (ob := [(m1, .tree (c + k) true st ty es none)]) hs hC hf ?_ ?_ ?_ ?_ ?_ hr ?_ ?_
  · simpa using x1
  · simpa using x2
  · rw [← hhs]; exact ⟨trivial, trivial⟩
  · rw [← hhs]; simp
  · rw [← hhs]; simp
  · have key : renOBs hs (c + k) [newT c1 m1 st ty es] = some [(m1, .tree (c + k) true st ty es none)] := by
      simp only [renOBs, renOB, verOf, Option.map_some]; rfl
    rw [hhs] at key
    exact key
  · have hms : hs.map (·.m) = [m1] := by rw [← hhs]; rfl
    simp only [ite_self, hms]
    simpa [updH] using hk
end
/-! A store with all that it holds. -/
abbrev oSs (c1 v1 : Nat) (s : Ss) : T := .pt (.agg [.v (.s (.int .i64 s.code)), .v (.s (.int .i64 s.next)), .tr c1 v1 s.recs.length])
abbrev newS (c1 m1 : Nat) (s : Ss) : List Hand := [newT c1 m1 3 86 (en cR s.recs)]
theorem ownS0 {P : Program} {f : FuncId} {args : List T} {m : Nat} {x : Int} (h : ACallsF P f args [] (.pt (.agg [.v (.s (.int .i64 x)), .v (.s (.int .i64 0)), .nil0]))) : ACallsF P f args (newS 2009 m ⟨x, 0, []⟩) (oSs 2009 0 ⟨x, 0, []⟩) :=
  own0 (r := .pt (.agg [.v (.s (.int .i64 x)), .v (.s (.int .i64 0)), .nil0])) (hs := []) true 0 2 2009 m 3 86 (by decide) rfl rfl (fun ν ν' h => by simp [verT, verP, verC]) (fun ν ν' h x hx v => by cases hx) h
def ok22 := okF.gu (P := Tryz.prog) tab Tryz.func22 Tryz.ntmps22 (by conv => lhs; cbv) (by kernel_rfl)
theorem openI_ok (d : Dk) (hD : DOk d) (m : Nat) : ACallsF Tryz.prog 22 [tDk d] (newS 2009 m (stoO (opn d))) (oSs 2009 0 (stoO (opn d))) := by
  have hO := opnI_ok d hD
  have hl := (opn_small hD).1
  generalize opn d = o at *
  have hR := readI_ok o.recs (by omega) 2009
  unfold stoO
  by_cases hc : o.code = 0
  · have k0 : (o.code != 0) = false := by rw [hc]; rfl
    rw [if_neg (by simpa using hc)]
    cases hr : rds o.recs with
    | none =>
      rw [hr] at hR
      refine ownS0 ?_
      refine ACallsF.intro ok22 follows fun X c0 => ?_
      simp only [go_sem]
      refine callC hO rfl rfl rfl (by simp [closedT, closedP, closedC]) ?_
      simp only [go_sem, k0]
      refine callT1 hR rfl rfl rfl rfl ⟨?_, ?_⟩
      · simp only [go_sem]
      simp only [go_sem, Option.isSome_none]
    | some l =>
      rw [hr] at hR
      have tk : List.take l.length (en cR l) = en cR l := en_take cR l
      have w3 : l.length ≤ (en cR l).length := by rw [en_len]; omega
      refine ACallsF.intro ok22 follows fun X c0 => ?_
      simp only [go_sem]
      refine callC hO rfl rfl rfl (by simp [closedT, closedP, closedC]) ?_
      simp only [go_sem, k0]
      refine callT1 hR rfl rfl rfl rfl ⟨?_, ?_⟩
      · simp only [go_sem]
      simp only [go_sem, Option.isSome_some, Option.getD_some, tk, w3, imp_self]
      rfl
  · have k0 : (o.code != 0) = true := bne_iff_ne.2 hc
    rw [if_pos hc]
    refine ownS0 ?_
    refine ACallsF.intro ok22 follows fun X c0 => ?_
    simp only [go_sem]
    refine callC hO rfl rfl rfl (by simp [closedT, closedP, closedC]) ?_
    simp only [go_sem, k0]
def ok7 := okF.gu (P := Tryz.prog) tab Tryz.func7 Tryz.ntmps7 (by conv => lhs; cbv) (by kernel_rfl)
theorem storeI_ok (d : Dk) (hd : fineDk d) (m : Nat) : ACallsF Tryz.prog 7 [tDk d] (newS 2009 m (sto d)) (oSs 2009 0 (sto d)) := by
  obtain ⟨b, hb, hC⟩ := okI_ok d hd
  by_cases hD : DOk d
  · have hb1 := hb.2 hD
    rw [hb1] at hC
    have hs : sto d = stoO (opn d) := if_pos hD
    have hO := openI_ok d hD 2009
    rw [hs]
    generalize stoO (opn d) = s at *
    have tk : List.take s.recs.length (en cR s.recs) = en cR s.recs := en_take cR s.recs
    have w3 : s.recs.length ≤ (en cR s.recs).length := by rw [en_len]; omega
    refine ACallsF.intro ok7 follows fun X c0 => ?_
    simp only [go_sem]
    refine callC hC rfl rfl rfl rfl ?_
    simp only [go_sem]
    refine callT1 hO rfl rfl rfl rfl ⟨?_, ?_⟩
    · simp only [go_sem]
    simp only [go_sem, tk, w3, imp_self]
    rfl
  · have hb0 : b = false := by cases b with
      | false => rfl
      | true => exact absurd (hb.1 rfl) hD
    rw [hb0] at hC
    have hs : sto d = ⟨7, 0, []⟩ := if_neg hD
    rw [hs]
    refine ownS0 ?_
    refine ACallsF.intro ok7 follows fun X c0 => ?_
    simp only [go_sem]
    refine callC hC rfl rfl rfl rfl ?_
    simp only [go_sem]
end Go.V
set_option linter.unusedSimpArgs false
set_option maxRecDepth 20000
namespace Go.V
open Go.Proofs
def ok137 := okF.gu (P := Tryz.prog) tab Tryz.func137 Tryz.ntmps137 (by conv => lhs; cbv) (by kernel_rfl)
def inv137 (xs : List Tr) (i : Nat) (σ : St) : Prop := σ.t 0 = tL (encTs xs) ∧ σ.t 1 = tL (encTs xs) ∧ σ.t 5 = .i i
theorem eqTs_ok (xs : List Tr) (hl : xs.length ≤ 9000000000000000000) (ih : ∀ x ∈ xs, ACallsF Tryz.prog 123 [tT x, tT x] [] (.b true)) : ACallsF Tryz.prog 137 [tL (encTs xs), tL (encTs xs)] [] (.b true) := by
  have n0 : ((xs.length : Int) != xs.length) = false := by simp
  refine ACallsF.intro ok137 follows fun X c0 => ?_
  simp only [go_sem, n0]
  refine AW.upto xs.length (inv137 xs) ⟨rfl, rfl, rfl⟩ fun i t H c hi h => ?_
  obtain ⟨e0, e1, e5⟩ := h
  simp only [T.c, T.i, tL] at e0 e1 e5
  by_cases hlt : i < xs.length
  · obtain ⟨x, hx⟩ : ∃ x, xs[i]? = some x := ⟨_, List.getElem?_eq_getElem hlt⟩
    have ex := encTs_at hx
    have k1 : (i : Int) < xs.length := by omega
    have gz : (0 : Int) ≤ i := by omega
    have gw : IntKind.i64.wrap ((i : Int) + 1) = ((i + 1 : Nat) : Int) := wrap64 (x := (i : Int) + 1) ⟨by omega, by omega⟩
    simp only [go_sem, e0, e1, e5, k1, gz, ex, Int.toNat_natCast, List.length_map, encT_len, takeT, Nat.le_refl]
    refine callC (ih x (List.mem_of_getElem? hx)) rfl rfl (by simp [closedA, closedP, closedC]) rfl ?_
    simp only [go_sem, e5, gw]
    exact ⟨hlt, e0, e1, rfl⟩
  · have k1 : ¬ (i : Int) < xs.length := by omega
    simp only [go_sem, e0, e1, e5, k1]
def ok123 := okF.gu (P := Tryz.prog) tab Tryz.func123 Tryz.ntmps123 (by conv => lhs; cbv) (by kernel_rfl)
theorem eqT_ok : ∀ (y : Tr), TB 9000000000000000000 y → ACallsF Tryz.prog 123 [tT y, tT y] [] (.b true) := by
  intro y
  induction y using Tr.ind with
  | _ s n x ns ks ih =>
    intro hB
    obtain ⟨b0, b1, b2, b3, b4⟩ := hB.inv
    have n0 : (s != s) = false := by simp
    have n1 : (n != n) = false := by simp
    refine ACallsF.intro ok123 follows fun X c0 => ?_
    simp only [go_sem, encT_mk, n0, n1, sStr, str_beq, decide_true]
    refine callC (eqSs_ok ns b1) rfl rfl rfl rfl ?_
    simp only [go_sem]
    refine callC (eqTs_ok ks b2 fun x hx => ih x hx (b4 x hx)) rfl rfl rfl rfl ?_
    simp only [go_sem]
def ok107 := okF.gu (P := Tryz.prog) tab Tryz.func107 Tryz.ntmps107 (by conv => lhs; cbv) (by kernel_rfl)
theorem eqE_ok (e : Ev) (hB : TB 9000000000000000000 e.body) : ACallsF Tryz.prog 107 [tE e, tE e] [] (.b true) := by
  have hC := eqT_ok e.body hB
  simp only [tT, encT_eta, List.map_cons, List.map_nil] at hC
  refine ACallsF.intro ok107 follows fun X c0 => ?_
  have hv : (e.ver != e.ver) = false := by simp
  simp only [go_sem, sStr, str_beq, hv, decide_true, Bool.not_true, bne_self_eq_false]
  refine callC hC rfl rfl rfl rfl ?_
  simp only [go_sem]
end Go.V
set_option linter.unusedSimpArgs false
set_option maxRecDepth 20000
namespace Go.V
open Go.Proofs
def ok82 := okF.gu (P := Tryz.prog) tab Tryz.func82 Tryz.ntmps82 (by conv => lhs; cbv) (by kernel_rfl)
def inv82 (xs : List Ev) (i : Nat) (σ : St) : Prop := σ.t 0 = tL (en cE xs) ∧ σ.t 1 = tL (en cE xs) ∧ σ.t 5 = .i i
theorem eqEs_ok (xs : List Ev) (hl : xs.length ≤ 9000000000000000000) (hB : ∀ x ∈ xs, TB 9000000000000000000 x.body) : ACallsF Tryz.prog 82 [tL (en cE xs), tL (en cE xs)] [] (.b true) := by
  refine ACallsF.intro ok82 follows fun X c0 => ?_
  simp only [go_sem, bne_self_eq_false]
  refine AW.upto xs.length (inv82 xs) ⟨rfl, rfl, rfl⟩ fun i t H c hi h => ?_
  obtain ⟨e0, e1, e5⟩ := h
  simp only [T.c, T.i, T.s, tL] at e0 e1 e5
  by_cases hlt : i < xs.length
  · obtain ⟨x, hx⟩ : ∃ x, xs[i]? = some x := ⟨_, List.getElem?_eq_getElem hlt⟩
    have hC := eqE_ok x (hB x (List.mem_of_getElem? hx))
    have ex := en_at cE hx
    have k1 : (i : Int) < xs.length := by omega
    have gz : (0 : Int) ≤ i := by omega
    have gw : IntKind.i64.wrap ((i : Int) + 1) = ((i + 1 : Nat) : Int) := wrap64 (x := (i : Int) + 1) ⟨by omega, by omega⟩
    simp only [go_sem, e0, e1, e5, en_len, k1, gz, ex]
    refine callC hC rfl rfl (by simp [closedA, closedP, closedC]) rfl ?_
    simp only [go_sem, e5, gw]
    exact ⟨hlt, e0, e1, rfl⟩
  · have k1 : ¬ (i : Int) < xs.length := by omega
    simp only [go_sem, e0, e1, e5, en_len, k1]
end Go.V
set_option linter.unusedSimpArgs false
set_option maxRecDepth 20000
namespace Go.V
open Go.Proofs
structure RB (r : Rc) : Prop where
  len : r.evs.length ≤ 9000000000000000000
  evs : ∀ x ∈ r.evs, TB 9000000000000000000 x.body
def ok53 := okF.gu (P := Tryz.prog) tab Tryz.func53 Tryz.ntmps53 (by conv => lhs; cbv) (by kernel_rfl)
theorem eqR_ok (r : Rc) (hB : RB r) : ACallsF Tryz.prog 53 [tRc r, tRc r] [] (.b true) := by
  have hC := eqEs_ok r.evs hB.len hB.evs
  have hv : (r.pos != r.pos) = false := by simp
  refine ACallsF.intro ok53 follows fun X c0 => ?_
  simp only [go_sem, sStr, str_beq, hv, decide_true, Bool.not_true, bne_self_eq_false]
  refine callC hC rfl rfl rfl rfl ?_
  simp only [go_sem]
def ok23 := okF.gu (P := Tryz.prog) tab Tryz.func23 Tryz.ntmps23 (by conv => lhs; cbv) (by kernel_rfl)
def inv23 (xs : List Rc) (i : Nat) (σ : St) : Prop := σ.t 0 = tL (en cR xs) ∧ σ.t 1 = tL (en cR xs) ∧ σ.t 5 = .i i
theorem eqRs_ok (xs : List Rc) (hl : xs.length ≤ 9000000000000000000) (hB : ∀ x ∈ xs, RB x) : ACallsF Tryz.prog 23 [tL (en cR xs), tL (en cR xs)] [] (.b true) := by
  refine ACallsF.intro ok23 follows fun X c0 => ?_
  simp only [go_sem, bne_self_eq_false]
  refine AW.upto xs.length (inv23 xs) ⟨rfl, rfl, rfl⟩ fun i t H c hi h => ?_
  obtain ⟨e0, e1, e5⟩ := h
  simp only [T.c, T.i, T.s, tL] at e0 e1 e5
  by_cases hlt : i < xs.length
  · obtain ⟨x, hx⟩ : ∃ x, xs[i]? = some x := ⟨_, List.getElem?_eq_getElem hlt⟩
    have hC := eqR_ok x (hB x (List.mem_of_getElem? hx))
    have ex := en_at cR hx
    have k1 : (i : Int) < xs.length := by omega
    have gz : (0 : Int) ≤ i := by omega
    have gw : IntKind.i64.wrap ((i : Int) + 1) = ((i + 1 : Nat) : Int) := wrap64 (x := (i : Int) + 1) ⟨by omega, by omega⟩
    simp only [go_sem, e0, e1, e5, en_len, k1, gz, ex]
    refine callC hC rfl rfl (by simp [closedA, closedP, closedC]) rfl ?_
    simp only [go_sem, e5, gw]
    exact ⟨hlt, e0, e1, rfl⟩
  · have k1 : ¬ (i : Int) < xs.length := by omega
    simp only [go_sem, e0, e1, e5, en_len, k1]
def ok8 := okF.gu (P := Tryz.prog) tab Tryz.func8 Tryz.ntmps8 (by conv => lhs; cbv) (by kernel_rfl)
theorem eqStore_ok (s : Ss) (hl : s.recs.length ≤ 9000000000000000000) (hB : ∀ x ∈ s.recs, RB x) : ACallsF Tryz.prog 8 [tSs s, tSs s] [] (.b true) := by
  have hC := eqRs_ok s.recs hl hB
  have hv : (s.code != s.code) = false := by simp
  have hw : (s.next != s.next) = false := by simp
  refine ACallsF.intro ok8 follows fun X c0 => ?_
  simp only [go_sem, hv, hw]
  refine callC hC rfl rfl rfl rfl ?_
  simp only [go_sem]
end Go.V
set_option linter.unusedSimpArgs false
set_option maxRecDepth 20000
namespace Go.V
open Go.Proofs
section
variable {P : Program} {t : Nat → T} {H : HMap} {c : Nat} {f : Opd} {args : List Opd} {fid : FuncId} {argsC : List T} {k : Nat} {d : Option Nat} {un : List Nat} {l : List AOper} {prev : List (Nat × List Nat × List Nat)} {K : St → Prop}
theorem callTm {n m v N st : Nat} {ty : TypeId} {es es' : List (List V)} {x r : T}
    (hC : ACallsF P fid [.c (.tr n v N), x] [trH n m v st ty es es'] r) (hf : ev t f = .pt (.one (.fn fid []))) (hl : args.map (ev t) = [.c (.tr m v N), x]) (hH : H m = some (.tree v true st ty es none)) (hx : closedA x = true) (hr : closedT r = true)
    (hk : chk prev un ⟨r, [(m, .tree v true st ty es' none)], [m], [m]⟩ = true ∧ DRun P l ((k, [m], [m]) :: prev) K ⟨updD t d r, upd H m (some (.tree v true st ty es' none)), c⟩) :
    step P k d un (.call f args) l prev K t H c := by
  have hN : renN [trH n m v st ty es es'] n = some (trH n m v st ty es es') := by simp [renN]
  obtain ⟨x1, x2⟩ := closed_A [trH n m v st ty es es'] H x hx
  refine callW (caps := []) («as» := [.c (.tr m v N), x]) (ws := []) (ns := []) (r' := r) (ob := [(m, .tree v true st ty es' none)]) [trH n m v st ty es es'] hC hf ?_ ?_ ⟨?_, trivial⟩ (by simp) (by simp) (closed_T _ r hr _) ?_ ?_
  · rw [hl]
    have a1 : lendT H (.c (.tr n v N)) (.c (.tr m v N)) = some (.c (.tr m v N), [], []) := rfl
    simp only [List.map_nil, List.append_nil, lendTs, a1, x1]
  · have a1 : renIT [trH n m v st ty es es'] (.c (.tr n v N)) = some (.c (.tr m v N)) := by simp only [renIT, renI, inN, hN, Option.bind_some, Option.map_some]
    simp only [renITs, a1, x2]
  · show (match renIB [trH n m v st ty es es'] (.tree v true st ty es none) with | some B => (updH H []) m = some B | none => False)
    simp only [renIB, updH]
    exact hH
  · simp only [renOBs, renOB, verOf, if_true, Blk.ver]
  · have hq : quiet r [trH n m v st ty es es'] = false := by simp [quiet]
    simpa [hq, updH] using hk
end
theorem markSs_e (xs : List ByteArray) (k : Nat) (h1 : 1 ≤ k) (hk : k + 1 * xs.length ≤ 100000000000000) (m v : Nat) : ACallsF Tryz.prog 28 [.c (.own 2001 v xs.length), .i k] [arH 2001 m v 1 9 (encS xs) (encS (marks mS 1 k xs.length))] (.i ((k + 1 * xs.length : Nat) : Int)) := markSs_ok xs k h1 hk m v
theorem heldSs_e (N : Nat) (k : Nat) (h1 : 1 ≤ k) (hk : k + 1 * N ≤ 100000000000000) : ACallsF Tryz.prog 84 [tL (encS (marks mS 1 k N)), .i k] [] (.i ((k + 1 * N : Nat) : Int)) := heldSs_ok N k h1 hk
theorem set_out {α : Type} {outs xs : List α} (hl : outs.length = xs.length) {i : Nat} {o : α} (ho : outs[i]? = some o) : (outs.take i ++ xs.drop i).set i o = outs.take (i + 1) ++ xs.drop (i + 1) := by
  have hi := (List.getElem?_eq_some_iff.1 ho).1
  rw [List.set_append_right _ _ (by rw [List.length_take]; omega), List.length_take, show i - min i outs.length = 0 from by omega, List.take_add_one, ho, List.drop_eq_getElem_cons (by omega : i < xs.length), List.set_cons_zero]
  simp
def OpS (H : HMap) (c : C) (id : Nat) (ns : List ByteArray) : Prop := (ns = [] ∧ c = .v (.sl [])) ∨ ∃ u, c = .own id u ns.length ∧ H id = some (.arr u true 1 9 (encS ns))
theorem OpS.re {H H' : HMap} {c : C} {id : Nat} {ns : List ByteArray} (h : OpS H c id ns) (e : H' id = H id) : OpS H' c id ns := by
  rcases h with h | ⟨u, h1, h2⟩
  · exact .inl h
  · exact .inr ⟨u, h1, e.trans h2⟩
theorem opCS (id nv : Nat) (y : ByteArray) (ys : List ByteArray) : openC (some (1, 9)) id nv (.sl (encS (y :: ys))) = .own id nv (y :: ys).length := by
  show C.own id nv ((encS ys).length + 1) = _
  rw [encS_len]; rfl
theorem callMS {P : Program} {t : Nat → T} {H : HMap} {c : Nat} {f : Opd} {args : List Opd} {fid : FuncId} {k : Nat} {d : Option Nat} {l : List AOper} {prev : List (Nat × List Nat × List Nat)} {K : St → Prop} {cN : C} {id : Nat} {ns ns' : List ByteArray} {x r : T} (hO : OpS H cN id ns) (hC : ∀ m v, ACallsF P fid [.c (.own 2001 v ns.length), x] [arH 2001 m v 1 9 (encS ns) (encS ns')] r) (hC0 : ns = [] → ACallsF P fid [tL [], x] [] r) (hlen : ns'.length = ns.length)
    (hf : ev t f = .pt (.one (.fn fid []))) (hl : args.map (ev t) = [.c cN, x]) (hx : closedA x = true) (hr : closedT r = true) (hk : ∀ H1 prev', (∀ n, n ≠ id → H1 n = H n) → OpS H1 cN id ns' → DRun P l prev' K ⟨updD t d r, H1, c⟩) : step P k d [] (.call f args) l prev K t H c := by
  rcases hO with ⟨h1, rfl⟩ | ⟨u, rfl, h2⟩
  · have : ns' = [] := by rw [h1] at hlen; exact List.length_eq_zero_iff.1 hlen
    exact callC (hC0 h1) hf hl (by simp only [List.all_cons, List.all_nil, hx, Bool.and_true]; rfl) hr (hk H prev (fun _ _ => rfl) (.inl ⟨this, rfl⟩))
  · exact callM1 (m := id) (hC id u) hf hl h2 hx hr ⟨rfl, hk _ _ (fun n hn => upd_ne _ _ hn) (.inr ⟨u, by rw [hlen], upd_same _ _ _⟩)⟩
theorem markSs0_ok (k : Nat) : ACallsF Tryz.prog 28 [tL [], .i k] [] (.i k) := by
  refine ACallsF.intro ok28 follows fun X c0 => ?_
  simp only [go_sem]
  refine AW.upto 0 (fun i σ => σ.t 0 = tL [] ∧ σ.t 1 = .i k ∧ σ.t 5 = .i i) ⟨rfl, rfl, rfl⟩ fun i t H c hi h => ?_
  obtain ⟨e0, e1, e5⟩ := h
  simp only [T.c, T.i, tL] at e0 e1 e5
  have k1 : ¬ (i : Int) < 0 := by omega
  simp only [go_sem, e0, e1, e5, k1, Int.ofNat_zero, Int.cast_ofNat_Int]
mutual
/-- How many marks are written into a tree of a row. -/
def mT : Tr → Nat
  | .mk s n x ns ks => 3 + ns.length + mTs ks
def mTs : List Tr → Nat
  | [] => 0
  | k :: ks => mT k + mTs ks
end
mutual
/-- A tree of a row, with its marks. -/
def mkT (k : Nat) : Tr → Tr
  | .mk _ _ _ ns ks => .mk ((k : Nat) : Int) ((k + 1 : Nat) : Int) (mt (k + 2)) (marks mS 1 (k + 3) ns.length) (mkTs (k + 3 + ns.length) ks)
def mkTs (k : Nat) : List Tr → List Tr
  | [] => []
  | x :: xs => mkT k x :: mkTs (k + mT x) xs
end
theorem mTs_eq : ∀ ks, mTs ks = wsum mT ks
  | [] => by simp [mTs, wsum]
  | k :: ks => by simp [mTs, wsum, mTs_eq ks]
theorem mTs_take {ks : List Tr} {i : Nat} {x : Tr} (h : ks[i]? = some x) : mTs (ks.take (i + 1)) = mTs (ks.take i) + mT x := by rw [mTs_eq, mTs_eq]; exact wsum_take mT h
theorem mTs_le (ks : List Tr) (n : Nat) : mTs (ks.take n) ≤ mTs ks := by rw [mTs_eq, mTs_eq]; exact wsum_le mT ks n
theorem mT_pos (x : Tr) : 1 ≤ mT x := by cases x; simp only [mT]; omega
theorem mTs_len : ∀ ks, ks.length ≤ mTs ks
  | [] => Nat.zero_le _
  | k :: ks => by have := mT_pos k; have := mTs_len ks; simp only [List.length_cons, mTs]; omega
theorem mkTs_len : ∀ (xs : List Tr) (k : Nat), (mkTs k xs).length = xs.length
  | [], _ => rfl
  | x :: xs, k => by simp [mkTs, mkTs_len xs]
theorem mkTs_at : ∀ {xs : List Tr} {k j : Nat} {x : Tr}, xs[j]? = some x → (mkTs k xs)[j]? = some (mkT (k + mTs (xs.take j)) x)
  | [], _, _, _, h => by simp at h
  | y :: xs, k, 0, x, h => by simp at h; subst h; simp [mkTs, mTs]
  | y :: xs, k, j + 1, x, h => by
    have := mkTs_at (k := k + mT y) (show xs[j]? = some x by simpa using h)
    simp only [mkTs, List.getElem?_cons_succ, this, List.take_succ_cons, mTs]
    congr 2; omega
def OpRT (H : HMap) (c : C) (id : Nat) (ks : List Tr) : Prop := (ks = [] ∧ c = .v (.sl [])) ∨ ∃ u, c = .tr id u ks.length ∧ H id = some (.tree u true 5 118 (encTs ks) none)
theorem OpRT.re {H H' : HMap} {c : C} {id : Nat} {ks : List Tr} (h : OpRT H c id ks) (e : H' id = H id) : OpRT H' c id ks := by
  rcases h with h | ⟨u, h1, h2⟩
  · exact .inl h
  · exact .inr ⟨u, h1, e.trans h2⟩
theorem encTs_cons (y : Tr) (ys : List Tr) : encTs (y :: ys) = encT y :: encTs ys := by simp [encTs_eq]
theorem opCT (id nv : Nat) (y : Tr) (ys : List Tr) : openC (some (5, 118)) id nv (.sl (encTs (y :: ys))) = .tr id nv (y :: ys).length := by
  rw [encTs_cons]
  show C.tr id nv ((encTs ys).length + 1) = _
  rw [encTs_len]; rfl
theorem opBT (nv : Nat) (s : Int) (n : Int) (x : ByteArray) (ns : List ByteArray)  (y : Tr) (ys : List Tr) : openB 118 nv (encT (.mk s n x ns (y :: ys))) 4 = some (.tree nv true 5 118 (encTs (y :: ys)) none) := by
  rw [encT_mk, encTs_cons]; rfl
theorem openT (x : Tr) (nv : Nat) : ∃ cN cK, openCs 118 5000 nv 0 (encT x) = [.v (.s (.int .i64 x.s)), .v (.s (.int .i64 x.m)), .v (.s (.string x.x)), cN, cK] ∧ ∀ H' : HMap, (∀ j, j < 5 → H' (5000 + j) = openB 118 nv (encT x) j) → OpS H' cN 5003 x.n ∧ OpRT H' cK 5004 x.k := by
  obtain ⟨s, n, x, ns, ks⟩ := x
  refine ⟨openC (some (1, 9)) 5003 nv (.sl (encS ns)), openC (some (5, 118)) 5004 nv (.sl (encTs ks)), by rw [encT_mk]; rfl, fun H' h => ⟨?_, ?_⟩⟩
  · cases ns with
    | nil => exact .inl ⟨rfl, rfl⟩
    | cons z zs => exact .inr ⟨nv, opCS _ _ z zs, (h 3 (by decide)).trans (by rw [encT_mk]; rfl)⟩
  · cases ks with
    | nil => exact .inl ⟨rfl, by rw [encTs_nil]; rfl⟩
    | cons y ys => exact .inr ⟨nv, opCT _ _ y ys, (h 4 (by decide)).trans (opBT nv s n x ns y ys)⟩
theorem mopT {H : HMap} {cN cK : C} {s : Int} {n : Int} {x : ByteArray} {ns : List ByteArray} {ks : List Tr} (h1 : OpS H cN 5003 ns) (h2 : OpRT H cK 5004 ks) : ∃ nms, moveCs H 118 0 [.v (.s (.int .i64 s)), .v (.s (.int .i64 n)), .v (.s (.string x)), cN, cK] = some (encT (.mk s n x ns ks), nms) ∧ nms.Nodup ∧ 2001 ∉ nms := by
  rcases h1 with ⟨rfl, rfl⟩ | ⟨u, rfl, h1⟩ <;> rcases h2 with ⟨rfl, rfl⟩ | ⟨u', rfl, h2⟩
  · exact ⟨[], by simp only [go_sem, encT_mk], by decide, by decide⟩
  · exact ⟨[5004], by simp only [go_sem, encT_mk, h2, take_encTs], by decide, by decide⟩
  · exact ⟨[5003], by simp only [go_sem, encT_mk, h1, take_encS], by decide, by decide⟩
  · exact ⟨[5003, 5004], by simp only [go_sem, encT_mk, h1, h2, take_encS, take_encTs], by decide, by decide⟩
theorem callMRT {P : Program} {t : Nat → T} {H : HMap} {c : Nat} {f : Opd} {args : List Opd} {fid : FuncId} {k : Nat} {d : Option Nat} {l : List AOper} {prev : List (Nat × List Nat × List Nat)} {K : St → Prop} {cN : C} {id : Nat} {ks ks' : List Tr} {x r : T} (hO : OpRT H cN id ks) (hC : ∀ m v, ACallsF P fid [.c (.tr 2001 v ks.length), x] [trH 2001 m v 5 118 (encTs ks) (encTs ks')] r) (hC0 : ks = [] → ACallsF P fid [tL [], x] [] r) (hlen : ks'.length = ks.length)
    (hf : ev t f = .pt (.one (.fn fid []))) (hl : args.map (ev t) = [.c cN, x]) (hx : closedA x = true) (hr : closedT r = true) (hk : ∀ H1 prev', (∀ n, n ≠ id → H1 n = H n) → OpRT H1 cN id ks' → DRun P l prev' K ⟨updD t d r, H1, c⟩) : step P k d [] (.call f args) l prev K t H c := by
  rcases hO with ⟨h1, rfl⟩ | ⟨u, rfl, h2⟩
  · have : ks' = [] := by rw [h1] at hlen; exact List.length_eq_zero_iff.1 hlen
    exact callC (hC0 h1) hf hl (by simp only [List.all_cons, List.all_nil, hx, Bool.and_true]; rfl) hr (hk H prev (fun _ _ => rfl) (.inl ⟨this, rfl⟩))
  · exact callTm (m := id) (hC id u) hf hl h2 hx hr ⟨rfl, hk _ _ (fun n hn => upd_ne _ _ hn) (.inr ⟨u, by rw [hlen], upd_same _ _ _⟩)⟩
def ok83 := okF.gu (P := Tryz.prog) tab Tryz.func83 Tryz.ntmps83 (by conv => lhs; cbv) (by kernel_rfl)
theorem markTs0_ok (k : Nat) : ACallsF Tryz.prog 83 [tL [], .i k] [] (.i k) := by
  refine ACallsF.intro ok83 follows fun X c0 => ?_
  simp only [go_sem]
  refine AW.upto 0 (fun i σ => σ.t 0 = tL [] ∧ σ.t 1 = .i k ∧ σ.t 5 = .i i) ⟨rfl, rfl, rfl⟩ fun i t H c hi h => ?_
  obtain ⟨e0, e1, e5⟩ := h
  simp only [T.c, T.i, tL] at e0 e1 e5
  have k1 : ¬ (i : Int) < 0 := by omega
  simp only [go_sem, e0, e1, e5, k1, Int.ofNat_zero, Int.cast_ofNat_Int]
def mkdT (xs : List Tr) (k j : Nat) : List Tr := (mkTs k xs).take j ++ xs.drop j
theorem mkdT_at {xs : List Tr} {k i : Nat} {x : Tr} (h : xs[i]? = some x) : (mkdT xs k i)[i]? = some x := by
  have hi := (List.getElem?_eq_some_iff.1 h).1
  rw [mkdT, List.getElem?_append_right (by rw [List.length_take]; omega), List.length_take, mkTs_len, List.getElem?_drop, show i + (i - min i xs.length) = i from by omega]; exact h
def inv83 (xs : List Tr) (k v : Nat) (i : Nat) (σ : St) : Prop := σ.t 0 = .c (.tr 2001 v xs.length) ∧ σ.t 1 = .i ((k + mTs (xs.take i) : Nat) : Int) ∧ σ.t 5 = .i i ∧
  ((i = 0 ∧ σ.H 2001 = some (.tree v true 5 118 (encTs xs) none)) ∨ ∃ j x cs nms, i = j + 1 ∧ xs[j]? = some x ∧ σ.H 2001 = some (.tree v true 5 118 (encTs (mkdT xs k j)) (some (j, cs))) ∧ moveCs σ.H 118 0 cs = some (encT (mkT (k + mTs (xs.take j)) x), nms) ∧ nms.Nodup ∧ 2001 ∉ nms)
def mid83 (xs : List Tr) (k v : Nat) (i : Nat) (σ : St) : Prop := σ.t 0 = .c (.tr 2001 v xs.length) ∧ σ.t 1 = .i ((k + mTs (xs.take i) : Nat) : Int) ∧ σ.t 5 = .i i ∧
  (i < xs.length → ∃ x cN cK, xs[i]? = some x ∧ σ.H 2001 = some (.tree v true 5 118 (encTs (mkdT xs k i)) (some (i, [.v (.s (.int .i64 x.s)), .v (.s (.int .i64 x.m)), .v (.s (.string x.x)), cN, cK]))) ∧ OpS σ.H cN 5003 x.n ∧ OpRT σ.H cK 5004 x.k) ∧ (i = xs.length → σ.H 2001 = some (.tree v true 5 118 (encTs (mkTs k xs)) none))
def MRT (ks : List Tr) : Prop := ∀ (k m v : Nat), 1 ≤ k → k + mTs ks ≤ 100000000000000 → ACallsF Tryz.prog 83 [.c (.tr 2001 v ks.length), .i k] [trH 2001 m v 5 118 (encTs ks) (encTs (mkTs k ks))] (.i ((k + mTs ks : Nat) : Int))
set_option maxHeartbeats 1000000 in
theorem markTs_of (xs : List Tr) (ih : ∀ x ∈ xs, MRT x.k) : MRT xs := by
  intro k m v h1 hk
  have hxl := mTs_len xs
  refine ACallsF.intro ok83 follows fun X c0 => ?_
  simp only [go_sem]
  refine AW.uptoG xs.length (inv83 xs k v) (mid83 xs k v) ⟨rfl, by simp [mTs]; rfl, rfl, .inl ⟨rfl, rfl⟩⟩ (fun i t H c hi h => ?_) fun i t H c hi h => ?_
  · obtain ⟨e0, e1, e5, hH⟩ := h
    obtain ⟨H1, g1, q1⟩ : ∃ H1, Gh H c H1 c ∧ H1 2001 = some (.tree v true 5 118 (encTs (mkdT xs k i)) none) := by
      rcases hH with ⟨rfl, hH⟩ | ⟨j, x, cs, nms, rfl, hx, hH, hM, hn1, hn2⟩
      · exact ⟨H, Gh.refl H c, by simpa [mkdT] using hH⟩
      · have := gh_close (c := c) hH hM hn1 hn2
        rw [set_encTs, mkdT, set_out (mkTs_len xs k) (mkTs_at hx)] at this
        exact ⟨_, this, closeH_id _ _ _ _⟩
    by_cases hlt : i < xs.length
    · obtain ⟨x, hx⟩ : ∃ x, xs[i]? = some x := ⟨_, List.getElem?_eq_getElem hlt⟩
      obtain ⟨cN, cK, o1, o2⟩ := openT x c
      have a1 := openH_id H1 2001 v 5 118 (encTs (mkdT xs k i)) i (encT x) 5000 c
      rw [o1] at a1
      obtain ⟨a2, a3⟩ := o2 (openH H1 2001 v 5 118 (encTs (mkdT xs k i)) i (encT x) 5000 c) fun j hj => openH_in H1 2001 v 5 118 (encTs (mkdT xs k i)) i (encT x) 5000 c j (by omega) hj
      exact ⟨_, _, g1.trans (gh_open 5000 q1 (encTs_at (mkdT_at hx)) (by decide)), e0, e1, e5, fun _ => ⟨x, cN, cK, hx, a1, a2, a3⟩, fun h => absurd h (by omega)⟩
    · have : i = xs.length := by omega
      subst this
      rw [mkdT, List.drop_length, List.append_nil, ← mkTs_len xs k, List.take_length] at q1
      exact ⟨_, _, g1, e0, e1, e5, fun h => absurd h hlt, fun _ => q1⟩
  · obtain ⟨e0, e1, e5, hm, hn⟩ := h
    simp only [T.c, T.i] at e0 e1 e5
    have hpl : (mkdT xs k i).length = xs.length := by rw [mkdT, List.length_append, List.length_take, List.length_drop, mkTs_len]; omega
    by_cases hlt : i < xs.length
    · obtain ⟨x, cN, cK, hx, eH, hON, hOK⟩ := hm hlt
      replace eH : H 2001 = _ := eH
      have k1 : (i : Int) < xs.length := by omega
      have gz : (0 : Int) ≤ i := by omega
      have gm : i < xs.length := hlt
      have gw : IntKind.i64.wrap ((i : Int) + 1) = ((i + 1 : Nat) : Int) := wrap64 (x := (i : Int) + 1) ⟨by omega, by omega⟩
      have hs := mTs_take hx
      have hle := mTs_le xs (i + 1)
      have hmx := List.mem_of_getElem? hx
      obtain ⟨K, hK⟩ : ∃ K, K = k + mTs (xs.take i) := ⟨_, rfl⟩
      rw [← hK] at e1
      have hww : mT x = 3 + x.n.length + mTs x.k := by cases x; rfl
      have g0 : IntKind.i64.wrap ((K : Int) + 1) = ((K + 1 : Nat) : Int) := (wrap64 (x := (K : Int) + 1) ⟨by omega, by omega⟩).trans (by omega)
      have g1 : IntKind.i64.wrap (((K + 1 : Nat) : Int) + 1) = ((K + 2 : Nat) : Int) := (wrap64 (x := ((K + 1 : Nat) : Int) + 1) ⟨by omega, by omega⟩).trans (by omega)
      have g2 : IntKind.i64.wrap (((K + 2 : Nat) : Int) + 1) = ((K + 3 : Nat) : Int) := (wrap64 (x := ((K + 2 : Nat) : Int) + 1) ⟨by omega, by omega⟩).trans (by omega)
      simp only [go_sem, e0, eH, e1, e5, k1, gz, gm, hpl, g0, g1, g2, Int.toNat_natCast]
      refine callC (mark_ok (K + 2) (by omega) (by omega)) rfl rfl rfl rfl ?_
      simp only [go_sem, e0, eH, e1, e5, k1, gz, gm, hpl, g0, g1, g2, Int.toNat_natCast]
      refine callMS (id := 5003) (hON.re rfl) (fun m v => markSs_e x.n (K + 3) (by omega) (by omega) m v) (fun h => by rw [h]; exact markSs0_ok (K + 3)) (marks_len mS 1 (K + 3) x.n.length) rfl rfl rfl rfl fun H1 p1 hH1 hO1 => ?_
      have f1 : H1 2001 = some (.tree v true 5 118 (encTs (mkdT xs k i)) (some (i, [.v (.s (.int .i64 ((K : Nat) : Int))), .v (.s (.int .i64 ((K + 1 : Nat) : Int))), .v (.s (.string (mt (K + 2)))), cN, cK]))) := hH1 2001 (by decide)
      simp only [go_sem, e0, f1, e5, k1, gz, gm, hpl, Int.toNat_natCast]
      refine callMRT (id := 5004) (hOK.re (hH1 5004 (by decide))) (fun m v => ih x hmx (K + 3 + 1 * x.n.length) m v (by omega) (by omega)) (fun h => by rw [h]; exact markTs0_ok (K + 3 + 1 * x.n.length)) (mkTs_len x.k (K + 3 + 1 * x.n.length)) rfl rfl rfl rfl fun H2 p2 hH2 hO2 => ?_
      have f2 : H2 2001 = some (.tree v true 5 118 (encTs (mkdT xs k i)) (some (i, [.v (.s (.int .i64 ((K : Nat) : Int))), .v (.s (.int .i64 ((K + 1 : Nat) : Int))), .v (.s (.string (mt (K + 2)))), cN, cK]))) := (hH2 2001 (by decide)).trans f1
      simp only [go_sem, e0, f2, e5, gw]
      obtain ⟨nms, n1, n2, n3⟩ := mopT (s := ((K : Nat) : Int)) (n := ((K + 1 : Nat) : Int)) (x := mt (K + 2)) (hO1.re (hH2 5003 (by decide))) hO2
      have key : K + 3 + 1 * x.n.length + mTs x.k = k + mTs (xs.take (i + 1)) := by omega
      refine ⟨e0, by rw [← key]; rfl, rfl, .inr ⟨i, x, _, nms, rfl, hx, f2, ?_, n2, n3⟩⟩
      rw [← hK, n1, Nat.one_mul]
      cases x; rfl
    · have k1 : ¬ (i : Int) < xs.length := by omega
      have hi2 : i = xs.length := by omega
      have eH : H 2001 = _ := hn hi2
      subst hi2
      rw [List.take_length] at e1
      simp only [go_sem, e0, eH, e1, e5, k1, imp_self]
theorem markT_all : ∀ x : Tr, MRT x.k := by
  intro x
  induction x using Tr.ind with
  | _ s n x ns ks ih => exact markTs_of ks ih
theorem markTs_ok (xs : List Tr) : MRT xs := markTs_of xs fun x _ => markT_all x
theorem enc_mkT (K : Nat) (x : Tr) : encT (mkT K x) = [.s (.int .i64 ((K : Nat) : Int)), .s (.int .i64 ((K + 1 : Nat) : Int)), .s (.string (mt (K + 2))), .sl (encS (marks mS 1 (K + 3) x.n.length)), .sl (encTs (mkTs (K + 3 + x.n.length) x.k))] := by
  obtain ⟨_, _, _, ns, ks⟩ := x
  simp only [mkT, encT_mk]; rfl
def ok85 := okF.gu (P := Tryz.prog) tab Tryz.func85 Tryz.ntmps85 (by conv => lhs; cbv) (by kernel_rfl)
def HRT (ks : List Tr) : Prop := ∀ (k : Nat), 1 ≤ k → k + mTs ks ≤ 100000000000000 → ACallsF Tryz.prog 85 [tL (encTs (mkTs k ks)), .i k] [] (.i ((k + mTs ks : Nat) : Int))
def inv85 (xs : List Tr) (k : Nat) (i : Nat) (σ : St) : Prop := σ.t 0 = tL (encTs (mkTs k xs)) ∧ σ.t 1 = .i ((k + mTs (xs.take i) : Nat) : Int) ∧ σ.t 5 = .i i
set_option maxHeartbeats 1000000 in
theorem heldTs_of (xs : List Tr) (ih : ∀ x ∈ xs, HRT x.k) : HRT xs := by
  intro k h1 hk
  have hxl := mTs_len xs
  have hpl := mkTs_len xs k
  refine ACallsF.intro ok85 follows fun X c0 => ?_
  simp only [go_sem]
  refine AW.upto xs.length (inv85 xs k) ⟨rfl, by simp [mTs]; rfl, rfl⟩ fun i t H c hi h => ?_
  obtain ⟨e0, e1, e5⟩ := h
  simp only [T.c, T.i, tL] at e0 e1 e5
  by_cases hlt : i < xs.length
  · obtain ⟨x, hx⟩ : ∃ x, xs[i]? = some x := ⟨_, List.getElem?_eq_getElem hlt⟩
    have ex := encTs_at (mkTs_at (k := k) hx)
    have k1 : (i : Int) < xs.length := by omega
    have gz : (0 : Int) ≤ i := by omega
    have gw : IntKind.i64.wrap ((i : Int) + 1) = ((i + 1 : Nat) : Int) := wrap64 (x := (i : Int) + 1) ⟨by omega, by omega⟩
    have hs := mTs_take hx
    have hle := mTs_le xs (i + 1)
    have hmx := List.mem_of_getElem? hx
    have hww : mT x = 3 + x.n.length + mTs x.k := by cases x; rfl
    obtain ⟨K, hK⟩ : ∃ K, K = k + mTs (xs.take i) := ⟨_, rfl⟩
    rw [← hK] at e1 ex
    rw [enc_mkT] at ex
    have g0 : IntKind.i64.wrap ((K : Int) + 1) = ((K + 1 : Nat) : Int) := (wrap64 (x := (K : Int) + 1) ⟨by omega, by omega⟩).trans (by omega)
    have n0 : ((K : Int) != (K : Int)) = false := by simp
    have g1 : IntKind.i64.wrap (((K + 1 : Nat) : Int) + 1) = ((K + 2 : Nat) : Int) := (wrap64 (x := ((K + 1 : Nat) : Int) + 1) ⟨by omega, by omega⟩).trans (by omega)
    have n1 : (((K + 1 : Nat) : Int) != ((K + 1 : Nat) : Int)) = false := by simp
    have g2 : IntKind.i64.wrap (((K + 2 : Nat) : Int) + 1) = ((K + 3 : Nat) : Int) := (wrap64 (x := ((K + 2 : Nat) : Int) + 1) ⟨by omega, by omega⟩).trans (by omega)
    have b1 : ¬ ((K + 3 + 1 * x.n.length : Nat) : Int) < 0 := by omega
    have b2 : ¬ ((K + 3 + 1 * x.n.length + mTs x.k : Nat) : Int) < 0 := by omega
    have hC := ih x hmx (K + 3 + x.n.length) (by omega) (by omega)
    have hC1 := heldSs_e x.n.length (K + 3) (by omega) (by omega)
    rw [show K + 3 + x.n.length = K + 3 + 1 * x.n.length by omega] at hC ex
    simp only [go_sem, e0, e1, e5, k1, gz, hpl, ex, g0, n0, g1, n1, g2, Int.toNat_natCast]
    refine callC (mark_ok (K + 2) (by omega) (by omega)) rfl rfl rfl rfl ?_
    simp only [go_sem, e0, e5, k1, gz, hpl, ex, g0, n0, g1, n1, g2, sStr, str_beq, decide_true, Int.toNat_natCast]
    refine callC hC1 rfl rfl rfl rfl ?_
    simp only [go_sem, e0, e5, b1, gz, ex, Int.toNat_natCast]
    refine callC hC rfl rfl rfl rfl ?_
    simp only [go_sem, e5, b2, gw]
    have key : K + 3 + 1 * x.n.length + mTs x.k = k + mTs (xs.take (i + 1)) := by omega
    exact ⟨hlt, e0, by rw [← key]; rfl, rfl⟩
  · have k1 : ¬ (i : Int) < xs.length := by omega
    have hi2 : i = xs.length := by omega
    subst hi2
    rw [List.take_length] at e1
    simp only [go_sem, e0, e1, e5, k1, hpl]
theorem heldT_all : ∀ x : Tr, HRT x.k := by
  intro x
  induction x using Tr.ind with
  | _ s n x ns ks ih => exact heldTs_of ks ih
theorem heldTs_ok (xs : List Tr) : HRT xs := heldTs_of xs fun x _ => heldT_all x
end Go.V
set_option linter.unusedSimpArgs false
set_option maxRecDepth 20000
namespace Go.V
open Go.Proofs
/-- How many marks are written into an event of a row. -/
def mE (e : Ev) : Nat := 5 + e.body.n.length + mTs e.body.k
def mEs : List Ev → Nat
  | [] => 0
  | e :: es => mE e + mEs es
/-- An event of a row, with its marks. -/
def mkE (k : Nat) (e : Ev) : Ev := ⟨mt k, ((k + 1 : Nat) : Int), .mk ((k + 2 : Nat) : Int) ((k + 3 : Nat) : Int) (mt (k + 4)) (marks mS 1 (k + 5) e.body.n.length) (mkTs (k + 5 + e.body.n.length) e.body.k)⟩
def mkEs (k : Nat) : List Ev → List Ev
  | [] => []
  | x :: xs => mkE k x :: mkEs (k + mE x) xs
theorem mEs_eq : ∀ ks, mEs ks = wsum mE ks
  | [] => by simp [mEs, wsum]
  | k :: ks => by simp [mEs, wsum, mEs_eq ks]
theorem mEs_take {ks : List Ev} {i : Nat} {x : Ev} (h : ks[i]? = some x) : mEs (ks.take (i + 1)) = mEs (ks.take i) + mE x := by rw [mEs_eq, mEs_eq]; exact wsum_take mE h
theorem mEs_le (ks : List Ev) (n : Nat) : mEs (ks.take n) ≤ mEs ks := by rw [mEs_eq, mEs_eq]; exact wsum_le mE ks n
theorem mE_pos (x : Ev) : 1 ≤ mE x := by simp only [mE]; omega
theorem mEs_len : ∀ ks, ks.length ≤ mEs ks
  | [] => Nat.zero_le _
  | k :: ks => by have := mE_pos k; have := mEs_len ks; simp only [List.length_cons, mEs]; omega
theorem mkEs_len : ∀ (xs : List Ev) (k : Nat), (mkEs k xs).length = xs.length
  | [], _ => rfl
  | x :: xs, k => by simp [mkEs, mkEs_len xs]
theorem mkEs_at : ∀ {xs : List Ev} {k j : Nat} {x : Ev}, xs[j]? = some x → (mkEs k xs)[j]? = some (mkE (k + mEs (xs.take j)) x)
  | [], _, _, _, h => by simp at h
  | y :: xs, k, 0, x, h => by simp at h; subst h; simp [mkEs, mEs]
  | y :: xs, k, j + 1, x, h => by
    have := mkEs_at (k := k + mE y) (show xs[j]? = some x by simpa using h)
    simp only [mkEs, List.getElem?_cons_succ, this, List.take_succ_cons, mEs]
    congr 2; omega
def OpRE (H : HMap) (c : C) (id : Nat) (ks : List Ev) : Prop := (ks = [] ∧ c = .v (.sl [])) ∨ ∃ u, c = .tr id u ks.length ∧ H id = some (.tree u true 7 120 (en cE ks) none)
theorem OpRE.re {H H' : HMap} {c : C} {id : Nat} {ks : List Ev} (h : OpRE H c id ks) (e : H' id = H id) : OpRE H' c id ks := by
  rcases h with h | ⟨u, h1, h2⟩
  · exact .inl h
  · exact .inr ⟨u, h1, e.trans h2⟩
theorem opBTE (nv : Nat) (a : ByteArray) (b s n : Int) (x : ByteArray) (ns : List ByteArray) (y : Tr) (ys : List Tr) : openB 120 nv (cE ⟨a, b, .mk s n x ns (y :: ys)⟩) 6 = some (.tree nv true 5 118 (encTs (y :: ys)) none) := by
  show openB 120 nv [_, _, _, _, _, _, .sl (encTs (y :: ys))] 6 = _
  rw [encTs_cons]; rfl
theorem openE (x : Ev) (nv : Nat) : ∃ cN cK, openCs 120 5000 nv 0 (cE x) = [.v (.s (.string x.typ)), .v (.s (.int .i64 x.ver)), .v (.s (.int .i64 x.body.s)), .v (.s (.int .i64 x.body.m)), .v (.s (.string x.body.x)), cN, cK] ∧ ∀ H' : HMap, (∀ j, j < 7 → H' (5000 + j) = openB 120 nv (cE x) j) → OpS H' cN 5005 x.body.n ∧ OpRT H' cK 5006 x.body.k := by
  obtain ⟨a, b, s, n, x, ns, ks⟩ := x
  refine ⟨openC (some (1, 9)) 5005 nv (.sl (encS ns)), openC (some (5, 118)) 5006 nv (.sl (encTs ks)), rfl, fun H' h => ⟨?_, ?_⟩⟩
  · cases ns with
    | nil => exact .inl ⟨rfl, rfl⟩
    | cons z zs => exact .inr ⟨nv, opCS _ _ z zs, (h 5 (by decide)).trans rfl⟩
  · cases ks with
    | nil => exact .inl ⟨rfl, by rw [encTs_nil]; rfl⟩
    | cons y ys => exact .inr ⟨nv, opCT _ _ y ys, (h 6 (by decide)).trans (opBTE nv a b s n x ns y ys)⟩
theorem mopE {H : HMap} {cN cK : C} {a : ByteArray} {b s n : Int} {x : ByteArray} {ns : List ByteArray} {ks : List Tr} (h1 : OpS H cN 5005 ns) (h2 : OpRT H cK 5006 ks) : ∃ nms, moveCs H 120 0 [.v (.s (.string a)), .v (.s (.int .i64 b)), .v (.s (.int .i64 s)), .v (.s (.int .i64 n)), .v (.s (.string x)), cN, cK] = some (cE ⟨a, b, .mk s n x ns ks⟩, nms) ∧ nms.Nodup ∧ 2001 ∉ nms := by
  rcases h1 with ⟨rfl, rfl⟩ | ⟨u, rfl, h1⟩ <;> rcases h2 with ⟨rfl, rfl⟩ | ⟨u', rfl, h2⟩
  · exact ⟨[], by simp only [go_sem]; rfl, by decide, by decide⟩
  · exact ⟨[5006], by simp only [go_sem, h2, take_encTs]; rfl, by decide, by decide⟩
  · exact ⟨[5005], by simp only [go_sem, h1, take_encS]; rfl, by decide, by decide⟩
  · exact ⟨[5005, 5006], by simp only [go_sem, h1, h2, take_encS, take_encTs]; rfl, by decide, by decide⟩
theorem callMRE {P : Program} {t : Nat → T} {H : HMap} {c : Nat} {f : Opd} {args : List Opd} {fid : FuncId} {k : Nat} {d : Option Nat} {l : List AOper} {prev : List (Nat × List Nat × List Nat)} {K : St → Prop} {cN : C} {id : Nat} {ks ks' : List Ev} {x r : T} (hO : OpRE H cN id ks) (hC : ∀ m v, ACallsF P fid [.c (.tr 2001 v ks.length), x] [trH 2001 m v 7 120 (en cE ks) (en cE ks')] r) (hC0 : ks = [] → ACallsF P fid [tL [], x] [] r) (hlen : ks'.length = ks.length)
    (hf : ev t f = .pt (.one (.fn fid []))) (hl : args.map (ev t) = [.c cN, x]) (hx : closedA x = true) (hr : closedT r = true) (hk : ∀ H1 prev', (∀ n, n ≠ id → H1 n = H n) → OpRE H1 cN id ks' → DRun P l prev' K ⟨updD t d r, H1, c⟩) : step P k d [] (.call f args) l prev K t H c := by
  rcases hO with ⟨h1, rfl⟩ | ⟨u, rfl, h2⟩
  · have : ks' = [] := by rw [h1] at hlen; exact List.length_eq_zero_iff.1 hlen
    exact callC (hC0 h1) hf hl (by simp only [List.all_cons, List.all_nil, hx, Bool.and_true]; rfl) hr (hk H prev (fun _ _ => rfl) (.inl ⟨this, rfl⟩))
  · exact callTm (m := id) (hC id u) hf hl h2 hx hr ⟨rfl, hk _ _ (fun n hn => upd_ne _ _ hn) (.inr ⟨u, by rw [hlen], upd_same _ _ _⟩)⟩
def ok57 := okF.gu (P := Tryz.prog) tab Tryz.func57 Tryz.ntmps57 (by conv => lhs; cbv) (by kernel_rfl)
theorem markEs0_ok (k : Nat) : ACallsF Tryz.prog 57 [tL [], .i k] [] (.i k) := by
  refine ACallsF.intro ok57 follows fun X c0 => ?_
  simp only [go_sem]
  refine AW.upto 0 (fun i σ => σ.t 0 = tL [] ∧ σ.t 1 = .i k ∧ σ.t 5 = .i i) ⟨rfl, rfl, rfl⟩ fun i t H c hi h => ?_
  obtain ⟨e0, e1, e5⟩ := h
  simp only [T.c, T.i, tL] at e0 e1 e5
  have k1 : ¬ (i : Int) < 0 := by omega
  simp only [go_sem, e0, e1, e5, k1, Int.ofNat_zero, Int.cast_ofNat_Int]
def mkdE (xs : List Ev) (k j : Nat) : List Ev := (mkEs k xs).take j ++ xs.drop j
theorem mkdE_at {xs : List Ev} {k i : Nat} {x : Ev} (h : xs[i]? = some x) : (mkdE xs k i)[i]? = some x := by
  have hi := (List.getElem?_eq_some_iff.1 h).1
  rw [mkdE, List.getElem?_append_right (by rw [List.length_take]; omega), List.length_take, mkEs_len, List.getElem?_drop, show i + (i - min i xs.length) = i from by omega]; exact h
theorem set_en {α : Type} (f : α → List V) (ks : List α) (i : Nat) (k : α) : (en f ks).set i (f k) = en f (ks.set i k) := by simp only [en, List.map_set]
def inv57 (xs : List Ev) (k v : Nat) (i : Nat) (σ : St) : Prop := σ.t 0 = .c (.tr 2001 v xs.length) ∧ σ.t 1 = .i ((k + mEs (xs.take i) : Nat) : Int) ∧ σ.t 5 = .i i ∧
  ((i = 0 ∧ σ.H 2001 = some (.tree v true 7 120 (en cE xs) none)) ∨ ∃ j x cs nms, i = j + 1 ∧ xs[j]? = some x ∧ σ.H 2001 = some (.tree v true 7 120 (en cE (mkdE xs k j)) (some (j, cs))) ∧ moveCs σ.H 120 0 cs = some (cE (mkE (k + mEs (xs.take j)) x), nms) ∧ nms.Nodup ∧ 2001 ∉ nms)
def mid57 (xs : List Ev) (k v : Nat) (i : Nat) (σ : St) : Prop := σ.t 0 = .c (.tr 2001 v xs.length) ∧ σ.t 1 = .i ((k + mEs (xs.take i) : Nat) : Int) ∧ σ.t 5 = .i i ∧
  (i < xs.length → ∃ x cN cK, xs[i]? = some x ∧ σ.H 2001 = some (.tree v true 7 120 (en cE (mkdE xs k i)) (some (i, [.v (.s (.string x.typ)), .v (.s (.int .i64 x.ver)), .v (.s (.int .i64 x.body.s)), .v (.s (.int .i64 x.body.m)), .v (.s (.string x.body.x)), cN, cK]))) ∧ OpS σ.H cN 5005 x.body.n ∧ OpRT σ.H cK 5006 x.body.k) ∧ (i = xs.length → σ.H 2001 = some (.tree v true 7 120 (en cE (mkEs k xs)) none))
set_option maxHeartbeats 2000000 in
theorem markEs_ok (xs : List Ev) (k m v : Nat) (h1 : 1 ≤ k) (hk : k + mEs xs ≤ 100000000000000) : ACallsF Tryz.prog 57 [.c (.tr 2001 v xs.length), .i k] [trH 2001 m v 7 120 (en cE xs) (en cE (mkEs k xs))] (.i ((k + mEs xs : Nat) : Int)) := by
  have hxl := mEs_len xs
  refine ACallsF.intro ok57 follows fun X c0 => ?_
  simp only [go_sem]
  refine AW.uptoG xs.length (inv57 xs k v) (mid57 xs k v) ⟨rfl, by simp [mEs]; rfl, rfl, .inl ⟨rfl, rfl⟩⟩ (fun i t H c hi h => ?_) fun i t H c hi h => ?_
  · obtain ⟨e0, e1, e5, hH⟩ := h
    obtain ⟨H1, g1, q1⟩ : ∃ H1, Gh H c H1 c ∧ H1 2001 = some (.tree v true 7 120 (en cE (mkdE xs k i)) none) := by
      rcases hH with ⟨rfl, hH⟩ | ⟨j, x, cs, nms, rfl, hx, hH, hM, hn1, hn2⟩
      · exact ⟨H, Gh.refl H c, by simpa [mkdE] using hH⟩
      · have := gh_close (c := c) hH hM hn1 hn2
        rw [set_en, mkdE, set_out (mkEs_len xs k) (mkEs_at hx)] at this
        exact ⟨_, this, closeH_id _ _ _ _⟩
    by_cases hlt : i < xs.length
    · obtain ⟨x, hx⟩ : ∃ x, xs[i]? = some x := ⟨_, List.getElem?_eq_getElem hlt⟩
      obtain ⟨cN, cK, o1, o2⟩ := openE x c
      have a1 := openH_id H1 2001 v 7 120 (en cE (mkdE xs k i)) i (cE x) 5000 c
      rw [o1] at a1
      obtain ⟨a2, a3⟩ := o2 (openH H1 2001 v 7 120 (en cE (mkdE xs k i)) i (cE x) 5000 c) fun j hj => openH_in H1 2001 v 7 120 (en cE (mkdE xs k i)) i (cE x) 5000 c j (by omega) hj
      exact ⟨_, _, g1.trans (gh_open 5000 q1 (en_at cE (mkdE_at hx)) (by decide)), e0, e1, e5, fun _ => ⟨x, cN, cK, hx, a1, a2, a3⟩, fun h => absurd h (by omega)⟩
    · have : i = xs.length := by omega
      subst this
      rw [mkdE, List.drop_length, List.append_nil, ← mkEs_len xs k, List.take_length] at q1
      exact ⟨_, _, g1, e0, e1, e5, fun h => absurd h hlt, fun _ => q1⟩
  · obtain ⟨e0, e1, e5, hm, hn⟩ := h
    simp only [T.c, T.i] at e0 e1 e5
    have hpl : (mkdE xs k i).length = xs.length := by rw [mkdE, List.length_append, List.length_take, List.length_drop, mkEs_len]; omega
    by_cases hlt : i < xs.length
    · obtain ⟨x, cN, cK, hx, eH, hON, hOK⟩ := hm hlt
      replace eH : H 2001 = _ := eH
      have k1 : (i : Int) < xs.length := by omega
      have gz : (0 : Int) ≤ i := by omega
      have gm : i < xs.length := hlt
      have gw : IntKind.i64.wrap ((i : Int) + 1) = ((i + 1 : Nat) : Int) := wrap64 (x := (i : Int) + 1) ⟨by omega, by omega⟩
      have hs := mEs_take hx
      have hle := mEs_le xs (i + 1)
      obtain ⟨K, hK⟩ : ∃ K, K = k + mEs (xs.take i) := ⟨_, rfl⟩
      rw [← hK] at e1
      have hww : mE x = 5 + x.body.n.length + mTs x.body.k := rfl
      have g0 : IntKind.i64.wrap ((K : Int) + 1) = ((K + 1 : Nat) : Int) := (wrap64 (x := (K : Int) + 1) ⟨by omega, by omega⟩).trans (by omega)
      have g1 : IntKind.i64.wrap (((K + 1 : Nat) : Int) + 1) = ((K + 2 : Nat) : Int) := (wrap64 (x := ((K + 1 : Nat) : Int) + 1) ⟨by omega, by omega⟩).trans (by omega)
      have g2 : IntKind.i64.wrap (((K + 2 : Nat) : Int) + 1) = ((K + 3 : Nat) : Int) := (wrap64 (x := ((K + 2 : Nat) : Int) + 1) ⟨by omega, by omega⟩).trans (by omega)
      have g3 : IntKind.i64.wrap (((K + 3 : Nat) : Int) + 1) = ((K + 4 : Nat) : Int) := (wrap64 (x := ((K + 3 : Nat) : Int) + 1) ⟨by omega, by omega⟩).trans (by omega)
      have g4 : IntKind.i64.wrap (((K + 4 : Nat) : Int) + 1) = ((K + 5 : Nat) : Int) := (wrap64 (x := ((K + 4 : Nat) : Int) + 1) ⟨by omega, by omega⟩).trans (by omega)
      simp only [go_sem, e0, eH, e1, e5, k1, gz, gm, hpl, g0, g1, g2, g3, g4, en_len, Int.toNat_natCast]
      refine callC (mark_ok K (by omega) (by omega)) rfl rfl rfl rfl ?_
      simp only [go_sem, e0, eH, e1, e5, k1, gz, gm, hpl, g0, g1, g2, g3, g4, en_len, Int.toNat_natCast]
      refine callC (mark_ok (K + 4) (by omega) (by omega)) rfl rfl rfl rfl ?_
      simp only [go_sem, e0, eH, e1, e5, k1, gz, gm, hpl, g0, g1, g2, g3, g4, en_len, Int.toNat_natCast]
      refine callMS (id := 5005) (hON.re rfl) (fun m v => markSs_e x.body.n (K + 5) (by omega) (by omega) m v) (fun h => by rw [h]; exact markSs0_ok (K + 5)) (marks_len mS 1 (K + 5) x.body.n.length) rfl rfl rfl rfl fun H1 p1 hH1 hO1 => ?_
      have f1 : H1 2001 = some (.tree v true 7 120 (en cE (mkdE xs k i)) (some (i, [.v (.s (.string (mt K))), .v (.s (.int .i64 ((K + 1 : Nat) : Int))), .v (.s (.int .i64 ((K + 2 : Nat) : Int))), .v (.s (.int .i64 ((K + 3 : Nat) : Int))), .v (.s (.string (mt (K + 4)))), cN, cK]))) := hH1 2001 (by decide)
      simp only [go_sem, e0, f1, e5, k1, gz, gm, hpl, en_len, Int.toNat_natCast]
      refine callMRT (id := 5006) (hOK.re (hH1 5006 (by decide))) (fun m v => markTs_ok x.body.k (K + 5 + 1 * x.body.n.length) m v (by omega) (by omega)) (fun h => by rw [h]; exact markTs0_ok (K + 5 + 1 * x.body.n.length)) (mkTs_len x.body.k (K + 5 + 1 * x.body.n.length)) rfl rfl rfl rfl fun H2 p2 hH2 hO2 => ?_
      have f2 : H2 2001 = some (.tree v true 7 120 (en cE (mkdE xs k i)) (some (i, [.v (.s (.string (mt K))), .v (.s (.int .i64 ((K + 1 : Nat) : Int))), .v (.s (.int .i64 ((K + 2 : Nat) : Int))), .v (.s (.int .i64 ((K + 3 : Nat) : Int))), .v (.s (.string (mt (K + 4)))), cN, cK]))) := (hH2 2001 (by decide)).trans f1
      simp only [go_sem, e0, f2, e5, gw]
      obtain ⟨nms, n1, n2, n3⟩ := mopE (a := mt K) (b := ((K + 1 : Nat) : Int)) (s := ((K + 2 : Nat) : Int)) (n := ((K + 3 : Nat) : Int)) (x := mt (K + 4)) (hO1.re (hH2 5005 (by decide))) hO2
      have key : K + 5 + 1 * x.body.n.length + mTs x.body.k = k + mEs (xs.take (i + 1)) := by omega
      refine ⟨e0, by rw [← key]; rfl, rfl, .inr ⟨i, x, _, nms, rfl, hx, f2, ?_, n2, n3⟩⟩
      rw [← hK, n1, Nat.one_mul]
      rfl
    · have k1 : ¬ (i : Int) < xs.length := by omega
      have hi2 : i = xs.length := by omega
      have eH : H 2001 = _ := hn hi2
      subst hi2
      rw [List.take_length] at e1
      simp only [go_sem, e0, eH, e1, e5, k1, imp_self]
theorem cE_mk (K : Nat) (x : Ev) : cE (mkE K x) = [.s (.string (mt K)), .s (.int .i64 ((K + 1 : Nat) : Int)), .s (.int .i64 ((K + 2 : Nat) : Int)), .s (.int .i64 ((K + 3 : Nat) : Int)), .s (.string (mt (K + 4))), .sl (encS (marks mS 1 (K + 5) x.body.n.length)), .sl (encTs (mkTs (K + 5 + x.body.n.length) x.body.k))] := rfl
def ok58 := okF.gu (P := Tryz.prog) tab Tryz.func58 Tryz.ntmps58 (by conv => lhs; cbv) (by kernel_rfl)
def inv58 (xs : List Ev) (k : Nat) (i : Nat) (σ : St) : Prop := σ.t 0 = tL (en cE (mkEs k xs)) ∧ σ.t 1 = .i ((k + mEs (xs.take i) : Nat) : Int) ∧ σ.t 5 = .i i
set_option maxHeartbeats 2000000 in
theorem heldEs_ok (xs : List Ev) (k : Nat) (h1 : 1 ≤ k) (hk : k + mEs xs ≤ 100000000000000) : ACallsF Tryz.prog 58 [tL (en cE (mkEs k xs)), .i k] [] (.i ((k + mEs xs : Nat) : Int)) := by
  have hxl := mEs_len xs
  have hpl := mkEs_len xs k
  refine ACallsF.intro ok58 follows fun X c0 => ?_
  simp only [go_sem]
  refine AW.upto xs.length (inv58 xs k) ⟨rfl, by simp [mEs]; rfl, rfl⟩ fun i t H c hi h => ?_
  obtain ⟨e0, e1, e5⟩ := h
  simp only [T.c, T.i, tL] at e0 e1 e5
  by_cases hlt : i < xs.length
  · obtain ⟨x, hx⟩ : ∃ x, xs[i]? = some x := ⟨_, List.getElem?_eq_getElem hlt⟩
    have ex := en_at cE (mkEs_at (k := k) hx)
    have k1 : (i : Int) < xs.length := by omega
    have gz : (0 : Int) ≤ i := by omega
    have gw : IntKind.i64.wrap ((i : Int) + 1) = ((i + 1 : Nat) : Int) := wrap64 (x := (i : Int) + 1) ⟨by omega, by omega⟩
    have hs := mEs_take hx
    have hle := mEs_le xs (i + 1)
    have hww : mE x = 5 + x.body.n.length + mTs x.body.k := rfl
    obtain ⟨K, hK⟩ : ∃ K, K = k + mEs (xs.take i) := ⟨_, rfl⟩
    rw [← hK] at e1 ex
    rw [cE_mk] at ex
    have g0 : IntKind.i64.wrap ((K : Int) + 1) = ((K + 1 : Nat) : Int) := (wrap64 (x := (K : Int) + 1) ⟨by omega, by omega⟩).trans (by omega)
    have g1 : IntKind.i64.wrap (((K + 1 : Nat) : Int) + 1) = ((K + 2 : Nat) : Int) := (wrap64 (x := ((K + 1 : Nat) : Int) + 1) ⟨by omega, by omega⟩).trans (by omega)
    have g2 : IntKind.i64.wrap (((K + 2 : Nat) : Int) + 1) = ((K + 3 : Nat) : Int) := (wrap64 (x := ((K + 2 : Nat) : Int) + 1) ⟨by omega, by omega⟩).trans (by omega)
    have g3 : IntKind.i64.wrap (((K + 3 : Nat) : Int) + 1) = ((K + 4 : Nat) : Int) := (wrap64 (x := ((K + 3 : Nat) : Int) + 1) ⟨by omega, by omega⟩).trans (by omega)
    have g4 : IntKind.i64.wrap (((K + 4 : Nat) : Int) + 1) = ((K + 5 : Nat) : Int) := (wrap64 (x := ((K + 4 : Nat) : Int) + 1) ⟨by omega, by omega⟩).trans (by omega)
    have n1 : (((K + 1 : Nat) : Int) != ((K + 1 : Nat) : Int)) = false := by simp
    have n2 : (((K + 2 : Nat) : Int) != ((K + 2 : Nat) : Int)) = false := by simp
    have n3 : (((K + 3 : Nat) : Int) != ((K + 3 : Nat) : Int)) = false := by simp
    have b1 : ¬ ((K + 5 + 1 * x.body.n.length : Nat) : Int) < 0 := by omega
    have b2 : ¬ ((K + 5 + 1 * x.body.n.length + mTs x.body.k : Nat) : Int) < 0 := by omega
    have hC := heldTs_ok x.body.k (K + 5 + x.body.n.length) (by omega) (by omega)
    have hC1 := heldSs_e x.body.n.length (K + 5) (by omega) (by omega)
    rw [show K + 5 + x.body.n.length = K + 5 + 1 * x.body.n.length by omega] at hC ex
    simp only [go_sem, e0, e1, e5, k1, gz, hpl, ex, en_len, Int.toNat_natCast]
    refine callC (mark_ok K (by omega) (by omega)) rfl rfl rfl rfl ?_
    simp only [go_sem, e0, e1, e5, k1, gz, hpl, ex, en_len, g0, g1, g2, g3, g4, n1, n2, n3, sStr, str_beq, decide_true, Int.toNat_natCast]
    refine callC (mark_ok (K + 4) (by omega) (by omega)) rfl rfl rfl rfl ?_
    simp only [go_sem, e0, e1, e5, k1, gz, hpl, ex, en_len, g0, g1, g2, g3, g4, n1, n2, n3, sStr, str_beq, decide_true, Int.toNat_natCast]
    refine callC hC1 rfl rfl rfl rfl ?_
    simp only [go_sem, e0, e5, b1, gz, ex, Int.toNat_natCast]
    refine callC hC rfl rfl rfl rfl ?_
    simp only [go_sem, e5, b2, gw]
    have key : K + 5 + 1 * x.body.n.length + mTs x.body.k = k + mEs (xs.take (i + 1)) := by omega
    exact ⟨hlt, e0, by rw [← key]; rfl, rfl⟩
  · have k1 : ¬ (i : Int) < xs.length := by omega
    have hi2 : i = xs.length := by omega
    subst hi2
    rw [List.take_length] at e1
    simp only [go_sem, e0, e1, e5, k1, hpl, en_len]
end Go.V
set_option linter.unusedSimpArgs false
set_option maxRecDepth 20000
namespace Go.V
open Go.Proofs
/-- How many marks are written into a record of a row. -/
def mRc (r : Rc) : Nat := 2 + mEs r.evs
def mRcs : List Rc → Nat
  | [] => 0
  | e :: es => mRc e + mRcs es
/-- A record of a row, with its marks. -/
def mkRc (k : Nat) (r : Rc) : Rc := ⟨((k : Nat) : Int), mt (k + 1), mkEs (k + 2) r.evs⟩
def mkRcs (k : Nat) : List Rc → List Rc
  | [] => []
  | x :: xs => mkRc k x :: mkRcs (k + mRc x) xs
theorem mRcs_eq : ∀ ks, mRcs ks = wsum mRc ks
  | [] => by simp [mRcs, wsum]
  | k :: ks => by simp [mRcs, wsum, mRcs_eq ks]
theorem mRcs_take {ks : List Rc} {i : Nat} {x : Rc} (h : ks[i]? = some x) : mRcs (ks.take (i + 1)) = mRcs (ks.take i) + mRc x := by rw [mRcs_eq, mRcs_eq]; exact wsum_take mRc h
theorem mRcs_le (ks : List Rc) (n : Nat) : mRcs (ks.take n) ≤ mRcs ks := by rw [mRcs_eq, mRcs_eq]; exact wsum_le mRc ks n
theorem mRc_pos (x : Rc) : 1 ≤ mRc x := by simp only [mRc]; omega
theorem mRcs_len : ∀ ks, ks.length ≤ mRcs ks
  | [] => Nat.zero_le _
  | k :: ks => by have := mRc_pos k; have := mRcs_len ks; simp only [List.length_cons, mRcs]; omega
theorem mkRcs_len : ∀ (xs : List Rc) (k : Nat), (mkRcs k xs).length = xs.length
  | [], _ => rfl
  | x :: xs, k => by simp [mkRcs, mkRcs_len xs]
theorem mkRcs_at : ∀ {xs : List Rc} {k j : Nat} {x : Rc}, xs[j]? = some x → (mkRcs k xs)[j]? = some (mkRc (k + mRcs (xs.take j)) x)
  | [], _, _, _, h => by simp at h
  | y :: xs, k, 0, x, h => by simp at h; subst h; simp [mkRcs, mRcs]
  | y :: xs, k, j + 1, x, h => by
    have := mkRcs_at (k := k + mRc y) (show xs[j]? = some x by simpa using h)
    simp only [mkRcs, List.getElem?_cons_succ, this, List.take_succ_cons, mRcs]
    congr 2; omega
theorem opCE (id nv : Nat) (y : Ev) (ys : List Ev) : openC (some (7, 120)) id nv (.sl (en cE (y :: ys))) = .tr id nv (y :: ys).length := by
  show C.tr id nv ((en cE ys).length + 1) = _
  rw [en_len]; rfl
theorem openR (x : Rc) (nv : Nat) : ∃ cK, openCs 86 5000 nv 0 (cR x) = [.v (.s (.int .i64 x.pos)), .v (.s (.string x.key)), cK] ∧ ∀ H' : HMap, (∀ j, j < 3 → H' (5000 + j) = openB 86 nv (cR x) j) → OpRE H' cK 5002 x.evs := by
  obtain ⟨a, b, es⟩ := x
  refine ⟨openC (some (7, 120)) 5002 nv (.sl (en cE es)), rfl, fun H' h => ?_⟩
  cases es with
  | nil => exact .inl ⟨rfl, rfl⟩
  | cons y ys => exact .inr ⟨nv, opCE _ _ y ys, (h 2 (by decide)).trans rfl⟩
theorem mopR {H : HMap} {cK : C} {a : Int} {b : ByteArray} {es : List Ev} (h2 : OpRE H cK 5002 es) : ∃ nms, moveCs H 86 0 [.v (.s (.int .i64 a)), .v (.s (.string b)), cK] = some (cR ⟨a, b, es⟩, nms) ∧ nms.Nodup ∧ 2001 ∉ nms := by
  rcases h2 with ⟨rfl, rfl⟩ | ⟨u', rfl, h2⟩
  · exact ⟨[], by simp only [go_sem]; rfl, by decide, by decide⟩
  · exact ⟨[5002], by simp only [go_sem, h2, en_take], by decide, by decide⟩
def mkdR (xs : List Rc) (k j : Nat) : List Rc := (mkRcs k xs).take j ++ xs.drop j
theorem mkdR_at {xs : List Rc} {k i : Nat} {x : Rc} (h : xs[i]? = some x) : (mkdR xs k i)[i]? = some x := by
  have hi := (List.getElem?_eq_some_iff.1 h).1
  rw [mkdR, List.getElem?_append_right (by rw [List.length_take]; omega), List.length_take, mkRcs_len, List.getElem?_drop, show i + (i - min i xs.length) = i from by omega]; exact h
def ok30 := okF.gu (P := Tryz.prog) tab Tryz.func30 Tryz.ntmps30 (by conv => lhs; cbv) (by kernel_rfl)
def inv30 (xs : List Rc) (k v : Nat) (i : Nat) (σ : St) : Prop := σ.t 0 = .c (.tr 2001 v xs.length) ∧ σ.t 1 = .i ((k + mRcs (xs.take i) : Nat) : Int) ∧ σ.t 5 = .i i ∧
  ((i = 0 ∧ σ.H 2001 = some (.tree v true 3 86 (en cR xs) none)) ∨ ∃ j x cs nms, i = j + 1 ∧ xs[j]? = some x ∧ σ.H 2001 = some (.tree v true 3 86 (en cR (mkdR xs k j)) (some (j, cs))) ∧ moveCs σ.H 86 0 cs = some (cR (mkRc (k + mRcs (xs.take j)) x), nms) ∧ nms.Nodup ∧ 2001 ∉ nms)
def mid30 (xs : List Rc) (k v : Nat) (i : Nat) (σ : St) : Prop := σ.t 0 = .c (.tr 2001 v xs.length) ∧ σ.t 1 = .i ((k + mRcs (xs.take i) : Nat) : Int) ∧ σ.t 5 = .i i ∧
  (i < xs.length → ∃ x cK, xs[i]? = some x ∧ σ.H 2001 = some (.tree v true 3 86 (en cR (mkdR xs k i)) (some (i, [.v (.s (.int .i64 x.pos)), .v (.s (.string x.key)), cK]))) ∧ OpRE σ.H cK 5002 x.evs) ∧ (i = xs.length → σ.H 2001 = some (.tree v true 3 86 (en cR (mkRcs k xs)) none))
set_option maxHeartbeats 2000000 in
theorem markRcs_ok (xs : List Rc) (k m v : Nat) (h1 : 1 ≤ k) (hk : k + mRcs xs ≤ 100000000000000) : ACallsF Tryz.prog 30 [.c (.tr 2001 v xs.length), .i k] [trH 2001 m v 3 86 (en cR xs) (en cR (mkRcs k xs))] (.i ((k + mRcs xs : Nat) : Int)) := by
  have hxl := mRcs_len xs
  refine ACallsF.intro ok30 follows fun X c0 => ?_
  simp only [go_sem]
  refine AW.uptoG xs.length (inv30 xs k v) (mid30 xs k v) ⟨rfl, by simp [mRcs]; rfl, rfl, .inl ⟨rfl, rfl⟩⟩ (fun i t H c hi h => ?_) fun i t H c hi h => ?_
  · obtain ⟨e0, e1, e5, hH⟩ := h
    obtain ⟨H1, g1, q1⟩ : ∃ H1, Gh H c H1 c ∧ H1 2001 = some (.tree v true 3 86 (en cR (mkdR xs k i)) none) := by
      rcases hH with ⟨rfl, hH⟩ | ⟨j, x, cs, nms, rfl, hx, hH, hM, hn1, hn2⟩
      · exact ⟨H, Gh.refl H c, by simpa [mkdR] using hH⟩
      · have := gh_close (c := c) hH hM hn1 hn2
        rw [set_en, mkdR, set_out (mkRcs_len xs k) (mkRcs_at hx)] at this
        exact ⟨_, this, closeH_id _ _ _ _⟩
    by_cases hlt : i < xs.length
    · obtain ⟨x, hx⟩ : ∃ x, xs[i]? = some x := ⟨_, List.getElem?_eq_getElem hlt⟩
      obtain ⟨cK, o1, o2⟩ := openR x c
      have a1 := openH_id H1 2001 v 3 86 (en cR (mkdR xs k i)) i (cR x) 5000 c
      rw [o1] at a1
      have a3 := o2 (openH H1 2001 v 3 86 (en cR (mkdR xs k i)) i (cR x) 5000 c) fun j hj => openH_in H1 2001 v 3 86 (en cR (mkdR xs k i)) i (cR x) 5000 c j (by omega) hj
      exact ⟨_, _, g1.trans (gh_open 5000 q1 (en_at cR (mkdR_at hx)) (by decide)), e0, e1, e5, fun _ => ⟨x, cK, hx, a1, a3⟩, fun h => absurd h (by omega)⟩
    · have : i = xs.length := by omega
      subst this
      rw [mkdR, List.drop_length, List.append_nil, ← mkRcs_len xs k, List.take_length] at q1
      exact ⟨_, _, g1, e0, e1, e5, fun h => absurd h hlt, fun _ => q1⟩
  · obtain ⟨e0, e1, e5, hm, hn⟩ := h
    simp only [T.c, T.i] at e0 e1 e5
    have hpl : (mkdR xs k i).length = xs.length := by rw [mkdR, List.length_append, List.length_take, List.length_drop, mkRcs_len]; omega
    by_cases hlt : i < xs.length
    · obtain ⟨x, cK, hx, eH, hOK⟩ := hm hlt
      replace eH : H 2001 = _ := eH
      have k1 : (i : Int) < xs.length := by omega
      have gz : (0 : Int) ≤ i := by omega
      have gm : i < xs.length := hlt
      have gw : IntKind.i64.wrap ((i : Int) + 1) = ((i + 1 : Nat) : Int) := wrap64 (x := (i : Int) + 1) ⟨by omega, by omega⟩
      have hs := mRcs_take hx
      have hle := mRcs_le xs (i + 1)
      obtain ⟨K, hK⟩ : ∃ K, K = k + mRcs (xs.take i) := ⟨_, rfl⟩
      rw [← hK] at e1
      have hww : mRc x = 2 + mEs x.evs := rfl
      have g0 : IntKind.i64.wrap ((K : Int) + 1) = ((K + 1 : Nat) : Int) := (wrap64 (x := (K : Int) + 1) ⟨by omega, by omega⟩).trans (by omega)
      have g1 : IntKind.i64.wrap (((K + 1 : Nat) : Int) + 1) = ((K + 2 : Nat) : Int) := (wrap64 (x := ((K + 1 : Nat) : Int) + 1) ⟨by omega, by omega⟩).trans (by omega)
      simp only [go_sem, e0, eH, e1, e5, k1, gz, gm, hpl, g0, g1, en_len, Int.toNat_natCast]
      refine callC (mark_ok (K + 1) (by omega) (by omega)) rfl rfl rfl rfl ?_
      simp only [go_sem, e0, eH, e1, e5, k1, gz, gm, hpl, g0, g1, en_len, Int.toNat_natCast]
      refine callMRE (id := 5002) (hOK.re rfl) (fun m v => markEs_ok x.evs (K + 2) m v (by omega) (by omega)) (fun h => by rw [h]; exact markEs0_ok (K + 2)) (mkEs_len x.evs (K + 2)) rfl rfl rfl rfl fun H2 p2 hH2 hO2 => ?_
      have f2 : H2 2001 = some (.tree v true 3 86 (en cR (mkdR xs k i)) (some (i, [.v (.s (.int .i64 ((K : Nat) : Int))), .v (.s (.string (mt (K + 1)))), cK]))) := hH2 2001 (by decide)
      simp only [go_sem, e0, f2, e5, gw]
      obtain ⟨nms, n1, n2, n3⟩ := mopR (a := ((K : Nat) : Int)) (b := mt (K + 1)) hO2
      have key : K + 2 + mEs x.evs = k + mRcs (xs.take (i + 1)) := by omega
      refine ⟨e0, by rw [← key]; rfl, rfl, .inr ⟨i, x, _, nms, rfl, hx, f2, ?_, n2, n3⟩⟩
      rw [← hK, n1]
      rfl
    · have k1 : ¬ (i : Int) < xs.length := by omega
      have hi2 : i = xs.length := by omega
      have eH : H 2001 = _ := hn hi2
      subst hi2
      rw [List.take_length] at e1
      simp only [go_sem, e0, eH, e1, e5, k1, imp_self]
theorem cR_mk (K : Nat) (x : Rc) : cR (mkRc K x) = [.s (.int .i64 ((K : Nat) : Int)), .s (.string (mt (K + 1))), .sl (en cE (mkEs (K + 2) x.evs))] := rfl
def ok31 := okF.gu (P := Tryz.prog) tab Tryz.func31 Tryz.ntmps31 (by conv => lhs; cbv) (by kernel_rfl)
def inv31 (xs : List Rc) (k : Nat) (i : Nat) (σ : St) : Prop := σ.t 0 = tL (en cR (mkRcs k xs)) ∧ σ.t 1 = .i ((k + mRcs (xs.take i) : Nat) : Int) ∧ σ.t 5 = .i i
set_option maxHeartbeats 2000000 in
theorem heldRcs_ok (xs : List Rc) (k : Nat) (h1 : 1 ≤ k) (hk : k + mRcs xs ≤ 100000000000000) : ACallsF Tryz.prog 31 [tL (en cR (mkRcs k xs)), .i k] [] (.i ((k + mRcs xs : Nat) : Int)) := by
  have hxl := mRcs_len xs
  have hpl := mkRcs_len xs k
  refine ACallsF.intro ok31 follows fun X c0 => ?_
  simp only [go_sem]
  refine AW.upto xs.length (inv31 xs k) ⟨rfl, by simp [mRcs]; rfl, rfl⟩ fun i t H c hi h => ?_
  obtain ⟨e0, e1, e5⟩ := h
  simp only [T.c, T.i, tL] at e0 e1 e5
  by_cases hlt : i < xs.length
  · obtain ⟨x, hx⟩ : ∃ x, xs[i]? = some x := ⟨_, List.getElem?_eq_getElem hlt⟩
    have ex := en_at cR (mkRcs_at (k := k) hx)
    have k1 : (i : Int) < xs.length := by omega
    have gz : (0 : Int) ≤ i := by omega
    have gw : IntKind.i64.wrap ((i : Int) + 1) = ((i + 1 : Nat) : Int) := wrap64 (x := (i : Int) + 1) ⟨by omega, by omega⟩
    have hs := mRcs_take hx
    have hle := mRcs_le xs (i + 1)
    have hww : mRc x = 2 + mEs x.evs := rfl
    obtain ⟨K, hK⟩ : ∃ K, K = k + mRcs (xs.take i) := ⟨_, rfl⟩
    rw [← hK] at e1 ex
    rw [cR_mk] at ex
    have g0 : IntKind.i64.wrap ((K : Int) + 1) = ((K + 1 : Nat) : Int) := (wrap64 (x := (K : Int) + 1) ⟨by omega, by omega⟩).trans (by omega)
    have g1 : IntKind.i64.wrap (((K + 1 : Nat) : Int) + 1) = ((K + 2 : Nat) : Int) := (wrap64 (x := ((K + 1 : Nat) : Int) + 1) ⟨by omega, by omega⟩).trans (by omega)
    have n0 : ((K : Int) != (K : Int)) = false := by simp
    have b2 : ¬ ((K + 2 + mEs x.evs : Nat) : Int) < 0 := by omega
    have hC := heldEs_ok x.evs (K + 2) (by omega) (by omega)
    simp only [go_sem, e0, e1, e5, k1, gz, hpl, ex, en_len, g0, g1, n0, Int.toNat_natCast]
    refine callC (mark_ok (K + 1) (by omega) (by omega)) rfl rfl rfl rfl ?_
    simp only [go_sem, e0, e1, e5, k1, gz, hpl, ex, en_len, g0, g1, n0, sStr, str_beq, decide_true, Int.toNat_natCast]
    refine callC hC rfl rfl rfl rfl ?_
    simp only [go_sem, e5, b2, gw]
    have key : K + 2 + mEs x.evs = k + mRcs (xs.take (i + 1)) := by omega
    exact ⟨hlt, e0, by rw [← key]; rfl, rfl⟩
  · have k1 : ¬ (i : Int) < xs.length := by omega
    have hi2 : i = xs.length := by omega
    subst hi2
    rw [List.take_length] at e1
    simp only [go_sem, e0, e1, e5, k1, hpl, en_len]
abbrev mkSH (m1 v1 k : Nat) (s : Ss) : List Hand := [trH 2001 m1 v1 3 86 (en cR s.recs) (en cR (mkRcs k s.recs))]
def ok11 := okF.gu (P := Tryz.prog) tab Tryz.func11 Tryz.ntmps11 (by conv => lhs; cbv) (by kernel_rfl)
theorem markSt_ok (s : Ss) (k : Nat) (h1 : 1 ≤ k) (hk : k + mRcs s.recs ≤ 100000000000000) (m1 v1 : Nat) : ACallsF Tryz.prog 11 [oSs 2001 v1 s, .i k] (mkSH m1 v1 k s) (.i ((k + mRcs s.recs : Nat) : Int)) := by
  refine ACallsF.intro ok11 follows fun X c0 => ?_
  simp only [go_sem]
  refine callTm (m := 2001) (markRcs_ok s.recs k 2001 v1 h1 hk) rfl rfl rfl rfl rfl ⟨rfl, ?_⟩
  simp only [go_sem, imp_self]
def mkSs (k : Nat) (s : Ss) : Ss := ⟨s.code, s.next, mkRcs k s.recs⟩
def ok12 := okF.gu (P := Tryz.prog) tab Tryz.func12 Tryz.ntmps12 (by conv => lhs; cbv) (by kernel_rfl)
theorem heldSt_ok (s : Ss) (k : Nat) (h1 : 1 ≤ k) (hk : k + mRcs s.recs ≤ 100000000000000) : ACallsF Tryz.prog 12 [tSs (mkSs k s), .i k] [] (.i ((k + mRcs s.recs : Nat) : Int)) := by
  have b2 : ¬ ((k + mRcs s.recs : Nat) : Int) < 0 := by omega
  refine ACallsF.intro ok12 follows fun X c0 => ?_
  simp only [go_sem, mkSs]
  refine callC (heldRcs_ok s.recs k h1 hk) rfl rfl rfl rfl ?_
  simp only [go_sem, b2]
/-- A call that works in place on a store. -/
theorem callMSt {P : Program} {t : Nat → T} {H : HMap} {c : Nat} {f : Opd} {args : List Opd} {fid : FuncId} {k : Nat} {d : Option Nat} {un : List Nat} {l : List AOper} {prev : List (Nat × List Nat × List Nat)} {K : St → Prop} {m1 v1 q : Nat} {s : Ss} {x r : T} (hC : ACallsF P fid [oSs 2001 v1 s, x] (mkSH m1 v1 q s) r) (hf : ev t f = .pt (.one (.fn fid []))) (hl : args.map (ev t) = [oSs m1 v1 s, x]) (hx : closedA x = true) (hr : closedT r = true)
    (h1 : H m1 = some (.tree v1 true 3 86 (en cR s.recs) none))
    (hk : chk prev un ⟨r, [(m1, .tree v1 true 3 86 (en cR (mkRcs q s.recs)) none)], [m1], [m1]⟩ = true ∧
      DRun P l ((k, [m1], [m1]) :: prev) K ⟨updD t d r, upd H m1 (some (.tree v1 true 3 86 (en cR (mkRcs q s.recs)) none)), c⟩) :
    step P k d un (.call f args) l prev K t H c := by
  generalize hhs : mkSH m1 v1 q s = hs at hC
  have R1 : renN hs 2001 = some (trH 2001 m1 v1 3 86 (en cR s.recs) (en cR (mkRcs q s.recs))) := by rw [← hhs]; rfl
  have I1 : inN hs 2001 = some m1 := by simp [inN, R1]
  obtain ⟨x1, x2⟩ := closed_A hs H x hx
  refine callW (caps := []) («as» := [oSs m1 v1 s, x]) (ws := []) (ns := []) (r' := r) (ob := [(m1, .tree v1 true 3 86 (en cR (mkRcs q s.recs)) none)]) hs hC hf ?_ ?_ ?_ (by rw [← hhs]; simp) (by rw [← hhs]; simp) (closed_T _ r hr _) ?_ ?_
  · have a1 : lendT H (oSs 2001 v1 s) (oSs m1 v1 s) = some (oSs m1 v1 s, [], []) := rfl
    rw [hl]
    simp only [List.map_nil, List.append_nil, lendTs, a1, x1]
  · have a1 : renIT hs (oSs 2001 v1 s) = some (oSs m1 v1 s) := by simp only [renIT, renIs, renI, I1, Option.map_some]
    simp only [renITs, a1, x2]
  · have B2 : ∀ v wr st ty es, renIB hs (.tree v wr st ty es none) = some (.tree v wr st ty es none) := fun _ _ _ _ _ => rfl
    have key : handsIn (updH H []) hs (mkSH m1 v1 q s) := by
      simp only [handsIn, B2, updH, h1, and_self]
    rw [hhs] at key
    exact key
  · have key : renOBs hs (c + k) (mkSH m1 v1 q s) = some [(m1, .tree v1 true 3 86 (en cR (mkRcs q s.recs)) none)] := by
      simp only [renOBs, renOB, verOf, if_true, Blk.ver]
    rw [hhs] at key
    exact key
  · have hq : quiet r hs = false := by rw [← hhs]; simp [quiet]
    have hms : hs.map (·.m) = [m1] := by rw [← hhs]; rfl
    rw [hq, hms]
    simpa [updH] using hk
end Go.V
set_option linter.unusedSimpArgs false
set_option maxRecDepth 20000
namespace Go.V
open Go.Proofs
theorem mTs_parts : ∀ (ks : List Tr), (∀ k ∈ ks, mT k + 1 ≤ 4 * tparts k) → mTs ks + ks.length ≤ 4 * tpartsL ks
  | [], _ => by simp [mTs, tpartsL]
  | k :: ks, h => by
    have h1 := h k (by simp)
    have h2 := mTs_parts ks fun x hx => h x (by simp [hx])
    simp only [mTs, tpartsL, List.length_cons]; omega
theorem mT_parts : ∀ (t : Tr) (d : Nat), TOk d t → mT t + 1 ≤ 4 * tparts t := by
  intro t
  induction t using Tr.ind with
  | _ s n x ns ks ih =>
    intro d h
    obtain ⟨_, hsh, hk⟩ := h.inv
    have h1 := mTs_parts ks fun k hm => ih k hm (d + 1) (hk k hm)
    have h2 : ns.length ≤ ks.length := by
      rcases shape_cases hsh with ⟨_, _, _, _, rfl, _⟩ | ⟨_, _, _, rfl, _⟩ | ⟨_, _, _, _, rfl, _⟩ | ⟨_, _, _, rfl⟩ | ⟨_, _, _, _, a2⟩ | ⟨_, _, _, rfl⟩
      all_goals first | simp | omega
    simp only [mT, tparts]
    omega
theorem mE_le {e : Ev} (h : evOk e = true) : mE e ≤ 482 := by
  simp only [evOk, Bool.and_eq_true] at h
  obtain ⟨k1, k2⟩ := okT_true.1 h.2.2.2
  have h1 := mT_parts _ _ k1
  have h2 : mT e.body = 3 + e.body.n.length + mTs e.body.k := by cases e.body; rfl
  unfold mE; omega
theorem mEs_of : ∀ (es : List Ev), (∀ e ∈ es, evOk e = true) → mEs es ≤ 482 * es.length
  | [], _ => by simp [mEs]
  | e :: es, h => by
    have h1 := mE_le (h e (by simp))
    have h2 := mEs_of es fun x hx => h x (by simp [hx])
    simp only [mEs, List.length_cons]; omega
theorem mRc_le {r : Rc} (h : rcOk r = true) : mRc r ≤ 20000 := by
  obtain ⟨_, _, _, h1, h2⟩ := recB_inv (rcOk_B h)
  have := mEs_of r.evs h2
  unfold mRc; omega
theorem mRcs_of : ∀ (rs : List Rc), (∀ r ∈ rs, rcOk r = true) → mRcs rs ≤ 20000 * rs.length
  | [], _ => by simp [mRcs]
  | e :: es, h => by
    have h1 := mRc_le (h e (by simp))
    have h2 := mRcs_of es fun x hx => h x (by simp [hx])
    simp only [mRcs, List.length_cons]; omega
theorem unpR_true {pos : Int} {d : ByteArray} (h : (unpR pos d).2 = true) : rcOk (unpR pos d).1 = true := by
  by_cases hx : ∃ r, rcOk r = true ∧ r.pos = pos ∧ ofL (pkR r) = d
  · unfold unpR
    rw [dif_pos hx]
    exact hx.choose_spec.1
  · unfold unpR at h
    rw [dif_neg hx] at h
    cases h
theorem rds_some : ∀ {ls : List LR} {rs : List Rc}, rds ls = some rs → rs.length = ls.length ∧ ∀ r ∈ rs, rcOk r = true
  | [], rs, h => by
    simp only [rds, Option.some.injEq] at h
    subst h
    exact ⟨rfl, fun r hr => by cases hr⟩
  | x :: xs, rs, h => by
    rw [rds] at h
    split at h
    · rename_i hx
      cases hm : rds xs with
      | none => rw [hm] at h; cases h
      | some l =>
        rw [hm] at h
        simp only [Option.map_some, Option.some.injEq] at h
        subst h
        obtain ⟨h1, h2⟩ := rds_some hm
        refine ⟨by simp [h1], fun r hr => ?_⟩
        rcases List.mem_cons.1 hr with rfl | hr
        · exact unpR_true hx
        · exact h2 r hr
    · cases h
theorem stoO_small (s : Ls) (h : s.recs.length ≤ 3000000) : (stoO s).recs.length ≤ 3000000 ∧ ∀ r ∈ (stoO s).recs, rcOk r = true := by
  unfold stoO
  split
  · exact ⟨Nat.zero_le _, fun r hr => by cases hr⟩
  · cases hm : rds s.recs with
    | none => exact ⟨Nat.zero_le _, fun r hr => by cases hr⟩
    | some l => exact ⟨by rw [(rds_some hm).1]; exact h, (rds_some hm).2⟩
theorem sto_small (d : Dk) : (sto d).recs.length ≤ 3000000 ∧ ∀ r ∈ (sto d).recs, rcOk r = true := by
  unfold sto
  by_cases hD : DOk d
  · rw [if_pos hD]; exact stoO_small _ (opn_small hD).1
  · rw [if_neg hD]; exact ⟨Nat.zero_le _, fun r hr => by cases hr⟩
section
variable {P : Program} {t : Nat → T} {H : HMap} {c : Nat} {f : Opd} {args : List Opd} {fid : FuncId} {argsC : List T} {ws : List (Nat × Blk)} {ns : List Nat} {k : Nat} {d : Option Nat} {un : List Nat} {l : List AOper} {prev : List (Nat × List Nat × List Nat)} {K : St → Prop}
/-- A call that gives a store of its own. -/
theorem callSt {n m : Nat} {s : Ss} (hC : ACallsF P fid argsC (newS n m s) (oSs n 0 s)) (hf : ev t f = .pt (.one (.fn fid []))) (hl : lendTs H argsC (args.map (ev t)) = some (argsC, ws, ns)) (ha : argsC.all closedA = true)
    (hk : chk prev un ⟨oSs m (c + k) s, [(m, .tree (c + k) true 3 86 (en cR s.recs) none)], ns ++ [m], [m]⟩ = true ∧ DRun P l ((k, ns ++ [m], [m]) :: prev) K ⟨updD t d (oSs m (c + k) s), upd H m (some (.tree (c + k) true 3 86 (en cR s.recs) none)), c⟩) :
    step P k d un (.call f args) l prev K t H c := by
  have hN : renN (newS n m s) n = some (newT n m 3 86 (en cR s.recs)) := by simp [renN]
  refine callF (r' := oSs m (c + k) s) (ob := [(m, .tree (c + k) true 3 86 (en cR s.recs) none)]) (newS n m s) hC hf hl ha (by simp) (by simp) (by simp) ?_ ?_ ?_ ?_
  · rfl
  · simp only [renOT, renOP, renOs, renO, hN, Option.map_some, verOf]; rfl
  · simp only [renOBs, renOB, verOf]; rfl
  · simpa [updH] using hk
end
section
variable {H : HMap} {m1 m2 m3 v1 v2 v3 n1 n2 n3 : Nat} {w1 w2 w3 : Bool}
theorem lend0 {d : Dk} (h1 : H m1 = some (.arr v1 w1 3 89 (en eF d.files))) (h2 : H m2 = some (.arr v2 w2 1 9 (en eS d.names))) (h3 : H m3 = some (.arr v3 w3 2 91 (en eM d.moves))) (e1 : n1 = d.files.length) (e2 : n2 = d.names.length) (e3 : n3 = d.moves.length) :
    lendTs H [tDk d] [.pt (.agg [.own m1 v1 n1, .own m2 v2 n2, .own m3 v3 n3])] = some ([tDk d], dkL m1 v1 m2 v2 m3 v3 d, [m1, m2, m3]) := by
  simp only [lendTs, lendDk h1 h2 h3 e1 e2 e3, List.append_nil]
abbrev sL (m v : Nat) (s : Ss) : List (Nat × Blk) := [(m, .tree v false 3 86 (en cR s.recs) none)]
theorem lendSs {s : Ss} (h1 : H m1 = some (.tree v1 w1 3 86 (en cR s.recs) none)) (e1 : n1 = s.recs.length) :
    lendT H (tSs s) (.pt (.agg [.v (.s (.int .i64 s.code)), .v (.s (.int .i64 s.next)), .tr m1 v1 n1])) = some (tSs s, sL m1 v1 s, [m1]) := by
  subst e1
  have tk : List.take s.recs.length (en cR s.recs) = en cR s.recs := en_take cR s.recs
  simp only [tSs, lendT, lendCs, lendC, sealC, h1, en_len, tk, Nat.le_refl, and_self, if_true, Option.map_some, List.cons_append, List.nil_append]
theorem lendSsC {s : Ss} (h1 : H m1 = some (.tree v1 w1 3 86 (en cR s.recs) none)) (e1 : n1 = s.recs.length) {x : T} (hx : closedA x = true) :
    lendTs H [tSs s, x] [.pt (.agg [.v (.s (.int .i64 s.code)), .v (.s (.int .i64 s.next)), .tr m1 v1 n1]), x] = some ([tSs s, x], sL m1 v1 s, [m1]) := by
  have hc := (closed_A [] H x hx).1
  simp only [lendTs, lendSs h1 e1, hc, List.append_nil]
theorem lendMk {s : Ss} {q : Nat} (h1 : H m1 = some (.tree v1 w1 3 86 (en cR (mkRcs q s.recs)) none)) (e1 : n1 = s.recs.length) {x : T} (hx : closedA x = true) :
    lendTs H [tSs (mkSs q s), x] [.pt (.agg [.v (.s (.int .i64 s.code)), .v (.s (.int .i64 s.next)), .tr m1 v1 n1]), x] = some ([tSs (mkSs q s), x], sL m1 v1 (mkSs q s), [m1]) :=
  lendSsC (s := mkSs q s) h1 (by rw [e1]; exact (mkRcs_len _ _).symm) hx
end
def ok3 := okF.gu (P := Tryz.prog) tab Tryz.func3 Tryz.ntmps3 (by conv => lhs; cbv) (by kernel_rfl)
set_option maxRecDepth 20000 in
set_option maxHeartbeats 4000000 in
theorem lawST_ok (d : Dk) (ha : argDk d) : ACallsF Tryz.prog 3 [tDk d] [] (.b true) := by
  obtain ⟨q, hq, hC1⟩ := szDk_ok d 1048576 (by omega) ha.f ha.n ha.m
  rcases hq with rfl | ⟨q0, q1, q2⟩
  · refine ACallsF.intro ok3 follows fun X c0 => ?_
    simp only [go_sem]
    refine callC hC1 rfl rfl rfl rfl ?_
    simp only [go_sem, Int.reduceLT]
  have hd := fine_of q2
  have nq : ¬ q < 0 := by omega
  have hCS := storeS_ok d hd
  have hCI := fun m => storeI_ok d hd m
  obtain ⟨z1, z2⟩ := sto_small d
  have hms := mRcs_of _ z2
  have hRB : ∀ x ∈ (sto d).recs, RB x := fun x hx => by
    obtain ⟨_, _, _, h1, h2⟩ := recB_inv (rcOk_B (z2 x hx))
    exact ⟨by omega, fun e he => ((evOk_B (h2 e he)).body).le (by omega)⟩
  have hE1 := eqStore_ok (sto d) (by omega) hRB
  generalize sto d = s at *
  have hto := toDk_ok d hd.s
  have hE2 := eqDk_ok d hd.s
  have hds := hd.s
  have s1 := hds.f
  have s2 := hds.n
  have s3 := hds.m
  have hkx : mkN 1 d ≤ 10000000 := by unfold mkN; omega
  have nkx : ¬ ((mkN 1 d : Nat) : Int) < 0 := by omega
  have hM := markSt_ok s 1 (by omega) (by omega) 1201
  have hH := heldSt_ok s 1 (by omega) (by omega)
  have nkg : ¬ ((1 + mRcs s.recs : Nat) : Int) < 0 := by omega
  have nm : (((1 + mRcs s.recs : Nat) : Int) != ((1 + mRcs s.recs : Nat) : Int)) = false := by simp
  refine ACallsF.intro ok3 follows fun X c0 => ?_
  simp only [go_sem]
  refine callC hC1 rfl rfl rfl rfl ?_
  simp only [go_sem, nq]
  refine callDk (ws := []) (ns := []) (hto 1001 1002 1003) rfl rfl rfl (by decide) ⟨rfl, ?_⟩
  simp only [go_sem]
  refine callL (ws := dkL 1001 _ 1002 _ 1003 _ d) (ns := [1001, 1002, 1003]) hCS rfl (lend0 rfl rfl rfl rfl rfl rfl) rfl (by simp [closedT, closedP, closedC]) ⟨?_, ?_⟩
  · simp only [go_sem]
  simp only [go_sem, scalarT, scalarP, scalarC, List.all_cons, Bool.false_and, Bool.and_false]
  refine callDk (ws := []) (ns := []) (hto 1101 1102 1103) rfl rfl rfl (by decide) ⟨rfl, ?_⟩
  simp only [go_sem]
  refine callSt (m := 1201) (ws := dkL 1101 _ 1102 _ 1103 _ d) (ns := [1101, 1102, 1103]) (hCI 1201) rfl (lend0 rfl rfl rfl rfl rfl rfl) rfl ⟨?_, ?_⟩
  · simp only [go_sem]
  simp only [go_sem]
  refine callL (ws := sL 1201 _ s) (ns := [1201]) hE1 rfl (lendSsC rfl rfl (by simp [closedA, closedP, closedC])) (by simp [closedA, closedP, closedC]) rfl ⟨?_, ?_⟩
  · simp only [go_sem, scalarT, scalarP, scalarC]
  simp only [go_sem, scalarT, scalarP, scalarC]
  refine callDk (ws := []) (ns := []) (hto 1301 1302 1303) rfl rfl rfl (by decide) ⟨?_, ?_⟩
  · simp only [go_sem]
  simp only [go_sem]
  refine callL (ws := dkL 1101 _ 1102 _ 1103 _ d ++ dkL 1301 _ 1302 _ 1303 _ d) (ns := [1101, 1102, 1103, 1301, 1302, 1303]) hE2 rfl (lend2 rfl rfl rfl rfl rfl rfl) rfl rfl ⟨?_, ?_⟩
  · simp only [go_sem, scalarT, scalarP, scalarC]
  simp only [go_sem, scalarT, scalarP, scalarC]
  refine callMk (markDk_ok d 1 (by omega) (by omega) 1101 1102 1103 _ _ _) rfl rfl rfl rfl (by decide) rfl rfl rfl ⟨rfl, ?_⟩
  simp only [go_sem, nkx]
  refine callL (ws := sL 1201 _ s) (ns := [1201]) hE1 rfl (lendSsC rfl rfl (by simp [closedA, closedP, closedC])) (by simp [closedA, closedP, closedC]) rfl ⟨?_, ?_⟩
  · simp only [go_sem, scalarT, scalarP, scalarC]
  simp only [go_sem, scalarT, scalarP, scalarC]
  refine callMSt (m1 := 1201) (hM _) rfl rfl rfl rfl rfl ⟨rfl, ?_⟩
  simp only [go_sem]
  refine callL (ws := sL 1201 _ (mkSs 1 s)) (ns := [1201]) hH rfl (lendMk rfl rfl rfl) (by simp [closedA, closedP, closedC]) rfl ⟨?_, ?_⟩
  · simp only [go_sem, scalarT, scalarP, scalarC]
  simp only [go_sem, scalarT, scalarP, scalarC, nkg, nm]
  refine callDk (ws := []) (ns := []) (hto 1401 1402 1403) rfl rfl rfl (by decide) ⟨?_, ?_⟩
  · simp only [go_sem]
  simp only [go_sem]
  refine callSt (m := 1501) (ws := dkL 1401 _ 1402 _ 1403 _ d) (ns := [1401, 1402, 1403]) (hCI 1501) rfl (lend0 rfl rfl rfl rfl rfl rfl) rfl ⟨?_, ?_⟩
  · simp only [go_sem]
  simp only [go_sem]
  refine callL (ws := sL 1501 _ s) (ns := [1501]) hE1 rfl (lendSsC rfl rfl (by simp [closedA, closedP, closedC])) (by simp [closedA, closedP, closedC]) rfl ⟨?_, ?_⟩
  · simp only [go_sem, scalarT, scalarP, scalarC]
  simp only [go_sem, scalarT, scalarP, scalarC]
  refine callL (ws := sL 1201 _ (mkSs 1 s)) (ns := [1201]) hH rfl (lendMk rfl rfl rfl) (by simp [closedA, closedP, closedC]) rfl ⟨?_, ?_⟩
  · simp only [go_sem, scalarT, scalarP, scalarC]
  simp only [go_sem, scalarT, scalarP, scalarC, nkg, nm]
end Go.V

/- It is proved that the law FnKindWiden returns true for every input and leaves its input as it was; no condition. -/
import Derived.Test.YtejcaodogbmpdaaWK3
set_option linter.unusedSimpArgs false
namespace Go.V
open Go.Proofs
def sel (s : Int) (ks : List Kd) (i : Nat) : Option Kd := if s = 5 then ks[i]? else ks[0]?
/-- A tree is of a schema. -/
inductive Has : Kd → Tr → Prop
  | mk (s n : Int) (x : ByteArray) (ns : List ByteArray) (ks : List Kd) (ns' : List ByteArray) (ts : List Tr) (h1 : s = 5 → ns = ns') (h2 : ∀ (i : Nat) t k, ts[i]? = some t → sel s ks i = some k → Has k t) : Has (.mk s ns ks) (.mk s n x ns' ts)
theorem Has.inv {s s' n : Int} {x : ByteArray} {ns : List ByteArray} {ks : List Kd} {ns' : List ByteArray} {ts : List Tr} (h : Has (.mk s ns ks) (.mk s' n x ns' ts)) : s = s' ∧ (s = 5 → ns = ns') ∧ ∀ (i : Nat) t k, ts[i]? = some t → sel s ks i = some k → Has k t := by
  cases h with
  | mk _ _ _ _ _ _ _ h1 h2 => exact ⟨rfl, h1, h2⟩
noncomputable def has (k : Kd) (t : Tr) : Bool := @decide (Has k t) (Classical.propDecidable _)
theorem has_true {k : Kd} {t : Tr} : has k t = true ↔ Has k t := by simp [has]
theorem has_false {k : Kd} {t : Tr} : has k t = false ↔ ¬ Has k t := by simp [has]
structure TSh (s n : Int) (x : ByteArray) (ns : List ByteArray) (m : Nat) : Prop where
  lo : 1 ≤ s
  hi : s ≤ 6
  form : s = 5 → ns.length = m ∧ rise ns = true
  other : s ≠ 5 → ns.length = 0
  leaf : s < 4 → m = 0
  list : s = 4 → m ≤ 20
  opt : s = 6 → m ≤ 1
  inner : 4 ≤ s → n = 0 ∧ x = ⟨#[]⟩
theorem tshape_sh {s n : Int} {x : ByteArray} {ns : List ByteArray} {m : Nat} (h : tshape s n x ns m = true) : TSh s n x ns m := by
  unfold tshape at h
  split at h
  · rename_i e; subst e
    simp only [Bool.and_eq_true, beq_iff_eq] at h
    exact ⟨by omega, by omega, fun h => by omega, fun _ => by omega, fun _ => by omega, fun h => by omega, fun h => by omega, fun h => by omega⟩
  split at h
  · rename_i e; subst e
    simp only [Bool.and_eq_true, beq_iff_eq] at h
    exact ⟨by omega, by omega, fun h => by omega, fun _ => by omega, fun _ => by omega, fun h => by omega, fun h => by omega, fun h => by omega⟩
  split at h
  · rename_i e; subst e
    simp only [Bool.and_eq_true, beq_iff_eq] at h
    exact ⟨by omega, by omega, fun h => by omega, fun _ => by omega, fun _ => by omega, fun h => by omega, fun h => by omega, fun h => by omega⟩
  split at h
  · rename_i e; subst e
    simp only [Bool.and_eq_true, beq_iff_eq, decide_eq_true_eq] at h
    exact ⟨by omega, by omega, fun h => by omega, fun _ => by omega, fun h => by omega, fun _ => by omega, fun h => by omega, fun _ => ⟨h.1, h.2.1⟩⟩
  split at h
  · rename_i e; subst e
    simp only [Bool.and_eq_true, beq_iff_eq, decide_eq_true_eq] at h
    exact ⟨by omega, by omega, fun _ => ⟨by omega, h.2.2.1⟩, fun h => absurd rfl h, fun h => by omega, fun h => by omega, fun h => by omega, fun _ => ⟨h.1, h.2.1⟩⟩
  split at h
  · rename_i e; subst e
    simp only [Bool.and_eq_true, beq_iff_eq, decide_eq_true_eq] at h
    exact ⟨by omega, by omega, fun h => by omega, fun _ => by omega, fun h => by omega, fun h => by omega, fun _ => by omega, fun _ => ⟨h.1, h.2.1⟩⟩
  · cases h
/-- Where a kid is, a schema for it is. -/
theorem sel_some {s n : Int} {x : ByteArray} {ns : List ByteArray} {ks : List Kd} {ns' : List ByteArray} {ts : List Tr} (hS : Shape s ns ks) (hT : TSh s n x ns' ts.length) (h1 : s = 5 → ns = ns') {i : Nat} (hi : i < ts.length) : ∃ k k0, sel s ks i = some k ∧ ks[0]? = some k0 ∧ k ∈ ks := by
  by_cases h5 : s = 5
  · have e1 := (hS.form h5).1
    have e2 := (hT.form h5).1
    rw [h1 h5] at e1
    have hk : ks[i]? = some (ks[i]'(by omega)) := List.getElem?_eq_getElem _
    exact ⟨_, _, by rw [sel, if_pos h5]; exact hk, List.getElem?_eq_getElem (by omega), List.mem_of_getElem? hk⟩
  · by_cases h4 : s < 4
    · have := hT.leaf h4; omega
    · have := hS.one (by have := hS.hi; omega)
      have hk : ks[0]? = some (ks[0]'(by omega)) := List.getElem?_eq_getElem _
      exact ⟨_, _, by rw [sel, if_neg h5]; exact hk, hk, List.mem_of_getElem? hk⟩
theorem dropK (k : Kd) : List.drop 3 (List.map C.v (encK k)) = [] := List.drop_of_length_le (by rw [List.length_map, encK_len]; exact Nat.le_refl _)
theorem dropT (k : Tr) : List.drop 5 (List.map C.v (encT k)) = [] := List.drop_of_length_le (by rw [List.length_map, encT_len]; exact Nat.le_refl _)
/- (loop.example/teagle/impl.Kind).has -/
def r64_0 : List AOper := [ao 0 2 (.box 26 (.t 0)),
  ao 1 3 (.box 29 (.t 1)),
  ao 2 4 (.mv (.k (.b false)))]
def r64_1 : List AOper := [ao 0 8 (.fa 0 (.t 2)),
  ao 1 9 (.ld 1 false (.t 8)),
  ao 2 10 (.fa 0 (.t 3)),
  ao 3 11 (.ld 1 false (.t 10)),
  ao 4 12 (.bin .neq (.t 9) (.t 11)),
  ao 5 13 (.mv (.t 12)),
  ag 6 14 13 false [] (.fa 0 (.t 2)),
  ag 7 15 13 false [] (.ld 1 false (.t 14)),
  ag 8 16 13 false [] (.bin .eql (.t 15) (.k (.i 5))),
  ag 9 17 13 false [] (.mv (.t 16)),
  ag 10 18 17 true [] (.fa 1 (.t 2)),
  ag 11 19 17 true [] (.ld 1 false (.t 18)),
  ag 12 20 17 true [] (.fa 3 (.t 3)),
  ag 13 21 17 true [] (.ld 1 false (.t 20)),
  ag 14 22 17 true [] (.call (.k (.c (.fn 86 []))) [(.t 19), (.t 21)]),
  ag 15 23 17 true [] (.un .not (.t 22)),
  ag 16 24 13 false [] (.pick (.t 17) (.t 23) (.k (.b false))),
  ao 17 25 (.pick (.t 13) (.k (.b true)) (.t 24))]
def r64_2 : List AOper := [ao 0 4 (.mv (.k (.b false)))]
def c64_3 : ACode := .seq (.reg r64_2) .ret
def c64_4 : ACode := .cond (.t 25) c64_3 .skip
def c64_5 : ACode := .seq (.reg r64_1) c64_4
def r64_6 : List AOper := [ao 0 26 (.fa 4 (.t 3)),
  ao 1 27 (.ld 1 false (.t 26)),
  ao 2 28 (.len (.t 27)),
  ao 3 29 (.mv (.k (.i 0)))]
def r64_7 : List AOper := [ao 0 30 (.bin .lss (.t 29) (.t 28))]
def c64_8 : ACode := .cond (.t 30) .skip (.exit 0)
def r64_9 : List AOper := [ao 0 31 (.mv (.t 29)),
  ao 1 32 (.ia 5 (.t 27) (.t 29)),
  ao 2 33 (.ld 5 true (.t 32)),
  ao 3 6 (.alloc 29 [(.v (.s (.int .i64 0))), (.v (.s (.int .i64 0))), (.v (.s (.string ⟨#[]⟩))), .nil0, .nil0]),
  ao 4 5 (.mv (.t 31)),
  an 5 (.st 5 (.t 6) (.t 33))]
def r64_10 : List AOper := [ao 0 34 (.fa 2 (.t 2)),
  ao 1 35 (.ld 1 false (.t 34)),
  ao 2 36 (.ia 3 (.t 35) (.k (.i 0))),
  ao 3 37 (.ld 3 true (.t 36)),
  ao 4 7 (.alloc 26 [(.v (.s (.int .i64 0))), .nil0, .nil0]),
  an 5 (.st 3 (.t 7) (.t 37))]
def r64_11 : List AOper := [ao 0 38 (.fa 0 (.t 2)),
  ao 1 39 (.ld 1 false (.t 38)),
  ao 2 40 (.bin .eql (.t 39) (.k (.i 5)))]
def r64_12 : List AOper := [ao 0 41 (.fa 2 (.t 2)),
  ao 1 42 (.ld 1 false (.t 41)),
  ao 2 43 (.mv (.t 5)),
  ao 3 44 (.ia 3 (.t 42) (.t 43)),
  ao 4 45 (.ld 3 true (.t 44)),
  an 5 (.st 3 (.t 7) (.t 45))]
def c64_13 : ACode := .cond (.t 40) (.reg r64_12) .skip
def c64_14 : ACode := .seq (.reg r64_11) c64_13
def r64_15 : List AOper := [ao 0 46 (.ld 3 true (.t 7)),
  ao 1 47 (.ld 5 true (.t 6)),
  ao 2 48 (.call (.k (.c (.fn 64 []))) [(.t 46), (.t 47)]),
  ao 3 49 (.un .not (.t 48))]
def r64_16 : List AOper := [ao 0 4 (.mv (.k (.b false)))]
def c64_17 : ACode := .seq (.reg r64_16) .ret
def c64_18 : ACode := .cond (.t 49) c64_17 .skip
def c64_19 : ACode := .seq (.reg r64_9) (.seq (.reg r64_10) (.seq c64_14 (.seq (.reg r64_15) c64_18)))
def c64_20 : ACode := .block 1 c64_19
def r64_21 : List AOper := [ao 0 50 (.bin .add (.t 29) (.k (.i 1))),
  ao 1 29 (.mv (.t 50))]
def c64_22 : ACode := .seq (.reg r64_7) (.seq c64_8 (.seq c64_20 (.reg r64_21)))
def c64_23 : ACode := .loop c64_22
def c64_24 : ACode := .block 0 c64_23
def c64_25 : ACode := .seq (.reg r64_6) c64_24
def r64_26 : List AOper := [ao 0 4 (.mv (.k (.b true)))]
def c64 : ACode := .seq (.reg r64_0) (.seq c64_5 (.seq c64_25 (.seq (.reg r64_26) .ret)))
def s64 : List ARes := [.tmp 4]
theorem ok64 : okF Try.prog 64 51 c64 s64 := ⟨Try.f64, Try.func64, Try.ntmps64, by kernel_rfl, by kernel_rfl, by kernel_rfl⟩
def inv64 (s n : Int) (x : ByteArray) (ns : List ByteArray) (ks : List Kd) (ns' : List ByteArray) (ts : List Tr) (i : Nat) (σ : St) : Prop :=
  (∀ j, j < i → ∀ t k, ts[j]? = some t → sel s ks j = some k → Has k t) ∧ (∃ u, σ.t 2 = .c (.ptr 2 u 0) ∧ σ.H 2 = some (.var u 26 [.v (.s (.int .i64 s)), .v (.sl (encS ns)), .v (.sl (encKs ks))])) ∧
  (∃ u, σ.t 3 = .c (.ptr 3 u 0) ∧ σ.H 3 = some (.var u 29 [.v (.s (.int .i64 s)), .v (.s (.int .i64 n)), .v (.s (.string x)), .v (.sl (encS ns')), .v (.sl (encTs ts))])) ∧ σ.t 27 = .c (.v (.sl (encTs ts))) ∧ σ.t 28 = .i ts.length ∧ σ.t 29 = .i i
theorem ULg_1 : (type_of% (uA c64.eq_1)) ∧ (type_of% (uR r64_0.eq_1)) ∧ (type_of% (uA c64_5.eq_1)) ∧ (type_of% (uR r64_1.eq_1)) ∧ (type_of% (uA c64_4.eq_1)) ∧ (type_of% (uA c64_3.eq_1)) ∧ (type_of% (uR r64_2.eq_1)) ∧ (type_of% (uA c64_25.eq_1)) ∧ (type_of% (uR r64_6.eq_1)) ∧ (type_of% (uA c64_24.eq_1)) ∧ (type_of% (uA c64_23.eq_1)) ∧ (type_of% (uR r64_26.eq_1)) ∧ (type_of% s64.eq_1) :=
  ⟨uA c64.eq_1, uR r64_0.eq_1, uA c64_5.eq_1, uR r64_1.eq_1, uA c64_4.eq_1, uA c64_3.eq_1, uR r64_2.eq_1, uA c64_25.eq_1, uR r64_6.eq_1, uA c64_24.eq_1, uA c64_23.eq_1, uR r64_26.eq_1, s64.eq_1⟩
theorem ULg_2 : (type_of% (uA c64.eq_1)) ∧ (type_of% (uR r64_0.eq_1)) ∧ (type_of% (uA c64_5.eq_1)) ∧ (type_of% (uR r64_1.eq_1)) ∧ (type_of% (uA c64_4.eq_1)) ∧ (type_of% (uA c64_3.eq_1)) ∧ (type_of% (uR r64_2.eq_1)) ∧ (type_of% (uR r64_26.eq_1)) ∧ (type_of% s64.eq_1) :=
  ⟨uA c64.eq_1, uR r64_0.eq_1, uA c64_5.eq_1, uR r64_1.eq_1, uA c64_4.eq_1, uA c64_3.eq_1, uR r64_2.eq_1, uR r64_26.eq_1, s64.eq_1⟩
theorem ULg_4 : (type_of% (uA c64_22.eq_1)) ∧ (type_of% (uR r64_7.eq_1)) ∧ (type_of% (uA c64_8.eq_1)) ∧ (type_of% (uA c64_20.eq_1)) ∧ (type_of% (uA c64_19.eq_1)) ∧ (type_of% (uR r64_9.eq_1)) ∧ (type_of% (uR r64_10.eq_1)) ∧ (type_of% (uA c64_14.eq_1)) ∧ (type_of% (uR r64_11.eq_1)) ∧ (type_of% (uA c64_13.eq_1)) ∧ (type_of% (uR r64_12.eq_1)) ∧ (type_of% (uR r64_15.eq_1)) ∧ (type_of% (uA c64_18.eq_1)) ∧ (type_of% (uA c64_17.eq_1)) ∧ (type_of% (uR r64_16.eq_1)) ∧ (type_of% (uR r64_21.eq_1)) ∧ (type_of% (uA c64.eq_1)) ∧ (type_of% (uR r64_0.eq_1)) ∧ (type_of% (uA c64_5.eq_1)) ∧ (type_of% (uR r64_1.eq_1)) ∧ (type_of% (uA c64_4.eq_1)) ∧ (type_of% (uA c64_3.eq_1)) ∧ (type_of% (uR r64_2.eq_1)) ∧ (type_of% (uA c64_25.eq_1)) ∧ (type_of% (uR r64_6.eq_1)) ∧ (type_of% (uA c64_24.eq_1)) ∧ (type_of% (uA c64_23.eq_1)) ∧ (type_of% (uR r64_26.eq_1)) ∧ (type_of% s64.eq_1) :=
  ⟨uA c64_22.eq_1, uR r64_7.eq_1, uA c64_8.eq_1, uA c64_20.eq_1, uA c64_19.eq_1, uR r64_9.eq_1, uR r64_10.eq_1, uA c64_14.eq_1, uR r64_11.eq_1, uA c64_13.eq_1, uR r64_12.eq_1, uR r64_15.eq_1, uA c64_18.eq_1, uA c64_17.eq_1, uR r64_16.eq_1, uR r64_21.eq_1, uA c64.eq_1, uR r64_0.eq_1, uA c64_5.eq_1, uR r64_1.eq_1, uA c64_4.eq_1, uA c64_3.eq_1, uR r64_2.eq_1, uA c64_25.eq_1, uR r64_6.eq_1, uA c64_24.eq_1, uA c64_23.eq_1, uR r64_26.eq_1, s64.eq_1⟩
theorem has_ok : ∀ (k : Kd) (t : Tr) (d d' : Nat), KOk d k → TOk d' t → KB 2000 k → TB 1000000 t → ACallsF Try.prog 64 [tK k, tT t] [] (.b (has k t)) := by
  intro k
  induction k using Kd.ind with
  | _ s ns ks ih =>
    intro t d d' hOk hOt hBk hBt
    obtain ⟨s', n, x, ns', ts⟩ := t
    obtain ⟨_, hS, hK⟩ := hOk.inv
    obtain ⟨_, hT, hTk⟩ := hOt.inv
    have hT := tshape_sh hT
    obtain ⟨k1, k2, k3, k4⟩ := hBk.inv
    obtain ⟨t0, t1, t2, t3, t4⟩ := hBt.inv
    refine ACallsF.intro ok64 follows fun X c0 => ?_
    by_cases hss : s = s'
    · subst hss
      have hne : (s != s) = false := by simp
      have main : (s = 5 → ns = ns') → ∀ (X : Ctx) (t : Nat → T) (H : HMap) (c : Nat), (∃ u, t 2 = .c (.ptr 2 u 0) ∧ H 2 = some (.var u 26 [.v (.s (.int .i64 s)), .v (.sl (encS ns)), .v (.sl (encKs ks))])) →
          (∃ u, t 3 = .c (.ptr 3 u 0) ∧ H 3 = some (.var u 29 [.v (.s (.int .i64 s)), .v (.s (.int .i64 n)), .v (.s (.string x)), .v (.sl (encS ns')), .v (.sl (encTs ts))])) →
          wpa Try.prog X c64_25 (thenW Try.prog X (.seq (.reg r64_26) .ret) (endA (FinC s64 (.b (has (.mk s ns ks) (.mk s n x ns' ts))) []))) ⟨t, H, c⟩ := by
        rintro hnames X t H c ⟨u2, e2, eH2⟩ ⟨u3, e3, eH3⟩
        simp only [T.c, T.i] at e2 eH2 e3 eH3
        simp only [RUN, core, T.c, T.s, T.b, T.i, sBin, sInt, sUn, isShift, asInt, P1.cells, loadT, ptrC, storeT, putC, fillP, Nat.reduceAdd, reduceIte, Nat.reduceEqDiff, Nat.reduceLT, Nat.reduceLeDiff, reduceCtorEq, eq_self, FIT, lendCs_map, verC_map, FinC, resPs, resP, lendPl, lendCs, lendC, sealC, partsT, finHs, tupT, verT, verP, verC, verB, verAt, Blk.ver, handsAre, forall_const, CHT, disj, Nat.reduceBEq, beq_self_eq_true, APT, srcOf, sealPs, sealCs, sealC, List.mem_singleton, forall_eq, ALT, ULg_1, e2, eH2, e3, eH3, encTs_len]
        refine AW.upto ts.length (inv64 s n x ns ks ns' ts) ⟨fun j hj => absurd hj (Nat.not_lt_zero j), ⟨u2, e2, eH2⟩, ⟨u3, e3, eH3⟩, rfl, rfl, rfl⟩ fun i t H c hi h => ?_
        clear e2 eH2 e3 eH3
        obtain ⟨g0, ⟨u2, e2, eH2⟩, ⟨u3, e3, eH3⟩, e27, e28, e29⟩ := h
        simp only [T.c, T.i] at e2 eH2 e3 eH3 e27 e28 e29
        by_cases hlt : i < ts.length
        · have g1 : (i : Int) < ts.length := by omega
          have gz : (0 : Int) ≤ i := by omega
          have gw : IntKind.i64.wrap ((i : Int) + 1) = ((i + 1 : Nat) : Int) := wrap64 (x := (i : Int) + 1) ⟨by omega, by omega⟩
          obtain ⟨u, hu⟩ : ∃ u, ts[i]? = some u := ⟨_, List.getElem?_eq_getElem hlt⟩
          have hmu := List.mem_of_getElem? hu
          have eu := encTs_at hu
          obtain ⟨k, k0, hsel, hk0, hmk⟩ := sel_some hS hT hnames hlt
          have ek0 := encKs_at hk0
          have hC := ih k hmk u _ _ (hK k hmk) (hTk u hmu) (k4 k hmk) (t4 u hmu)
          have hno : ¬ Has k u → has (.mk s ns ks) (.mk s n x ns' ts) = false := fun h => has_false.2 fun h2 => h (h2.inv.2.2 i u k hu hsel)
          have hgo : Has k u → ∀ j, j < i + 1 → ∀ t k, ts[j]? = some t → sel s ks j = some k → Has k t := by
            intro h j hj t2 k2 h1 h2
            rcases Nat.lt_succ_iff_lt_or_eq.1 hj with hj | rfl
            · exact g0 j hj t2 k2 h1 h2
            · rw [hu] at h1; rw [hsel] at h2; cases h1; cases h2; exact h
          by_cases h5 : s = 5
          · have h5b : (s == 5) = true := beq_iff_eq.2 h5
            rw [sel, if_pos h5] at hsel
            have ek := encKs_at hsel
            simp only [RUN, core, T.c, T.s, T.b, T.i, sBin, sInt, sUn, isShift, asInt, P1.cells, loadT, ptrC, storeT, putC, fillP, Nat.reduceAdd, reduceIte, Nat.reduceEqDiff, Nat.reduceLT, Nat.reduceLeDiff, reduceCtorEq, eq_self, FIT, lendCs_map, verC_map, FinC, resPs, resP, lendPl, lendCs, lendC, sealC, partsT, finHs, tupT, verT, verP, verC, verB, verAt, Blk.ver, handsAre, forall_const, CHT, disj, Nat.reduceBEq, beq_self_eq_true, APT, srcOf, sealPs, sealCs, sealC, List.mem_singleton, forall_eq, ALT, ULg_4, e2, eH2, e3, eH3, e27, e28, e29, g1, gz, eu, ek0, ek, h5b, dropK, List.append_nil, Int.toNat_natCast, Int.toNat_zero, Int.le_refl, List.length_map, encK_len, takeK, encT_len, takeT, Nat.le_refl]
            refine callC hC rfl rfl (by simp [closedA, closedP, closedC]) rfl ?_
            cases hh : has k u with
            | false =>
              have hm := hno (has_false.1 hh)
              simp only [RUN, core, T.c, T.s, T.b, T.i, sBin, sInt, sUn, isShift, asInt, P1.cells, loadT, ptrC, storeT, putC, fillP, Nat.reduceAdd, reduceIte, Nat.reduceEqDiff, Nat.reduceLT, Nat.reduceLeDiff, reduceCtorEq, eq_self, FIT, lendCs_map, verC_map, FinC, resPs, resP, lendPl, lendCs, lendC, sealC, partsT, finHs, tupT, verT, verP, verC, verB, verAt, Blk.ver, handsAre, forall_const, CHT, disj, Nat.reduceBEq, beq_self_eq_true, APT, srcOf, sealPs, sealCs, sealC, List.mem_singleton, forall_eq, ALT, ULg_4, hm]
            | true =>
              simp only [RUN, core, T.c, T.s, T.b, T.i, sBin, sInt, sUn, isShift, asInt, P1.cells, loadT, ptrC, storeT, putC, fillP, Nat.reduceAdd, reduceIte, Nat.reduceEqDiff, Nat.reduceLT, Nat.reduceLeDiff, reduceCtorEq, eq_self, FIT, lendCs_map, verC_map, FinC, resPs, resP, lendPl, lendCs, lendC, sealC, partsT, finHs, tupT, verT, verP, verC, verB, verAt, Blk.ver, handsAre, forall_const, CHT, disj, Nat.reduceBEq, beq_self_eq_true, APT, srcOf, sealPs, sealCs, sealC, List.mem_singleton, forall_eq, ALT, ULg_4, e29, gw]
              exact ⟨hlt, hgo (has_true.1 hh), ⟨u2, e2, eH2⟩, ⟨u3, e3, eH3⟩, e27, e28, rfl⟩
          · have h5b : (s == 5) = false := beq_eq_false_iff_ne.2 h5
            rw [sel, if_neg h5, hk0] at hsel
            cases hsel
            simp only [RUN, core, T.c, T.s, T.b, T.i, sBin, sInt, sUn, isShift, asInt, P1.cells, loadT, ptrC, storeT, putC, fillP, Nat.reduceAdd, reduceIte, Nat.reduceEqDiff, Nat.reduceLT, Nat.reduceLeDiff, reduceCtorEq, eq_self, FIT, lendCs_map, verC_map, FinC, resPs, resP, lendPl, lendCs, lendC, sealC, partsT, finHs, tupT, verT, verP, verC, verB, verAt, Blk.ver, handsAre, forall_const, CHT, disj, Nat.reduceBEq, beq_self_eq_true, APT, srcOf, sealPs, sealCs, sealC, List.mem_singleton, forall_eq, ALT, ULg_4, e2, eH2, e3, eH3, e27, e28, e29, g1, gz, eu, ek0, h5b, Int.toNat_natCast, Int.toNat_zero, Int.le_refl, List.length_map, encK_len, takeK, encT_len, takeT, Nat.le_refl]
            refine callC hC rfl rfl (by simp [closedA, closedP, closedC]) rfl ?_
            cases hh : has k u with
            | false =>
              have hm := hno (has_false.1 hh)
              simp only [RUN, core, T.c, T.s, T.b, T.i, sBin, sInt, sUn, isShift, asInt, P1.cells, loadT, ptrC, storeT, putC, fillP, Nat.reduceAdd, reduceIte, Nat.reduceEqDiff, Nat.reduceLT, Nat.reduceLeDiff, reduceCtorEq, eq_self, FIT, lendCs_map, verC_map, FinC, resPs, resP, lendPl, lendCs, lendC, sealC, partsT, finHs, tupT, verT, verP, verC, verB, verAt, Blk.ver, handsAre, forall_const, CHT, disj, Nat.reduceBEq, beq_self_eq_true, APT, srcOf, sealPs, sealCs, sealC, List.mem_singleton, forall_eq, ALT, ULg_4, hm]
            | true =>
              simp only [RUN, core, T.c, T.s, T.b, T.i, sBin, sInt, sUn, isShift, asInt, P1.cells, loadT, ptrC, storeT, putC, fillP, Nat.reduceAdd, reduceIte, Nat.reduceEqDiff, Nat.reduceLT, Nat.reduceLeDiff, reduceCtorEq, eq_self, FIT, lendCs_map, verC_map, FinC, resPs, resP, lendPl, lendCs, lendC, sealC, partsT, finHs, tupT, verT, verP, verC, verB, verAt, Blk.ver, handsAre, forall_const, CHT, disj, Nat.reduceBEq, beq_self_eq_true, APT, srcOf, sealPs, sealCs, sealC, List.mem_singleton, forall_eq, ALT, ULg_4, e29, gw]
              exact ⟨hlt, hgo (has_true.1 hh), ⟨u2, e2, eH2⟩, ⟨u3, e3, eH3⟩, e27, e28, rfl⟩
        · have hin : i = ts.length := by omega
          subst hin
          have g1 : ¬ ((ts.length : Nat) : Int) < ts.length := by omega
          have hm : has (.mk s ns ks) (.mk s n x ns' ts) = true := has_true.2 (.mk _ _ _ _ _ _ _ hnames fun j t k h1 h2 => g0 j (List.getElem?_eq_some_iff.1 h1).1 t k h1 h2)
          simp only [RUN, core, T.c, T.s, T.b, T.i, sBin, sInt, sUn, isShift, asInt, P1.cells, loadT, ptrC, storeT, putC, fillP, Nat.reduceAdd, reduceIte, Nat.reduceEqDiff, Nat.reduceLT, Nat.reduceLeDiff, reduceCtorEq, eq_self, FIT, lendCs_map, verC_map, FinC, resPs, resP, lendPl, lendCs, lendC, sealC, partsT, finHs, tupT, verT, verP, verC, verB, verAt, Blk.ver, handsAre, forall_const, CHT, disj, Nat.reduceBEq, beq_self_eq_true, APT, srcOf, sealPs, sealCs, sealC, List.mem_singleton, forall_eq, ALT, ULg_4, ULg_1, e28, e29, g1, hm]
      by_cases h5 : s = 5
      · have h5b : (s == 5) = true := beq_iff_eq.2 h5
        simp only [RUN, core, T.c, T.s, T.b, T.i, sBin, sInt, sUn, isShift, asInt, P1.cells, loadT, ptrC, storeT, putC, fillP, Nat.reduceAdd, reduceIte, Nat.reduceEqDiff, Nat.reduceLT, Nat.reduceLeDiff, reduceCtorEq, eq_self, FIT, lendCs_map, verC_map, FinC, resPs, resP, lendPl, lendCs, lendC, sealC, partsT, finHs, tupT, verT, verP, verC, verB, verAt, Blk.ver, handsAre, forall_const, CHT, disj, Nat.reduceBEq, beq_self_eq_true, APT, srcOf, sealPs, sealCs, sealC, List.mem_singleton, forall_eq, ALT, ULg_2, encK_mk, encT_mk, hne, h5b]
        refine callC (equal_ok ns ns' (by omega)) rfl rfl rfl rfl ?_
        by_cases hn : ns = ns'
        · simp only [RUN, core, T.c, T.s, T.b, T.i, sBin, sInt, sUn, isShift, asInt, P1.cells, loadT, ptrC, storeT, putC, fillP, Nat.reduceAdd, reduceIte, Nat.reduceEqDiff, Nat.reduceLT, Nat.reduceLeDiff, reduceCtorEq, eq_self, FIT, lendCs_map, verC_map, FinC, resPs, resP, lendPl, lendCs, lendC, sealC, partsT, finHs, tupT, verT, verP, verC, verB, verAt, Blk.ver, handsAre, forall_const, CHT, disj, Nat.reduceBEq, beq_self_eq_true, APT, srcOf, sealPs, sealCs, sealC, List.mem_singleton, forall_eq, ALT, ULg_2, hn]
          subst hn
          exact main (fun _ => rfl) X _ _ _ ⟨_, rfl, rfl⟩ ⟨_, rfl, rfl⟩
        · have hm : has (.mk s ns ks) (.mk s n x ns' ts) = false := has_false.2 fun h => hn (h.inv.2.1 h5)
          simp only [RUN, core, T.c, T.s, T.b, T.i, sBin, sInt, sUn, isShift, asInt, P1.cells, loadT, ptrC, storeT, putC, fillP, Nat.reduceAdd, reduceIte, Nat.reduceEqDiff, Nat.reduceLT, Nat.reduceLeDiff, reduceCtorEq, eq_self, FIT, lendCs_map, verC_map, FinC, resPs, resP, lendPl, lendCs, lendC, sealC, partsT, finHs, tupT, verT, verP, verC, verB, verAt, Blk.ver, handsAre, forall_const, CHT, disj, Nat.reduceBEq, beq_self_eq_true, APT, srcOf, sealPs, sealCs, sealC, List.mem_singleton, forall_eq, ALT, ULg_2, hn, hm]
      · have h5b : (s == 5) = false := beq_eq_false_iff_ne.2 h5
        simp only [RUN, core, T.c, T.s, T.b, T.i, sBin, sInt, sUn, isShift, asInt, P1.cells, loadT, ptrC, storeT, putC, fillP, Nat.reduceAdd, reduceIte, Nat.reduceEqDiff, Nat.reduceLT, Nat.reduceLeDiff, reduceCtorEq, eq_self, FIT, lendCs_map, verC_map, FinC, resPs, resP, lendPl, lendCs, lendC, sealC, partsT, finHs, tupT, verT, verP, verC, verB, verAt, Blk.ver, handsAre, forall_const, CHT, disj, Nat.reduceBEq, beq_self_eq_true, APT, srcOf, sealPs, sealCs, sealC, List.mem_singleton, forall_eq, ALT, ULg_2, encK_mk, encT_mk, hne, h5b]
        exact main (fun h => absurd h h5) X _ _ _ ⟨_, rfl, rfl⟩ ⟨_, rfl, rfl⟩
    · have hne : (s != s') = true := by simp [hss]
      have hm : has (.mk s ns ks) (.mk s' n x ns' ts) = false := has_false.2 fun h => hss h.inv.1
      simp only [RUN, core, T.c, T.s, T.b, T.i, sBin, sInt, sUn, isShift, asInt, P1.cells, loadT, ptrC, storeT, putC, fillP, Nat.reduceAdd, reduceIte, Nat.reduceEqDiff, Nat.reduceLT, Nat.reduceLeDiff, reduceCtorEq, eq_self, FIT, lendCs_map, verC_map, FinC, resPs, resP, lendPl, lendCs, lendC, sealC, partsT, finHs, tupT, verT, verP, verC, verB, verAt, Blk.ver, handsAre, forall_const, CHT, disj, Nat.reduceBEq, beq_self_eq_true, APT, srcOf, sealPs, sealCs, sealC, List.mem_singleton, forall_eq, ALT, ULg_1, encK_mk, encT_mk, hne, hm]
/- loop.example/teagle/impl.KindHas -/
def r26_0 : List AOper := [ao 0 2 (.box 26 (.t 0)),
  ao 1 3 (.box 29 (.t 1)),
  ao 2 4 (.mv (.k (.b false)))]
def r26_1 : List AOper := [ao 0 5 (.ld 3 true (.t 2)),
  ao 1 6 (.call (.k (.c (.fn 42 []))) [(.t 5)]),
  ao 2 7 (.mv (.t 6)),
  ag 3 8 7 true [] (.ld 5 true (.t 3)),
  ag 4 9 7 true [] (.call (.k (.c (.fn 45 []))) [(.t 8)]),
  ao 5 10 (.pick (.t 7) (.t 9) (.k (.b false))),
  ao 6 11 (.mv (.t 10)),
  ag 7 12 11 true [] (.ld 3 true (.t 2)),
  ag 8 13 11 true [] (.ld 5 true (.t 3)),
  ag 9 14 11 true [] (.call (.k (.c (.fn 64 []))) [(.t 12), (.t 13)]),
  ao 10 15 (.pick (.t 11) (.t 14) (.k (.b false))),
  ao 11 4 (.mv (.t 15))]
def c26 : ACode := .seq (.reg r26_0) (.seq (.reg r26_1) .ret)
def s26 : List ARes := [.tmp 4]
theorem ok26 : okF Try.prog 26 16 c26 s26 := ⟨Try.f26, Try.func26, Try.ntmps26, by kernel_rfl, by kernel_rfl, by kernel_rfl⟩
theorem ULg_3 : (type_of% (uA c26.eq_1)) ∧ (type_of% (uR r26_0.eq_1)) ∧ (type_of% (uR r26_1.eq_1)) ∧ (type_of% s26.eq_1) :=
  ⟨uA c26.eq_1, uR r26_0.eq_1, uR r26_1.eq_1, s26.eq_1⟩
theorem kindHas_ok (k : Kd) (t : Tr) (hk : KB 2000 k) (ht : TB 1000000 t) : ACallsF Try.prog 26 [tK k, tT t] [] (.b (okK k && (okT t && has k t))) := by
  refine ACallsF.intro ok26 follows fun X c0 => ?_
  simp only [RUN, core, T.c, T.s, T.b, T.i, sBin, sInt, sUn, isShift, asInt, P1.cells, loadT, ptrC, storeT, putC, fillP, Nat.reduceAdd, reduceIte, Nat.reduceEqDiff, Nat.reduceLT, Nat.reduceLeDiff, reduceCtorEq, eq_self, FIT, lendCs_map, verC_map, FinC, resPs, resP, lendPl, lendCs, lendC, sealC, partsT, finHs, tupT, verT, verP, verC, verB, verAt, Blk.ver, handsAre, forall_const, CHT, disj, Nat.reduceBEq, beq_self_eq_true, APT, srcOf, sealPs, sealCs, sealC, List.mem_singleton, forall_eq, ALT, ULg_3, List.length_map, encK_len, takeK, encT_len, takeT, Nat.le_refl]
  refine callC (kindOkI_ok k (hk.le (by omega))) rfl rfl (by simp [closedA, closedP, closedC]) rfl ?_
  cases h1 : okK k with
  | false => simp only [RUN, core, T.c, T.s, T.b, T.i, sBin, sInt, sUn, isShift, asInt, P1.cells, loadT, ptrC, storeT, putC, fillP, Nat.reduceAdd, reduceIte, Nat.reduceEqDiff, Nat.reduceLT, Nat.reduceLeDiff, reduceCtorEq, eq_self, FIT, lendCs_map, verC_map, FinC, resPs, resP, lendPl, lendCs, lendC, sealC, partsT, finHs, tupT, verT, verP, verC, verB, verAt, Blk.ver, handsAre, forall_const, CHT, disj, Nat.reduceBEq, beq_self_eq_true, APT, srcOf, sealPs, sealCs, sealC, List.mem_singleton, forall_eq, ALT, ULg_3]
  | true =>
    simp only [RUN, core, T.c, T.s, T.b, T.i, sBin, sInt, sUn, isShift, asInt, P1.cells, loadT, ptrC, storeT, putC, fillP, Nat.reduceAdd, reduceIte, Nat.reduceEqDiff, Nat.reduceLT, Nat.reduceLeDiff, reduceCtorEq, eq_self, FIT, lendCs_map, verC_map, FinC, resPs, resP, lendPl, lendCs, lendC, sealC, partsT, finHs, tupT, verT, verP, verC, verB, verAt, Blk.ver, handsAre, forall_const, CHT, disj, Nat.reduceBEq, beq_self_eq_true, APT, srcOf, sealPs, sealCs, sealC, List.mem_singleton, forall_eq, ALT, ULg_3, List.length_map, encK_len, takeK, encT_len, takeT, Nat.le_refl]
    refine callC (treeOk_ok t ht) rfl rfl (by simp [closedA, closedP, closedC]) rfl ?_
    cases h2 : okT t with
    | false => simp only [RUN, core, T.c, T.s, T.b, T.i, sBin, sInt, sUn, isShift, asInt, P1.cells, loadT, ptrC, storeT, putC, fillP, Nat.reduceAdd, reduceIte, Nat.reduceEqDiff, Nat.reduceLT, Nat.reduceLeDiff, reduceCtorEq, eq_self, FIT, lendCs_map, verC_map, FinC, resPs, resP, lendPl, lendCs, lendC, sealC, partsT, finHs, tupT, verT, verP, verC, verB, verAt, Blk.ver, handsAre, forall_const, CHT, disj, Nat.reduceBEq, beq_self_eq_true, APT, srcOf, sealPs, sealCs, sealC, List.mem_singleton, forall_eq, ALT, ULg_3]
    | true =>
      simp only [RUN, core, T.c, T.s, T.b, T.i, sBin, sInt, sUn, isShift, asInt, P1.cells, loadT, ptrC, storeT, putC, fillP, Nat.reduceAdd, reduceIte, Nat.reduceEqDiff, Nat.reduceLT, Nat.reduceLeDiff, reduceCtorEq, eq_self, FIT, lendCs_map, verC_map, FinC, resPs, resP, lendPl, lendCs, lendC, sealC, partsT, finHs, tupT, verT, verP, verC, verB, verAt, Blk.ver, handsAre, forall_const, CHT, disj, Nat.reduceBEq, beq_self_eq_true, APT, srcOf, sealPs, sealCs, sealC, List.mem_singleton, forall_eq, ALT, ULg_3, List.length_map, encK_len, takeK, encT_len, takeT, Nat.le_refl]
      refine callC (has_ok k t 1 1 (okK_true.1 h1).1 (okT_true.1 h2).1 hk ht) rfl rfl (by simp [closedA, closedP, closedC]) rfl ?_
      simp only [RUN, core, T.c, T.s, T.b, T.i, sBin, sInt, sUn, isShift, asInt, P1.cells, loadT, ptrC, storeT, putC, fillP, Nat.reduceAdd, reduceIte, Nat.reduceEqDiff, Nat.reduceLT, Nat.reduceLeDiff, reduceCtorEq, eq_self, FIT, lendCs_map, verC_map, FinC, resPs, resP, lendPl, lendCs, lendC, sealC, partsT, finHs, tupT, verT, verP, verC, verB, verAt, Blk.ver, handsAre, forall_const, CHT, disj, Nat.reduceBEq, beq_self_eq_true, APT, srcOf, sealPs, sealCs, sealC, List.mem_singleton, forall_eq, ALT, ULg_3]
end Go.V
set_option linter.unusedSimpArgs false
namespace Go.V
open Go.Proofs
/-- What a call does for every empty slice it does for the empty list. -/
theorem nilArg {P : Program} {f : FuncId} {r : T} (h : ∀ ad c, ACallsF P f [.s (.slice ad 0 c)] [] r) : ACallsF P f [.c (.v (.sl []))] [] r := by
  refine ⟨(h none 0).1, fun w imm L c vs hH hT => ?_⟩
  obtain ⟨x, rfl⟩ : ∃ x, vs = [x] := by
    have := hT.1
    cases vs with
    | nil => simp at this
    | cons x l => cases l with
      | nil => exact ⟨x, rfl⟩
      | cons _ _ => simp at this
  have hx : VRep w imm x (.sl []) := hT.2 0 x _ rfl rfl
  cases hx with
  | nil a cap => exact (h a cap).2 w imm L c _ hH ⟨rfl, fun k x y hx hy => by
      cases k with
      | zero => simp at hx hy; subst hx hy; exact .s _ rfl
      | succ k => simp at hx⟩
  | sl _ _ _ _ _ _ _ hne => exact absurd rfl hne
/- slices.Clone[[]string,string] -/
def r80_0 : List AOper := [ao 0 2 (.mv (.k (.c .nil0)))]
def r80_1 : List AOper := [ao 0 3 (.mv (.t 0)),
  ao 1 4 (.isnil false (.t 3))]
def r80_2 : List AOper := [ao 0 2 (.mv (.k (.c .nil0)))]
def c80_3 : ACode := .seq (.reg r80_2) .ret
def c80_4 : ACode := .cond (.t 4) c80_3 .skip
def c80_5 : ACode := .seq (.reg r80_1) c80_4
def r80_6 : List AOper := [ao 0 5 (.bsl 1 9 []),
  ao 1 6 (.mv (.t 0)),
  ao 2 7 (.app 1 9 16 (.t 5) (.t 6)),
  ao 3 2 (.mv (.t 7))]
def c80 : ACode := .seq (.reg r80_0) (.seq c80_5 (.seq (.reg r80_6) .ret))
def s80 : List ARes := [.tmp 2]
theorem ok80 : okF Try.prog 80 8 c80 s80 := ⟨Try.f80, Try.func80, Try.ntmps80, by kernel_rfl, by kernel_rfl, by kernel_rfl⟩
theorem ULh_1 : (type_of% (uA c80.eq_1)) ∧ (type_of% (uR r80_0.eq_1)) ∧ (type_of% (uA c80_5.eq_1)) ∧ (type_of% (uR r80_1.eq_1)) ∧ (type_of% (uA c80_4.eq_1)) ∧ (type_of% (uA c80_3.eq_1)) ∧ (type_of% (uR r80_2.eq_1)) ∧ (type_of% (uR r80_6.eq_1)) ∧ (type_of% s80.eq_1) :=
  ⟨uA c80.eq_1, uR r80_0.eq_1, uA c80_5.eq_1, uR r80_1.eq_1, uA c80_4.eq_1, uA c80_3.eq_1, uR r80_2.eq_1, uR r80_6.eq_1, s80.eq_1⟩
theorem clone_ok (ns : List ByteArray) (hl : ns.length ≤ 1000000) : ACallsF Try.prog 80 [.c (.v (.sl (encS ns)))] [] (.c (.v (.sl (encS ns)))) := by
  have q1 : ns.length * 16 ≤ 140737488355328 := by omega
  have q2 : ns.length ≤ 9223372036854775807 := by omega
  cases ns with
  | nil =>
    refine nilArg fun ad c => ACallsF.intro ok80 follows fun X c0 => ?_
    have e0 : encS [] = [] := rfl
    have hb1 : (true != false) = true := rfl
    have hb2 : (false != false) = false := rfl
    cases ad with
    | none => simp only [RUN, core, T.c, T.s, T.b, T.i, sBin, sInt, sUn, isShift, asInt, P1.cells, loadT, ptrC, storeT, putC, fillP, Nat.reduceAdd, reduceIte, Nat.reduceEqDiff, Nat.reduceLT, Nat.reduceLeDiff, reduceCtorEq, eq_self, FIT, lendCs_map, verC_map, FinC, resPs, resP, lendPl, lendCs, lendC, sealC, partsT, finHs, tupT, verT, verP, verC, verB, verAt, Blk.ver, handsAre, forall_const, CHT, disj, Nat.reduceBEq, beq_self_eq_true, APT, srcOf, sealPs, sealCs, sealC, List.mem_singleton, forall_eq, ALT, ULh_1, Option.isNone_none, Option.isNone_some, hb1, hb2]
    | some a => simp only [RUN, core, T.c, T.s, T.b, T.i, sBin, sInt, sUn, isShift, asInt, P1.cells, loadT, ptrC, storeT, putC, fillP, Nat.reduceAdd, reduceIte, Nat.reduceEqDiff, Nat.reduceLT, Nat.reduceLeDiff, reduceCtorEq, eq_self, FIT, lendCs_map, verC_map, FinC, resPs, resP, lendPl, lendCs, lendC, sealC, partsT, finHs, tupT, verT, verP, verC, verB, verAt, Blk.ver, handsAre, forall_const, CHT, disj, Nat.reduceBEq, beq_self_eq_true, APT, srcOf, sealPs, sealCs, sealC, List.mem_singleton, forall_eq, ALT, ULh_1, Option.isNone_none, Option.isNone_some, hb1, hb2, Nat.zero_mul, Nat.zero_le, List.not_mem_nil, false_implies, implies_true]
  | cons y ys =>
    refine ACallsF.intro ok80 follows fun X c0 => ?_
    obtain ⟨e, es, he⟩ : ∃ e es, encS (y :: ys) = e :: es := ⟨_, _, rfl⟩
    have hall := encS_all1 (y :: ys)
    have hlen := encS_len (y :: ys)
    have htk := take_encS (y :: ys)
    rw [he] at hall hlen htk ⊢
    simp only [List.length_cons] at hlen htk q1 q2
    rw [← hlen] at htk q1 q2
    simp only [RUN, core, T.c, T.s, T.b, T.i, sBin, sInt, sUn, isShift, asInt, P1.cells, loadT, ptrC, storeT, putC, fillP, Nat.reduceAdd, reduceIte, Nat.reduceEqDiff, Nat.reduceLT, Nat.reduceLeDiff, reduceCtorEq, eq_self, FIT, lendCs_map, verC_map, FinC, resPs, resP, lendPl, lendCs, lendC, sealC, partsT, finHs, tupT, verT, verP, verC, verB, verAt, Blk.ver, handsAre, forall_const, CHT, disj, Nat.reduceBEq, beq_self_eq_true, APT, srcOf, sealPs, sealCs, sealC, List.mem_singleton, forall_eq, ULh_1, hall, q1, q2, Nat.zero_add]
/-- A call that gives back an array of its own, as its result's last part. -/
theorem callO {P : Program} {t : Nat → T} {H : HMap} {c : Nat} {f : Opd} {args : List Opd} {fid : FuncId} {n m N st : Nat} {ty : TypeId} {es : List (List V)} {xs : List V} {argsC : List T} {k : Nat} {d : Option Nat} {un : List Nat} {l : List AOper} {prev : List (Nat × List Nat × List Nat)} {K : St → Prop}
    (hC : ACallsF P fid argsC [⟨n, m, none, .arr 0 true st ty es, false⟩] (.pt (.agg (xs.map .v ++ [.own n 0 N])))) (hf : ev t f = .pt (.one (.fn fid []))) (hl : args.map (ev t) = argsC)
    (ha : argsC.all closedA = true)
    (hk : chk prev un ⟨.pt (.agg (xs.map .v ++ [.own m (c + k) N])), [(m, .arr (c + k) true st ty es)], [m], [m]⟩ = true ∧ DRun P l ((k, [m], [m]) :: prev) K ⟨updD t d (.pt (.agg (xs.map .v ++ [.own m (c + k) N]))), upd H m (some (.arr (c + k) true st ty es)), c⟩) :
    step P k d un (.call f args) l prev K t H c := by
  let hs : List Hand := [⟨n, m, none, .arr 0 true st ty es, false⟩]
  have hN : renN hs n = some ⟨n, m, none, .arr 0 true st ty es, false⟩ := by simp [hs, renN]
  have hcl : (xs.map C.v).all closedC = true := by simp [closedC]
  have hO : ∀ xs : List V, renOs hs (c + k) (xs.map .v ++ [.own n 0 N]) = some (xs.map .v ++ [.own m (c + k) N]) := by
    intro xs
    induction xs with
    | nil => simp [renOs, renO, hN, verOf]
    | cons x xs ih => simp only [List.map_cons, List.cons_append, renOs, ih, renO]
  obtain ⟨h1, h2⟩ := closed_As hs H argsC ha
  refine callW (caps := []) (ws := []) (ns := []) (r' := .pt (.agg (xs.map .v ++ [.own m (c + k) N]))) (ob := [(m, .arr (c + k) true st ty es)]) hs hC hf (by rw [hl]; simpa using h1) h2 ⟨trivial, trivial⟩ (by simp [hs]) (by simp [hs]) ?_ ?_ ?_
  · simp only [renOT, renOP, hO, Option.map_some]
  · simp only [hs, renOBs, renOB, verOf]; rfl
  · have hq : quiet (.pt (.agg (xs.map .v ++ [.own n 0 N]))) hs = false := by simp [quiet, hs]
    simpa [hq, hs, updH] using hk
abbrev oH (M : Nat) (ks : List Tr) : Hand := ⟨2004, M, none, .arr 0 true 5 29 (encTs ks), false⟩
abbrev tO (s n : Int) (x : ByteArray) (ns : List ByteArray) (N : Nat) : T := .pt (.agg ([.s (.int .i64 s), .s (.int .i64 n), .s (.string x), .sl (encS ns)].map .v ++ [.own 2004 0 N]))
/- (loop.example/teagle/impl.Tree).clone -/
def r81_0 : List AOper := [ao 0 1 (.box 29 (.t 0)),
  ao 1 2 (.alloc 29 [(.v (.s (.int .i64 0))), (.v (.s (.int .i64 0))), (.v (.s (.string ⟨#[]⟩))), .nil0, .nil0])]
def r81_1 : List AOper := [ao 0 6 (.fa 0 (.t 1)),
  ao 1 7 (.ld 1 false (.t 6)),
  au 2 8 [0, 1] (.fa 1 (.t 1)),
  au 3 9 [0, 1] (.ld 1 false (.t 8)),
  au 4 10 (ru 4) (.fa 2 (.t 1)),
  au 5 11 (ru 4) (.ld 1 false (.t 10)),
  au 6 12 (ru 6) (.fa 3 (.t 1)),
  au 7 13 (ru 6) (.ld 1 false (.t 12)),
  au 8 14 (ru 6) (.call (.k (.c (.fn 80 []))) [(.t 13)]),
  ao 9 15 (.build [(.v (.s (.int .i64 0))), (.v (.s (.int .i64 0))), (.v (.s (.string ⟨#[]⟩))), .nil0, .nil0] [(0, 1, (.t 7)), (1, 1, (.t 9)), (2, 1, (.t 11)), (3, 1, (.t 14))]),
  au 10 3 (ru 10) (.alloc 29 [(.v (.s (.int .i64 0))), (.v (.s (.int .i64 0))), (.v (.s (.string ⟨#[]⟩))), .nil0, .nil0]),
  an 11 (.st 5 (.t 3) (.t 15))]
def r81_2 : List AOper := [ao 0 16 (.fa 4 (.t 1)),
  ao 1 17 (.ld 1 false (.t 16)),
  ao 2 18 (.len (.t 17)),
  ao 3 19 (.mv (.k (.i 0)))]
def r81_3 : List AOper := [ao 0 20 (.bin .lss (.t 19) (.t 18))]
def c81_4 : ACode := .cond (.t 20) .skip (.exit 0)
def r81_5 : List AOper := [ao 0 21 (.ia 5 (.t 17) (.t 19)),
  ao 1 22 (.ld 5 true (.t 21)),
  ao 2 5 (.alloc 29 [(.v (.s (.int .i64 0))), (.v (.s (.int .i64 0))), (.v (.s (.string ⟨#[]⟩))), .nil0, .nil0]),
  an 3 (.st 5 (.t 5) (.t 22))]
def r81_6 : List AOper := [ao 0 23 (.fa 4 (.t 3)),
  ao 1 24 (.ld 1 false (.t 23)),
  au 2 25 [0, 1] (.ld 5 true (.t 5)),
  au 3 26 [0, 1] (.call (.k (.c (.fn 81 []))) [(.t 25)]),
  au 4 27 [0, 1] (.bsl 5 29 [(.t 26)]),
  ao 5 28 (.app 5 29 80 (.t 24) (.t 27)),
  ao 6 29 (.fa 4 (.t 3)),
  an 7 (.st 1 (.t 29) (.t 28))]
def c81_7 : ACode := .seq (.reg r81_5) (.reg r81_6)
def c81_8 : ACode := .block 1 c81_7
def r81_9 : List AOper := [ao 0 30 (.bin .add (.t 19) (.k (.i 1))),
  ao 1 19 (.mv (.t 30))]
def c81_10 : ACode := .seq (.reg r81_3) (.seq c81_4 (.seq c81_8 (.reg r81_9)))
def c81_11 : ACode := .loop c81_10
def c81_12 : ACode := .block 0 c81_11
def c81_13 : ACode := .seq (.reg r81_2) c81_12
def r81_14 : List AOper := [ao 0 31 (.ld 5 true (.t 3)),
  an 1 (.st 5 (.t 2) (.t 31))]
def c81 : ACode := .seq (.reg r81_0) (.seq (.reg r81_1) (.seq c81_13 (.seq (.reg r81_14) .ret)))
def s81 : List ARes := [.cell 2 5 true]
theorem ok81 : okF Try.prog 81 32 c81 s81 := ⟨Try.f81, Try.func81, Try.ntmps81, by kernel_rfl, by kernel_rfl, by kernel_rfl⟩
def inv81 (s n : Int) (x : ByteArray) (ns : List ByteArray) (ks : List Tr) (i : Nat) (σ : St) : Prop :=
  (∃ u, σ.t 2 = .c (.ptr 2 u 0) ∧ σ.H 2 = some (.var u 29 zT)) ∧
  (∃ u b, σ.t 3 = .c (.ptr 3 u 0) ∧ σ.H 3 = some (.var u 29 [.v (.s (.int .i64 s)), .v (.s (.int .i64 n)), .v (.s (.string x)), .v (.sl (encS ns)), .own 2004 b i]) ∧ σ.H 2004 = some (.arr b true 5 29 (encTs (ks.take i)))) ∧
  σ.t 17 = .c (.v (.sl (encTs ks))) ∧ σ.t 18 = .i ks.length ∧ σ.t 19 = .i i
theorem ULh_2 : (type_of% (uA c81.eq_1)) ∧ (type_of% (uR r81_0.eq_1)) ∧ (type_of% (uR r81_1.eq_1)) ∧ (type_of% (uA c81_13.eq_1)) ∧ (type_of% (uR r81_2.eq_1)) ∧ (type_of% (uA c81_12.eq_1)) ∧ (type_of% (uA c81_11.eq_1)) ∧ (type_of% (uR r81_14.eq_1)) ∧ (type_of% s81.eq_1) :=
  ⟨uA c81.eq_1, uR r81_0.eq_1, uR r81_1.eq_1, uA c81_13.eq_1, uR r81_2.eq_1, uA c81_12.eq_1, uA c81_11.eq_1, uR r81_14.eq_1, s81.eq_1⟩
theorem ULh_3 : (type_of% (uA c81_10.eq_1)) ∧ (type_of% (uR r81_3.eq_1)) ∧ (type_of% (uA c81_4.eq_1)) ∧ (type_of% (uA c81_8.eq_1)) ∧ (type_of% (uA c81_7.eq_1)) ∧ (type_of% (uR r81_5.eq_1)) ∧ (type_of% (uR r81_6.eq_1)) ∧ (type_of% (uR r81_9.eq_1)) ∧ (type_of% (uA c81.eq_1)) ∧ (type_of% (uR r81_0.eq_1)) ∧ (type_of% (uR r81_1.eq_1)) ∧ (type_of% (uA c81_13.eq_1)) ∧ (type_of% (uR r81_2.eq_1)) ∧ (type_of% (uA c81_12.eq_1)) ∧ (type_of% (uA c81_11.eq_1)) ∧ (type_of% (uR r81_14.eq_1)) ∧ (type_of% s81.eq_1) :=
  ⟨uA c81_10.eq_1, uR r81_3.eq_1, uA c81_4.eq_1, uA c81_8.eq_1, uA c81_7.eq_1, uR r81_5.eq_1, uR r81_6.eq_1, uR r81_9.eq_1, uA c81.eq_1, uR r81_0.eq_1, uR r81_1.eq_1, uA c81_13.eq_1, uR r81_2.eq_1, uA c81_12.eq_1, uA c81_11.eq_1, uR r81_14.eq_1, s81.eq_1⟩
theorem cloneT_ok : ∀ (t : Tr), TB 1000000 t → ∀ (s n : Int) (x : ByteArray) (ns : List ByteArray) (ks : List Tr), t = .mk s n x ns ks → ∀ M, ACallsF Try.prog 81 [tT t] [oH M ks] (tO s n x ns ks.length) := by
  intro t
  induction t using Tr.ind with
  | _ s n x ns ks ih =>
    rintro hB _ _ _ _ _ ⟨rfl, rfl, rfl, rfl, rfl⟩ M
    obtain ⟨b0, b1, b2, b3, b4⟩ := hB.inv
    refine ACallsF.intro ok81 follows fun X c0 => ?_
    simp only [RUN, core, T.c, T.s, T.b, T.i, sBin, sInt, sUn, isShift, asInt, P1.cells, loadT, ptrC, storeT, putC, fillP, Nat.reduceAdd, reduceIte, Nat.reduceEqDiff, Nat.reduceLT, Nat.reduceLeDiff, reduceCtorEq, eq_self, FIT, lendCs_map, verC_map, FinC, resPs, resP, lendPl, lendCs, lendC, sealC, partsT, finHs, tupT, verT, verP, verC, verB, verAt, Blk.ver, handsAre, forall_const, CHT, disj, Nat.reduceBEq, beq_self_eq_true, APT, srcOf, sealPs, sealCs, sealC, List.mem_singleton, forall_eq, ALT, ULh_2, encT_mk]
    refine callC (clone_ok ns b1) rfl rfl rfl rfl ?_
    simp only [RUN, core, T.c, T.s, T.b, T.i, sBin, sInt, sUn, isShift, asInt, P1.cells, loadT, ptrC, storeT, putC, fillP, Nat.reduceAdd, reduceIte, Nat.reduceEqDiff, Nat.reduceLT, Nat.reduceLeDiff, reduceCtorEq, eq_self, FIT, lendCs_map, verC_map, FinC, resPs, resP, lendPl, lendCs, lendC, sealC, partsT, finHs, tupT, verT, verP, verC, verB, verAt, Blk.ver, handsAre, forall_const, CHT, disj, Nat.reduceBEq, beq_self_eq_true, APT, srcOf, sealPs, sealCs, sealC, List.mem_singleton, forall_eq, ALT, ULh_2, encTs_len]
    refine AW.reify 3 4 2004 5 29 rfl rfl rfl (by decide) ?_
    refine AW.upto ks.length (inv81 s n x ns ks) ⟨⟨_, rfl, rfl⟩, ⟨_, _, rfl, rfl, rfl⟩, rfl, rfl, rfl⟩ fun i t H c hi h => ?_
    obtain ⟨⟨u2, e2, eH2⟩, ⟨u3, b, e3, eH3, eHb⟩, e17, e18, e19⟩ := h
    simp only [T.c, T.i, zT] at e2 eH2 e3 eH3 eHb e17 e18 e19
    have hlr : (encTs (ks.take i)).length = i := by rw [encTs_len, List.length_take]; omega
    have htk : List.take i (encTs (ks.take i)) = encTs (ks.take i) := List.take_of_length_le (by omega)
    by_cases hlt : i < ks.length
    · have g1 : (i : Int) < ks.length := by omega
      have gz : (0 : Int) ≤ i := by omega
      have gw : IntKind.i64.wrap ((i : Int) + 1) = ((i + 1 : Nat) : Int) := wrap64 (x := (i : Int) + 1) ⟨by omega, by omega⟩
      have q3 : (i + 1) * 80 ≤ 140737488355328 := by omega
      have q4 : i ≤ 9223372036854775806 := by omega
      obtain ⟨u, hu⟩ : ∃ u, ks[i]? = some u := ⟨_, List.getElem?_eq_getElem hlt⟩
      have hmu := List.mem_of_getElem? hu
      have eu := encTs_at hu
      obtain ⟨s', n', x', ns', ks'⟩ := u
      have hC := ih _ hmu (b4 _ hmu) _ _ _ _ _ rfl 3004
      simp only [RUN, core, T.c, T.s, T.b, T.i, sBin, sInt, sUn, isShift, asInt, P1.cells, loadT, ptrC, storeT, putC, fillP, Nat.reduceAdd, reduceIte, Nat.reduceEqDiff, Nat.reduceLT, Nat.reduceLeDiff, reduceCtorEq, eq_self, FIT, lendCs_map, verC_map, FinC, resPs, resP, lendPl, lendCs, lendC, sealC, partsT, finHs, tupT, verT, verP, verC, verB, verAt, Blk.ver, handsAre, forall_const, CHT, disj, Nat.reduceBEq, beq_self_eq_true, APT, srcOf, sealPs, sealCs, sealC, List.mem_singleton, forall_eq, ULh_3, e17, e18, e19, e3, eH3, g1, gz, eu, Int.toNat_natCast, List.length_map, encT_len, takeT, Nat.le_refl]
      refine callO hC rfl rfl (by simp [closedA, closedP, closedC]) ⟨?_, ?_⟩
      · simp only [RUN, core, T.c, T.s, T.b, T.i, sBin, sInt, sUn, isShift, asInt, P1.cells, loadT, ptrC, storeT, putC, fillP, Nat.reduceAdd, reduceIte, Nat.reduceEqDiff, Nat.reduceLT, Nat.reduceLeDiff, reduceCtorEq, eq_self, FIT, lendCs_map, verC_map, FinC, resPs, resP, lendPl, lendCs, lendC, sealC, partsT, finHs, tupT, verT, verP, verC, verB, verAt, Blk.ver, handsAre, forall_const, CHT, disj, Nat.reduceBEq, beq_self_eq_true, APT, srcOf, sealPs, sealCs, sealC, List.mem_singleton, forall_eq]
      simp only [RUN, core, T.c, T.s, T.b, T.i, sBin, sInt, sUn, isShift, asInt, P1.cells, loadT, ptrC, storeT, putC, fillP, Nat.reduceAdd, reduceIte, Nat.reduceEqDiff, Nat.reduceLT, Nat.reduceLeDiff, reduceCtorEq, eq_self, FIT, lendCs_map, verC_map, FinC, resPs, resP, lendPl, lendCs, lendC, sealC, partsT, finHs, tupT, verT, verP, verC, verB, verAt, Blk.ver, handsAre, forall_const, CHT, disj, Nat.reduceBEq, beq_self_eq_true, APT, srcOf, sealPs, sealCs, sealC, List.mem_singleton, forall_eq, ALT, ULh_3, e19, e3, eH3, eHb, hlr, htk, gw, q3, q4, encTs_len]
      have hnew : encTs (ks.take (i + 1)) = encTs (ks.take i) ++ [[.s (.int .i64 s'), .s (.int .i64 n'), .s (.string x'), .sl (encS ns'), .sl (encTs ks')]] := by rw [List.take_add_one, hu, ← encT_mk]; exact encTs_snoc _ _
      unfold inv81
      rw [hnew]
      exact ⟨hlt, ⟨u2, e2, eH2⟩, ⟨u3, _, e3, rfl, rfl⟩, e17, e18, rfl⟩
    · have hin : i = ks.length := by omega
      subst hin
      have g1 : ¬ ((ks.length : Nat) : Int) < ks.length := by omega
      rw [List.take_length] at eHb
      simp only [RUN, core, T.c, T.s, T.b, T.i, sBin, sInt, sUn, isShift, asInt, P1.cells, loadT, ptrC, storeT, putC, fillP, Nat.reduceAdd, reduceIte, Nat.reduceEqDiff, Nat.reduceLT, Nat.reduceLeDiff, reduceCtorEq, eq_self, FIT, lendCs_map, verC_map, FinC, resPs, resP, lendPl, lendCs, lendC, sealC, partsT, finHs, tupT, verT, verP, verC, verB, verAt, Blk.ver, handsAre, forall_const, CHT, disj, Nat.reduceBEq, beq_self_eq_true, APT, srcOf, sealPs, sealCs, sealC, List.mem_singleton, forall_eq, ALT, ULh_3, ULh_2, e2, eH2, e3, eH3, eHb, e18, e19, g1]
      exact id
end Go.V
set_option linter.unusedSimpArgs false
namespace Go.V
open Go.Proofs
abbrev noT : Tr := .mk 6 0 ⟨#[]⟩ [] []
/-- A tree as one of a wider schema. -/
inductive Wd : Kd → Kd → Tr → Tr → Prop
  | m (s : Int) (ns : List ByteArray) (ks : List Kd) (ns' : List ByteArray) (ks' : List Kd) (b : Kd) (t t' : Tr) (hs : s ≠ 6) (hb : ks'[0]? = some b) (h : Wd (.mk s ns ks) b t t') : Wd (.mk s ns ks) (.mk 6 ns' ks') t (.mk 6 0 ⟨#[]⟩ [] [t'])
  | f (s : Int) (ns : List ByteArray) (ks : List Kd) (ns' : List ByteArray) (ks' : List Kd) (ts tn : Int) (tx : ByteArray) (tns : List ByteArray) (tks outs : List Tr) (hl : outs.length = ns'.length)
      (h1 : ∀ (i j : Nat) x o k k' t, ns'[i]? = some x → outs[i]? = some o → ns[j]? = some x → ks[j]? = some k → ks'[i]? = some k' → tks[j]? = some t → Wd k k' t o)
      (h2 : ∀ (i : Nat) x o, ns'[i]? = some x → outs[i]? = some o → (∀ j : Nat, ns[j]? ≠ some x) → o = noT) : Wd (.mk s ns ks) (.mk 5 ns' ks') (.mk ts tn tx tns tks) (.mk 5 0 ⟨#[]⟩ ns' outs)
  | c (s : Int) (ns : List ByteArray) (ks : List Kd) (s' : Int) (ns' : List ByteArray) (ks' : List Kd) (ts tn : Int) (tx : ByteArray) (tns : List ByteArray) (tks outs : List Tr) (hs : s' ≠ 5) (hs2 : s' = 6 → s = 6) (hl : outs.length = tks.length)
      (h : ∀ (i : Nat) t o k k', tks[i]? = some t → outs[i]? = some o → ks[0]? = some k → ks'[0]? = some k' → Wd k k' t o) : Wd (.mk s ns ks) (.mk s' ns' ks') (.mk ts tn tx tns tks) (.mk ts tn tx tns outs)
theorem choose_list {α : Type} (P : Nat → α → Prop) : ∀ n, (∀ i, i < n → ∃ o, P i o) → ∃ outs : List α, outs.length = n ∧ ∀ i, i < n → ∃ o, outs[i]? = some o ∧ P i o
  | 0, _ => ⟨[], rfl, fun i hi => absurd hi (Nat.not_lt_zero i)⟩
  | n + 1, h => by
    obtain ⟨outs, h1, h2⟩ := choose_list P n fun i hi => h i (by omega)
    obtain ⟨o, ho⟩ := h n (by omega)
    refine ⟨outs ++ [o], by simp [h1], fun i hi => ?_⟩
    by_cases hin : i < n
    · obtain ⟨o', h3, h4⟩ := h2 i hin
      exact ⟨o', by rw [List.getElem?_append_left (by omega)]; exact h3, h4⟩
    · have : i = n := by omega
      subst this
      exact ⟨o, by rw [← h1, List.getElem?_append_right (Nat.le_refl _)]; simp, ho⟩
theorem all_of {α : Type} {P : α → Prop} {outs : List α} {n : Nat} (hl : outs.length = n) (h : ∀ i, i < n → ∃ o, outs[i]? = some o ∧ P o) : ∀ o ∈ outs, P o := by
  intro o ho
  obtain ⟨i, hi⟩ := List.mem_iff_getElem?.1 ho
  obtain ⟨o', h1, h2⟩ := h i (by have := (List.getElem?_eq_some_iff.1 hi).1; omega)
  rw [hi] at h1; cases h1; exact h2
/- loop.example/teagle/impl.widen -/
def r44_0 : List AOper := [ao 0 3 (.box 26 (.t 0)),
  ao 1 4 (.box 26 (.t 1)),
  ao 2 5 (.box 29 (.t 2)),
  ao 3 6 (.alloc 29 [(.v (.s (.int .i64 0))), (.v (.s (.int .i64 0))), (.v (.s (.string ⟨#[]⟩))), .nil0, .nil0])]
def r44_1 : List AOper := [ao 0 17 (.fa 0 (.t 4)),
  ao 1 18 (.ld 1 false (.t 17)),
  ao 2 19 (.bin .eql (.t 18) (.k (.i 6))),
  ao 3 20 (.mv (.t 19)),
  ag 4 21 20 true [] (.fa 0 (.t 3)),
  ag 5 22 20 true [] (.ld 1 false (.t 21)),
  ag 6 23 20 true [] (.bin .neq (.t 22) (.k (.i 6))),
  ao 7 24 (.pick (.t 20) (.t 23) (.k (.b false))),
  ao 8 16 (.mv (.t 24))]
def r44_2 : List AOper := [ao 0 25 (.ld 3 true (.t 3)),
  au 1 26 [0] (.fa 2 (.t 4)),
  au 2 27 [0] (.ld 1 false (.t 26)),
  au 3 28 [0] (.ia 3 (.t 27) (.k (.i 0))),
  au 4 29 [0] (.ld 3 true (.t 28)),
  au 5 30 (ru 5) (.ld 5 true (.t 5)),
  ao 6 31 (.call (.k (.c (.fn 44 []))) [(.t 25), (.t 29), (.t 30)]),
  ao 7 32 (.bsl 5 29 [(.t 31)]),
  ao 8 33 (.build [(.v (.s (.int .i64 0))), (.v (.s (.int .i64 0))), (.v (.s (.string ⟨#[]⟩))), .nil0, .nil0] [(0, 1, (.k (.i 6))), (4, 1, (.t 32))]),
  an 9 (.st 5 (.t 6) (.t 33))]
def c44_3 : ACode := .seq (.reg r44_2) .ret
def r44_4 : List AOper := [ao 0 35 (.fa 0 (.t 4)),
  ao 1 36 (.ld 1 false (.t 35)),
  ao 2 37 (.bin .eql (.t 36) (.k (.i 5))),
  ao 3 34 (.mv (.t 37))]
def r44_5 : List AOper := [ao 0 38 (.fa 1 (.t 4)),
  ao 1 39 (.ld 1 false (.t 38)),
  ao 2 40 (.call (.k (.c (.fn 80 []))) [(.t 39)]),
  ao 3 41 (.build [(.v (.s (.int .i64 0))), (.v (.s (.int .i64 0))), (.v (.s (.string ⟨#[]⟩))), .nil0, .nil0] [(0, 1, (.k (.i 5))), (3, 1, (.t 40))]),
  ao 4 7 (.alloc 29 [(.v (.s (.int .i64 0))), (.v (.s (.int .i64 0))), (.v (.s (.string ⟨#[]⟩))), .nil0, .nil0]),
  an 5 (.st 5 (.t 7) (.t 41))]
def r44_6 : List AOper := [ao 0 42 (.fa 1 (.t 4)),
  ao 1 43 (.ld 1 false (.t 42)),
  ao 2 44 (.len (.t 43)),
  ao 3 45 (.mv (.k (.i 0)))]
def r44_7 : List AOper := [ao 0 46 (.bin .lss (.t 45) (.t 44))]
def c44_8 : ACode := .cond (.t 46) .skip (.exit 1)
def r44_9 : List AOper := [ao 0 47 (.mv (.t 45)),
  ao 1 48 (.ia 1 (.t 43) (.t 45)),
  ao 2 49 (.ld 1 false (.t 48)),
  ao 3 8 (.mv (.t 47)),
  ao 4 9 (.mv (.t 49))]
def r44_10 : List AOper := [ao 0 50 (.build [(.v (.s (.int .i64 0))), (.v (.s (.int .i64 0))), (.v (.s (.string ⟨#[]⟩))), .nil0, .nil0] [(0, 1, (.k (.i 6)))]),
  ao 1 10 (.alloc 29 [(.v (.s (.int .i64 0))), (.v (.s (.int .i64 0))), (.v (.s (.string ⟨#[]⟩))), .nil0, .nil0]),
  an 2 (.st 5 (.t 10) (.t 50))]
def r44_11 : List AOper := [ao 0 52 (.fa 1 (.t 3)),
  ao 1 53 (.ld 1 false (.t 52)),
  ao 2 54 (.mv (.t 9)),
  ao 3 55 (.call (.k (.c (.fn 79 []))) [(.t 53), (.t 54)]),
  ao 4 51 (.mv (.t 55)),
  ao 5 56 (.ext 0 (.t 51)),
  ao 6 57 (.ext 1 (.t 51)),
  ao 7 11 (.mv (.t 56)),
  ao 8 12 (.mv (.t 57))]
def r44_12 : List AOper := [ao 0 58 (.mv (.t 12))]
def r44_13 : List AOper := [ao 0 59 (.fa 2 (.t 3)),
  ao 1 60 (.ld 1 false (.t 59)),
  au 2 61 [0, 1] (.mv (.t 11)),
  ao 3 62 (.ia 3 (.t 60) (.t 61)),
  ao 4 63 (.ld 3 true (.t 62)),
  au 5 64 (ru 5) (.fa 2 (.t 4)),
  au 6 65 (ru 5) (.ld 1 false (.t 64)),
  au 7 66 (ru 7) (.mv (.t 8)),
  au 8 67 (ru 5) (.ia 3 (.t 65) (.t 66)),
  au 9 68 (ru 5) (.ld 3 true (.t 67)),
  au 10 69 (ru 10) (.fa 4 (.t 5)),
  au 11 70 (ru 10) (.ld 1 false (.t 69)),
  au 12 71 (ru 12) (.mv (.t 11)),
  au 13 72 (ru 10) (.ia 5 (.t 70) (.t 71)),
  au 14 73 (ru 10) (.ld 5 true (.t 72)),
  ao 15 74 (.call (.k (.c (.fn 44 []))) [(.t 63), (.t 68), (.t 73)]),
  an 16 (.st 5 (.t 10) (.t 74))]
def c44_14 : ACode := .cond (.t 58) (.reg r44_13) .skip
def c44_15 : ACode := .seq (.reg r44_11) (.seq (.reg r44_12) c44_14)
def r44_16 : List AOper := [ao 0 75 (.fa 4 (.t 7)),
  ao 1 76 (.ld 1 false (.t 75)),
  ao 2 77 (.ld 5 true (.t 10)),
  ao 3 78 (.bsl 5 29 [(.t 77)]),
  ao 4 79 (.app 5 29 80 (.t 76) (.t 78)),
  ao 5 80 (.fa 4 (.t 7)),
  an 6 (.st 1 (.t 80) (.t 79))]
def c44_17 : ACode := .seq (.reg r44_9) (.seq (.reg r44_10) (.seq c44_15 (.reg r44_16)))
def c44_18 : ACode := .block 2 c44_17
def r44_19 : List AOper := [ao 0 81 (.bin .add (.t 45) (.k (.i 1))),
  ao 1 45 (.mv (.t 81))]
def c44_20 : ACode := .seq (.reg r44_7) (.seq c44_8 (.seq c44_18 (.reg r44_19)))
def c44_21 : ACode := .loop c44_20
def c44_22 : ACode := .block 1 c44_21
def c44_23 : ACode := .seq (.reg r44_6) c44_22
def r44_24 : List AOper := [ao 0 82 (.ld 5 true (.t 7)),
  an 1 (.st 5 (.t 6) (.t 82))]
def c44_25 : ACode := .seq (.reg r44_5) (.seq c44_23 (.seq (.reg r44_24) .ret))
def c44_26 : ACode := .cond (.t 34) c44_25 .skip
def c44_27 : ACode := .seq (.reg r44_4) c44_26
def c44_28 : ACode := .cond (.t 16) c44_3 c44_27
def c44_29 : ACode := .seq (.reg r44_1) c44_28
def c44_30 : ACode := .block 0 c44_29
def r44_31 : List AOper := [ao 0 83 (.ld 5 true (.t 5)),
  ao 1 84 (.call (.k (.c (.fn 81 []))) [(.t 83)]),
  ao 2 13 (.alloc 29 [(.v (.s (.int .i64 0))), (.v (.s (.int .i64 0))), (.v (.s (.string ⟨#[]⟩))), .nil0, .nil0]),
  an 3 (.st 5 (.t 13) (.t 84))]
def r44_32 : List AOper := [ao 0 85 (.fa 4 (.t 5)),
  ao 1 86 (.ld 1 false (.t 85)),
  ao 2 87 (.len (.t 86)),
  ao 3 88 (.mv (.k (.i 0)))]
def r44_33 : List AOper := [ao 0 89 (.bin .lss (.t 88) (.t 87))]
def c44_34 : ACode := .cond (.t 89) .skip (.exit 3)
def r44_35 : List AOper := [ao 0 90 (.mv (.t 88)),
  ao 1 91 (.ia 5 (.t 86) (.t 88)),
  ao 2 92 (.ld 5 true (.t 91)),
  ao 3 15 (.alloc 29 [(.v (.s (.int .i64 0))), (.v (.s (.int .i64 0))), (.v (.s (.string ⟨#[]⟩))), .nil0, .nil0]),
  ao 4 14 (.mv (.t 90)),
  an 5 (.st 5 (.t 15) (.t 92))]
def r44_36 : List AOper := [ao 0 93 (.fa 4 (.t 13)),
  ao 1 94 (.ld 1 false (.t 93)),
  au 2 95 [0, 1] (.mv (.t 14)),
  au 3 96 (ru 3) (.fa 2 (.t 3)),
  au 4 97 (ru 3) (.ld 1 false (.t 96)),
  au 5 98 (ru 3) (.ia 3 (.t 97) (.k (.i 0))),
  au 6 99 (ru 3) (.ld 3 true (.t 98)),
  au 7 100 (ru 7) (.fa 2 (.t 4)),
  au 8 101 (ru 7) (.ld 1 false (.t 100)),
  au 9 102 (ru 7) (.ia 3 (.t 101) (.k (.i 0))),
  au 10 103 (ru 7) (.ld 3 true (.t 102)),
  au 11 104 (ru 11) (.ld 5 true (.t 15)),
  au 12 105 (ru 3) (.call (.k (.c (.fn 44 []))) [(.t 99), (.t 103), (.t 104)]),
  ao 13 106 (.ia 5 (.t 94) (.t 95)),
  an 14 (.st 5 (.t 106) (.t 105))]
def c44_37 : ACode := .seq (.reg r44_35) (.reg r44_36)
def c44_38 : ACode := .block 4 c44_37
def r44_39 : List AOper := [ao 0 107 (.bin .add (.t 88) (.k (.i 1))),
  ao 1 88 (.mv (.t 107))]
def c44_40 : ACode := .seq (.reg r44_33) (.seq c44_34 (.seq c44_38 (.reg r44_39)))
def c44_41 : ACode := .loop c44_40
def c44_42 : ACode := .block 3 c44_41
def c44_43 : ACode := .seq (.reg r44_32) c44_42
def r44_44 : List AOper := [ao 0 108 (.ld 5 true (.t 13)),
  an 1 (.st 5 (.t 6) (.t 108))]
def c44 : ACode := .seq (.reg r44_0) (.seq c44_30 (.seq (.reg r44_31) (.seq c44_43 (.seq (.reg r44_44) .ret))))
def s44 : List ARes := [.cell 6 5 true]
theorem ok44 : okF Try.prog 44 109 c44 s44 := ⟨Try.f44, Try.func44, Try.ntmps44, by kernel_rfl, by kernel_rfl, by kernel_rfl⟩
def WF (ns : List ByteArray) (ks : List Kd) (ns' : List ByteArray) (ks' : List Kd) (tks : List Tr) (i : Nat) (o : Tr) : Prop :=
  TB 2000 o ∧ ∃ x k' J b, ns'[i]? = some x ∧ ks'[i]? = some k' ∧ ACallsF Try.prog 79 [.c (.v (.sl (encS ns))), .s (.string x)] [] (tIB J b) ∧
    ((b = true ∧ ∃ k u, ns[J]? = some x ∧ ks[J]? = some k ∧ tks[J]? = some u ∧ Wd k k' u o ∧ ACallsF Try.prog 44 [tK k, tK k', tT u] [] (tT o)) ∨ (b = false ∧ (∀ j : Nat, ns[j]? ≠ some x) ∧ o = noT))
def inv44f (ss : Int) (ns : List ByteArray) (ks : List Kd) (ns' : List ByteArray) (ks' : List Kd) (ts tn : Int) (tx : ByteArray) (tns : List ByteArray) (tks outs : List Tr) (i : Nat) (σ : St) : Prop :=
  (∃ u, σ.t 3 = .c (.ptr 3 u 0) ∧ σ.H 3 = some (.var u 26 [.v (.s (.int .i64 ss)), .v (.sl (encS ns)), .v (.sl (encKs ks))])) ∧ (∃ u, σ.t 4 = .c (.ptr 4 u 0) ∧ σ.H 4 = some (.var u 26 [.v (.s (.int .i64 5)), .v (.sl (encS ns')), .v (.sl (encKs ks'))])) ∧
  (∃ u, σ.t 5 = .c (.ptr 5 u 0) ∧ σ.H 5 = some (.var u 29 [.v (.s (.int .i64 ts)), .v (.s (.int .i64 tn)), .v (.s (.string tx)), .v (.sl (encS tns)), .v (.sl (encTs tks))])) ∧ (∃ u, σ.t 6 = .c (.ptr 6 u 0) ∧ σ.H 6 = some (.var u 29 zT)) ∧
  (∃ u b, σ.t 7 = .c (.ptr 7 u 0) ∧ σ.H 7 = some (.var u 29 [.v (.s (.int .i64 5)), .v (.s (.int .i64 0)), .v (.s (.string ⟨#[]⟩)), .v (.sl (encS ns')), .own 2004 b i]) ∧ σ.H 2004 = some (.arr b true 5 29 (encTs (outs.take i)))) ∧
  σ.t 43 = .c (.v (.sl (encS ns'))) ∧ σ.t 44 = .i ns'.length ∧ σ.t 45 = .i i
theorem enc_noT : encT noT = [.s (.int .i64 6), .s (.int .i64 0), .s (.string ⟨#[]⟩), .sl [], .sl []] := by rw [encT_mk, encS_nil, encTs_nil]
theorem ULi_1 : (type_of% (uA c44_20.eq_1)) ∧ (type_of% (uR r44_7.eq_1)) ∧ (type_of% (uA c44_8.eq_1)) ∧ (type_of% (uA c44_18.eq_1)) ∧ (type_of% (uA c44_17.eq_1)) ∧ (type_of% (uR r44_9.eq_1)) ∧ (type_of% (uR r44_10.eq_1)) ∧ (type_of% (uA c44_15.eq_1)) ∧ (type_of% (uR r44_11.eq_1)) ∧ (type_of% (uR r44_12.eq_1)) ∧ (type_of% (uA c44_14.eq_1)) ∧ (type_of% (uR r44_13.eq_1)) ∧ (type_of% (uR r44_16.eq_1)) ∧ (type_of% (uR r44_19.eq_1)) ∧ (type_of% (uA c44.eq_1)) ∧ (type_of% (uR r44_0.eq_1)) ∧ (type_of% (uA c44_30.eq_1)) ∧ (type_of% (uA c44_29.eq_1)) ∧ (type_of% (uR r44_1.eq_1)) ∧ (type_of% (uA c44_28.eq_1)) ∧ (type_of% (uA c44_3.eq_1)) ∧ (type_of% (uR r44_2.eq_1)) ∧ (type_of% (uA c44_27.eq_1)) ∧ (type_of% (uR r44_4.eq_1)) ∧ (type_of% (uA c44_26.eq_1)) ∧ (type_of% (uA c44_25.eq_1)) ∧ (type_of% (uR r44_5.eq_1)) ∧ (type_of% (uA c44_23.eq_1)) ∧ (type_of% (uR r44_6.eq_1)) ∧ (type_of% (uA c44_22.eq_1)) ∧ (type_of% (uA c44_21.eq_1)) ∧ (type_of% (uR r44_24.eq_1)) ∧ (type_of% (uR r44_31.eq_1)) ∧ (type_of% (uA c44_43.eq_1)) ∧ (type_of% (uR r44_32.eq_1)) ∧ (type_of% (uA c44_42.eq_1)) ∧ (type_of% (uA c44_41.eq_1)) ∧ (type_of% (uR r44_44.eq_1)) ∧ (type_of% s44.eq_1) :=
  ⟨uA c44_20.eq_1, uR r44_7.eq_1, uA c44_8.eq_1, uA c44_18.eq_1, uA c44_17.eq_1, uR r44_9.eq_1, uR r44_10.eq_1, uA c44_15.eq_1, uR r44_11.eq_1, uR r44_12.eq_1, uA c44_14.eq_1, uR r44_13.eq_1, uR r44_16.eq_1, uR r44_19.eq_1, uA c44.eq_1, uR r44_0.eq_1, uA c44_30.eq_1, uA c44_29.eq_1, uR r44_1.eq_1, uA c44_28.eq_1, uA c44_3.eq_1, uR r44_2.eq_1, uA c44_27.eq_1, uR r44_4.eq_1, uA c44_26.eq_1, uA c44_25.eq_1, uR r44_5.eq_1, uA c44_23.eq_1, uR r44_6.eq_1, uA c44_22.eq_1, uA c44_21.eq_1, uR r44_24.eq_1, uR r44_31.eq_1, uA c44_43.eq_1, uR r44_32.eq_1, uA c44_42.eq_1, uA c44_41.eq_1, uR r44_44.eq_1, s44.eq_1⟩
set_option maxHeartbeats 1000000 in
theorem widen_loopf (ss : Int) (ns : List ByteArray) (ks : List Kd) (ns' : List ByteArray) (ks' : List Kd) (ts tn : Int) (tx : ByteArray) (tns : List ByteArray) (tks outs : List Tr) (hl : outs.length = ns'.length) (hn : ns'.length ≤ 2000) (hW : ∀ i, i < ns'.length → ∃ o, outs[i]? = some o ∧ WF ns ks ns' ks' tks i o) {X : Ctx} {Q : Exit → St → Prop} {t : Nat → T} {H : HMap} {c : Nat}
    (h : inv44f ss ns ks ns' ks' ts tn tx tns tks outs 0 ⟨t, H, c⟩) (hQ : ∀ t H c, inv44f ss ns ks ns' ks' ts tn tx tns tks outs ns'.length ⟨t, H, c⟩ → Q (.exit 1) ⟨t, H, c⟩) : AW Try.prog X (.loop c44_20) Q ⟨t, H, c⟩ := by
  refine AW.upto ns'.length (inv44f ss ns ks ns' ks' ts tn tx tns tks outs) h fun i t H c hi h => ?_
  have hKI := h
  obtain ⟨⟨u3, e3, eH3⟩, ⟨u4, e4, eH4⟩, ⟨u5, e5, eH5⟩, ⟨u6, e6, eH6⟩, ⟨u7, b7, e7, eH7, eHb⟩, e43, e44, e45⟩ := h
  simp only [T.c, T.i, zT] at e3 eH3 e4 eH4 e5 eH5 e6 eH6 e7 eH7 eHb e43 e44 e45
  by_cases hlt : i < ns'.length
  · have g1 : (i : Int) < ns'.length := by omega
    have gz : (0 : Int) ≤ i := by omega
    have gw : IntKind.i64.wrap ((i : Int) + 1) = ((i + 1 : Nat) : Int) := wrap64 (x := (i : Int) + 1) ⟨by omega, by omega⟩
    have q3 : (i + 1) * 80 ≤ 140737488355328 := by omega
    have q4 : i ≤ 9223372036854775806 := by omega
    have hlr : (encTs (outs.take i)).length = i := by rw [encTs_len, List.length_take]; omega
    have htk : List.take i (encTs (outs.take i)) = encTs (outs.take i) := List.take_of_length_le (by omega)
    obtain ⟨o, ho, hBo, x, k', J, b, hx, hk', hCs, hcase⟩ := hW i hlt
    have es := encS_at hx
    have ek' := encKs_at hk'
    have hnew : encTs (outs.take (i + 1)) = encTs (outs.take i) ++ [encT o] := by rw [List.take_add_one, ho]; exact encTs_snoc _ _
    simp only [RUN, core, T.c, T.s, T.b, T.i, sBin, sInt, sUn, isShift, asInt, P1.cells, loadT, ptrC, storeT, putC, fillP, Nat.reduceAdd, reduceIte, Nat.reduceEqDiff, Nat.reduceLT, Nat.reduceLeDiff, reduceCtorEq, eq_self, FIT, lendCs_map, verC_map, FinC, resPs, resP, lendPl, lendCs, lendC, sealC, partsT, finHs, tupT, verT, verP, verC, verB, verAt, Blk.ver, handsAre, forall_const, CHT, disj, Nat.reduceBEq, beq_self_eq_true, APT, srcOf, sealPs, sealCs, sealC, List.mem_singleton, forall_eq, ALT, ULi_1, e3, eH3, e43, e44, e45, g1, gz, es, Int.toNat_natCast]
    refine callC hCs rfl rfl (by simp [closedA, closedP, closedC]) (by simp [closedT, closedP, closedC]) ?_
    rcases hcase with ⟨rfl, k, u, hnx, hk, hu, hWd, hC⟩ | ⟨rfl, hno, rfl⟩
    · have ek := encKs_at hk
      have eu := encTs_at hu
      have gzJ : (0 : Int) ≤ J := by omega
      simp only [RUN, core, T.c, T.s, T.b, T.i, sBin, sInt, sUn, isShift, asInt, P1.cells, loadT, ptrC, storeT, putC, fillP, Nat.reduceAdd, reduceIte, Nat.reduceEqDiff, Nat.reduceLT, Nat.reduceLeDiff, reduceCtorEq, eq_self, FIT, lendCs_map, verC_map, FinC, resPs, resP, lendPl, lendCs, lendC, sealC, partsT, finHs, tupT, verT, verP, verC, verB, verAt, Blk.ver, handsAre, forall_const, CHT, disj, Nat.reduceBEq, beq_self_eq_true, APT, srcOf, sealPs, sealCs, sealC, List.mem_singleton, forall_eq, ALT, ULi_1, e3, eH3, e4, eH4, e5, eH5, gz, gzJ, ek, ek', eu, Int.toNat_natCast, List.length_map, encK_len, takeK, encT_len, takeT, Nat.le_refl]
      refine callC hC rfl rfl (by simp [closedA, closedP, closedC]) (closed_map _) ?_
      simp only [RUN, core, T.c, T.s, T.b, T.i, sBin, sInt, sUn, isShift, asInt, P1.cells, loadT, ptrC, storeT, putC, fillP, Nat.reduceAdd, reduceIte, Nat.reduceEqDiff, Nat.reduceLT, Nat.reduceLeDiff, reduceCtorEq, eq_self, FIT, lendCs_map, verC_map, FinC, resPs, resP, lendPl, lendCs, lendC, sealC, partsT, finHs, tupT, verT, verP, verC, verB, verAt, Blk.ver, handsAre, forall_const, CHT, disj, Nat.reduceBEq, beq_self_eq_true, APT, srcOf, sealPs, sealCs, sealC, List.mem_singleton, forall_eq, ALT, ULi_1, e7, eH7, eHb, e45, hlr, htk, q3, q4, gw, List.length_map, encT_len, takeT, dropT, Nat.le_refl]
      unfold inv44f
      rw [hnew]
      exact ⟨hlt, ⟨u3, e3, eH3⟩, ⟨u4, e4, eH4⟩, ⟨u5, e5, eH5⟩, ⟨u6, e6, eH6⟩, ⟨u7, _, e7, rfl, rfl⟩, e43, e44, rfl⟩
    · simp only [RUN, core, T.c, T.s, T.b, T.i, sBin, sInt, sUn, isShift, asInt, P1.cells, loadT, ptrC, storeT, putC, fillP, Nat.reduceAdd, reduceIte, Nat.reduceEqDiff, Nat.reduceLT, Nat.reduceLeDiff, reduceCtorEq, eq_self, FIT, lendCs_map, verC_map, FinC, resPs, resP, lendPl, lendCs, lendC, sealC, partsT, finHs, tupT, verT, verP, verC, verB, verAt, Blk.ver, handsAre, forall_const, CHT, disj, Nat.reduceBEq, beq_self_eq_true, APT, srcOf, sealPs, sealCs, sealC, List.mem_singleton, forall_eq, ALT, ULi_1, e7, eH7, eHb, e45, hlr, htk, q3, q4, gw]
      rw [enc_noT] at hnew
      unfold inv44f
      rw [hnew]
      exact ⟨hlt, ⟨u3, e3, eH3⟩, ⟨u4, e4, eH4⟩, ⟨u5, e5, eH5⟩, ⟨u6, e6, eH6⟩, ⟨u7, _, e7, rfl, rfl⟩, e43, e44, rfl⟩
  · have hin : i = ns'.length := by omega
    subst hin
    have g1 : ¬ ((ns'.length : Nat) : Int) < ns'.length := by omega
    simp only [RUN, core, T.c, T.s, T.b, T.i, sBin, sInt, sUn, isShift, asInt, P1.cells, loadT, ptrC, storeT, putC, fillP, Nat.reduceAdd, reduceIte, Nat.reduceEqDiff, Nat.reduceLT, Nat.reduceLeDiff, reduceCtorEq, eq_self, FIT, lendCs_map, verC_map, FinC, resPs, resP, lendPl, lendCs, lendC, sealC, partsT, finHs, tupT, verT, verP, verC, verB, verAt, Blk.ver, handsAre, forall_const, CHT, disj, Nat.reduceBEq, beq_self_eq_true, APT, srcOf, sealPs, sealCs, sealC, List.mem_singleton, forall_eq, ALT, ULi_1, e44, e45, g1]
    exact hQ _ _ _ hKI
def inv44c (ss : Int) (ns : List ByteArray) (ks : List Kd) (s' : Int) (ns' : List ByteArray) (ks' : List Kd) (ts tn : Int) (tx : ByteArray) (tns : List ByteArray) (tks outs : List Tr) (i : Nat) (σ : St) : Prop :=
  (∃ u, σ.t 3 = .c (.ptr 3 u 0) ∧ σ.H 3 = some (.var u 26 [.v (.s (.int .i64 ss)), .v (.sl (encS ns)), .v (.sl (encKs ks))])) ∧ (∃ u, σ.t 4 = .c (.ptr 4 u 0) ∧ σ.H 4 = some (.var u 26 [.v (.s (.int .i64 s')), .v (.sl (encS ns')), .v (.sl (encKs ks'))])) ∧
  (∃ u, σ.t 6 = .c (.ptr 6 u 0) ∧ σ.H 6 = some (.var u 29 zT)) ∧
  (∃ u b, σ.t 13 = .c (.ptr 13 u 0) ∧ σ.H 13 = some (.var u 29 [.v (.s (.int .i64 ts)), .v (.s (.int .i64 tn)), .v (.s (.string tx)), .v (.sl (encS tns)), .own 3004 b tks.length]) ∧ σ.H 3004 = some (.arr b true 5 29 (encTs (outs.take i ++ tks.drop i)))) ∧
  σ.t 86 = .c (.v (.sl (encTs tks))) ∧ σ.t 87 = .i tks.length ∧ σ.t 88 = .i i
def WC (ks ks' : List Kd) (tks : List Tr) (i : Nat) (o : Tr) : Prop :=
  TB 2000 o ∧ ∃ k k' u, ks[0]? = some k ∧ ks'[0]? = some k' ∧ tks[i]? = some u ∧ Wd k k' u o ∧ ACallsF Try.prog 44 [tK k, tK k', tT u] [] (tT o)
theorem ULi_2 : (type_of% (uA c44_40.eq_1)) ∧ (type_of% (uR r44_33.eq_1)) ∧ (type_of% (uA c44_34.eq_1)) ∧ (type_of% (uA c44_38.eq_1)) ∧ (type_of% (uA c44_37.eq_1)) ∧ (type_of% (uR r44_35.eq_1)) ∧ (type_of% (uR r44_36.eq_1)) ∧ (type_of% (uR r44_39.eq_1)) ∧ (type_of% (uA c44.eq_1)) ∧ (type_of% (uR r44_0.eq_1)) ∧ (type_of% (uA c44_30.eq_1)) ∧ (type_of% (uA c44_29.eq_1)) ∧ (type_of% (uR r44_1.eq_1)) ∧ (type_of% (uA c44_28.eq_1)) ∧ (type_of% (uA c44_3.eq_1)) ∧ (type_of% (uR r44_2.eq_1)) ∧ (type_of% (uA c44_27.eq_1)) ∧ (type_of% (uR r44_4.eq_1)) ∧ (type_of% (uA c44_26.eq_1)) ∧ (type_of% (uA c44_25.eq_1)) ∧ (type_of% (uR r44_5.eq_1)) ∧ (type_of% (uA c44_23.eq_1)) ∧ (type_of% (uR r44_6.eq_1)) ∧ (type_of% (uA c44_22.eq_1)) ∧ (type_of% (uA c44_21.eq_1)) ∧ (type_of% (uR r44_24.eq_1)) ∧ (type_of% (uR r44_31.eq_1)) ∧ (type_of% (uA c44_43.eq_1)) ∧ (type_of% (uR r44_32.eq_1)) ∧ (type_of% (uA c44_42.eq_1)) ∧ (type_of% (uA c44_41.eq_1)) ∧ (type_of% (uR r44_44.eq_1)) ∧ (type_of% s44.eq_1) :=
  ⟨uA c44_40.eq_1, uR r44_33.eq_1, uA c44_34.eq_1, uA c44_38.eq_1, uA c44_37.eq_1, uR r44_35.eq_1, uR r44_36.eq_1, uR r44_39.eq_1, uA c44.eq_1, uR r44_0.eq_1, uA c44_30.eq_1, uA c44_29.eq_1, uR r44_1.eq_1, uA c44_28.eq_1, uA c44_3.eq_1, uR r44_2.eq_1, uA c44_27.eq_1, uR r44_4.eq_1, uA c44_26.eq_1, uA c44_25.eq_1, uR r44_5.eq_1, uA c44_23.eq_1, uR r44_6.eq_1, uA c44_22.eq_1, uA c44_21.eq_1, uR r44_24.eq_1, uR r44_31.eq_1, uA c44_43.eq_1, uR r44_32.eq_1, uA c44_42.eq_1, uA c44_41.eq_1, uR r44_44.eq_1, s44.eq_1⟩
set_option maxHeartbeats 1000000 in
theorem widen_loopc (ss : Int) (ns : List ByteArray) (ks : List Kd) (s' : Int) (ns' : List ByteArray) (ks' : List Kd) (ts tn : Int) (tx : ByteArray) (tns : List ByteArray) (tks outs : List Tr) (hl : outs.length = tks.length) (hn : tks.length ≤ 2000) (hW : ∀ i, i < tks.length → ∃ o, outs[i]? = some o ∧ WC ks ks' tks i o) {X : Ctx} {Q : Exit → St → Prop} {t : Nat → T} {H : HMap} {c : Nat}
    (h : inv44c ss ns ks s' ns' ks' ts tn tx tns tks outs 0 ⟨t, H, c⟩) (hQ : ∀ t H c, inv44c ss ns ks s' ns' ks' ts tn tx tns tks outs tks.length ⟨t, H, c⟩ → Q (.exit 3) ⟨t, H, c⟩) : AW Try.prog X (.loop c44_40) Q ⟨t, H, c⟩ := by
  refine AW.upto tks.length (inv44c ss ns ks s' ns' ks' ts tn tx tns tks outs) h fun i t H c hi h => ?_
  have hKI := h
  obtain ⟨⟨u3, e3, eH3⟩, ⟨u4, e4, eH4⟩, ⟨u6, e6, eH6⟩, ⟨u13, b13, e13, eH13, eHb⟩, e86, e87, e88⟩ := h
  simp only [T.c, T.i, zT] at e3 eH3 e4 eH4 e6 eH6 e13 eH13 eHb e86 e87 e88
  by_cases hlt : i < tks.length
  · have g1 : (i : Int) < tks.length := by omega
    have gz : (0 : Int) ≤ i := by omega
    have gw : IntKind.i64.wrap ((i : Int) + 1) = ((i + 1 : Nat) : Int) := wrap64 (x := (i : Int) + 1) ⟨by omega, by omega⟩
    have hlr : (encTs (outs.take i ++ tks.drop i)).length = tks.length := by rw [encTs_len, List.length_append, List.length_take, List.length_drop]; omega
    obtain ⟨o, ho, hBo, k, k', u, hk, hk', hu, hWd, hC⟩ := hW i hlt
    have ek := encKs_at hk
    have ek' := encKs_at hk'
    have eu := encTs_at hu
    have eat : (encTs (outs.take i ++ tks.drop i))[i]? = some (encT u) := encTs_at (by
      rw [List.getElem?_append_right (by rw [List.length_take]; omega), List.length_take, List.getElem?_drop]
      rw [show i + (i - min i outs.length) = i from by omega]; exact hu)
    have hnew : (outs.take i ++ tks.drop i).set i o = outs.take (i + 1) ++ tks.drop (i + 1) := by
      rw [List.set_append_right _ _ (by rw [List.length_take]; omega), List.length_take, show i - min i outs.length = 0 from by omega, List.take_add_one, ho]
      have hd : tks.drop i = u :: tks.drop (i + 1) := by
        rw [List.drop_eq_getElem_cons hlt]
        congr 1
        exact (List.getElem?_eq_some_iff.1 hu).2
      rw [hd, List.set_cons_zero]
      simp
    simp only [RUN, core, T.c, T.s, T.b, T.i, sBin, sInt, sUn, isShift, asInt, P1.cells, loadT, ptrC, storeT, putC, fillP, Nat.reduceAdd, reduceIte, Nat.reduceEqDiff, Nat.reduceLT, Nat.reduceLeDiff, reduceCtorEq, eq_self, FIT, lendCs_map, verC_map, FinC, resPs, resP, lendPl, lendCs, lendC, sealC, partsT, finHs, tupT, verT, verP, verC, verB, verAt, Blk.ver, handsAre, forall_const, CHT, disj, Nat.reduceBEq, beq_self_eq_true, APT, srcOf, sealPs, sealCs, sealC, List.mem_singleton, forall_eq, ALT, ULi_2, e3, eH3, e4, eH4, e13, eH13, e86, e87, e88, g1, gz, ek, ek', eu, Int.toNat_natCast, Int.toNat_zero, Int.le_refl, List.length_map, encK_len, takeK, encT_len, takeT, Nat.le_refl]
    refine callC hC rfl rfl (by simp [closedA, closedP, closedC]) (closed_map _) ?_
    simp only [RUN, core, T.c, T.s, T.b, T.i, sBin, sInt, sUn, isShift, asInt, P1.cells, loadT, ptrC, storeT, putC, fillP, Nat.reduceAdd, reduceIte, Nat.reduceEqDiff, Nat.reduceLT, Nat.reduceLeDiff, reduceCtorEq, eq_self, FIT, lendCs_map, verC_map, FinC, resPs, resP, lendPl, lendCs, lendC, sealC, partsT, finHs, tupT, verT, verP, verC, verB, verAt, Blk.ver, handsAre, forall_const, CHT, disj, Nat.reduceBEq, beq_self_eq_true, APT, srcOf, sealPs, sealCs, sealC, List.mem_singleton, forall_eq, ALT, ULi_2, e13, eH13, eHb, e88, g1, gz, gw, hlr, eat, Int.toNat_natCast, List.length_map, encT_len, Nat.le_refl, hnew]
    unfold inv44c
    exact ⟨hlt, ⟨u3, e3, eH3⟩, ⟨u4, e4, eH4⟩, ⟨u6, e6, eH6⟩, ⟨u13, _, e13, eH13, rfl⟩, e86, e87, rfl⟩
  · have hin : i = tks.length := by omega
    subst hin
    have g1 : ¬ ((tks.length : Nat) : Int) < tks.length := by omega
    simp only [RUN, core, T.c, T.s, T.b, T.i, sBin, sInt, sUn, isShift, asInt, P1.cells, loadT, ptrC, storeT, putC, fillP, Nat.reduceAdd, reduceIte, Nat.reduceEqDiff, Nat.reduceLT, Nat.reduceLeDiff, reduceCtorEq, eq_self, FIT, lendCs_map, verC_map, FinC, resPs, resP, lendPl, lendCs, lendC, sealC, partsT, finHs, tupT, verT, verP, verC, verB, verAt, Blk.ver, handsAre, forall_const, CHT, disj, Nat.reduceBEq, beq_self_eq_true, APT, srcOf, sealPs, sealCs, sealC, List.mem_singleton, forall_eq, ALT, ULi_2, e87, e88, g1]
    exact hQ _ _ _ hKI
end Go.V
set_option linter.unusedSimpArgs false
namespace Go.V
open Go.Proofs
theorem Fits.f_inv {ns : List ByteArray} {ks : List Kd} {ns' : List ByteArray} {ks' : List Kd} (h : Fits (.mk 5 ns ks) (.mk 5 ns' ks')) : (∀ (i : Nat) x, ns[i]? = some x → ∃ k', kid ns' ks' x = some k') ∧ (∀ (i : Nat) x k k', ns[i]? = some x → ks[i]? = some k → kid ns' ks' x = some k' → Fits k k') ∧
    ∀ (i : Nat) x (k' : Kd), ns'[i]? = some x → ks'[i]? = some k' → kid ns ks x = none → k'.sort = 6 := by
  cases h with
  | leaf _ _ _ _ _ hs => omega
  | f _ _ _ _ h1 h2 h3 => exact ⟨h1, h2, h3⟩
theorem ULj_1 : (type_of% (uA c44.eq_1)) ∧ (type_of% (uR r44_0.eq_1)) ∧ (type_of% (uA c44_30.eq_1)) ∧ (type_of% (uA c44_29.eq_1)) ∧ (type_of% (uR r44_1.eq_1)) ∧ (type_of% (uA c44_28.eq_1)) ∧ (type_of% (uA c44_3.eq_1)) ∧ (type_of% (uR r44_2.eq_1)) ∧ (type_of% (uA c44_27.eq_1)) ∧ (type_of% (uR r44_4.eq_1)) ∧ (type_of% (uA c44_26.eq_1)) ∧ (type_of% (uA c44_25.eq_1)) ∧ (type_of% (uR r44_5.eq_1)) ∧ (type_of% (uA c44_23.eq_1)) ∧ (type_of% (uR r44_6.eq_1)) ∧ (type_of% (uA c44_22.eq_1)) ∧ (type_of% (uA c44_21.eq_1)) ∧ (type_of% (uR r44_24.eq_1)) ∧ (type_of% (uR r44_31.eq_1)) ∧ (type_of% (uA c44_43.eq_1)) ∧ (type_of% (uR r44_32.eq_1)) ∧ (type_of% (uA c44_42.eq_1)) ∧ (type_of% (uA c44_41.eq_1)) ∧ (type_of% (uR r44_44.eq_1)) ∧ (type_of% s44.eq_1) :=
  ⟨uA c44.eq_1, uR r44_0.eq_1, uA c44_30.eq_1, uA c44_29.eq_1, uR r44_1.eq_1, uA c44_28.eq_1, uA c44_3.eq_1, uR r44_2.eq_1, uA c44_27.eq_1, uR r44_4.eq_1, uA c44_26.eq_1, uA c44_25.eq_1, uR r44_5.eq_1, uA c44_23.eq_1, uR r44_6.eq_1, uA c44_22.eq_1, uA c44_21.eq_1, uR r44_24.eq_1, uR r44_31.eq_1, uA c44_43.eq_1, uR r44_32.eq_1, uA c44_42.eq_1, uA c44_41.eq_1, uR r44_44.eq_1, s44.eq_1⟩
theorem ULj_2 : (type_of% (uA c44.eq_1)) ∧ (type_of% (uR r44_0.eq_1)) ∧ (type_of% (uA c44_30.eq_1)) ∧ (type_of% (uA c44_29.eq_1)) ∧ (type_of% (uR r44_1.eq_1)) ∧ (type_of% (uA c44_28.eq_1)) ∧ (type_of% (uA c44_3.eq_1)) ∧ (type_of% (uR r44_2.eq_1)) ∧ (type_of% (uA c44_27.eq_1)) ∧ (type_of% (uR r44_4.eq_1)) ∧ (type_of% (uA c44_26.eq_1)) ∧ (type_of% (uA c44_25.eq_1)) ∧ (type_of% (uR r44_5.eq_1)) ∧ (type_of% (uA c44_23.eq_1)) ∧ (type_of% (uR r44_6.eq_1)) ∧ (type_of% (uA c44_22.eq_1)) ∧ (type_of% (uA c44_21.eq_1)) ∧ (type_of% (uR r44_24.eq_1)) ∧ (type_of% (uA c44_43.eq_1)) ∧ (type_of% (uR r44_32.eq_1)) ∧ (type_of% (uA c44_42.eq_1)) ∧ (type_of% (uA c44_41.eq_1)) ∧ (type_of% (uR r44_44.eq_1)) ∧ (type_of% s44.eq_1) :=
  ⟨uA c44.eq_1, uR r44_0.eq_1, uA c44_30.eq_1, uA c44_29.eq_1, uR r44_1.eq_1, uA c44_28.eq_1, uA c44_3.eq_1, uR r44_2.eq_1, uA c44_27.eq_1, uR r44_4.eq_1, uA c44_26.eq_1, uA c44_25.eq_1, uR r44_5.eq_1, uA c44_23.eq_1, uR r44_6.eq_1, uA c44_22.eq_1, uA c44_21.eq_1, uR r44_24.eq_1, uA c44_43.eq_1, uR r44_32.eq_1, uA c44_42.eq_1, uA c44_41.eq_1, uR r44_44.eq_1, s44.eq_1⟩
set_option maxHeartbeats 2000000 in
theorem widen_ok : ∀ (b a : Kd) (t : Tr) (d d' e : Nat), KOk d a → KOk d' b → TOk e t → Fits a b → Has a t → KB 2000 a → KB 2000 b → TB 2000 t → ∃ t', Wd a b t t' ∧ TB 2000 t' ∧ ACallsF Try.prog 44 [tK a, tK b, tT t] [] (tT t') := by
  intro b
  induction b using Kd.ind with
  | _ s' ns' ks' ih =>
    intro a t d d' e hOa hOb hOt hF hH hBa hBb hBt
    obtain ⟨s, ns, ks⟩ := a
    obtain ⟨ts, tn, tx, tns, tks⟩ := t
    obtain ⟨_, hSa, hKa⟩ := hOa.inv
    obtain ⟨_, hSb, hKb⟩ := hOb.inv
    obtain ⟨_, hSt, hKt⟩ := hOt.inv
    have hSt := tshape_sh hSt
    obtain ⟨hss, hnames, hkids⟩ := hH.inv
    subst hss
    obtain ⟨a1, a2, a3, a4⟩ := hBa.inv
    obtain ⟨b1, b2, b3, b4⟩ := hBb.inv
    obtain ⟨t0, t1, t2, t3, t4⟩ := hBt.inv
    have hz0 : (⟨#[]⟩ : ByteArray).size ≤ 2000 := by decide
    have noTB : TB 2000 noT := .mk _ _ _ _ _ hz0 (by simp) (by simp) (by simp) (by simp)
    by_cases hm : s' = 6 ∧ s ≠ 6
    · obtain ⟨rfl, h6⟩ := hm
      have hl' := hSb.one (.inr rfl)
      obtain ⟨kb, hkb⟩ : ∃ k, ks'[0]? = some k := ⟨_, List.getElem?_eq_getElem (by omega)⟩
      have hmb := List.mem_of_getElem? hkb
      have ekb := encKs_at hkb
      obtain ⟨t', hW, hB', hC⟩ := ih kb hmb (.mk s ns ks) (.mk s tn tx tns tks) _ _ _ hOa (hKb kb hmb) hOt ((Fits.m_iff h6 hkb).1 hF) hH hBa (b4 kb hmb) hBt
      refine ⟨.mk 6 0 ⟨#[]⟩ [] [t'], .m _ _ _ _ _ _ _ _ h6 hkb hW, .mk _ _ _ _ _ hz0 (by simp) (by simp) (by simp) (by simpa using hB'), ACallsF.intro ok44 follows fun X c0 => ?_⟩
      have h6b : (s != 6) = true := by simp [h6]
      simp only [tK, tT, encK_mk, encT_mk, List.map_cons, List.map_nil] at hC
      simp only [RUN, core, T.c, T.s, T.b, T.i, sBin, sInt, sUn, isShift, asInt, P1.cells, loadT, ptrC, storeT, putC, fillP, Nat.reduceAdd, reduceIte, Nat.reduceEqDiff, Nat.reduceLT, Nat.reduceLeDiff, reduceCtorEq, eq_self, FIT, lendCs_map, verC_map, FinC, resPs, resP, lendPl, lendCs, lendC, sealC, partsT, finHs, tupT, verT, verP, verC, verB, verAt, Blk.ver, handsAre, forall_const, CHT, disj, Nat.reduceBEq, beq_self_eq_true, APT, srcOf, sealPs, sealCs, sealC, List.mem_singleton, forall_eq, ALT, ULj_1, encK_mk, encT_mk, Int.reduceBEq, h6b, ekb, Int.le_refl, Int.toNat_zero, List.length_map, encK_len, takeK]
      refine callC hC rfl rfl (by simp [closedA, closedP, closedC]) (closed_map _) ?_
      simp only [RUN, core, T.c, T.s, T.b, T.i, sBin, sInt, sUn, isShift, asInt, P1.cells, loadT, ptrC, storeT, putC, fillP, Nat.reduceAdd, reduceIte, Nat.reduceEqDiff, Nat.reduceLT, Nat.reduceLeDiff, reduceCtorEq, eq_self, FIT, lendCs_map, verC_map, FinC, resPs, resP, lendPl, lendCs, lendC, sealC, partsT, finHs, tupT, verT, verP, verC, verB, verAt, Blk.ver, handsAre, forall_const, CHT, disj, Nat.reduceBEq, beq_self_eq_true, APT, srcOf, sealPs, sealCs, sealC, List.mem_singleton, forall_eq, ALT, ULj_1, encT_mk, encTs_one, List.length_map, encT_len, takeT, Nat.le_refl]
    have hc : s' = 6 → s = 6 := fun h => by
      by_cases h6 : s = 6
      · exact h6
      · exact absurd ⟨h, h6⟩ hm
    have hcond : ((s' == 6) = true ∧ (s != 6) = false) ∨ (s' == 6) = false := by
      by_cases h : s' = 6
      · exact .inl ⟨beq_iff_eq.2 h, by rw [hc h]; rfl⟩
      · exact .inr (beq_eq_false_iff_ne.2 h)
    by_cases h5 : s' = 5
    · subst h5
      have hs5 : s = 5 := hF.sort_eq (by omega)
      subst hs5
      obtain ⟨f1, f2, f3⟩ := hF.f_inv
      have hn := hnames rfl
      subst hn
      have la := hSa.form rfl
      have lb := hSb.form rfl
      have lt := hSt.form rfl
      obtain ⟨outs, hlo, houts⟩ := choose_list (WF ns ks ns' ks' tks) ns'.length fun i hi => by
        obtain ⟨x, hx⟩ : ∃ x, ns'[i]? = some x := ⟨_, List.getElem?_eq_getElem hi⟩
        obtain ⟨k', hk'⟩ : ∃ k, ks'[i]? = some k := ⟨_, List.getElem?_eq_getElem (by omega)⟩
        have hmk' := List.mem_of_getElem? hk'
        obtain ⟨J, b, hb1, hb2, hCs⟩ := search_ok ns x la.2 (by omega)
        cases b with
        | true =>
          have hJ := hb1 rfl
          have hJl := (List.getElem?_eq_some_iff.1 hJ).1
          obtain ⟨k, hk⟩ : ∃ k, ks[J]? = some k := ⟨_, List.getElem?_eq_getElem (by omega)⟩
          obtain ⟨u, hu⟩ : ∃ u, tks[J]? = some u := ⟨_, List.getElem?_eq_getElem (by omega)⟩
          have hmk := List.mem_of_getElem? hk
          have hmu := List.mem_of_getElem? hu
          have hkid : kid ns' ks' x = some k' := kid_at (fun j hj e => by have := rise_inj (rise_true.1 lb.2) e hx; omega) hx hk'
          obtain ⟨o, hW, hB', hC⟩ := ih k' hmk' k u _ _ _ (hKa k hmk) (hKb k' hmk') (hKt u hmu) (f2 J x k k' hJ hk hkid) (hkids J u k hu (by rw [sel, if_pos rfl]; exact hk)) (a4 k hmk) (b4 k' hmk') (t4 u hmu)
          exact ⟨o, hB', x, k', J, true, hx, hk', hCs, .inl ⟨rfl, k, u, hJ, hk, hu, hW, hC⟩⟩
        | false => exact ⟨noT, noTB, x, k', J, false, hx, hk', hCs, .inr ⟨rfl, hb2 rfl, rfl⟩⟩
      refine ⟨.mk 5 0 ⟨#[]⟩ ns' outs, .f _ _ _ _ _ _ _ _ _ _ _ hlo (fun i j x o k k' u hx ho hj hk hk' hu => ?_) (fun i x o hx ho hno => ?_), .mk _ _ _ _ _ hz0 b1 (by omega) b3 (all_of hlo fun i hi => by obtain ⟨o, h1, h2⟩ := houts i hi; exact ⟨o, h1, h2.1⟩), ACallsF.intro ok44 follows fun X c0 => ?_⟩
      · obtain ⟨o', ho', _, x2, k2, J, b, hx2, hk2, _, hcase⟩ := houts i (List.getElem?_eq_some_iff.1 hx).1
        rw [ho] at ho'; rw [hx] at hx2; rw [hk'] at hk2
        cases ho'; cases hx2; cases hk2
        rcases hcase with ⟨_, k3, u3, hJ, hk3, hu3, hW, _⟩ | ⟨_, hno, _⟩
        · have := rise_inj (rise_true.1 la.2) hj hJ
          subst this
          rw [hk] at hk3; rw [hu] at hu3; cases hk3; cases hu3
          exact hW
        · exact absurd hj (hno j)
      · obtain ⟨o', ho', _, x2, k2, J, b, hx2, hk2, _, hcase⟩ := houts i (List.getElem?_eq_some_iff.1 hx).1
        rw [ho] at ho'; rw [hx] at hx2
        cases ho'; cases hx2
        rcases hcase with ⟨_, k3, u3, hJ, _⟩ | ⟨_, _, h⟩
        · exact absurd hJ (hno J)
        · exact h
      simp only [RUN, core, T.c, T.s, T.b, T.i, sBin, sInt, sUn, isShift, asInt, P1.cells, loadT, ptrC, storeT, putC, fillP, Nat.reduceAdd, reduceIte, Nat.reduceEqDiff, Nat.reduceLT, Nat.reduceLeDiff, reduceCtorEq, eq_self, FIT, lendCs_map, verC_map, FinC, resPs, resP, lendPl, lendCs, lendC, sealC, partsT, finHs, tupT, verT, verP, verC, verB, verAt, Blk.ver, handsAre, forall_const, CHT, disj, Nat.reduceBEq, beq_self_eq_true, APT, srcOf, sealPs, sealCs, sealC, List.mem_singleton, forall_eq, ALT, ULj_1, encK_mk, encT_mk, Int.reduceBEq]
      refine callC (clone_ok ns' (by omega)) rfl rfl rfl rfl ?_
      simp only [RUN, core, T.c, T.s, T.b, T.i, sBin, sInt, sUn, isShift, asInt, P1.cells, loadT, ptrC, storeT, putC, fillP, Nat.reduceAdd, reduceIte, Nat.reduceEqDiff, Nat.reduceLT, Nat.reduceLeDiff, reduceCtorEq, eq_self, FIT, lendCs_map, verC_map, FinC, resPs, resP, lendPl, lendCs, lendC, sealC, partsT, finHs, tupT, verT, verP, verC, verB, verAt, Blk.ver, handsAre, forall_const, CHT, disj, Nat.reduceBEq, beq_self_eq_true, APT, srcOf, sealPs, sealCs, sealC, List.mem_singleton, forall_eq, ALT, ULj_1, encS_len]
      refine AW.reify 7 4 2004 5 29 rfl rfl rfl (by decide) ?_
      refine widen_loopf 5 ns ks ns' ks' 5 tn tx ns tks outs hlo (by omega) houts ?_ fun t H c h => ?_
      · unfold inv44f
        exact ⟨⟨_, rfl, rfl⟩, ⟨_, rfl, rfl⟩, ⟨_, rfl, rfl⟩, ⟨_, rfl, rfl⟩, ⟨_, _, rfl, rfl, rfl⟩, rfl, rfl, rfl⟩
      obtain ⟨⟨u3, e3, eH3⟩, ⟨u4, e4, eH4⟩, ⟨u5, e5, eH5⟩, ⟨u6, e6, eH6⟩, ⟨u7, b7, e7, eH7, eHb⟩, e43, e44, e45⟩ := h
      rw [show outs.take ns'.length = outs from by rw [← hlo, List.take_length]] at eHb
      simp only [T.c, T.i, zT] at e6 eH6 e7 eH7 eHb
      have htk : List.take ns'.length (encTs outs) = encTs outs := by rw [← hlo]; exact take_encTs outs
      have hle : ns'.length ≤ (encTs outs).length := by rw [encTs_len]; omega
      simp only [RUN, core, T.c, T.s, T.b, T.i, sBin, sInt, sUn, isShift, asInt, P1.cells, loadT, ptrC, storeT, putC, fillP, Nat.reduceAdd, reduceIte, Nat.reduceEqDiff, Nat.reduceLT, Nat.reduceLeDiff, reduceCtorEq, eq_self, FIT, lendCs_map, verC_map, FinC, resPs, resP, lendPl, lendCs, lendC, sealC, partsT, finHs, tupT, verT, verP, verC, verB, verAt, Blk.ver, handsAre, forall_const, CHT, disj, Nat.reduceBEq, beq_self_eq_true, APT, srcOf, sealPs, sealCs, sealC, List.mem_singleton, forall_eq, ALT, ULj_1, e6, eH6, e7, eH7, eHb, encT_mk, htk, hle]
    · have h5b : (s' == 5) = false := beq_eq_false_iff_ne.2 h5
      have hkid0 : ∀ i, i < tks.length → ∃ k k' u, ks[0]? = some k ∧ ks'[0]? = some k' ∧ tks[i]? = some u ∧ Fits k k' ∧ Has k u := by
        intro i hi
        obtain ⟨u, hu⟩ : ∃ u, tks[i]? = some u := ⟨_, List.getElem?_eq_getElem hi⟩
        have hs5 : s ≠ 5 := fun h => by
          subst h
          by_cases h6' : s' = 6
          · have := hc h6'; omega
          · exact h5 (hF.sort_eq h6').symm
        have hs4 : ¬ s < 4 := fun h => by have := hSt.leaf h; omega
        have h46 : s = 4 ∨ s = 6 := by have := hSa.hi; omega
        have la := hSa.one h46
        obtain ⟨k, hk⟩ : ∃ k, ks[0]? = some k := ⟨_, List.getElem?_eq_getElem (by omega)⟩
        have hHk := hkids i u k hu (by rw [sel, if_neg hs5]; exact hk)
        by_cases h6' : s' = 6
        · have h6 := hc h6'
          subst h6 h6'
          have lb := hSb.one (.inr rfl)
          obtain ⟨k', hk'⟩ : ∃ k, ks'[0]? = some k := ⟨_, List.getElem?_eq_getElem (by omega)⟩
          exact ⟨k, k', u, hk, hk', hu, (Fits.mm_iff hk hk').1 hF, hHk⟩
        · have hse := hF.sort_eq h6'
          subst hse
          have h4 : s = 4 := by omega
          subst h4
          have lb := hSb.one (.inl rfl)
          obtain ⟨k', hk'⟩ : ∃ k, ks'[0]? = some k := ⟨_, List.getElem?_eq_getElem (by omega)⟩
          exact ⟨k, k', u, hk, hk', hu, (Fits.l_iff hk hk').1 hF, hHk⟩
      obtain ⟨outs, hlo, houts⟩ := choose_list (WC ks ks' tks) tks.length fun i hi => by
        obtain ⟨k, k', u, hk, hk', hu, hFk, hHk⟩ := hkid0 i hi
        have hmk := List.mem_of_getElem? hk
        have hmk' := List.mem_of_getElem? hk'
        have hmu := List.mem_of_getElem? hu
        obtain ⟨o, hW, hB', hC⟩ := ih k' hmk' k u _ _ _ (hKa k hmk) (hKb k' hmk') (hKt u hmu) hFk hHk (a4 k hmk) (b4 k' hmk') (t4 u hmu)
        exact ⟨o, hB', k, k', u, hk, hk', hu, hW, hC⟩
      refine ⟨.mk s tn tx tns outs, .c _ _ _ _ _ _ _ _ _ _ _ _ h5 hc hlo (fun i u o k k' hu ho hk hk' => ?_), .mk _ _ _ _ _ t0 t1 (by omega) t3 (all_of hlo fun i hi => by obtain ⟨o, h1, h2⟩ := houts i hi; exact ⟨o, h1, h2.1⟩), ACallsF.intro ok44 follows fun X c0 => ?_⟩
      · obtain ⟨o', ho', _, k2, k2', u2, hk2, hk2', hu2, hW, _⟩ := houts i (List.getElem?_eq_some_iff.1 hu).1
        rw [ho] at ho'; rw [hk] at hk2; rw [hk'] at hk2'; rw [hu] at hu2
        cases ho'; cases hk2; cases hk2'; cases hu2
        exact hW
      have hCt := cloneT_ok (.mk s tn tx tns tks) (hBt.le (by omega)) _ _ _ _ _ rfl 3004
      simp only [tT, encT_mk, List.map_cons, List.map_nil] at hCt
      have tail : ∀ (X : Ctx) (t : Nat → T) (H : HMap) (c : Nat), (∃ u, t 3 = .c (.ptr 3 u 0) ∧ H 3 = some (.var u 26 [.v (.s (.int .i64 s)), .v (.sl (encS ns)), .v (.sl (encKs ks))])) → (∃ u, t 4 = .c (.ptr 4 u 0) ∧ H 4 = some (.var u 26 [.v (.s (.int .i64 s')), .v (.sl (encS ns')), .v (.sl (encKs ks'))])) →
          (∃ u, t 5 = .c (.ptr 5 u 0) ∧ H 5 = some (.var u 29 [.v (.s (.int .i64 s)), .v (.s (.int .i64 tn)), .v (.s (.string tx)), .v (.sl (encS tns)), .v (.sl (encTs tks))])) → (∃ u, t 6 = .c (.ptr 6 u 0) ∧ H 6 = some (.var u 29 zT)) →
          DRun Try.prog r44_31 [] (Kont (thenW Try.prog X (.seq c44_43 (.seq (.reg r44_44) .ret)) (endA (FinC s44 (tT (.mk s tn tx tns outs)) []))) r44_31) ⟨t, H, c⟩ := by
        rintro X t H c ⟨u3, e3, eH3⟩ ⟨u4, e4, eH4⟩ ⟨u5, e5, eH5⟩ ⟨u6, e6, eH6⟩
        simp only [T.c, T.i, zT] at e3 eH3 e4 eH4 e5 eH5 e6 eH6
        simp only [RUN, core, T.c, T.s, T.b, T.i, sBin, sInt, sUn, isShift, asInt, P1.cells, loadT, ptrC, storeT, putC, fillP, Nat.reduceAdd, reduceIte, Nat.reduceEqDiff, Nat.reduceLT, Nat.reduceLeDiff, reduceCtorEq, eq_self, FIT, lendCs_map, verC_map, FinC, resPs, resP, lendPl, lendCs, lendC, sealC, partsT, finHs, tupT, verT, verP, verC, verB, verAt, Blk.ver, handsAre, forall_const, CHT, disj, Nat.reduceBEq, beq_self_eq_true, APT, srcOf, sealPs, sealCs, sealC, List.mem_singleton, forall_eq, ALT, ULj_1, e5, eH5]
        refine callO hCt rfl rfl (by simp [closedA, closedP, closedC]) ⟨rfl, ?_⟩
        simp only [RUN, core, T.c, T.s, T.b, T.i, sBin, sInt, sUn, isShift, asInt, P1.cells, loadT, ptrC, storeT, putC, fillP, Nat.reduceAdd, reduceIte, Nat.reduceEqDiff, Nat.reduceLT, Nat.reduceLeDiff, reduceCtorEq, eq_self, FIT, lendCs_map, verC_map, FinC, resPs, resP, lendPl, lendCs, lendC, sealC, partsT, finHs, tupT, verT, verP, verC, verB, verAt, Blk.ver, handsAre, forall_const, CHT, disj, Nat.reduceBEq, beq_self_eq_true, APT, srcOf, sealPs, sealCs, sealC, List.mem_singleton, forall_eq, ALT, ULj_1, e5, eH5, encTs_len]
        refine widen_loopc s ns ks s' ns' ks' s tn tx tns tks outs hlo t2 houts ?_ fun t H c h => ?_
        · unfold inv44c
          exact ⟨⟨u3, e3, eH3⟩, ⟨u4, e4, eH4⟩, ⟨u6, e6, eH6⟩, ⟨_, _, rfl, rfl, by simp; rfl⟩, rfl, rfl, rfl⟩
        clear e3 eH3 e4 eH4 e5 eH5 e6 eH6
        obtain ⟨⟨u3, e3, eH3⟩, ⟨u4, e4, eH4⟩, ⟨u6, e6, eH6⟩, ⟨u13, b13, e13, eH13, eHb⟩, e86, e87, e88⟩ := h
        rw [show outs.take tks.length ++ tks.drop tks.length = outs from by rw [← hlo, List.take_length, hlo, List.drop_length, List.append_nil]] at eHb
        simp only [T.c, T.i, zT] at e6 eH6 e13 eH13 eHb
        have htk : List.take tks.length (encTs outs) = encTs outs := by rw [← hlo]; exact take_encTs outs
        have hle : tks.length ≤ (encTs outs).length := by rw [encTs_len]; omega
        simp only [RUN, core, T.c, T.s, T.b, T.i, sBin, sInt, sUn, isShift, asInt, P1.cells, loadT, ptrC, storeT, putC, fillP, Nat.reduceAdd, reduceIte, Nat.reduceEqDiff, Nat.reduceLT, Nat.reduceLeDiff, reduceCtorEq, eq_self, FIT, lendCs_map, verC_map, FinC, resPs, resP, lendPl, lendCs, lendC, sealC, partsT, finHs, tupT, verT, verP, verC, verB, verAt, Blk.ver, handsAre, forall_const, CHT, disj, Nat.reduceBEq, beq_self_eq_true, APT, srcOf, sealPs, sealCs, sealC, List.mem_singleton, forall_eq, ALT, ULj_1, e6, eH6, e13, eH13, eHb, encT_mk, htk, hle]
      rcases hcond with ⟨h6b, h6b2⟩ | h6b
      · simp only [RUN, core, T.c, T.s, T.b, T.i, sBin, sInt, sUn, isShift, asInt, P1.cells, loadT, ptrC, storeT, putC, fillP, Nat.reduceAdd, reduceIte, Nat.reduceEqDiff, Nat.reduceLT, Nat.reduceLeDiff, reduceCtorEq, eq_self, FIT, lendCs_map, verC_map, FinC, resPs, resP, lendPl, lendCs, lendC, sealC, partsT, finHs, tupT, verT, verP, verC, verB, verAt, Blk.ver, handsAre, forall_const, CHT, disj, Nat.reduceBEq, beq_self_eq_true, APT, srcOf, sealPs, sealCs, sealC, List.mem_singleton, forall_eq, ALT, ULj_2, encK_mk, encT_mk, h6b, h6b2, h5b]
        exact tail X _ _ _ ⟨_, rfl, rfl⟩ ⟨_, rfl, rfl⟩ ⟨_, rfl, rfl⟩ ⟨_, rfl, rfl⟩
      · simp only [RUN, core, T.c, T.s, T.b, T.i, sBin, sInt, sUn, isShift, asInt, P1.cells, loadT, ptrC, storeT, putC, fillP, Nat.reduceAdd, reduceIte, Nat.reduceEqDiff, Nat.reduceLT, Nat.reduceLeDiff, reduceCtorEq, eq_self, FIT, lendCs_map, verC_map, FinC, resPs, resP, lendPl, lendCs, lendC, sealC, partsT, finHs, tupT, verT, verP, verC, verB, verAt, Blk.ver, handsAre, forall_const, CHT, disj, Nat.reduceBEq, beq_self_eq_true, APT, srcOf, sealPs, sealCs, sealC, List.mem_singleton, forall_eq, ALT, ULj_2, encK_mk, encT_mk, h6b, h5b]
        exact tail X _ _ _ ⟨_, rfl, rfl⟩ ⟨_, rfl, rfl⟩ ⟨_, rfl, rfl⟩ ⟨_, rfl, rfl⟩
end Go.V
set_option linter.unusedSimpArgs false
namespace Go.V
open Go.Proofs
abbrev z0T : Tr := .mk 0 0 ⟨#[]⟩ [] []
theorem enc_z0T : encT z0T = [.s (.int .i64 0), .s (.int .i64 0), .s (.string ⟨#[]⟩), .sl [], .sl []] := by rw [encT_mk, encS_nil, encTs_nil]
theorem z0T_TB : TB 2000 z0T := .mk _ _ _ _ _ (by decide) (by simp) (by simp) (by simp) (by simp)
/-- What KindWiden tells. -/
def KW (a b : Kd) (t t' : Tr) (ok : Bool) : Prop :=
  (∃ w, okK a = true ∧ okK b = true ∧ Fits a b ∧ okT t = true ∧ Has a t ∧ Wd a b t w ∧ ((okT w = true ∧ ok = true ∧ t' = w) ∨ (okT w = false ∧ ok = false ∧ t' = z0T))) ∨
  (¬ (okK a = true ∧ okK b = true ∧ Fits a b ∧ okT t = true ∧ Has a t) ∧ ok = false ∧ t' = z0T)
abbrev tTB (t : Tr) (b : Bool) : T := .tup [.agg ((encT t).map .v), .one (.v (.s (.bool b)))]
/- loop.example/teagle/impl.KindWiden -/
def r12_0 : List AOper := [ao 0 3 (.box 26 (.t 0)),
  ao 1 4 (.box 26 (.t 1)),
  ao 2 5 (.box 29 (.t 2)),
  ao 3 6 (.alloc 29 [(.v (.s (.int .i64 0))), (.v (.s (.int .i64 0))), (.v (.s (.string ⟨#[]⟩))), .nil0, .nil0]),
  ao 4 7 (.mv (.k (.b false)))]
def r12_1 : List AOper := [ao 0 9 (.ld 3 true (.t 3)),
  ao 1 10 (.ld 3 true (.t 4)),
  ao 2 11 (.call (.k (.c (.fn 11 []))) [(.t 9), (.t 10)]),
  ao 3 12 (.un .not (.t 11)),
  ao 4 13 (.mv (.t 12)),
  ag 5 14 13 false [] (.ld 3 true (.t 3)),
  ag 6 15 13 false [] (.ld 5 true (.t 5)),
  ag 7 16 13 false [] (.call (.k (.c (.fn 26 []))) [(.t 14), (.t 15)]),
  ag 8 17 13 false [] (.un .not (.t 16)),
  ao 9 18 (.pick (.t 13) (.k (.b true)) (.t 17))]
def r12_2 : List AOper := [ao 0 19 (.build [(.v (.s (.int .i64 0))), (.v (.s (.int .i64 0))), (.v (.s (.string ⟨#[]⟩))), .nil0, .nil0] []),
  an 1 (.st 5 (.t 6) (.t 19)),
  ao 2 7 (.mv (.k (.b false)))]
def c12_3 : ACode := .seq (.reg r12_2) .ret
def c12_4 : ACode := .cond (.t 18) c12_3 .skip
def c12_5 : ACode := .seq (.reg r12_1) c12_4
def r12_6 : List AOper := [ao 0 20 (.ld 3 true (.t 3)),
  ao 1 21 (.ld 3 true (.t 4)),
  ao 2 22 (.ld 5 true (.t 5)),
  ao 3 23 (.call (.k (.c (.fn 44 []))) [(.t 20), (.t 21), (.t 22)]),
  ao 4 8 (.alloc 29 [(.v (.s (.int .i64 0))), (.v (.s (.int .i64 0))), (.v (.s (.string ⟨#[]⟩))), .nil0, .nil0]),
  an 5 (.st 5 (.t 8) (.t 23))]
def r12_7 : List AOper := [ao 0 24 (.ld 5 true (.t 8)),
  ao 1 25 (.call (.k (.c (.fn 45 []))) [(.t 24)]),
  ao 2 26 (.un .not (.t 25))]
def r12_8 : List AOper := [ao 0 27 (.build [(.v (.s (.int .i64 0))), (.v (.s (.int .i64 0))), (.v (.s (.string ⟨#[]⟩))), .nil0, .nil0] []),
  an 1 (.st 5 (.t 6) (.t 27)),
  ao 2 7 (.mv (.k (.b false)))]
def c12_9 : ACode := .seq (.reg r12_8) .ret
def c12_10 : ACode := .cond (.t 26) c12_9 .skip
def c12_11 : ACode := .seq (.reg r12_7) c12_10
def r12_12 : List AOper := [ao 0 28 (.ld 5 true (.t 8)),
  an 1 (.st 5 (.t 6) (.t 28)),
  ao 2 7 (.mv (.k (.b true)))]
def c12 : ACode := .seq (.reg r12_0) (.seq c12_5 (.seq (.reg r12_6) (.seq c12_11 (.seq (.reg r12_12) .ret))))
def s12 : List ARes := [.cell 6 5 true, .tmp 7]
theorem ok12 : okF Try.prog 12 29 c12 s12 := ⟨Try.f12, Try.func12, Try.ntmps12, by kernel_rfl, by kernel_rfl, by kernel_rfl⟩
theorem ULk_1 : (type_of% (uA c12.eq_1)) ∧ (type_of% (uR r12_0.eq_1)) ∧ (type_of% (uA c12_5.eq_1)) ∧ (type_of% (uR r12_1.eq_1)) ∧ (type_of% (uA c12_4.eq_1)) ∧ (type_of% (uA c12_3.eq_1)) ∧ (type_of% (uR r12_2.eq_1)) ∧ (type_of% (uR r12_6.eq_1)) ∧ (type_of% (uA c12_11.eq_1)) ∧ (type_of% (uR r12_7.eq_1)) ∧ (type_of% (uA c12_10.eq_1)) ∧ (type_of% (uA c12_9.eq_1)) ∧ (type_of% (uR r12_8.eq_1)) ∧ (type_of% (uR r12_12.eq_1)) ∧ (type_of% s12.eq_1) :=
  ⟨uA c12.eq_1, uR r12_0.eq_1, uA c12_5.eq_1, uR r12_1.eq_1, uA c12_4.eq_1, uA c12_3.eq_1, uR r12_2.eq_1, uR r12_6.eq_1, uA c12_11.eq_1, uR r12_7.eq_1, uA c12_10.eq_1, uA c12_9.eq_1, uR r12_8.eq_1, uR r12_12.eq_1, s12.eq_1⟩
theorem kindWiden_ok (a b : Kd) (t : Tr) (ha : KB 2000 a) (hb : KB 2000 b) (ht : TB 2000 t) : ∃ t' ok, KW a b t t' ok ∧ TB 2000 t' ∧ ACallsF Try.prog 12 [tK a, tK b, tT t] [] (tTB t' ok) := by
  have hCf := kindFitsI_ok a b ha hb
  by_cases h1 : (okK a && (okK b && fits a b)) = true
  · have hCh := kindHas_ok a t ha (ht.le (by omega))
    by_cases h2 : (okK a && (okT t && has a t)) = true
    · have h1' := h1
      have h2' := h2
      simp only [Bool.and_eq_true] at h1' h2'
      have hF := fits_true.1 h1'.2.2
      have hH := has_true.1 h2'.2.2
      obtain ⟨w, hW, hBw, hC⟩ := widen_ok b a t 1 1 1 (okK_true.1 h1'.1).1 (okK_true.1 h1'.2.1).1 (okT_true.1 h2'.2.1).1 hF hH ha hb ht
      have hCo := treeOk_ok w (hBw.le (by omega))
      cases hok : okT w with
      | true =>
        refine ⟨w, true, .inl ⟨w, h1'.1, h1'.2.1, hF, h2'.2.1, hH, hW, .inl ⟨hok, rfl, rfl⟩⟩, hBw, ACallsF.intro ok12 follows fun X c0 => ?_⟩
        simp only [RUN, core, T.c, T.s, T.b, T.i, sBin, sInt, sUn, isShift, asInt, P1.cells, loadT, ptrC, storeT, putC, fillP, Nat.reduceAdd, reduceIte, Nat.reduceEqDiff, Nat.reduceLT, Nat.reduceLeDiff, reduceCtorEq, eq_self, FIT, lendCs_map, verC_map, FinC, resPs, resP, lendPl, lendCs, lendC, sealC, partsT, finHs, tupT, verT, verP, verC, verB, verAt, Blk.ver, handsAre, forall_const, CHT, disj, Nat.reduceBEq, beq_self_eq_true, APT, srcOf, sealPs, sealCs, sealC, List.mem_singleton, forall_eq, ALT, ULk_1, List.length_map, encK_len, takeK, encT_len, takeT, Nat.le_refl]
        refine callC hCf rfl rfl (by simp [closedA, closedP, closedC]) rfl ?_
        simp only [RUN, core, T.c, T.s, T.b, T.i, sBin, sInt, sUn, isShift, asInt, P1.cells, loadT, ptrC, storeT, putC, fillP, Nat.reduceAdd, reduceIte, Nat.reduceEqDiff, Nat.reduceLT, Nat.reduceLeDiff, reduceCtorEq, eq_self, FIT, lendCs_map, verC_map, FinC, resPs, resP, lendPl, lendCs, lendC, sealC, partsT, finHs, tupT, verT, verP, verC, verB, verAt, Blk.ver, handsAre, forall_const, CHT, disj, Nat.reduceBEq, beq_self_eq_true, APT, srcOf, sealPs, sealCs, sealC, List.mem_singleton, forall_eq, ALT, ULk_1, h1, List.length_map, encK_len, takeK, encT_len, takeT, Nat.le_refl]
        refine callC hCh rfl rfl (by simp [closedA, closedP, closedC]) rfl ?_
        simp only [RUN, core, T.c, T.s, T.b, T.i, sBin, sInt, sUn, isShift, asInt, P1.cells, loadT, ptrC, storeT, putC, fillP, Nat.reduceAdd, reduceIte, Nat.reduceEqDiff, Nat.reduceLT, Nat.reduceLeDiff, reduceCtorEq, eq_self, FIT, lendCs_map, verC_map, FinC, resPs, resP, lendPl, lendCs, lendC, sealC, partsT, finHs, tupT, verT, verP, verC, verB, verAt, Blk.ver, handsAre, forall_const, CHT, disj, Nat.reduceBEq, beq_self_eq_true, APT, srcOf, sealPs, sealCs, sealC, List.mem_singleton, forall_eq, ALT, ULk_1, h2, List.length_map, encK_len, takeK, encT_len, takeT, Nat.le_refl]
        refine callC hC rfl rfl (by simp [closedA, closedP, closedC]) (closed_map _) ?_
        simp only [RUN, core, T.c, T.s, T.b, T.i, sBin, sInt, sUn, isShift, asInt, P1.cells, loadT, ptrC, storeT, putC, fillP, Nat.reduceAdd, reduceIte, Nat.reduceEqDiff, Nat.reduceLT, Nat.reduceLeDiff, reduceCtorEq, eq_self, FIT, lendCs_map, verC_map, FinC, resPs, resP, lendPl, lendCs, lendC, sealC, partsT, finHs, tupT, verT, verP, verC, verB, verAt, Blk.ver, handsAre, forall_const, CHT, disj, Nat.reduceBEq, beq_self_eq_true, APT, srcOf, sealPs, sealCs, sealC, List.mem_singleton, forall_eq, ALT, ULk_1, List.length_map, encT_len, takeT, Nat.le_refl]
        refine callC hCo rfl rfl (by simp [closedA, closedP, closedC]) rfl ?_
        simp only [RUN, core, T.c, T.s, T.b, T.i, sBin, sInt, sUn, isShift, asInt, P1.cells, loadT, ptrC, storeT, putC, fillP, Nat.reduceAdd, reduceIte, Nat.reduceEqDiff, Nat.reduceLT, Nat.reduceLeDiff, reduceCtorEq, eq_self, FIT, lendCs_map, verC_map, FinC, resPs, resP, lendPl, lendCs, lendC, sealC, partsT, finHs, tupT, verT, verP, verC, verB, verAt, Blk.ver, handsAre, forall_const, CHT, disj, Nat.reduceBEq, beq_self_eq_true, APT, srcOf, sealPs, sealCs, sealC, List.mem_singleton, forall_eq, ALT, ULk_1, hok, List.length_map, encT_len, takeT, Nat.le_refl]
      | false =>
        refine ⟨z0T, false, .inl ⟨w, h1'.1, h1'.2.1, hF, h2'.2.1, hH, hW, .inr ⟨hok, rfl, rfl⟩⟩, z0T_TB, ACallsF.intro ok12 follows fun X c0 => ?_⟩
        simp only [RUN, core, T.c, T.s, T.b, T.i, sBin, sInt, sUn, isShift, asInt, P1.cells, loadT, ptrC, storeT, putC, fillP, Nat.reduceAdd, reduceIte, Nat.reduceEqDiff, Nat.reduceLT, Nat.reduceLeDiff, reduceCtorEq, eq_self, FIT, lendCs_map, verC_map, FinC, resPs, resP, lendPl, lendCs, lendC, sealC, partsT, finHs, tupT, verT, verP, verC, verB, verAt, Blk.ver, handsAre, forall_const, CHT, disj, Nat.reduceBEq, beq_self_eq_true, APT, srcOf, sealPs, sealCs, sealC, List.mem_singleton, forall_eq, ALT, ULk_1, List.length_map, encK_len, takeK, encT_len, takeT, Nat.le_refl]
        refine callC hCf rfl rfl (by simp [closedA, closedP, closedC]) rfl ?_
        simp only [RUN, core, T.c, T.s, T.b, T.i, sBin, sInt, sUn, isShift, asInt, P1.cells, loadT, ptrC, storeT, putC, fillP, Nat.reduceAdd, reduceIte, Nat.reduceEqDiff, Nat.reduceLT, Nat.reduceLeDiff, reduceCtorEq, eq_self, FIT, lendCs_map, verC_map, FinC, resPs, resP, lendPl, lendCs, lendC, sealC, partsT, finHs, tupT, verT, verP, verC, verB, verAt, Blk.ver, handsAre, forall_const, CHT, disj, Nat.reduceBEq, beq_self_eq_true, APT, srcOf, sealPs, sealCs, sealC, List.mem_singleton, forall_eq, ALT, ULk_1, h1, List.length_map, encK_len, takeK, encT_len, takeT, Nat.le_refl]
        refine callC hCh rfl rfl (by simp [closedA, closedP, closedC]) rfl ?_
        simp only [RUN, core, T.c, T.s, T.b, T.i, sBin, sInt, sUn, isShift, asInt, P1.cells, loadT, ptrC, storeT, putC, fillP, Nat.reduceAdd, reduceIte, Nat.reduceEqDiff, Nat.reduceLT, Nat.reduceLeDiff, reduceCtorEq, eq_self, FIT, lendCs_map, verC_map, FinC, resPs, resP, lendPl, lendCs, lendC, sealC, partsT, finHs, tupT, verT, verP, verC, verB, verAt, Blk.ver, handsAre, forall_const, CHT, disj, Nat.reduceBEq, beq_self_eq_true, APT, srcOf, sealPs, sealCs, sealC, List.mem_singleton, forall_eq, ALT, ULk_1, h2, List.length_map, encK_len, takeK, encT_len, takeT, Nat.le_refl]
        refine callC hC rfl rfl (by simp [closedA, closedP, closedC]) (closed_map _) ?_
        simp only [RUN, core, T.c, T.s, T.b, T.i, sBin, sInt, sUn, isShift, asInt, P1.cells, loadT, ptrC, storeT, putC, fillP, Nat.reduceAdd, reduceIte, Nat.reduceEqDiff, Nat.reduceLT, Nat.reduceLeDiff, reduceCtorEq, eq_self, FIT, lendCs_map, verC_map, FinC, resPs, resP, lendPl, lendCs, lendC, sealC, partsT, finHs, tupT, verT, verP, verC, verB, verAt, Blk.ver, handsAre, forall_const, CHT, disj, Nat.reduceBEq, beq_self_eq_true, APT, srcOf, sealPs, sealCs, sealC, List.mem_singleton, forall_eq, ALT, ULk_1, List.length_map, encT_len, takeT, Nat.le_refl]
        refine callC hCo rfl rfl (by simp [closedA, closedP, closedC]) rfl ?_
        simp only [RUN, core, T.c, T.s, T.b, T.i, sBin, sInt, sUn, isShift, asInt, P1.cells, loadT, ptrC, storeT, putC, fillP, Nat.reduceAdd, reduceIte, Nat.reduceEqDiff, Nat.reduceLT, Nat.reduceLeDiff, reduceCtorEq, eq_self, FIT, lendCs_map, verC_map, FinC, resPs, resP, lendPl, lendCs, lendC, sealC, partsT, finHs, tupT, verT, verP, verC, verB, verAt, Blk.ver, handsAre, forall_const, CHT, disj, Nat.reduceBEq, beq_self_eq_true, APT, srcOf, sealPs, sealCs, sealC, List.mem_singleton, forall_eq, ALT, ULk_1, hok, encT_mk]
    · refine ⟨z0T, false, .inr ⟨fun h => h2 ?_, rfl, rfl⟩, z0T_TB, ACallsF.intro ok12 follows fun X c0 => ?_⟩
      · simp only [h.1, h.2.2.2.1, has_true.2 h.2.2.2.2, Bool.and_self]
      have h2 : (okK a && (okT t && has a t)) = false := by simpa using h2
      simp only [RUN, core, T.c, T.s, T.b, T.i, sBin, sInt, sUn, isShift, asInt, P1.cells, loadT, ptrC, storeT, putC, fillP, Nat.reduceAdd, reduceIte, Nat.reduceEqDiff, Nat.reduceLT, Nat.reduceLeDiff, reduceCtorEq, eq_self, FIT, lendCs_map, verC_map, FinC, resPs, resP, lendPl, lendCs, lendC, sealC, partsT, finHs, tupT, verT, verP, verC, verB, verAt, Blk.ver, handsAre, forall_const, CHT, disj, Nat.reduceBEq, beq_self_eq_true, APT, srcOf, sealPs, sealCs, sealC, List.mem_singleton, forall_eq, ALT, ULk_1, List.length_map, encK_len, takeK, encT_len, takeT, Nat.le_refl]
      refine callC hCf rfl rfl (by simp [closedA, closedP, closedC]) rfl ?_
      simp only [RUN, core, T.c, T.s, T.b, T.i, sBin, sInt, sUn, isShift, asInt, P1.cells, loadT, ptrC, storeT, putC, fillP, Nat.reduceAdd, reduceIte, Nat.reduceEqDiff, Nat.reduceLT, Nat.reduceLeDiff, reduceCtorEq, eq_self, FIT, lendCs_map, verC_map, FinC, resPs, resP, lendPl, lendCs, lendC, sealC, partsT, finHs, tupT, verT, verP, verC, verB, verAt, Blk.ver, handsAre, forall_const, CHT, disj, Nat.reduceBEq, beq_self_eq_true, APT, srcOf, sealPs, sealCs, sealC, List.mem_singleton, forall_eq, ALT, ULk_1, h1, List.length_map, encK_len, takeK, encT_len, takeT, Nat.le_refl]
      refine callC hCh rfl rfl (by simp [closedA, closedP, closedC]) rfl ?_
      simp only [RUN, core, T.c, T.s, T.b, T.i, sBin, sInt, sUn, isShift, asInt, P1.cells, loadT, ptrC, storeT, putC, fillP, Nat.reduceAdd, reduceIte, Nat.reduceEqDiff, Nat.reduceLT, Nat.reduceLeDiff, reduceCtorEq, eq_self, FIT, lendCs_map, verC_map, FinC, resPs, resP, lendPl, lendCs, lendC, sealC, partsT, finHs, tupT, verT, verP, verC, verB, verAt, Blk.ver, handsAre, forall_const, CHT, disj, Nat.reduceBEq, beq_self_eq_true, APT, srcOf, sealPs, sealCs, sealC, List.mem_singleton, forall_eq, ALT, ULk_1, h2, encT_mk]
  · refine ⟨z0T, false, .inr ⟨fun h => h1 ?_, rfl, rfl⟩, z0T_TB, ACallsF.intro ok12 follows fun X c0 => ?_⟩
    · simp only [h.1, h.2.1, fits_true.2 h.2.2.1, Bool.and_self]
    have h1 : (okK a && (okK b && fits a b)) = false := by simpa using h1
    simp only [RUN, core, T.c, T.s, T.b, T.i, sBin, sInt, sUn, isShift, asInt, P1.cells, loadT, ptrC, storeT, putC, fillP, Nat.reduceAdd, reduceIte, Nat.reduceEqDiff, Nat.reduceLT, Nat.reduceLeDiff, reduceCtorEq, eq_self, FIT, lendCs_map, verC_map, FinC, resPs, resP, lendPl, lendCs, lendC, sealC, partsT, finHs, tupT, verT, verP, verC, verB, verAt, Blk.ver, handsAre, forall_const, CHT, disj, Nat.reduceBEq, beq_self_eq_true, APT, srcOf, sealPs, sealCs, sealC, List.mem_singleton, forall_eq, ALT, ULk_1, List.length_map, encK_len, takeK, encT_len, takeT, Nat.le_refl]
    refine callC hCf rfl rfl (by simp [closedA, closedP, closedC]) rfl ?_
    simp only [RUN, core, T.c, T.s, T.b, T.i, sBin, sInt, sUn, isShift, asInt, P1.cells, loadT, ptrC, storeT, putC, fillP, Nat.reduceAdd, reduceIte, Nat.reduceEqDiff, Nat.reduceLT, Nat.reduceLeDiff, reduceCtorEq, eq_self, FIT, lendCs_map, verC_map, FinC, resPs, resP, lendPl, lendCs, lendC, sealC, partsT, finHs, tupT, verT, verP, verC, verB, verAt, Blk.ver, handsAre, forall_const, CHT, disj, Nat.reduceBEq, beq_self_eq_true, APT, srcOf, sealPs, sealCs, sealC, List.mem_singleton, forall_eq, ALT, ULk_1, h1, encT_mk]
/- loop.example/teagle/laws.ttTree -/
def r13_0 : List AOper := [ao 0 2 (.box 29 (.t 0)),
  ao 1 3 (.box 29 (.t 1)),
  ao 2 4 (.mv (.k (.b false)))]
def r13_1 : List AOper := [ao 0 7 (.fa 0 (.t 2)),
  ao 1 8 (.ld 1 false (.t 7)),
  ao 2 9 (.fa 0 (.t 3)),
  ao 3 10 (.ld 1 false (.t 9)),
  ao 4 11 (.bin .neq (.t 8) (.t 10)),
  ao 5 12 (.mv (.t 11)),
  ag 6 13 12 false [] (.fa 1 (.t 2)),
  ag 7 14 12 false [] (.ld 1 false (.t 13)),
  ag 8 15 12 false [] (.fa 1 (.t 3)),
  ag 9 16 12 false [] (.ld 1 false (.t 15)),
  ag 10 17 12 false [] (.bin .neq (.t 14) (.t 16)),
  ao 11 18 (.pick (.t 12) (.k (.b true)) (.t 17)),
  ao 12 19 (.mv (.t 18)),
  ag 13 20 19 false [] (.fa 2 (.t 2)),
  ag 14 21 19 false [] (.ld 1 false (.t 20)),
  ag 15 22 19 false [] (.fa 2 (.t 3)),
  ag 16 23 19 false [] (.ld 1 false (.t 22)),
  ag 17 24 19 false [] (.bin .neq (.t 21) (.t 23)),
  ao 18 25 (.pick (.t 19) (.k (.b true)) (.t 24)),
  ao 19 26 (.mv (.t 25)),
  ag 20 27 26 false [] (.fa 3 (.t 2)),
  ag 21 28 26 false [] (.ld 1 false (.t 27)),
  ag 22 29 26 false [] (.len (.t 28)),
  ag 23 30 26 false [] (.fa 3 (.t 3)),
  ag 24 31 26 false [] (.ld 1 false (.t 30)),
  ag 25 32 26 false [] (.len (.t 31)),
  ag 26 33 26 false [] (.bin .neq (.t 29) (.t 32)),
  ao 27 34 (.pick (.t 26) (.k (.b true)) (.t 33)),
  ao 28 35 (.mv (.t 34)),
  ag 29 36 35 false [] (.fa 4 (.t 2)),
  ag 30 37 35 false [] (.ld 1 false (.t 36)),
  ag 31 38 35 false [] (.len (.t 37)),
  ag 32 39 35 false [] (.fa 4 (.t 3)),
  ag 33 40 35 false [] (.ld 1 false (.t 39)),
  ag 34 41 35 false [] (.len (.t 40)),
  ag 35 42 35 false [] (.bin .neq (.t 38) (.t 41)),
  ao 36 43 (.pick (.t 35) (.k (.b true)) (.t 42))]
def r13_2 : List AOper := [ao 0 4 (.mv (.k (.b false)))]
def c13_3 : ACode := .seq (.reg r13_2) .ret
def c13_4 : ACode := .cond (.t 43) c13_3 .skip
def c13_5 : ACode := .seq (.reg r13_1) c13_4
def r13_6 : List AOper := [ao 0 5 (.mv (.k (.i 0)))]
def r13_7 : List AOper := [ao 0 44 (.mv (.t 5)),
  ao 1 45 (.fa 3 (.t 2)),
  ao 2 46 (.ld 1 false (.t 45)),
  ao 3 47 (.len (.t 46)),
  ao 4 48 (.bin .lss (.t 44) (.t 47))]
def c13_8 : ACode := .cond (.t 48) .skip (.exit 0)
def c13_9 : ACode := .seq (.reg r13_7) c13_8
def r13_10 : List AOper := [ao 0 51 (.fa 3 (.t 2)),
  ao 1 52 (.ld 1 false (.t 51)),
  au 2 53 [0, 1] (.mv (.t 5)),
  ao 3 54 (.ia 1 (.t 52) (.t 53)),
  ao 4 55 (.ld 1 false (.t 54)),
  au 5 56 (ru 5) (.fa 3 (.t 3)),
  au 6 57 (ru 5) (.ld 1 false (.t 56)),
  au 7 58 (ru 7) (.mv (.t 5)),
  au 8 59 (ru 5) (.ia 1 (.t 57) (.t 58)),
  au 9 60 (ru 5) (.ld 1 false (.t 59)),
  ao 10 61 (.bin .neq (.t 55) (.t 60))]
def r13_11 : List AOper := [ao 0 4 (.mv (.k (.b false)))]
def c13_12 : ACode := .seq (.reg r13_11) .ret
def c13_13 : ACode := .cond (.t 61) c13_12 .skip
def c13_14 : ACode := .seq (.reg r13_10) c13_13
def c13_15 : ACode := .block 1 c13_14
def r13_16 : List AOper := [ao 0 49 (.mv (.t 5)),
  ao 1 50 (.bin .add (.t 49) (.k (.i 1))),
  ao 2 5 (.mv (.t 50))]
def c13_17 : ACode := .seq c13_9 (.seq c13_15 (.reg r13_16))
def c13_18 : ACode := .loop c13_17
def c13_19 : ACode := .block 0 c13_18
def c13_20 : ACode := .seq (.reg r13_6) c13_19
def r13_21 : List AOper := [ao 0 6 (.mv (.k (.i 0)))]
def r13_22 : List AOper := [ao 0 62 (.mv (.t 6)),
  ao 1 63 (.fa 4 (.t 2)),
  ao 2 64 (.ld 1 false (.t 63)),
  ao 3 65 (.len (.t 64)),
  ao 4 66 (.bin .lss (.t 62) (.t 65))]
def c13_23 : ACode := .cond (.t 66) .skip (.exit 2)
def c13_24 : ACode := .seq (.reg r13_22) c13_23
def r13_25 : List AOper := [ao 0 69 (.fa 4 (.t 2)),
  ao 1 70 (.ld 1 false (.t 69)),
  au 2 71 [0, 1] (.mv (.t 6)),
  ao 3 72 (.ia 5 (.t 70) (.t 71)),
  ao 4 73 (.ld 5 true (.t 72)),
  au 5 74 (ru 5) (.fa 4 (.t 3)),
  au 6 75 (ru 5) (.ld 1 false (.t 74)),
  au 7 76 (ru 7) (.mv (.t 6)),
  au 8 77 (ru 5) (.ia 5 (.t 75) (.t 76)),
  au 9 78 (ru 5) (.ld 5 true (.t 77)),
  ao 10 79 (.call (.k (.c (.fn 13 []))) [(.t 73), (.t 78)]),
  ao 11 80 (.un .not (.t 79))]
def r13_26 : List AOper := [ao 0 4 (.mv (.k (.b false)))]
def c13_27 : ACode := .seq (.reg r13_26) .ret
def c13_28 : ACode := .cond (.t 80) c13_27 .skip
def c13_29 : ACode := .seq (.reg r13_25) c13_28
def c13_30 : ACode := .block 3 c13_29
def r13_31 : List AOper := [ao 0 67 (.mv (.t 6)),
  ao 1 68 (.bin .add (.t 67) (.k (.i 1))),
  ao 2 6 (.mv (.t 68))]
def c13_32 : ACode := .seq c13_24 (.seq c13_30 (.reg r13_31))
def c13_33 : ACode := .loop c13_32
def c13_34 : ACode := .block 2 c13_33
def c13_35 : ACode := .seq (.reg r13_21) c13_34
def r13_36 : List AOper := [ao 0 4 (.mv (.k (.b true)))]
def c13 : ACode := .seq (.reg r13_0) (.seq c13_5 (.seq c13_20 (.seq c13_35 (.seq (.reg r13_36) .ret))))
def s13 : List ARes := [.tmp 4]
theorem ok13 : okF Try.prog 13 81 c13 s13 := ⟨Try.f13, Try.func13, Try.ntmps13, by kernel_rfl, by kernel_rfl, by kernel_rfl⟩
noncomputable def eqT (a b : Tr) : Bool := @decide (a = b) (Classical.propDecidable _)
theorem eqT_true {a b : Tr} : eqT a b = true ↔ a = b := by simp [eqT]
theorem eqT_false {a b : Tr} : eqT a b = false ↔ a ≠ b := by simp [eqT]
def inv13 (s n : Int) (x : ByteArray) (ns : List ByteArray) (ks : List Tr) (ns' : List ByteArray) (ks' : List Tr) (σ : St) : Prop :=
  (∃ u, σ.t 2 = .c (.ptr 2 u 0) ∧ σ.H 2 = some (.var u 29 [.v (.s (.int .i64 s)), .v (.s (.int .i64 n)), .v (.s (.string x)), .v (.sl (encS ns)), .v (.sl (encTs ks))])) ∧
  (∃ u, σ.t 3 = .c (.ptr 3 u 0) ∧ σ.H 3 = some (.var u 29 [.v (.s (.int .i64 s)), .v (.s (.int .i64 n)), .v (.s (.string x)), .v (.sl (encS ns')), .v (.sl (encTs ks'))]))
def inv13a (s n : Int) (x : ByteArray) (ns : List ByteArray) (ks : List Tr) (ns' : List ByteArray) (ks' : List Tr) (i : Nat) (σ : St) : Prop := (∀ j, j < i → ns[j]? = ns'[j]?) ∧ inv13 s n x ns ks ns' ks' σ ∧ σ.t 5 = .i i
def inv13b (s n : Int) (x : ByteArray) (ns : List ByteArray) (ks : List Tr) (ns' : List ByteArray) (ks' : List Tr) (i : Nat) (σ : St) : Prop := (∀ j, j < i → ks[j]? = ks'[j]?) ∧ inv13 s n x ns ks ns' ks' σ ∧ σ.t 6 = .i i
theorem ULk_2 : (type_of% (uA c13.eq_1)) ∧ (type_of% (uR r13_0.eq_1)) ∧ (type_of% (uA c13_5.eq_1)) ∧ (type_of% (uR r13_1.eq_1)) ∧ (type_of% (uA c13_4.eq_1)) ∧ (type_of% (uA c13_3.eq_1)) ∧ (type_of% (uR r13_2.eq_1)) ∧ (type_of% (uA c13_20.eq_1)) ∧ (type_of% (uR r13_6.eq_1)) ∧ (type_of% (uA c13_19.eq_1)) ∧ (type_of% (uA c13_18.eq_1)) ∧ (type_of% (uA c13_35.eq_1)) ∧ (type_of% (uR r13_21.eq_1)) ∧ (type_of% (uA c13_34.eq_1)) ∧ (type_of% (uA c13_33.eq_1)) ∧ (type_of% (uR r13_36.eq_1)) ∧ (type_of% s13.eq_1) :=
  ⟨uA c13.eq_1, uR r13_0.eq_1, uA c13_5.eq_1, uR r13_1.eq_1, uA c13_4.eq_1, uA c13_3.eq_1, uR r13_2.eq_1, uA c13_20.eq_1, uR r13_6.eq_1, uA c13_19.eq_1, uA c13_18.eq_1, uA c13_35.eq_1, uR r13_21.eq_1, uA c13_34.eq_1, uA c13_33.eq_1, uR r13_36.eq_1, s13.eq_1⟩
theorem ULk_3 : (type_of% (uA c13_17.eq_1)) ∧ (type_of% (uA c13_9.eq_1)) ∧ (type_of% (uR r13_7.eq_1)) ∧ (type_of% (uA c13_8.eq_1)) ∧ (type_of% (uA c13_15.eq_1)) ∧ (type_of% (uA c13_14.eq_1)) ∧ (type_of% (uR r13_10.eq_1)) ∧ (type_of% (uA c13_13.eq_1)) ∧ (type_of% (uA c13_12.eq_1)) ∧ (type_of% (uR r13_11.eq_1)) ∧ (type_of% (uR r13_16.eq_1)) ∧ (type_of% (uA c13.eq_1)) ∧ (type_of% (uR r13_0.eq_1)) ∧ (type_of% (uA c13_5.eq_1)) ∧ (type_of% (uR r13_1.eq_1)) ∧ (type_of% (uA c13_4.eq_1)) ∧ (type_of% (uA c13_3.eq_1)) ∧ (type_of% (uR r13_2.eq_1)) ∧ (type_of% (uA c13_20.eq_1)) ∧ (type_of% (uR r13_6.eq_1)) ∧ (type_of% (uA c13_19.eq_1)) ∧ (type_of% (uA c13_18.eq_1)) ∧ (type_of% (uA c13_35.eq_1)) ∧ (type_of% (uR r13_21.eq_1)) ∧ (type_of% (uA c13_34.eq_1)) ∧ (type_of% (uA c13_33.eq_1)) ∧ (type_of% (uR r13_36.eq_1)) ∧ (type_of% s13.eq_1) :=
  ⟨uA c13_17.eq_1, uA c13_9.eq_1, uR r13_7.eq_1, uA c13_8.eq_1, uA c13_15.eq_1, uA c13_14.eq_1, uR r13_10.eq_1, uA c13_13.eq_1, uA c13_12.eq_1, uR r13_11.eq_1, uR r13_16.eq_1, uA c13.eq_1, uR r13_0.eq_1, uA c13_5.eq_1, uR r13_1.eq_1, uA c13_4.eq_1, uA c13_3.eq_1, uR r13_2.eq_1, uA c13_20.eq_1, uR r13_6.eq_1, uA c13_19.eq_1, uA c13_18.eq_1, uA c13_35.eq_1, uR r13_21.eq_1, uA c13_34.eq_1, uA c13_33.eq_1, uR r13_36.eq_1, s13.eq_1⟩
theorem ULk_4 : (type_of% (uA c13_32.eq_1)) ∧ (type_of% (uA c13_24.eq_1)) ∧ (type_of% (uR r13_22.eq_1)) ∧ (type_of% (uA c13_23.eq_1)) ∧ (type_of% (uA c13_30.eq_1)) ∧ (type_of% (uA c13_29.eq_1)) ∧ (type_of% (uR r13_25.eq_1)) ∧ (type_of% (uA c13_28.eq_1)) ∧ (type_of% (uA c13_27.eq_1)) ∧ (type_of% (uR r13_26.eq_1)) ∧ (type_of% (uR r13_31.eq_1)) ∧ (type_of% (uA c13.eq_1)) ∧ (type_of% (uR r13_0.eq_1)) ∧ (type_of% (uA c13_5.eq_1)) ∧ (type_of% (uR r13_1.eq_1)) ∧ (type_of% (uA c13_4.eq_1)) ∧ (type_of% (uA c13_3.eq_1)) ∧ (type_of% (uR r13_2.eq_1)) ∧ (type_of% (uA c13_20.eq_1)) ∧ (type_of% (uR r13_6.eq_1)) ∧ (type_of% (uA c13_19.eq_1)) ∧ (type_of% (uA c13_18.eq_1)) ∧ (type_of% (uA c13_35.eq_1)) ∧ (type_of% (uR r13_21.eq_1)) ∧ (type_of% (uA c13_34.eq_1)) ∧ (type_of% (uA c13_33.eq_1)) ∧ (type_of% (uR r13_36.eq_1)) ∧ (type_of% s13.eq_1) :=
  ⟨uA c13_32.eq_1, uA c13_24.eq_1, uR r13_22.eq_1, uA c13_23.eq_1, uA c13_30.eq_1, uA c13_29.eq_1, uR r13_25.eq_1, uA c13_28.eq_1, uA c13_27.eq_1, uR r13_26.eq_1, uR r13_31.eq_1, uA c13.eq_1, uR r13_0.eq_1, uA c13_5.eq_1, uR r13_1.eq_1, uA c13_4.eq_1, uA c13_3.eq_1, uR r13_2.eq_1, uA c13_20.eq_1, uR r13_6.eq_1, uA c13_19.eq_1, uA c13_18.eq_1, uA c13_35.eq_1, uR r13_21.eq_1, uA c13_34.eq_1, uA c13_33.eq_1, uR r13_36.eq_1, s13.eq_1⟩
theorem ttTree_ok : ∀ (a b : Tr), TB 1000000 a → TB 1000000 b → ACallsF Try.prog 13 [tT a, tT b] [] (.b (eqT a b)) := by
  intro a
  induction a using Tr.ind with
  | _ s n x ns ks ih =>
    intro b hBa hBb
    obtain ⟨s', n', x', ns', ks'⟩ := b
    obtain ⟨a0, a1, a2, a3, a4⟩ := hBa.inv
    obtain ⟨b0, b1, b2, b3, b4⟩ := hBb.inv
    refine ACallsF.intro ok13 follows fun X c0 => ?_
    have hno : (s ≠ s' ∨ n ≠ n' ∨ x ≠ x' ∨ ns ≠ ns' ∨ ks ≠ ks') → eqT (.mk s n x ns ks) (.mk s' n' x' ns' ks') = false := fun h => eqT_false.2 fun e => by
      simp only [Tr.mk.injEq] at e
      obtain ⟨e1, e2, e3, e4, e5⟩ := e
      rcases h with h | h | h | h | h
      · exact h e1
      · exact h e2
      · exact h e3
      · exact h e4
      · exact h e5
    by_cases h1 : s = s'
    case neg =>
      have b1 : (s != s') = true := by simp [h1]
      have hm := hno (.inl h1)
      simp only [RUN, core, T.c, T.s, T.b, T.i, sBin, sInt, sUn, isShift, asInt, P1.cells, loadT, ptrC, storeT, putC, fillP, Nat.reduceAdd, reduceIte, Nat.reduceEqDiff, Nat.reduceLT, Nat.reduceLeDiff, reduceCtorEq, eq_self, FIT, lendCs_map, verC_map, FinC, resPs, resP, lendPl, lendCs, lendC, sealC, partsT, finHs, tupT, verT, verP, verC, verB, verAt, Blk.ver, handsAre, forall_const, CHT, disj, Nat.reduceBEq, beq_self_eq_true, APT, srcOf, sealPs, sealCs, sealC, List.mem_singleton, forall_eq, ALT, ULk_2, encT_mk, b1, hm]
    have b1 : (s != s') = false := by simp [h1]
    by_cases h2 : n = n'
    case neg =>
      have b2 : (n != n') = true := by simp [h2]
      have hm := hno (.inr (.inl h2))
      simp only [RUN, core, T.c, T.s, T.b, T.i, sBin, sInt, sUn, isShift, asInt, P1.cells, loadT, ptrC, storeT, putC, fillP, Nat.reduceAdd, reduceIte, Nat.reduceEqDiff, Nat.reduceLT, Nat.reduceLeDiff, reduceCtorEq, eq_self, FIT, lendCs_map, verC_map, FinC, resPs, resP, lendPl, lendCs, lendC, sealC, partsT, finHs, tupT, verT, verP, verC, verB, verAt, Blk.ver, handsAre, forall_const, CHT, disj, Nat.reduceBEq, beq_self_eq_true, APT, srcOf, sealPs, sealCs, sealC, List.mem_singleton, forall_eq, ALT, ULk_2, encT_mk, b1, b2, hm]
    have b2 : (n != n') = false := by simp [h2]
    by_cases h3 : x = x'
    case neg =>
      have hm := hno (.inr (.inr (.inl h3)))
      simp only [RUN, core, T.c, T.s, T.b, T.i, sBin, sInt, sUn, isShift, asInt, P1.cells, loadT, ptrC, storeT, putC, fillP, Nat.reduceAdd, reduceIte, Nat.reduceEqDiff, Nat.reduceLT, Nat.reduceLeDiff, reduceCtorEq, eq_self, FIT, lendCs_map, verC_map, FinC, resPs, resP, lendPl, lendCs, lendC, sealC, partsT, finHs, tupT, verT, verP, verC, verB, verAt, Blk.ver, handsAre, forall_const, CHT, disj, Nat.reduceBEq, beq_self_eq_true, APT, srcOf, sealPs, sealCs, sealC, List.mem_singleton, forall_eq, ALT, ULk_2, encT_mk, b1, b2, sStr, str_beq, h3, hm]
    subst h3
    by_cases h4 : ns.length = ns'.length
    case neg =>
      have b4 : ((ns.length : Int) != (ns'.length : Int)) = true := by simp; omega
      have hm := hno (.inr (.inr (.inr (.inl fun e => h4 (by rw [e])))))
      simp only [RUN, core, T.c, T.s, T.b, T.i, sBin, sInt, sUn, isShift, asInt, P1.cells, loadT, ptrC, storeT, putC, fillP, Nat.reduceAdd, reduceIte, Nat.reduceEqDiff, Nat.reduceLT, Nat.reduceLeDiff, reduceCtorEq, eq_self, FIT, lendCs_map, verC_map, FinC, resPs, resP, lendPl, lendCs, lendC, sealC, partsT, finHs, tupT, verT, verP, verC, verB, verAt, Blk.ver, handsAre, forall_const, CHT, disj, Nat.reduceBEq, beq_self_eq_true, APT, srcOf, sealPs, sealCs, sealC, List.mem_singleton, forall_eq, ALT, ULk_2, encT_mk, encS_len, b1, b2, sStr, str_beq, b4, hm]
    have b4' : ((ns.length : Int) != (ns'.length : Int)) = false := by simp; omega
    by_cases h5 : ks.length = ks'.length
    case neg =>
      have b5 : ((ks.length : Int) != (ks'.length : Int)) = true := by simp; omega
      have hm := hno (.inr (.inr (.inr (.inr fun e => h5 (by rw [e])))))
      simp only [RUN, core, T.c, T.s, T.b, T.i, sBin, sInt, sUn, isShift, asInt, P1.cells, loadT, ptrC, storeT, putC, fillP, Nat.reduceAdd, reduceIte, Nat.reduceEqDiff, Nat.reduceLT, Nat.reduceLeDiff, reduceCtorEq, eq_self, FIT, lendCs_map, verC_map, FinC, resPs, resP, lendPl, lendCs, lendC, sealC, partsT, finHs, tupT, verT, verP, verC, verB, verAt, Blk.ver, handsAre, forall_const, CHT, disj, Nat.reduceBEq, beq_self_eq_true, APT, srcOf, sealPs, sealCs, sealC, List.mem_singleton, forall_eq, ALT, ULk_2, encT_mk, encS_len, encTs_len, b1, b2, sStr, str_beq, b4', b5, hm]
    have b5 : ((ks.length : Int) != (ks'.length : Int)) = false := by simp; omega
    simp only [RUN, core, T.c, T.s, T.b, T.i, sBin, sInt, sUn, isShift, asInt, P1.cells, loadT, ptrC, storeT, putC, fillP, Nat.reduceAdd, reduceIte, Nat.reduceEqDiff, Nat.reduceLT, Nat.reduceLeDiff, reduceCtorEq, eq_self, FIT, lendCs_map, verC_map, FinC, resPs, resP, lendPl, lendCs, lendC, sealC, partsT, finHs, tupT, verT, verP, verC, verB, verAt, Blk.ver, handsAre, forall_const, CHT, disj, Nat.reduceBEq, beq_self_eq_true, APT, srcOf, sealPs, sealCs, sealC, List.mem_singleton, forall_eq, ALT, ULk_2, encT_mk, encS_len, encTs_len, b1, b2, sStr, str_beq, b4', b5]
    subst h1 h2
    refine AW.upto ns.length (inv13a s n x ns ks ns' ks') ⟨fun j hj => absurd hj (Nat.not_lt_zero j), ⟨⟨_, rfl, rfl⟩, ⟨_, rfl, rfl⟩⟩, rfl⟩ fun i t H c hi h => ?_
    obtain ⟨g0, ⟨⟨u2, e2, eH2⟩, ⟨u3, e3, eH3⟩⟩, e5⟩ := h
    simp only [T.c, T.i] at e2 eH2 e3 eH3 e5
    by_cases hlt : i < ns.length
    · have g1 : (i : Int) < ns.length := by omega
      have gz : (0 : Int) ≤ i := by omega
      have gw : IntKind.i64.wrap ((i : Int) + 1) = ((i + 1 : Nat) : Int) := wrap64 (x := (i : Int) + 1) ⟨by omega, by omega⟩
      obtain ⟨y, hy⟩ : ∃ y, ns[i]? = some y := ⟨_, List.getElem?_eq_getElem hlt⟩
      obtain ⟨y', hy'⟩ : ∃ y, ns'[i]? = some y := ⟨_, List.getElem?_eq_getElem (by omega)⟩
      have es := encS_at hy
      have es' := encS_at hy'
      by_cases hyy : y = y'
      · subst hyy
        simp only [RUN, core, T.c, T.s, T.b, T.i, sBin, sInt, sUn, isShift, asInt, P1.cells, loadT, ptrC, storeT, putC, fillP, Nat.reduceAdd, reduceIte, Nat.reduceEqDiff, Nat.reduceLT, Nat.reduceLeDiff, reduceCtorEq, eq_self, FIT, lendCs_map, verC_map, FinC, resPs, resP, lendPl, lendCs, lendC, sealC, partsT, finHs, tupT, verT, verP, verC, verB, verAt, Blk.ver, handsAre, forall_const, CHT, disj, Nat.reduceBEq, beq_self_eq_true, APT, srcOf, sealPs, sealCs, sealC, List.mem_singleton, forall_eq, ALT, ULk_3, e2, eH2, e3, eH3, e5, encS_len, g1, gz, es, es', Int.toNat_natCast, sStr, str_beq, gw]
        refine ⟨hlt, fun j hj => ?_, ⟨⟨u2, e2, eH2⟩, ⟨u3, e3, eH3⟩⟩, rfl⟩
        rcases Nat.lt_succ_iff_lt_or_eq.1 hj with hj | rfl
        · exact g0 j hj
        · rw [hy, hy']
      · have hm := hno (.inr (.inr (.inr (.inl fun e => hyy (by rw [e, hy'] at hy; cases hy; rfl)))))
        simp only [RUN, core, T.c, T.s, T.b, T.i, sBin, sInt, sUn, isShift, asInt, P1.cells, loadT, ptrC, storeT, putC, fillP, Nat.reduceAdd, reduceIte, Nat.reduceEqDiff, Nat.reduceLT, Nat.reduceLeDiff, reduceCtorEq, eq_self, FIT, lendCs_map, verC_map, FinC, resPs, resP, lendPl, lendCs, lendC, sealC, partsT, finHs, tupT, verT, verP, verC, verB, verAt, Blk.ver, handsAre, forall_const, CHT, disj, Nat.reduceBEq, beq_self_eq_true, APT, srcOf, sealPs, sealCs, sealC, List.mem_singleton, forall_eq, ALT, ULk_3, e2, eH2, e3, eH3, e5, encS_len, g1, gz, es, es', Int.toNat_natCast, sStr, str_beq, hyy, hm]
    · have hin : i = ns.length := by omega
      subst hin
      have hnn : ns = ns' := List.ext_getElem? fun j => by
        by_cases hj : j < ns.length
        · exact g0 j hj
        · rw [List.getElem?_eq_none (by omega), List.getElem?_eq_none (by omega)]
      have g1 : ¬ ((ns.length : Nat) : Int) < ns.length := by omega
      simp only [RUN, core, T.c, T.s, T.b, T.i, sBin, sInt, sUn, isShift, asInt, P1.cells, loadT, ptrC, storeT, putC, fillP, Nat.reduceAdd, reduceIte, Nat.reduceEqDiff, Nat.reduceLT, Nat.reduceLeDiff, reduceCtorEq, eq_self, FIT, lendCs_map, verC_map, FinC, resPs, resP, lendPl, lendCs, lendC, sealC, partsT, finHs, tupT, verT, verP, verC, verB, verAt, Blk.ver, handsAre, forall_const, CHT, disj, Nat.reduceBEq, beq_self_eq_true, APT, srcOf, sealPs, sealCs, sealC, List.mem_singleton, forall_eq, ALT, ULk_3, e2, eH2, e5, encS_len, g1]
      refine AW.upto ks.length (inv13b s n x ns ks ns' ks') ⟨fun j hj => absurd hj (Nat.not_lt_zero j), ⟨⟨u2, e2, eH2⟩, ⟨u3, e3, eH3⟩⟩, rfl⟩ fun i t H c hi h => ?_
      clear e2 eH2 e3 eH3 e5
      obtain ⟨g2, ⟨⟨u2, e2, eH2⟩, ⟨u3, e3, eH3⟩⟩, e6⟩ := h
      simp only [T.c, T.i] at e2 eH2 e3 eH3 e6
      by_cases hlt : i < ks.length
      · have g1 : (i : Int) < ks.length := by omega
        have gz : (0 : Int) ≤ i := by omega
        have gw : IntKind.i64.wrap ((i : Int) + 1) = ((i + 1 : Nat) : Int) := wrap64 (x := (i : Int) + 1) ⟨by omega, by omega⟩
        obtain ⟨y, hy⟩ : ∃ y, ks[i]? = some y := ⟨_, List.getElem?_eq_getElem hlt⟩
        obtain ⟨y', hy'⟩ : ∃ y, ks'[i]? = some y := ⟨_, List.getElem?_eq_getElem (by omega)⟩
        have es := encTs_at hy
        have es' := encTs_at hy'
        have hmy := List.mem_of_getElem? hy
        have hC := ih y hmy y' (a4 y hmy) (b4 y' (List.mem_of_getElem? hy'))
        simp only [RUN, core, T.c, T.s, T.b, T.i, sBin, sInt, sUn, isShift, asInt, P1.cells, loadT, ptrC, storeT, putC, fillP, Nat.reduceAdd, reduceIte, Nat.reduceEqDiff, Nat.reduceLT, Nat.reduceLeDiff, reduceCtorEq, eq_self, FIT, lendCs_map, verC_map, FinC, resPs, resP, lendPl, lendCs, lendC, sealC, partsT, finHs, tupT, verT, verP, verC, verB, verAt, Blk.ver, handsAre, forall_const, CHT, disj, Nat.reduceBEq, beq_self_eq_true, APT, srcOf, sealPs, sealCs, sealC, List.mem_singleton, forall_eq, ALT, ULk_4, e2, eH2, e3, eH3, e6, encTs_len, g1, gz, es, es', Int.toNat_natCast, List.length_map, encT_len, takeT, Nat.le_refl]
        refine callC hC rfl rfl (by simp [closedA, closedP, closedC]) rfl ?_
        cases hyy : eqT y y' with
        | true =>
          simp only [RUN, core, T.c, T.s, T.b, T.i, sBin, sInt, sUn, isShift, asInt, P1.cells, loadT, ptrC, storeT, putC, fillP, Nat.reduceAdd, reduceIte, Nat.reduceEqDiff, Nat.reduceLT, Nat.reduceLeDiff, reduceCtorEq, eq_self, FIT, lendCs_map, verC_map, FinC, resPs, resP, lendPl, lendCs, lendC, sealC, partsT, finHs, tupT, verT, verP, verC, verB, verAt, Blk.ver, handsAre, forall_const, CHT, disj, Nat.reduceBEq, beq_self_eq_true, APT, srcOf, sealPs, sealCs, sealC, List.mem_singleton, forall_eq, ALT, ULk_4, e6, gw]
          refine ⟨hlt, fun j hj => ?_, ⟨⟨u2, e2, eH2⟩, ⟨u3, e3, eH3⟩⟩, rfl⟩
          rcases Nat.lt_succ_iff_lt_or_eq.1 hj with hj | rfl
          · exact g2 j hj
          · rw [hy, hy', eqT_true.1 hyy]
        | false =>
          have hm := hno (.inr (.inr (.inr (.inr fun e => eqT_false.1 hyy (by rw [e, hy'] at hy; cases hy; rfl)))))
          simp only [RUN, core, T.c, T.s, T.b, T.i, sBin, sInt, sUn, isShift, asInt, P1.cells, loadT, ptrC, storeT, putC, fillP, Nat.reduceAdd, reduceIte, Nat.reduceEqDiff, Nat.reduceLT, Nat.reduceLeDiff, reduceCtorEq, eq_self, FIT, lendCs_map, verC_map, FinC, resPs, resP, lendPl, lendCs, lendC, sealC, partsT, finHs, tupT, verT, verP, verC, verB, verAt, Blk.ver, handsAre, forall_const, CHT, disj, Nat.reduceBEq, beq_self_eq_true, APT, srcOf, sealPs, sealCs, sealC, List.mem_singleton, forall_eq, ALT, ULk_4, hm]
      · have hin : i = ks.length := by omega
        subst hin
        have hkk : ks = ks' := List.ext_getElem? fun j => by
          by_cases hj : j < ks.length
          · exact g2 j hj
          · rw [List.getElem?_eq_none (by omega), List.getElem?_eq_none (by omega)]
        have g1 : ¬ ((ks.length : Nat) : Int) < ks.length := by omega
        have hm : eqT (.mk s n x ns ks) (.mk s n x ns' ks') = true := eqT_true.2 (by rw [hnn, hkk])
        simp only [RUN, core, T.c, T.s, T.b, T.i, sBin, sInt, sUn, isShift, asInt, P1.cells, loadT, ptrC, storeT, putC, fillP, Nat.reduceAdd, reduceIte, Nat.reduceEqDiff, Nat.reduceLT, Nat.reduceLeDiff, reduceCtorEq, eq_self, FIT, lendCs_map, verC_map, FinC, resPs, resP, lendPl, lendCs, lendC, sealC, partsT, finHs, tupT, verT, verP, verC, verB, verAt, Blk.ver, handsAre, forall_const, CHT, disj, Nat.reduceBEq, beq_self_eq_true, APT, srcOf, sealPs, sealCs, sealC, List.mem_singleton, forall_eq, ALT, ULk_4, ULk_2, e2, eH2, e6, encTs_len, g1, hm]
end Go.V
set_option linter.unusedSimpArgs false
namespace Go.V
open Go.Proofs
/-! The plain law: no program is in sight here. -/
inductive TW : Tr → Prop
  | mk (s n : Int) (x : ByteArray) (ns : List ByteArray) (ks : List Tr) (h2 : tshape s n x ns ks.length = true) (h3 : ∀ k ∈ ks, TW k) : TW (.mk s n x ns ks)
theorem TW.inv {s n : Int} {x : ByteArray} {ns : List ByteArray} {ks : List Tr} (h : TW (.mk s n x ns ks)) : tshape s n x ns ks.length = true ∧ ∀ k ∈ ks, TW k := by
  cases h with
  | mk _ _ _ _ _ h2 h3 => exact ⟨h2, h3⟩
theorem TOk.ts : ∀ {t : Tr} {d : Nat}, TOk d t → TW t ∧ TDp (7 - d) t := by
  intro t
  induction t using Tr.ind with
  | _ s n x ns ks ih =>
    intro d h
    obtain ⟨h1, h2, h3⟩ := h.inv
    refine ⟨.mk _ _ _ _ _ h2 fun k hk => (ih k hk (h3 k hk)).1, ?_⟩
    rw [show 7 - d = (7 - (d + 1)) + 1 from by omega]
    exact .mk _ _ _ _ _ _ fun k hk => (ih k hk (h3 k hk)).2
theorem TW.ok : ∀ {t : Tr} {e d : Nat}, TW t → TDp e t → e + d ≤ 7 → TOk d t := by
  intro t
  induction t using Tr.ind with
  | _ s n x ns ks ih =>
    intro e d h hd hed
    obtain ⟨h2, h3⟩ := h.inv
    obtain ⟨e', rfl, h4⟩ := hd.inv
    exact .mk _ _ _ _ _ _ (by omega) h2 fun k hk => ih k hk (h3 k hk) (h4 k hk) (by omega)
theorem TDp.up : ∀ {t : Tr} {e : Nat}, TDp e t → TDp (e + 1) t := by
  intro t
  induction t using Tr.ind with
  | _ s n x ns ks ih =>
    intro e h
    obtain ⟨e', rfl, h4⟩ := h.inv
    exact .mk _ _ _ _ _ _ fun k hk => ih k hk (h4 k hk)
/-- What is at a place of a form. -/
theorem form_at {s n : Int} {x : ByteArray} {ns : List ByteArray} {ks : List Kd} {ns' : List ByteArray} {ts : List Tr} (hS : Shape 5 ns ks) (hT : TSh s n x ns' ts.length) (hs : s = 5) (h1 : ns = ns') {j : Nat} {y : ByteArray} (hj : ns[j]? = some y) : ∃ k u, ks[j]? = some k ∧ ts[j]? = some u := by
  have e1 := (hS.form rfl).1
  have e2 := (hT.form hs).1
  have hl := (List.getElem?_eq_some_iff.1 hj).1
  subst h1
  exact ⟨_, _, List.getElem?_eq_getElem (by omega), List.getElem?_eq_getElem (by omega)⟩
theorem at_len {α β : Type} {xs : List α} {ys : List β} (h : xs.length = ys.length) {i : Nat} {x : α} (hi : xs[i]? = some x) : ∃ y, ys[i]? = some y :=
  ⟨_, List.getElem?_eq_getElem (by have := (List.getElem?_eq_some_iff.1 hi).1; omega)⟩
theorem one_at {s : Int} {ns : List ByteArray} {ks : List Kd} (hS : Shape s ns ks) (h : s = 4 ∨ s = 6) : ∃ k, ks[0]? = some k := ⟨_, List.getElem?_eq_getElem (by have := hS.one h; omega)⟩
/-- A schema's sort, and a wider one's. -/
theorem Fits.up6 {a b : Kd} (h : Fits a b) (ha : a.sort = 6) : b.sort = 6 := by
  obtain ⟨s, ns, ks⟩ := a
  obtain ⟨s', ns', ks'⟩ := b
  by_cases h6 : s' = 6
  · exact h6
  · have := h.sort_eq h6
    simp only [Kd.sort] at ha ⊢
    omega
/-- Fitting goes on. -/
theorem fits_trans : ∀ (c b a : Kd) (d1 d2 d3 : Nat), KOk d1 a → KOk d2 b → KOk d3 c → Fits a b → Fits b c → Fits a c := by
  intro c
  induction c using Kd.ind with
  | _ sc nc kc ih =>
    intro b a d1 d2 d3 hOa hOb hOc hab hbc
    obtain ⟨sb, nb, kb⟩ := b
    obtain ⟨sa, na, ka⟩ := a
    obtain ⟨_, hSa, hKa⟩ := hOa.inv
    obtain ⟨_, hSb, hKb⟩ := hOb.inv
    obtain ⟨_, hSc, hKc⟩ := hOc.inv
    by_cases hc6 : sc = 6
    · subst hc6
      obtain ⟨c0, hc0⟩ := one_at hSc (.inr rfl)
      have hmc := List.mem_of_getElem? hc0
      by_cases ha6 : sa = 6
      · subst ha6
        have hb6 : sb = 6 := hab.up6 rfl
        subst hb6
        obtain ⟨a0, ha0⟩ := one_at hSa (.inr rfl)
        obtain ⟨b0, hb0⟩ := one_at hSb (.inr rfl)
        exact (Fits.mm_iff ha0 hc0).2 (ih c0 hmc b0 a0 _ _ _ (hKa _ (List.mem_of_getElem? ha0)) (hKb _ (List.mem_of_getElem? hb0)) (hKc _ hmc) ((Fits.mm_iff ha0 hb0).1 hab) ((Fits.mm_iff hb0 hc0).1 hbc))
      · by_cases hb6 : sb = 6
        · subst hb6
          obtain ⟨b0, hb0⟩ := one_at hSb (.inr rfl)
          exact (Fits.m_iff ha6 hc0).2 (ih c0 hmc b0 _ _ _ _ hOa (hKb _ (List.mem_of_getElem? hb0)) (hKc _ hmc) ((Fits.m_iff ha6 hb0).1 hab) ((Fits.mm_iff hb0 hc0).1 hbc))
        · exact (Fits.m_iff ha6 hc0).2 (ih c0 hmc _ _ _ _ _ hOa hOb (hKc _ hmc) hab ((Fits.m_iff hb6 hc0).1 hbc))
    · have e1 := hbc.sort_eq hc6
      subst e1
      have e2 := hab.sort_eq hc6
      subst e2
      by_cases h4 : sa = 4
      · subst h4
        obtain ⟨a0, ha0⟩ := one_at hSa (.inl rfl)
        obtain ⟨b0, hb0⟩ := one_at hSb (.inl rfl)
        obtain ⟨c0, hc0⟩ := one_at hSc (.inl rfl)
        have hmc := List.mem_of_getElem? hc0
        exact (Fits.l_iff ha0 hc0).2 (ih c0 hmc b0 a0 _ _ _ (hKa _ (List.mem_of_getElem? ha0)) (hKb _ (List.mem_of_getElem? hb0)) (hKc _ hmc) ((Fits.l_iff ha0 hb0).1 hab) ((Fits.l_iff hb0 hc0).1 hbc))
      · by_cases h5 : sa = 5
        · subst h5
          obtain ⟨f1, f2, f3⟩ := hab.f_inv
          obtain ⟨g1, g2, g3⟩ := hbc.f_inv
          have la := hSa.form rfl
          have lb := hSb.form rfl
          have lc := hSc.form rfl
          refine .f _ _ _ _ (fun i x hi => ?_) (fun i x k k' hi hk hk' => ?_) fun i x k' hi hk hno => ?_
          · obtain ⟨kb1, hkb1⟩ := f1 i x hi
            obtain ⟨j, hj, _⟩ := kid_mem hkb1
            exact g1 j x hj
          · obtain ⟨kb1, hkb1⟩ := f1 i x hi
            obtain ⟨j, hj, hkb2⟩ := kid_mem hkb1
            obtain ⟨l, hl, hkc2⟩ := kid_mem hk'
            exact ih k' (List.mem_of_getElem? hkc2) kb1 k _ _ _ (hKa _ (List.mem_of_getElem? hk)) (hKb _ (List.mem_of_getElem? hkb2)) (hKc _ (List.mem_of_getElem? hkc2)) (f2 i x k kb1 hi hk hkb1) (g2 j x kb1 k' hj hkb2 hk')
          · cases hb : kid nb kb x with
            | none => exact g3 i x k' hi hk hb
            | some kb1 =>
              obtain ⟨j, hj, hkb2⟩ := kid_mem hb
              have hs6 := f3 j x kb1 hj hkb2 hno
              have hkid : kid nc kc x = some k' := kid_at (fun j hj e => by have := rise_inj (rise_true.1 lc.2) e hi; omega) hi hk
              exact (g2 j x kb1 k' hj hkb2 hkid).up6 hs6
        · have := hSa.lo
          have := hSa.hi
          exact .leaf _ _ _ _ _ (by omega)

theorem noT_has {k : Kd} (h : k.sort = 6) : Has k noT := by
  obtain ⟨s, ns, ks⟩ := k
  have h : s = 6 := h
  subst h
  exact .mk _ _ _ _ _ _ _ (fun h => by omega) fun i t k h => by simp at h
/-- A form's kids, told by names. -/
theorem name_in (ns : List ByteArray) (x : ByteArray) : (∃ j : Nat, ns[j]? = some x) ∨ ∀ j : Nat, ns[j]? ≠ some x := by
  by_cases h : ∃ j : Nat, ns[j]? = some x
  · exact .inl h
  · exact .inr fun j hj => h ⟨j, hj⟩
theorem wd_has : ∀ (b a : Kd) (t y : Tr) (d1 d2 : Nat), KOk d1 a → KOk d2 b → TW t → Fits a b → Has a t → Wd a b t y → Has b y ∧ TW y := by
  intro b
  induction b using Kd.ind with
  | _ sb nb kb ih =>
    intro a t y d1 d2 hOa hOb hT hF hH hW
    obtain ⟨sa, na, ka⟩ := a
    obtain ⟨_, hSa, hKa⟩ := hOa.inv
    obtain ⟨_, hSb, hKb⟩ := hOb.inv
    cases hW with
    | m _ _ _ _ _ b0 _ y' hs hb h =>
      obtain ⟨i1, i2⟩ := ih b0 (List.mem_of_getElem? hb) _ _ _ _ _ hOa (hKb _ (List.mem_of_getElem? hb)) hT ((Fits.m_iff hs hb).1 hF) hH h
      refine ⟨.mk _ _ _ _ _ _ _ (fun h => by omega) fun i t k ht hk => ?_, .mk _ _ _ _ _ (by simp [tshape]) (by simpa using i2)⟩
      cases i with
      | zero =>
        rw [sel, if_neg (by omega), hb] at hk
        simp at ht hk
        subst ht hk; exact i1
      | succ i => simp at ht
    | f _ _ _ _ _ ts tn tx tns tks outs hl h1 h2 =>
      obtain ⟨hss, hnames, hkids⟩ := hH.inv
      have h5 : sa = 5 := hF.sort_eq (by omega)
      subst h5
      obtain ⟨htsh, htk⟩ := hT.inv
      have hTs := tshape_sh htsh
      obtain ⟨f1, f2, f3⟩ := hF.f_inv
      have lb := hSb.form rfl
      have key : ∀ (i : Nat) o, outs[i]? = some o → ∃ x k', nb[i]? = some x ∧ kb[i]? = some k' ∧ Has k' o ∧ TW o := by
        intro i o ho
        obtain ⟨x, hx⟩ := at_len hl ho
        obtain ⟨k', hk'⟩ := at_len lb.1 hx
        have hkid : kid nb kb x = some k' := kid_at (fun j hj e => by have := rise_inj (rise_true.1 lb.2) e hx; omega) hx hk'
        rcases name_in na x with ⟨j, hj⟩ | hno
        · obtain ⟨k, u, hk, hu⟩ := form_at hSa hTs hss.symm (hnames rfl) hj
          obtain ⟨i1, i2⟩ := ih k' (List.mem_of_getElem? hk') k u o _ _ (hKa _ (List.mem_of_getElem? hk)) (hKb _ (List.mem_of_getElem? hk')) (htk u (List.mem_of_getElem? hu)) (f2 j x k k' hj hk hkid) (hkids j u k hu (by rw [sel, if_pos rfl]; exact hk)) (h1 i j x o k k' u hx ho hj hk hk' hu)
          exact ⟨x, k', hx, hk', i1, i2⟩
        · have := h2 i x o hx ho hno
          subst this
          exact ⟨x, k', hx, hk', noT_has (f3 i x k' hx hk' (kid_none hno)), .mk _ _ _ _ _ (by simp [tshape]) (by simp)⟩
      refine ⟨.mk _ _ _ _ _ _ _ (fun _ => rfl) fun i o k ho hk => ?_, .mk _ _ _ _ _ ?_ fun o ho => ?_⟩
      · obtain ⟨x, k', hx, hk', h3, _⟩ := key i o ho
        rw [sel, if_pos rfl, hk'] at hk; cases hk; exact h3
      · have e : ((nb.length : Int) == (outs.length : Int)) = true := beq_iff_eq.2 (by omega)
        show (((0 : Int) == 0) && (decide ((⟨#[]⟩ : ByteArray) = ⟨#[]⟩) && (rise nb && ((nb.length : Int) == (outs.length : Int))))) = true
        rw [lb.2, e]; simp
      · obtain ⟨i, hi⟩ := List.mem_iff_getElem?.1 ho
        obtain ⟨_, _, _, _, _, h4⟩ := key i o hi
        exact h4
    | c _ _ _ _ _ _ ts tn tx tns tks outs hs hs2 hl h =>
      obtain ⟨hss, hnames, hkids⟩ := hH.inv
      subst hss
      obtain ⟨htsh, htk⟩ := hT.inv
      have hTs := tshape_sh htsh
      have hsab : sa = sb := by
        by_cases h6 : sb = 6
        · rw [hs2 h6, h6]
        · exact hF.sort_eq h6
      subst hsab
      have key : ∀ (i : Nat) o, outs[i]? = some o → ∃ k', kb[0]? = some k' ∧ Has k' o ∧ TW o := by
        intro i o ho
        obtain ⟨u, hu⟩ := at_len hl ho
        have hil := (List.getElem?_eq_some_iff.1 hu).1
        have h46 : sa = 4 ∨ sa = 6 := by
          have := hSa.hi
          by_cases h4 : sa < 4
          · have := hTs.leaf h4; omega
          · omega
        obtain ⟨k, hk⟩ := one_at hSa h46
        obtain ⟨k', hk'⟩ := one_at hSb h46
        have hFk : Fits k k' := by
          rcases h46 with rfl | rfl
          · exact (Fits.l_iff hk hk').1 hF
          · exact (Fits.mm_iff hk hk').1 hF
        obtain ⟨i1, i2⟩ := ih k' (List.mem_of_getElem? hk') k u o _ _ (hKa _ (List.mem_of_getElem? hk)) (hKb _ (List.mem_of_getElem? hk')) (htk u (List.mem_of_getElem? hu)) hFk (hkids i u k hu (by rw [sel, if_neg hs]; exact hk)) (h i u o k k' hu ho hk hk')
        exact ⟨k', hk', i1, i2⟩
      refine ⟨.mk _ _ _ _ _ _ _ (fun h => absurd h hs) fun i o k ho hk => ?_, .mk _ _ _ _ _ (by rw [hl]; exact htsh) fun o ho => ?_⟩
      · obtain ⟨k', hk', h3, _⟩ := key i o ho
        rw [sel, if_neg hs, hk'] at hk; cases hk; exact h3
      · obtain ⟨i, hi⟩ := List.mem_iff_getElem?.1 ho
        obtain ⟨_, _, _, h4⟩ := key i o hi
        exact h4
/-- What comes of a tree is one. -/
theorem wd_one : ∀ (b a : Kd) (t y z : Tr) (d1 d2 : Nat), KOk d1 a → KOk d2 b → TW t → Fits a b → Has a t → Wd a b t y → Wd a b t z → y = z := by
  intro b
  induction b using Kd.ind with
  | _ sb nb kb ih =>
    intro a t y z d1 d2 hOa hOb hT hF hH hY hZ
    obtain ⟨sa, na, ka⟩ := a
    obtain ⟨_, hSa, hKa⟩ := hOa.inv
    obtain ⟨_, hSb, hKb⟩ := hOb.inv
    cases hY with
    | m _ _ _ _ _ b0 _ y' hs hb h =>
      cases hZ with
      | m _ _ _ _ _ b1 _ z' _ hb1 h1 =>
        rw [hb] at hb1; cases hb1
        rw [ih b0 (List.mem_of_getElem? hb) _ _ _ _ _ _ hOa (hKb _ (List.mem_of_getElem? hb)) hT ((Fits.m_iff hs hb).1 hF) hH h h1]
      | c _ _ _ _ _ _ _ _ _ _ _ _ _ hs2 => exact absurd (hs2 rfl) hs
    | f _ _ _ _ _ ts tn tx tns tks outs hl h1 h2 =>
      obtain ⟨hss, hnames, hkids⟩ := hH.inv
      have h5 : sa = 5 := hF.sort_eq (by omega)
      subst h5
      obtain ⟨htsh, htk⟩ := hT.inv
      have hTs := tshape_sh htsh
      obtain ⟨f1, f2, f3⟩ := hF.f_inv
      have lb := hSb.form rfl
      cases hZ with
      | f _ _ _ _ _ _ _ _ _ _ outs2 hl2 g1 g2 =>
        have : outs = outs2 := List.ext_getElem? fun i => by
          cases ho : outs[i]? with
          | none =>
            have := List.getElem?_eq_none_iff.1 ho
            exact (List.getElem?_eq_none (by omega)).symm
          | some o =>
            obtain ⟨x, hx⟩ := at_len hl ho
            obtain ⟨o2, ho2⟩ := at_len hl2.symm hx
            obtain ⟨k', hk'⟩ := at_len lb.1 hx
            have hkid : kid nb kb x = some k' := kid_at (fun j hj e => by have := rise_inj (rise_true.1 lb.2) e hx; omega) hx hk'
            rw [ho2]
            congr 1
            rcases name_in na x with ⟨j, hj⟩ | hno
            · obtain ⟨k, u, hk, hu⟩ := form_at hSa hTs hss.symm (hnames rfl) hj
              exact ih k' (List.mem_of_getElem? hk') k u o o2 _ _ (hKa _ (List.mem_of_getElem? hk)) (hKb _ (List.mem_of_getElem? hk')) (htk u (List.mem_of_getElem? hu)) (f2 j x k k' hj hk hkid) (hkids j u k hu (by rw [sel, if_pos rfl]; exact hk)) (h1 i j x o k k' u hx ho hj hk hk' hu) (g1 i j x o2 k k' u hx ho2 hj hk hk' hu)
            · rw [h2 i x o hx ho hno, g2 i x o2 hx ho2 hno]
        rw [this]
      | c _ _ _ _ _ _ _ _ _ _ _ _ hs => exact absurd rfl hs
    | c _ _ _ _ _ _ ts tn tx tns tks outs hs hs2 hl h =>
      obtain ⟨hss, hnames, hkids⟩ := hH.inv
      subst hss
      obtain ⟨htsh, htk⟩ := hT.inv
      have hTs := tshape_sh htsh
      have hsab : sa = sb := by
        by_cases h6 : sb = 6
        · rw [hs2 h6, h6]
        · exact hF.sort_eq h6
      subst hsab
      cases hZ with
      | m _ _ _ _ _ _ _ _ hs6 => exact absurd rfl hs6
      | f => exact absurd rfl hs
      | c _ _ _ _ _ _ _ _ _ _ _ outs2 _ _ hl2 g =>
        have : outs = outs2 := List.ext_getElem? fun i => by
          cases ho : outs[i]? with
          | none =>
            have := List.getElem?_eq_none_iff.1 ho
            exact (List.getElem?_eq_none (by omega)).symm
          | some o =>
            obtain ⟨u, hu⟩ := at_len hl ho
            obtain ⟨o2, ho2⟩ := at_len hl2.symm hu
            have hil := (List.getElem?_eq_some_iff.1 hu).1
            have h46 : sa = 4 ∨ sa = 6 := by
              have := hSa.hi
              by_cases h4 : sa < 4
              · have := hTs.leaf h4; omega
              · omega
            obtain ⟨k, hk⟩ := one_at hSa h46
            obtain ⟨k', hk'⟩ := one_at hSb h46
            have hFk : Fits k k' := by
              rcases h46 with rfl | rfl
              · exact (Fits.l_iff hk hk').1 hF
              · exact (Fits.mm_iff hk hk').1 hF
            rw [ho2]
            congr 1
            exact ih k' (List.mem_of_getElem? hk') k u o o2 _ _ (hKa _ (List.mem_of_getElem? hk)) (hKb _ (List.mem_of_getElem? hk')) (htk u (List.mem_of_getElem? hu)) hFk (hkids i u k hu (by rw [sel, if_neg hs]; exact hk)) (h i u o k k' hu ho hk hk') (g i u o2 k k' hu ho2 hk hk')
        rw [this]
end Go.V
set_option linter.unusedSimpArgs false
namespace Go.V
open Go.Proofs
/-- Widening twice is widening once. -/
theorem wd_comp : ∀ (c b a : Kd) (t y x : Tr) (d1 d2 d3 : Nat), KOk d1 a → KOk d2 b → KOk d3 c → TW t → Fits a b → Fits b c → Has a t → Wd a b t y → Wd a c t x → Wd b c y x := by
  intro c
  induction c using Kd.ind with
  | _ sc nc kc ih =>
    intro b a t y x d1 d2 d3 hOa hOb hOc hT hab hbc hH hY hX
    obtain ⟨sb, nb, kb⟩ := b
    obtain ⟨sa, na, ka⟩ := a
    obtain ⟨ts, tn, tx, tns, tks⟩ := t
    have hOa' := hOa
    have hOb' := hOb
    have hT' := hT
    have hH' := hH
    obtain ⟨_, hSa, hKa⟩ := hOa.inv
    obtain ⟨_, hSb, hKb⟩ := hOb.inv
    obtain ⟨_, hSc, hKc⟩ := hOc.inv
    obtain ⟨hss, hnames, hkids⟩ := hH.inv
    subst hss
    obtain ⟨htsh, htk⟩ := hT.inv
    have hTs := tshape_sh htsh
    cases hX with
    | m _ _ _ _ _ c0 _ x' hs hc h =>
      have hmc := List.mem_of_getElem? hc
      cases hY with
      | m _ _ _ _ _ b0 _ y' _ hb g =>
        have hbc' : Fits b0 c0 := (Fits.mm_iff hb hc).1 hbc
        have hW := ih c0 hmc b0 _ _ y' x' _ _ _ hOa' (hKb _ (List.mem_of_getElem? hb)) (hKc _ hmc) hT' ((Fits.m_iff hs hb).1 hab) hbc' hH' g h
        refine .c _ _ _ _ _ _ _ _ _ _ _ _ (by omega) (fun _ => rfl) rfl fun i u o k k' hu ho hk hk' => ?_
        rw [hb] at hk; rw [hc] at hk'; cases hk; cases hk'
        cases i with
        | zero => simp at hu ho; subst hu ho; exact hW
        | succ i => simp at hu
      | f _ _ _ _ _ _ _ _ _ _ outs hl h1 h2 =>
        exact .m _ _ _ _ _ _ _ _ (by omega) hc (ih c0 hmc _ _ _ _ x' _ _ _ hOa' hOb' (hKc _ hmc) hT' hab ((Fits.m_iff (by omega) hc).1 hbc) hH' (.f _ _ _ _ _ _ _ _ _ _ _ hl h1 h2) h)
      | c _ _ _ _ _ _ _ _ _ _ _ outs hs5 hs6 hl h1 =>
        have hb6 : sb ≠ 6 := fun e => hs (hs6 e)
        exact .m _ _ _ _ _ _ _ _ hb6 hc (ih c0 hmc _ _ _ _ x' _ _ _ hOa' hOb' (hKc _ hmc) hT' hab ((Fits.m_iff hb6 hc).1 hbc) hH' (.c _ _ _ _ _ _ _ _ _ _ _ _ hs5 hs6 hl h1) h)
    | f _ _ _ _ _ _ _ _ _ _ outs hl h1 h2 =>
      have hsb : sb = 5 := hbc.sort_eq (by omega)
      subst hsb
      have hsa : sa = 5 := hab.sort_eq (by omega)
      subst hsa
      obtain ⟨f1, f2, f3⟩ := hab.f_inv
      obtain ⟨g1, g2, g3⟩ := hbc.f_inv
      have lb := hSb.form rfl
      have lc := hSc.form rfl
      cases hY with
      | c _ _ _ _ _ _ _ _ _ _ _ _ hs => exact absurd rfl hs
      | f _ _ _ _ _ _ _ _ _ _ outsB hlB hb1 hb2 =>
        refine .f _ _ _ _ _ _ _ _ _ _ _ hl (fun i j z o k k' u hi ho hj hk hk' hu => ?_) fun i z o hi ho hno => ?_
        · have hkidb : kid nb kb z = some k := kid_at (fun l hl e => by have := rise_inj (rise_true.1 lb.2) e hj; omega) hj hk
          have hkidc : kid nc kc z = some k' := kid_at (fun l hl e => by have := rise_inj (rise_true.1 lc.2) e hi; omega) hi hk'
          have hFk := g2 j z k k' hj hk hkidc
          rcases name_in na z with ⟨l, hl2⟩ | hno
          · obtain ⟨ka1, v, hka, hv⟩ := form_at hSa hTs rfl (hnames rfl) hl2
            exact ih k' (List.mem_of_getElem? hk') k ka1 v u o _ _ _ (hKa _ (List.mem_of_getElem? hka)) (hKb _ (List.mem_of_getElem? hk)) (hKc _ (List.mem_of_getElem? hk')) (htk v (List.mem_of_getElem? hv)) (f2 l z ka1 k hl2 hka hkidb) hFk (hkids l v ka1 hv (by rw [sel, if_pos rfl]; exact hka)) (hb1 j l z u ka1 k v hj hu hl2 hka hk hv) (h1 i l z o ka1 k' v hi ho hl2 hka hk' hv)
          · have e1 := hb2 j z u hj hu hno
            have e2 := h2 i z o hi ho hno
            subst e1 e2
            have hs6 := f3 j z k hj hk (kid_none hno)
            have hs6' := hFk.up6 hs6
            obtain ⟨s1, n1, k1⟩ := k
            obtain ⟨s2, n2, k2⟩ := k'
            have hs6 : s1 = 6 := hs6
            have hs6' : s2 = 6 := hs6'
            subst hs6 hs6'
            exact .c _ _ _ _ _ _ _ _ _ _ _ _ (by omega) (fun _ => rfl) rfl fun i u o k k' hu => by simp at hu
        · refine h2 i z o hi ho fun l hl2 => ?_
          obtain ⟨kb1, hkb1⟩ := f1 l z hl2
          obtain ⟨j, hj, _⟩ := kid_mem hkb1
          exact hno j hj
    | c _ _ _ _ _ _ _ _ _ _ _ outs hs hs2 hl h =>
      have hsac : sa = sc := by
        by_cases h6 : sc = 6
        · rw [hs2 h6, h6]
        · rw [hab.sort_eq (fun e => h6 (by have := hbc.sort_eq h6; omega)), hbc.sort_eq h6]
      subst hsac
      have hsab : sa = sb := by
        by_cases h6 : sb = 6
        · by_cases h6' : sa = 6
          · omega
          · have := hbc.sort_eq h6'; omega
        · exact hab.sort_eq h6
      subst hsab
      cases hY with
      | m _ _ _ _ _ _ _ _ hs6 => exact absurd rfl hs6
      | f => exact absurd rfl hs
      | c _ _ _ _ _ _ _ _ _ _ _ outsB _ _ hlB g =>
        refine .c _ _ _ _ _ _ _ _ _ _ _ _ hs (fun h => h) (by omega) fun i u o k k' hu ho hk hk' => ?_
        obtain ⟨v, hv⟩ := at_len hlB hu
        have hil := (List.getElem?_eq_some_iff.1 hv).1
        have h46 : sa = 4 ∨ sa = 6 := by
          have := hSa.hi
          by_cases h4 : sa < 4
          · have := hTs.leaf h4; omega
          · omega
        obtain ⟨ka1, hka⟩ := one_at hSa h46
        have hF1 : Fits ka1 k := by
          rcases h46 with rfl | rfl
          · exact (Fits.l_iff hka hk).1 hab
          · exact (Fits.mm_iff hka hk).1 hab
        have hF2 : Fits k k' := by
          rcases h46 with rfl | rfl
          · exact (Fits.l_iff hk hk').1 hbc
          · exact (Fits.mm_iff hk hk').1 hbc
        exact ih k' (List.mem_of_getElem? hk') k ka1 v u o _ _ _ (hKa _ (List.mem_of_getElem? hka)) (hKb _ (List.mem_of_getElem? hk)) (hKc _ (List.mem_of_getElem? hk')) (htk v (List.mem_of_getElem? hv)) hF1 hF2 (hkids i v ka1 hv (by rw [sel, if_neg hs]; exact hka)) (g i v u ka1 k hv hu hka hk) (h i v o ka1 k' hv ho hka hk')
/-! sums -/
def sumN (f : Nat → Nat) : Nat → Nat
  | 0 => 0
  | n + 1 => sumN f n + f n
theorem sumN_cut (g : Nat → Nat) (i0 : Nat) : ∀ m, i0 < m → sumN g m = sumN (fun i => if i = i0 then 0 else g i) m + g i0
  | 0, h => absurd h (Nat.not_lt_zero _)
  | m + 1, h => by
    by_cases e : m = i0
    · subst e
      have : ∀ k, k ≤ m → sumN (fun i => if i = m then 0 else g i) k = sumN g k := by
        intro k
        induction k with
        | zero => intro _; rfl
        | succ k ihk => intro hk; simp only [sumN, ihk (by omega)]; rw [if_neg (by omega)]
      simp only [sumN, this m (Nat.le_refl _), if_pos]
      omega
    · have := sumN_cut g i0 m (by omega)
      simp only [sumN, if_neg e]
      omega
theorem sumN_le : ∀ (n m : Nat) (f g σ : Nat → Nat), (∀ j, j < n → σ j < m ∧ f j ≤ g (σ j)) → (∀ i j, i < n → j < n → σ i = σ j → i = j) → sumN f n ≤ sumN g m
  | 0, _, _, _, _, _, _ => Nat.zero_le _
  | n + 1, m, f, g, σ, h, hi => by
    obtain ⟨h1, h2⟩ := h n (by omega)
    rw [sumN_cut g (σ n) m h1]
    have := sumN_le n m f (fun i => if i = σ n then 0 else g i) σ (fun j hj => by
      obtain ⟨h3, h4⟩ := h j (by omega)
      have hne : σ j ≠ σ n := fun e => by have := hi j n (by omega) (by omega) e; omega
      exact ⟨h3, by simp only [if_neg hne]; exact h4⟩) fun i j a b e => hi i j (by omega) (by omega) e
    simp only [sumN]
    omega
def partsAt (ks : List Tr) (i : Nat) : Nat := match ks[i]? with
  | some k => tparts k
  | none => 0
theorem partsAt_some {ks : List Tr} {i : Nat} {k : Tr} (h : ks[i]? = some k) : partsAt ks i = tparts k := by rw [partsAt, h]
theorem tpartsL_sum (ks : List Tr) : ∀ i, i ≤ ks.length → tpartsL (ks.take i) = sumN (partsAt ks) i
  | 0, _ => by simp [tpartsL, sumN]
  | i + 1, h => by
    obtain ⟨k, hk⟩ : ∃ k, ks[i]? = some k := ⟨_, List.getElem?_eq_getElem (by omega)⟩
    rw [List.take_add_one, hk]
    have := tpartsL_snoc (ks.take i) k
    simp only [Option.toList_some, sumN, partsAt_some hk]
    rw [this, tpartsL_sum ks i (by omega)]
theorem tpartsL_all (ks : List Tr) : tpartsL ks = sumN (partsAt ks) ks.length := by
  have := tpartsL_sum ks ks.length (Nat.le_refl _)
  rwa [List.take_length] at this
theorem sumN_mono (f g : Nat → Nat) : ∀ n, (∀ i, i < n → f i ≤ g i) → sumN f n ≤ sumN g n := fun n h =>
  sumN_le n n f g id (fun j hj => ⟨hj, h j hj⟩) fun _ _ _ _ e => e
/-- Widening loses no part, and makes no tree less deep. -/
theorem wd_le : ∀ (c b : Kd) (y z : Tr) (d1 d2 : Nat), KOk d1 b → KOk d2 c → TW y → Fits b c → Has b y → Wd b c y z → tparts y ≤ tparts z ∧ ∀ e, TDp e z → TDp e y := by
  intro c
  induction c using Kd.ind with
  | _ sc nc kc ih =>
    intro b y z d1 d2 hOb hOc hT hF hH hW
    obtain ⟨sb, nb, kb⟩ := b
    obtain ⟨_, hSb, hKb⟩ := hOb.inv
    obtain ⟨_, hSc, hKc⟩ := hOc.inv
    cases hW with
    | m _ _ _ _ _ c0 _ z' hs hc h =>
      obtain ⟨i1, i2⟩ := ih c0 (List.mem_of_getElem? hc) _ _ _ _ _ hOb (hKc _ (List.mem_of_getElem? hc)) hT ((Fits.m_iff hs hc).1 hF) hH h
      refine ⟨by simp only [tparts, tpartsL]; omega, fun e he => ?_⟩
      obtain ⟨e', rfl, h2⟩ := he.inv
      exact (i2 e' (h2 z' (by simp))).up
    | f _ _ _ _ _ ts tn tx tns tks outs hl h1 h2 =>
      obtain ⟨hss, hnames, hkids⟩ := hH.inv
      have h5 : sb = 5 := hF.sort_eq (by omega)
      subst h5
      obtain ⟨htsh, htk⟩ := hT.inv
      have hTs := tshape_sh htsh
      obtain ⟨f1, f2, f3⟩ := hF.f_inv
      have lb := hSb.form rfl
      have lc := hSc.form rfl
      have lt := hTs.form hss.symm
      have hn := hnames rfl
      subst hn
      have key : ∀ j, j < tks.length → ∃ i u o, tks[j]? = some u ∧ outs[i]? = some o ∧ nb[j]? = nc[i]? ∧ i < nc.length ∧ tparts u ≤ tparts o ∧ ∀ e, TDp e o → TDp e u := by
        intro j hj
        obtain ⟨x, hx⟩ : ∃ x, nb[j]? = some x := ⟨_, List.getElem?_eq_getElem (by omega)⟩
        obtain ⟨k, u, hk, hu⟩ := form_at hSb hTs hss.symm rfl hx
        obtain ⟨k', hk'⟩ := f1 j x hx
        obtain ⟨i, hi, hki⟩ := kid_mem hk'
        obtain ⟨o, ho⟩ := at_len hl.symm hi
        obtain ⟨i1, i2⟩ := ih k' (List.mem_of_getElem? hki) k u o _ _ (hKb _ (List.mem_of_getElem? hk)) (hKc _ (List.mem_of_getElem? hki)) (htk u (List.mem_of_getElem? hu)) (f2 j x k k' hx hk hk') (hkids j u k hu (by rw [sel, if_pos rfl]; exact hk)) (h1 i j x o k k' u hi ho hx hk hki hu)
        exact ⟨i, u, o, hu, ho, by rw [hx, hi], (List.getElem?_eq_some_iff.1 hi).1, i1, i2⟩
      refine ⟨?_, fun e he => ?_⟩
      · simp only [tparts, tpartsL_all]
        have hch : ∃ σ : Nat → Nat, ∀ j, j < tks.length → ∃ u o, tks[j]? = some u ∧ outs[σ j]? = some o ∧ nb[j]? = nc[σ j]? ∧ σ j < nc.length ∧ tparts u ≤ tparts o := by
          refine ⟨fun j => if h : j < tks.length then Classical.choose (key j h) else 0, fun j hj => ?_⟩
          simp only [dif_pos hj]
          obtain ⟨u, o, q1, q2, q3, q4, q5, _⟩ := Classical.choose_spec (key j hj)
          exact ⟨u, o, q1, q2, q3, q4, q5⟩
        obtain ⟨σ, hσ⟩ := hch
        have := sumN_le tks.length outs.length (partsAt tks) (partsAt outs) σ (fun j hj => by
          obtain ⟨u, o, q1, q2, _, q4, q5⟩ := hσ j hj
          exact ⟨by omega, by rw [partsAt_some q1, partsAt_some q2]; exact q5⟩) fun i j hi hj e => by
          obtain ⟨_, _, _, _, p3, p4, _⟩ := hσ i hi
          obtain ⟨_, _, _, _, q3, _, _⟩ := hσ j hj
          obtain ⟨x, hx⟩ : ∃ x, nb[i]? = some x := ⟨_, List.getElem?_eq_getElem (by omega)⟩
          refine rise_inj (rise_true.1 lb.2) hx ?_
          rw [q3, ← e, ← p3]; exact hx
        omega
      · obtain ⟨e', rfl, g⟩ := he.inv
        refine .mk _ _ _ _ _ _ fun u hu => ?_
        obtain ⟨j, hj⟩ := List.mem_iff_getElem?.1 hu
        obtain ⟨i, u2, o, q1, q2, _, _, _, q6⟩ := key j (List.getElem?_eq_some_iff.1 hj).1
        rw [hj] at q1; cases q1
        exact q6 e' (g o (List.mem_of_getElem? q2))
    | c _ _ _ _ _ _ ts tn tx tns tks outs hs hs2 hl h =>
      obtain ⟨hss, hnames, hkids⟩ := hH.inv
      subst hss
      obtain ⟨htsh, htk⟩ := hT.inv
      have hTs := tshape_sh htsh
      have hsab : sb = sc := by
        by_cases h6 : sc = 6
        · rw [hs2 h6, h6]
        · exact hF.sort_eq h6
      subst hsab
      have key : ∀ (j : Nat) u, tks[j]? = some u → ∃ o, outs[j]? = some o ∧ tparts u ≤ tparts o ∧ ∀ e, TDp e o → TDp e u := by
        intro j u hu
        obtain ⟨o, ho⟩ := at_len hl.symm hu
        have hil := (List.getElem?_eq_some_iff.1 hu).1
        have h46 : sb = 4 ∨ sb = 6 := by
          have := hSb.hi
          by_cases h4 : sb < 4
          · have := hTs.leaf h4; omega
          · omega
        obtain ⟨k, hk⟩ := one_at hSb h46
        obtain ⟨k', hk'⟩ := one_at hSc h46
        have hFk : Fits k k' := by
          rcases h46 with rfl | rfl
          · exact (Fits.l_iff hk hk').1 hF
          · exact (Fits.mm_iff hk hk').1 hF
        obtain ⟨i1, i2⟩ := ih k' (List.mem_of_getElem? hk') k u o _ _ (hKb _ (List.mem_of_getElem? hk)) (hKc _ (List.mem_of_getElem? hk')) (htk u (List.mem_of_getElem? hu)) hFk (hkids j u k hu (by rw [sel, if_neg hs]; exact hk)) (h j u o k k' hu ho hk hk')
        exact ⟨o, ho, i1, i2⟩
      refine ⟨?_, fun e he => ?_⟩
      · simp only [tparts, tpartsL_all, hl]
        have := sumN_mono (partsAt tks) (partsAt outs) tks.length fun j hj => by
          obtain ⟨u, hu⟩ : ∃ u, tks[j]? = some u := ⟨_, List.getElem?_eq_getElem hj⟩
          obtain ⟨o, ho, h1, _⟩ := key j u hu
          rw [partsAt_some hu, partsAt_some ho]; exact h1
        omega
      · obtain ⟨e', rfl, g⟩ := he.inv
        refine .mk _ _ _ _ _ _ fun u hu => ?_
        obtain ⟨j, hj⟩ := List.mem_iff_getElem?.1 hu
        obtain ⟨o, ho, _, h2⟩ := key j u hj
        exact h2 e' (g o (List.mem_of_getElem? ho))
theorem okT_z0 : okT z0T = false := okT_false.2 fun h => by
  have := h.1.inv.2.1
  simp [tshape] at this
/-- P7. -/
theorem way_law {a b c : Kd} {t x y z : Tr} {one two three : Bool} (ha : okK a = true) (hb : okK b = true) (hc : okK c = true) (hab : Fits a b) (hbc : Fits b c) (h1 : KW a c t x one) (h2 : KW a b t y two) (h3 : KW b c y z three) :
    (one == (two && three)) = true ∧ x = z := by
  have hOa := (okK_true.1 ha).1
  have hOb := (okK_true.1 hb).1
  have hOc := (okK_true.1 hc).1
  have hac := fits_trans c b a _ _ _ hOa hOb hOc hab hbc
  have z3 : y = z0T → three = false ∧ z = z0T := by
    rintro rfl
    rcases h3 with ⟨w, _, _, _, h, _⟩ | ⟨_, e1, e2⟩
    · rw [okT_z0] at h; cases h
    · exact ⟨e1, e2⟩
  by_cases hP : okT t = true ∧ Has a t
  · obtain ⟨hT, hH⟩ := hP
    have hTW := (TOk.ts (okT_true.1 hT).1).1
    rcases h1 with ⟨w1, _, _, _, _, _, hW1, r1⟩ | ⟨hn, _⟩
    case inr => exact absurd ⟨ha, hc, hac, hT, hH⟩ hn
    rcases h2 with ⟨w2, _, _, _, _, _, hW2, r2⟩ | ⟨hn, _⟩
    case inr => exact absurd ⟨ha, hb, hab, hT, hH⟩ hn
    have hcomp := wd_comp c b a t w2 w1 _ _ _ hOa hOb hOc hTW hab hbc hH hW2 hW1
    obtain ⟨hHy, hTy⟩ := wd_has b a t w2 _ _ hOa hOb hTW hab hH hW2
    rcases r2 with ⟨k2, rfl, rfl⟩ | ⟨k2, rfl, rfl⟩
    · rcases h3 with ⟨w3, _, _, _, _, _, hW3, r3⟩ | ⟨hn, _⟩
      case inr => exact absurd ⟨hb, hc, hbc, k2, hHy⟩ hn
      have e := wd_one c b y w3 w1 _ _ hOb hOc hTy hbc hHy hW3 hcomp
      subst e
      rcases r1 with ⟨k1, rfl, rfl⟩ | ⟨k1, rfl, rfl⟩ <;> rcases r3 with ⟨k3, rfl, rfl⟩ | ⟨k3, rfl, rfl⟩
      · exact ⟨rfl, rfl⟩
      · rw [k1] at k3; cases k3
      · rw [k1] at k3; cases k3
      · exact ⟨rfl, rfl⟩
    · obtain ⟨e1, e2⟩ := z3 rfl
      subst e1 e2
      rcases r1 with ⟨k1, rfl, rfl⟩ | ⟨k1, rfl, rfl⟩
      · obtain ⟨m1, m2⟩ := wd_le c b w2 x _ _ hOb hOc hTy hbc hHy hcomp
        obtain ⟨o1, o2⟩ := okT_true.1 k1
        have := okT_true.2 ⟨TW.ok hTy (m2 6 (TOk.ts o1).2) (by omega), by omega⟩
        rw [this] at k2; cases k2
      · exact ⟨rfl, rfl⟩
  · rcases h1 with ⟨w1, _, _, _, q1, q2, _⟩ | ⟨_, rfl, rfl⟩
    · exact absurd ⟨q1, q2⟩ hP
    rcases h2 with ⟨w2, _, _, _, q1, q2, _⟩ | ⟨_, rfl, rfl⟩
    · exact absurd ⟨q1, q2⟩ hP
    obtain ⟨e1, e2⟩ := z3 rfl
    subst e1 e2
    exact ⟨rfl, rfl⟩
end Go.V

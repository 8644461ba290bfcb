/- It is proved that the law FnKindWiden returns true for every input and leaves its input as it was; no condition. -/
import Derived.Test.YtejcaodogbmpdaaWK2
set_option linter.unusedSimpArgs false
namespace Go.V
open Go.Proofs
/-- The schema of a name. -/
def kid : List ByteArray → List Kd → ByteArray → Option Kd
  | n :: ns, k :: ks, x => if n = x then some k else kid ns ks x
  | _, _, _ => none
theorem kid_at : ∀ {ns : List ByteArray} {ks : List Kd} {x : ByteArray} {i : Nat} {k : Kd}, (∀ j, j < i → ns[j]? ≠ some x) → ns[i]? = some x → ks[i]? = some k → kid ns ks x = some k
  | [], _, _, _, _, _, h, _ => by simp at h
  | _ :: _, [], _, _, _, _, _, h => by simp at h
  | n :: ns, k0 :: ks, x, 0, k, _, h1, h2 => by simp at h1 h2; subst h1 h2; simp [kid]
  | n :: ns, k0 :: ks, x, i + 1, k, h0, h1, h2 => by
    have hn : n ≠ x := fun e => h0 0 (by omega) (by simp [e])
    simp only [kid, if_neg hn]
    exact kid_at (i := i) (fun j hj => by have := h0 (j + 1) (by omega); simpa using this) (by simpa using h1) (by simpa using h2)
theorem kid_none : ∀ {ns : List ByteArray} {ks : List Kd} {x : ByteArray}, (∀ j : Nat, ns[j]? ≠ some x) → kid ns ks x = none
  | [], _, _, _ => by simp [kid]
  | _ :: _, [], _, _ => by simp [kid]
  | n :: ns, k0 :: ks, x, h => by
    have hn : n ≠ x := fun e => h 0 (by simp [e])
    simp only [kid, if_neg hn]
    exact kid_none fun j => by have := h (j + 1); simpa using this
theorem kid_mem : ∀ {ns : List ByteArray} {ks : List Kd} {x : ByteArray} {k : Kd}, kid ns ks x = some k → ∃ i : Nat, ns[i]? = some x ∧ ks[i]? = some k
  | [], _, _, _, h => by simp [kid] at h
  | _ :: _, [], _, _, h => by simp [kid] at h
  | n :: ns, k0 :: ks, x, k, h => by
    simp only [kid] at h
    split at h
    · rename_i e; subst e; cases h; exact ⟨0, rfl, rfl⟩
    · obtain ⟨i, h1, h2⟩ := kid_mem h; exact ⟨i + 1, by simpa using h1, by simpa using h2⟩
def kidR (ns : List ByteArray) (ks : List Kd) (x : ByteArray) : Kd × Bool := match kid ns ks x with
  | some k => (k, true)
  | none => (.mk 0 [] [], false)
abbrev tKB (q : Kd × Bool) : T := .tup [.agg ((encK q.1).map .v), .one (.v (.s (.bool q.2)))]
/- loop.example/teagle/spec.l3Kid -/
def r77_0 : List AOper := [ao 0 2 (.box 26 (.t 0)),
  ao 1 4 (.alloc 26 [(.v (.s (.int .i64 0))), .nil0, .nil0]),
  ao 2 5 (.mv (.k (.b false)))]
def r77_1 : List AOper := [ao 0 6 (.mv (.k (.i 0)))]
def r77_2 : List AOper := [ao 0 7 (.mv (.t 6)),
  ao 1 8 (.fa 1 (.t 2)),
  ao 2 9 (.ld 1 false (.t 8)),
  ao 3 10 (.len (.t 9)),
  ao 4 11 (.bin .lss (.t 7) (.t 10))]
def c77_3 : ACode := .cond (.t 11) .skip (.exit 0)
def c77_4 : ACode := .seq (.reg r77_2) c77_3
def r77_5 : List AOper := [ao 0 14 (.fa 1 (.t 2)),
  ao 1 15 (.ld 1 false (.t 14)),
  ao 2 16 (.mv (.t 6)),
  ao 3 17 (.ia 1 (.t 15) (.t 16)),
  ao 4 18 (.ld 1 false (.t 17)),
  ao 5 19 (.mv (.t 1)),
  ao 6 20 (.bin .eql (.t 18) (.t 19))]
def r77_6 : List AOper := [ao 0 21 (.fa 2 (.t 2)),
  ao 1 22 (.ld 1 false (.t 21)),
  ao 2 23 (.mv (.t 6)),
  ao 3 24 (.ia 3 (.t 22) (.t 23)),
  ao 4 25 (.ld 3 true (.t 24)),
  an 5 (.st 3 (.t 4) (.t 25)),
  ao 6 5 (.mv (.k (.b true)))]
def c77_7 : ACode := .seq (.reg r77_6) .ret
def c77_8 : ACode := .cond (.t 20) c77_7 .skip
def c77_9 : ACode := .seq (.reg r77_5) c77_8
def c77_10 : ACode := .block 1 c77_9
def r77_11 : List AOper := [ao 0 12 (.mv (.t 6)),
  ao 1 13 (.bin .add (.t 12) (.k (.i 1))),
  ao 2 6 (.mv (.t 13))]
def c77_12 : ACode := .seq c77_4 (.seq c77_10 (.reg r77_11))
def c77_13 : ACode := .loop c77_12
def c77_14 : ACode := .block 0 c77_13
def c77_15 : ACode := .seq (.reg r77_1) c77_14
def r77_16 : List AOper := [ao 0 26 (.build [(.v (.s (.int .i64 0))), .nil0, .nil0] []),
  an 1 (.st 3 (.t 4) (.t 26)),
  ao 2 5 (.mv (.k (.b false)))]
def c77 : ACode := .seq (.reg r77_0) (.seq c77_15 (.seq (.reg r77_16) .ret))
def s77 : List ARes := [.cell 4 3 true, .tmp 5]
theorem ok77 : okF Try.prog 77 27 c77 s77 := ⟨Try.f77, Try.func77, Try.ntmps77, by kernel_rfl, by kernel_rfl, by kernel_rfl⟩
def inv77 (s : Int) (ns : List ByteArray) (ks : List Kd) (x : ByteArray) (i : Nat) (σ : St) : Prop :=
  (∀ j, j < i → ns[j]? ≠ some x) ∧ σ.t 1 = .s (.string x) ∧ σ.t 6 = .i i ∧ (∃ u, σ.t 2 = .c (.ptr 2 u 0) ∧ σ.H 2 = some (.var u 26 [.v (.s (.int .i64 s)), .v (.sl (encS ns)), .v (.sl (encKs ks))])) ∧ (∃ u, σ.t 4 = .c (.ptr 4 u 0) ∧ σ.H 4 = some (.var u 26 [.v (.s (.int .i64 0)), .nil0, .nil0]))
theorem UKx_1 : (type_of% (uA c77.eq_1)) ∧ (type_of% (uR r77_0.eq_1)) ∧ (type_of% (uA c77_15.eq_1)) ∧ (type_of% (uR r77_1.eq_1)) ∧ (type_of% (uA c77_14.eq_1)) ∧ (type_of% (uA c77_13.eq_1)) ∧ (type_of% (uR r77_16.eq_1)) ∧ (type_of% s77.eq_1) :=
  ⟨uA c77.eq_1, uR r77_0.eq_1, uA c77_15.eq_1, uR r77_1.eq_1, uA c77_14.eq_1, uA c77_13.eq_1, uR r77_16.eq_1, s77.eq_1⟩
theorem UKx_2 : (type_of% (uA c77_12.eq_1)) ∧ (type_of% (uA c77_4.eq_1)) ∧ (type_of% (uR r77_2.eq_1)) ∧ (type_of% (uA c77_3.eq_1)) ∧ (type_of% (uA c77_10.eq_1)) ∧ (type_of% (uA c77_9.eq_1)) ∧ (type_of% (uR r77_5.eq_1)) ∧ (type_of% (uA c77_8.eq_1)) ∧ (type_of% (uA c77_7.eq_1)) ∧ (type_of% (uR r77_6.eq_1)) ∧ (type_of% (uR r77_11.eq_1)) ∧ (type_of% (uA c77.eq_1)) ∧ (type_of% (uR r77_0.eq_1)) ∧ (type_of% (uA c77_15.eq_1)) ∧ (type_of% (uR r77_1.eq_1)) ∧ (type_of% (uA c77_14.eq_1)) ∧ (type_of% (uA c77_13.eq_1)) ∧ (type_of% (uR r77_16.eq_1)) ∧ (type_of% s77.eq_1) :=
  ⟨uA c77_12.eq_1, uA c77_4.eq_1, uR r77_2.eq_1, uA c77_3.eq_1, uA c77_10.eq_1, uA c77_9.eq_1, uR r77_5.eq_1, uA c77_8.eq_1, uA c77_7.eq_1, uR r77_6.eq_1, uR r77_11.eq_1, uA c77.eq_1, uR r77_0.eq_1, uA c77_15.eq_1, uR r77_1.eq_1, uA c77_14.eq_1, uA c77_13.eq_1, uR r77_16.eq_1, s77.eq_1⟩
theorem kid_ok (s : Int) (ns : List ByteArray) (ks : List Kd) (x : ByteArray) (hl : ns.length ≤ ks.length) (hn : ns.length ≤ 1000000) : ACallsF Try.prog 77 [tK (.mk s ns ks), .s (.string x)] [] (tKB (kidR ns ks x)) := by
  refine ACallsF.intro ok77 follows fun X c0 => ?_
  simp only [RUN, core, T.c, T.s, T.b, T.i, sBin, sInt, sUn, isShift, asInt, P1.cells, loadT, ptrC, storeT, putC, fillP, Nat.reduceAdd, reduceIte, Nat.reduceEqDiff, Nat.reduceLT, Nat.reduceLeDiff, reduceCtorEq, eq_self, FIT, lendCs_map, verC_map, FinC, resPs, resP, lendPl, lendCs, lendC, sealC, partsT, finHs, tupT, verT, verP, verC, verB, verAt, Blk.ver, handsAre, forall_const, APT, srcOf, sealPs, sealCs, sealC, List.mem_singleton, forall_eq, ALT, UKx_1, encK_mk]
  refine AW.upto ns.length (inv77 s ns ks x) ⟨fun j hj => absurd hj (Nat.not_lt_zero j), rfl, rfl, ⟨_, rfl, rfl⟩, ⟨_, rfl, rfl⟩⟩ fun i t H c hi h => ?_
  obtain ⟨g0, e1, e6, ⟨u2, e2, eH2⟩, ⟨u4, e4, eH4⟩⟩ := h
  simp only [T.c, T.i, T.s] at e1 e6 e2 eH2 e4 eH4
  by_cases hlt : i < ns.length
  · have k1 : (i : Int) < ns.length := by omega
    have gz : (0 : Int) ≤ i := by omega
    have gw : IntKind.i64.wrap ((i : Int) + 1) = ((i + 1 : Nat) : Int) := wrap64 (x := (i : Int) + 1) ⟨by omega, by omega⟩
    obtain ⟨y, hy⟩ : ∃ y, ns[i]? = some y := ⟨_, List.getElem?_eq_getElem hlt⟩
    obtain ⟨k, hk⟩ : ∃ k, ks[i]? = some k := ⟨_, List.getElem?_eq_getElem (by omega)⟩
    have es := encS_at hy
    have ek := encKs_at hk
    by_cases hyx : y = x
    · subst hyx
      have hq : kidR ns ks y = (k, true) := by rw [kidR, kid_at g0 hy hk]
      simp only [RUN, core, T.c, T.s, T.b, T.i, sBin, sInt, sUn, isShift, asInt, P1.cells, loadT, ptrC, storeT, putC, fillP, Nat.reduceAdd, reduceIte, Nat.reduceEqDiff, Nat.reduceLT, Nat.reduceLeDiff, reduceCtorEq, eq_self, FIT, lendCs_map, verC_map, FinC, resPs, resP, lendPl, lendCs, lendC, sealC, partsT, finHs, tupT, verT, verP, verC, verB, verAt, Blk.ver, handsAre, forall_const, CHT, disj, Nat.reduceBEq, beq_self_eq_true, APT, srcOf, sealPs, sealCs, sealC, List.mem_singleton, forall_eq, ALT, UKx_2, e1, e6, e2, eH2, e4, eH4, k1, gz, encS_len, es, ek, Int.toNat_natCast, sStr, str_beq, hq, List.length_map, encK_len, takeK, Nat.le_refl]
    · simp only [RUN, core, T.c, T.s, T.b, T.i, sBin, sInt, sUn, isShift, asInt, P1.cells, loadT, ptrC, storeT, putC, fillP, Nat.reduceAdd, reduceIte, Nat.reduceEqDiff, Nat.reduceLT, Nat.reduceLeDiff, reduceCtorEq, eq_self, FIT, lendCs_map, verC_map, FinC, resPs, resP, lendPl, lendCs, lendC, sealC, partsT, finHs, tupT, verT, verP, verC, verB, verAt, Blk.ver, handsAre, forall_const, CHT, disj, Nat.reduceBEq, beq_self_eq_true, APT, srcOf, sealPs, sealCs, sealC, List.mem_singleton, forall_eq, ALT, UKx_2, e1, e6, e2, eH2, e4, eH4, k1, gz, encS_len, es, ek, Int.toNat_natCast, sStr, str_beq, hyx, gw]
      exact ⟨hlt, fun j hj => by
        rcases Nat.lt_succ_iff_lt_or_eq.1 hj with hj | rfl
        · exact g0 j hj
        · rw [hy]; intro e; cases e; exact hyx rfl, e1, rfl, ⟨u2, e2, eH2⟩, ⟨u4, e4, eH4⟩⟩
  · have k1 : ¬ (i : Int) < ns.length := by omega
    have hq : kidR ns ks x = (.mk 0 [] [], false) := by
      rw [kidR, kid_none fun j => ?_]
      by_cases hj : j < ns.length
      · exact g0 j (by omega)
      · rw [List.getElem?_eq_none (by omega)]; simp
    simp only [RUN, core, T.c, T.s, T.b, T.i, sBin, sInt, sUn, isShift, asInt, P1.cells, loadT, ptrC, storeT, putC, fillP, Nat.reduceAdd, reduceIte, Nat.reduceEqDiff, Nat.reduceLT, Nat.reduceLeDiff, reduceCtorEq, eq_self, FIT, lendCs_map, verC_map, FinC, resPs, resP, lendPl, lendCs, lendC, sealC, partsT, finHs, tupT, verT, verP, verC, verB, verAt, Blk.ver, handsAre, forall_const, CHT, disj, Nat.reduceBEq, beq_self_eq_true, APT, srcOf, sealPs, sealCs, sealC, List.mem_singleton, forall_eq, ALT, UKx_2, UKx_1, e1, e6, e2, eH2, e4, eH4, k1, encS_len, hq, encK_mk]
def Kd.sort : Kd → Int
  | .mk s _ _ => s
inductive Fits : Kd → Kd → Prop
  | mm (ns : List ByteArray) (ks : List Kd) (ns' : List ByteArray) (ks' : List Kd) (a b : Kd) (ha : ks[0]? = some a) (hb : ks'[0]? = some b) (h : Fits a b) : Fits (.mk 6 ns ks) (.mk 6 ns' ks')
  | m (s : Int) (ns : List ByteArray) (ks : List Kd) (ns' : List ByteArray) (ks' : List Kd) (b : Kd) (hs : s ≠ 6) (hb : ks'[0]? = some b) (h : Fits (.mk s ns ks) b) : Fits (.mk s ns ks) (.mk 6 ns' ks')
  | l (ns : List ByteArray) (ks : List Kd) (ns' : List ByteArray) (ks' : List Kd) (a b : Kd) (ha : ks[0]? = some a) (hb : ks'[0]? = some b) (h : Fits a b) : Fits (.mk 4 ns ks) (.mk 4 ns' ks')
  | leaf (s : Int) (ns : List ByteArray) (ks : List Kd) (ns' : List ByteArray) (ks' : List Kd) (hs : s < 4) : Fits (.mk s ns ks) (.mk s ns' ks')
  | f (ns : List ByteArray) (ks : List Kd) (ns' : List ByteArray) (ks' : List Kd) (h1 : ∀ (i : Nat) x, ns[i]? = some x → ∃ k', kid ns' ks' x = some k')
      (h2 : ∀ (i : Nat) x k k', ns[i]? = some x → ks[i]? = some k → kid ns' ks' x = some k' → Fits k k') (h3 : ∀ (i : Nat) x (k' : Kd), ns'[i]? = some x → ks'[i]? = some k' → kid ns ks x = none → k'.sort = 6) : Fits (.mk 5 ns ks) (.mk 5 ns' ks')
noncomputable def fits (a b : Kd) : Bool := @decide (Fits a b) (Classical.propDecidable _)
theorem fits_true {a b : Kd} : fits a b = true ↔ Fits a b := by simp [fits]
theorem fits_false {a b : Kd} : fits a b = false ↔ ¬ Fits a b := by simp [fits]
theorem Fits.mm_iff {ns : List ByteArray} {ks : List Kd} {ns' : List ByteArray} {ks' : List Kd} {a b : Kd} (ha : ks[0]? = some a) (hb : ks'[0]? = some b) : Fits (.mk 6 ns ks) (.mk 6 ns' ks') ↔ Fits a b := by
  constructor
  · intro h
    cases h with
    | mm _ _ _ _ a' b' ha' hb' h => rw [ha] at ha'; rw [hb] at hb'; cases ha'; cases hb'; exact h
    | m _ _ _ _ _ _ hs => exact absurd rfl hs
    | leaf _ _ _ _ _ hs => omega
  · exact .mm _ _ _ _ _ _ ha hb
theorem Fits.m_iff {s : Int} {ns : List ByteArray} {ks : List Kd} {ns' : List ByteArray} {ks' : List Kd} {b : Kd} (hs : s ≠ 6) (hb : ks'[0]? = some b) : Fits (.mk s ns ks) (.mk 6 ns' ks') ↔ Fits (.mk s ns ks) b := by
  constructor
  · intro h
    cases h with
    | mm => exact absurd rfl hs
    | m _ _ _ _ _ b' _ hb' h => rw [hb] at hb'; cases hb'; exact h
    | leaf _ _ _ _ _ hs => omega
  · exact .m _ _ _ _ _ _ hs hb
theorem Fits.l_iff {ns : List ByteArray} {ks : List Kd} {ns' : List ByteArray} {ks' : List Kd} {a b : Kd} (ha : ks[0]? = some a) (hb : ks'[0]? = some b) : Fits (.mk 4 ns ks) (.mk 4 ns' ks') ↔ Fits a b := by
  constructor
  · intro h
    cases h with
    | l _ _ _ _ a' b' ha' hb' h => rw [ha] at ha'; rw [hb] at hb'; cases ha'; cases hb'; exact h
    | leaf _ _ _ _ _ hs => omega
  · exact .l _ _ _ _ _ _ ha hb
theorem Fits.sort_eq {s s' : Int} {ns : List ByteArray} {ks : List Kd} {ns' : List ByteArray} {ks' : List Kd} (hs : s' ≠ 6) (h : Fits (.mk s ns ks) (.mk s' ns' ks')) : s = s' := by
  cases h with
  | mm => exact absurd rfl hs
  | m => exact absurd rfl hs
  | l => rfl
  | leaf => rfl
  | f => rfl
end Go.V
set_option linter.unusedSimpArgs false
namespace Go.V
open Go.Proofs
/- loop.example/teagle/spec.l3Fits -/
def r41_0 : List AOper := [ao 0 2 (.box 26 (.t 0)),
  ao 1 3 (.box 26 (.t 1)),
  ao 2 4 (.mv (.k (.b false)))]
def r41_1 : List AOper := [ao 0 11 (.fa 0 (.t 3)),
  ao 1 12 (.ld 1 false (.t 11)),
  ao 2 13 (.bin .eql (.t 12) (.k (.i 6)))]
def r41_2 : List AOper := [ao 0 14 (.fa 0 (.t 2)),
  ao 1 15 (.ld 1 false (.t 14)),
  ao 2 16 (.bin .eql (.t 15) (.k (.i 6)))]
def r41_3 : List AOper := [ao 0 17 (.fa 2 (.t 2)),
  ao 1 18 (.ld 1 false (.t 17)),
  ao 2 19 (.ia 3 (.t 18) (.k (.i 0))),
  ao 3 20 (.ld 3 true (.t 19)),
  au 4 21 (ru 4) (.fa 2 (.t 3)),
  au 5 22 (ru 4) (.ld 1 false (.t 21)),
  au 6 23 (ru 4) (.ia 3 (.t 22) (.k (.i 0))),
  au 7 24 (ru 4) (.ld 3 true (.t 23)),
  ao 8 25 (.call (.k (.c (.fn 41 []))) [(.t 20), (.t 24)]),
  ao 9 4 (.mv (.t 25))]
def c41_4 : ACode := .seq (.reg r41_3) .ret
def c41_5 : ACode := .cond (.t 16) c41_4 .skip
def c41_6 : ACode := .seq (.reg r41_2) c41_5
def r41_7 : List AOper := [ao 0 26 (.ld 3 true (.t 2)),
  au 1 27 [0] (.fa 2 (.t 3)),
  au 2 28 [0] (.ld 1 false (.t 27)),
  au 3 29 [0] (.ia 3 (.t 28) (.k (.i 0))),
  au 4 30 [0] (.ld 3 true (.t 29)),
  ao 5 31 (.call (.k (.c (.fn 41 []))) [(.t 26), (.t 30)]),
  ao 6 4 (.mv (.t 31))]
def c41_8 : ACode := .seq c41_6 (.seq (.reg r41_7) .ret)
def c41_9 : ACode := .cond (.t 13) c41_8 .skip
def c41_10 : ACode := .seq (.reg r41_1) c41_9
def r41_11 : List AOper := [ao 0 32 (.fa 0 (.t 2)),
  ao 1 33 (.ld 1 false (.t 32)),
  ao 2 34 (.fa 0 (.t 3)),
  ao 3 35 (.ld 1 false (.t 34)),
  ao 4 36 (.bin .neq (.t 33) (.t 35))]
def r41_12 : List AOper := [ao 0 4 (.mv (.k (.b false)))]
def c41_13 : ACode := .seq (.reg r41_12) .ret
def c41_14 : ACode := .cond (.t 36) c41_13 .skip
def c41_15 : ACode := .seq (.reg r41_11) c41_14
def r41_16 : List AOper := [ao 0 37 (.fa 0 (.t 2)),
  ao 1 38 (.ld 1 false (.t 37)),
  ao 2 39 (.bin .eql (.t 38) (.k (.i 4)))]
def r41_17 : List AOper := [ao 0 40 (.fa 2 (.t 2)),
  ao 1 41 (.ld 1 false (.t 40)),
  ao 2 42 (.ia 3 (.t 41) (.k (.i 0))),
  ao 3 43 (.ld 3 true (.t 42)),
  au 4 44 (ru 4) (.fa 2 (.t 3)),
  au 5 45 (ru 4) (.ld 1 false (.t 44)),
  au 6 46 (ru 4) (.ia 3 (.t 45) (.k (.i 0))),
  au 7 47 (ru 4) (.ld 3 true (.t 46)),
  ao 8 48 (.call (.k (.c (.fn 41 []))) [(.t 43), (.t 47)]),
  ao 9 4 (.mv (.t 48))]
def c41_18 : ACode := .seq (.reg r41_17) .ret
def c41_19 : ACode := .cond (.t 39) c41_18 .skip
def c41_20 : ACode := .seq (.reg r41_16) c41_19
def r41_21 : List AOper := [ao 0 5 (.mv (.k (.i 0)))]
def r41_22 : List AOper := [ao 0 49 (.mv (.t 5)),
  ao 1 50 (.fa 1 (.t 2)),
  ao 2 51 (.ld 1 false (.t 50)),
  ao 3 52 (.len (.t 51)),
  ao 4 53 (.bin .lss (.t 49) (.t 52))]
def c41_23 : ACode := .cond (.t 53) .skip (.exit 0)
def c41_24 : ACode := .seq (.reg r41_22) c41_23
def r41_25 : List AOper := [ao 0 57 (.ld 3 true (.t 3)),
  au 1 58 [0] (.fa 1 (.t 2)),
  au 2 59 [0] (.ld 1 false (.t 58)),
  au 3 60 (ru 3) (.mv (.t 5)),
  au 4 61 [0] (.ia 1 (.t 59) (.t 60)),
  au 5 62 [0] (.ld 1 false (.t 61)),
  ao 6 63 (.call (.k (.c (.fn 77 []))) [(.t 57), (.t 62)]),
  ao 7 56 (.mv (.t 63)),
  ao 8 64 (.ext 0 (.t 56)),
  au 9 65 [8] (.ext 1 (.t 56)),
  au 10 6 (ru 10) (.alloc 26 [(.v (.s (.int .i64 0))), .nil0, .nil0]),
  ax 11 none none [9] (.st 3 (.t 6) (.t 64)),
  ao 12 7 (.mv (.t 65))]
def r41_26 : List AOper := [ao 0 66 (.mv (.t 7)),
  ao 1 67 (.un .not (.t 66)),
  ao 2 68 (.mv (.t 67)),
  ag 3 69 68 false [] (.fa 2 (.t 2)),
  ag 4 70 68 false [] (.ld 1 false (.t 69)),
  ag 5 71 68 false [3, 4] (.mv (.t 5)),
  ag 6 72 68 false [] (.ia 3 (.t 70) (.t 71)),
  ag 7 73 68 false [] (.ld 3 true (.t 72)),
  ag 8 74 68 false [3, 4, 5, 6, 7] (.ld 3 true (.t 6)),
  ag 9 75 68 false [] (.call (.k (.c (.fn 41 []))) [(.t 73), (.t 74)]),
  ag 10 76 68 false [] (.un .not (.t 75)),
  ao 11 77 (.pick (.t 68) (.k (.b true)) (.t 76))]
def r41_27 : List AOper := [ao 0 4 (.mv (.k (.b false)))]
def c41_28 : ACode := .seq (.reg r41_27) .ret
def c41_29 : ACode := .cond (.t 77) c41_28 .skip
def c41_30 : ACode := .seq (.reg r41_25) (.seq (.reg r41_26) c41_29)
def c41_31 : ACode := .block 1 c41_30
def r41_32 : List AOper := [ao 0 54 (.mv (.t 5)),
  ao 1 55 (.bin .add (.t 54) (.k (.i 1))),
  ao 2 5 (.mv (.t 55))]
def c41_33 : ACode := .seq c41_24 (.seq c41_31 (.reg r41_32))
def c41_34 : ACode := .loop c41_33
def c41_35 : ACode := .block 0 c41_34
def c41_36 : ACode := .seq (.reg r41_21) c41_35
def r41_37 : List AOper := [ao 0 8 (.mv (.k (.i 0)))]
def r41_38 : List AOper := [ao 0 78 (.mv (.t 8)),
  ao 1 79 (.fa 1 (.t 3)),
  ao 2 80 (.ld 1 false (.t 79)),
  ao 3 81 (.len (.t 80)),
  ao 4 82 (.bin .lss (.t 78) (.t 81))]
def c41_39 : ACode := .cond (.t 82) .skip (.exit 2)
def c41_40 : ACode := .seq (.reg r41_38) c41_39
def r41_41 : List AOper := [ao 0 86 (.ld 3 true (.t 2)),
  au 1 87 [0] (.fa 1 (.t 3)),
  au 2 88 [0] (.ld 1 false (.t 87)),
  au 3 89 (ru 3) (.mv (.t 8)),
  au 4 90 [0] (.ia 1 (.t 88) (.t 89)),
  au 5 91 [0] (.ld 1 false (.t 90)),
  ao 6 92 (.call (.k (.c (.fn 77 []))) [(.t 86), (.t 91)]),
  ao 7 85 (.mv (.t 92)),
  ao 8 93 (.ext 0 (.t 85)),
  au 9 94 [8] (.ext 1 (.t 85)),
  au 10 9 (ru 10) (.alloc 26 [(.v (.s (.int .i64 0))), .nil0, .nil0]),
  ax 11 none none [9] (.st 3 (.t 9) (.t 93)),
  ao 12 10 (.mv (.t 94))]
def r41_42 : List AOper := [ao 0 95 (.mv (.t 10)),
  ao 1 96 (.un .not (.t 95)),
  ao 2 97 (.mv (.t 96)),
  ag 3 98 97 true [] (.fa 2 (.t 3)),
  ag 4 99 97 true [] (.ld 1 false (.t 98)),
  ag 5 100 97 true [] (.mv (.t 8)),
  ag 6 101 97 true [] (.ia 3 (.t 99) (.t 100)),
  ag 7 102 97 true [] (.fa 0 (.t 101)),
  ag 8 103 97 true [] (.ld 1 false (.t 102)),
  ag 9 104 97 true [] (.bin .neq (.t 103) (.k (.i 6))),
  ao 10 105 (.pick (.t 97) (.t 104) (.k (.b false)))]
def r41_43 : List AOper := [ao 0 4 (.mv (.k (.b false)))]
def c41_44 : ACode := .seq (.reg r41_43) .ret
def c41_45 : ACode := .cond (.t 105) c41_44 .skip
def c41_46 : ACode := .seq (.reg r41_41) (.seq (.reg r41_42) c41_45)
def c41_47 : ACode := .block 3 c41_46
def r41_48 : List AOper := [ao 0 83 (.mv (.t 8)),
  ao 1 84 (.bin .add (.t 83) (.k (.i 1))),
  ao 2 8 (.mv (.t 84))]
def c41_49 : ACode := .seq c41_40 (.seq c41_47 (.reg r41_48))
def c41_50 : ACode := .loop c41_49
def c41_51 : ACode := .block 2 c41_50
def c41_52 : ACode := .seq (.reg r41_37) c41_51
def r41_53 : List AOper := [ao 0 4 (.mv (.k (.b true)))]
def c41 : ACode := .seq (.reg r41_0) (.seq c41_10 (.seq c41_15 (.seq c41_20 (.seq c41_36 (.seq c41_52 (.seq (.reg r41_53) .ret))))))
def s41 : List ARes := [.tmp 4]
theorem ok41 : okF Try.prog 41 106 c41 s41 := ⟨Try.f41, Try.func41, Try.ntmps41, by kernel_rfl, by kernel_rfl, by kernel_rfl⟩
theorem encK_sort (k : Kd) : ∃ rest, encK k = .s (.int .i64 k.sort) :: rest ∧ rest.length = 2 := by cases k; exact ⟨_, encK_mk _ _ _, rfl⟩
theorem fits_congr {a b c d : Kd} (h : Fits a b ↔ Fits c d) : fits a b = fits c d := by
  cases h1 : fits c d with
  | true => exact fits_true.2 (h.2 (fits_true.1 h1))
  | false => exact fits_false.2 fun h2 => fits_false.1 h1 (h.1 h2)
def FitI1 (ns : List ByteArray) (ks : List Kd) (ns' : List ByteArray) (ks' : List Kd) (i : Nat) : Prop := ∀ j, j < i → ∀ x k, ns[j]? = some x → ks[j]? = some k → ∃ k', kid ns' ks' x = some k' ∧ Fits k k'
def FitI2 (ns : List ByteArray) (ks : List Kd) (ns' : List ByteArray) (ks' : List Kd) (i : Nat) : Prop := ∀ j, j < i → ∀ x (k' : Kd), ns'[j]? = some x → ks'[j]? = some k' → kid ns ks x = none → k'.sort = 6
def inv41a (s : Int) (ns : List ByteArray) (ks : List Kd) (ns' : List ByteArray) (ks' : List Kd) (i : Nat) (σ : St) : Prop :=
  FitI1 ns ks ns' ks' i ∧ (∃ u, σ.t 2 = .c (.ptr 2 u 0) ∧ σ.H 2 = some (.var u 26 [.v (.s (.int .i64 s)), .v (.sl (encS ns)), .v (.sl (encKs ks))])) ∧ (∃ u, σ.t 3 = .c (.ptr 3 u 0) ∧ σ.H 3 = some (.var u 26 [.v (.s (.int .i64 s)), .v (.sl (encS ns')), .v (.sl (encKs ks'))])) ∧ σ.t 5 = .i i
def inv41b (s : Int) (ns : List ByteArray) (ks : List Kd) (ns' : List ByteArray) (ks' : List Kd) (i : Nat) (σ : St) : Prop :=
  FitI2 ns ks ns' ks' i ∧ (∃ u, σ.t 2 = .c (.ptr 2 u 0) ∧ σ.H 2 = some (.var u 26 [.v (.s (.int .i64 s)), .v (.sl (encS ns)), .v (.sl (encKs ks))])) ∧ (∃ u, σ.t 3 = .c (.ptr 3 u 0) ∧ σ.H 3 = some (.var u 26 [.v (.s (.int .i64 s)), .v (.sl (encS ns')), .v (.sl (encKs ks'))])) ∧ σ.t 8 = .i i
theorem kid_len {ns : List ByteArray} {ks : List Kd} (hl : ns.length ≤ ks.length) {x : ByteArray} {i : Nat} (hi : ns[i]? = some x) : ∃ k, kid ns ks x = some k := by
  induction ns generalizing ks i with
  | nil => simp at hi
  | cons n ns ih =>
    cases ks with
    | nil => simp at hl
    | cons k ks =>
      by_cases hn : n = x
      · exact ⟨k, by simp [kid, hn]⟩
      · cases i with
        | zero => simp at hi; exact absurd hi hn
        | succ i => simp only [kid, if_neg hn]; exact ih (by simpa using hl) (by simpa using hi)
theorem UKy_1 : (type_of% (uA c41.eq_1)) ∧ (type_of% (uR r41_0.eq_1)) ∧ (type_of% (uA c41_10.eq_1)) ∧ (type_of% (uR r41_1.eq_1)) ∧ (type_of% (uA c41_9.eq_1)) ∧ (type_of% (uA c41_8.eq_1)) ∧ (type_of% (uA c41_6.eq_1)) ∧ (type_of% (uR r41_2.eq_1)) ∧ (type_of% (uA c41_5.eq_1)) ∧ (type_of% (uA c41_4.eq_1)) ∧ (type_of% (uR r41_3.eq_1)) ∧ (type_of% (uR r41_7.eq_1)) ∧ (type_of% (uA c41_15.eq_1)) ∧ (type_of% (uR r41_11.eq_1)) ∧ (type_of% (uA c41_14.eq_1)) ∧ (type_of% (uA c41_13.eq_1)) ∧ (type_of% (uR r41_12.eq_1)) ∧ (type_of% (uA c41_20.eq_1)) ∧ (type_of% (uR r41_16.eq_1)) ∧ (type_of% (uA c41_19.eq_1)) ∧ (type_of% (uA c41_18.eq_1)) ∧ (type_of% (uR r41_17.eq_1)) ∧ (type_of% (uA c41_36.eq_1)) ∧ (type_of% (uR r41_21.eq_1)) ∧ (type_of% (uA c41_35.eq_1)) ∧ (type_of% (uA c41_34.eq_1)) ∧ (type_of% (uA c41_52.eq_1)) ∧ (type_of% (uR r41_37.eq_1)) ∧ (type_of% (uA c41_51.eq_1)) ∧ (type_of% (uA c41_50.eq_1)) ∧ (type_of% (uR r41_53.eq_1)) ∧ (type_of% s41.eq_1) :=
  ⟨uA c41.eq_1, uR r41_0.eq_1, uA c41_10.eq_1, uR r41_1.eq_1, uA c41_9.eq_1, uA c41_8.eq_1, uA c41_6.eq_1, uR r41_2.eq_1, uA c41_5.eq_1, uA c41_4.eq_1, uR r41_3.eq_1, uR r41_7.eq_1, uA c41_15.eq_1, uR r41_11.eq_1, uA c41_14.eq_1, uA c41_13.eq_1, uR r41_12.eq_1, uA c41_20.eq_1, uR r41_16.eq_1, uA c41_19.eq_1, uA c41_18.eq_1, uR r41_17.eq_1, uA c41_36.eq_1, uR r41_21.eq_1, uA c41_35.eq_1, uA c41_34.eq_1, uA c41_52.eq_1, uR r41_37.eq_1, uA c41_51.eq_1, uA c41_50.eq_1, uR r41_53.eq_1, s41.eq_1⟩
theorem UKy_2 : (type_of% (uA c41_33.eq_1)) ∧ (type_of% (uA c41_24.eq_1)) ∧ (type_of% (uR r41_22.eq_1)) ∧ (type_of% (uA c41_23.eq_1)) ∧ (type_of% (uA c41_31.eq_1)) ∧ (type_of% (uA c41_30.eq_1)) ∧ (type_of% (uR r41_25.eq_1)) ∧ (type_of% (uR r41_26.eq_1)) ∧ (type_of% (uA c41_29.eq_1)) ∧ (type_of% (uA c41_28.eq_1)) ∧ (type_of% (uR r41_27.eq_1)) ∧ (type_of% (uR r41_32.eq_1)) ∧ (type_of% (uA c41.eq_1)) ∧ (type_of% (uR r41_0.eq_1)) ∧ (type_of% (uA c41_10.eq_1)) ∧ (type_of% (uR r41_1.eq_1)) ∧ (type_of% (uA c41_9.eq_1)) ∧ (type_of% (uA c41_8.eq_1)) ∧ (type_of% (uA c41_6.eq_1)) ∧ (type_of% (uR r41_2.eq_1)) ∧ (type_of% (uA c41_5.eq_1)) ∧ (type_of% (uA c41_4.eq_1)) ∧ (type_of% (uR r41_3.eq_1)) ∧ (type_of% (uR r41_7.eq_1)) ∧ (type_of% (uA c41_15.eq_1)) ∧ (type_of% (uR r41_11.eq_1)) ∧ (type_of% (uA c41_14.eq_1)) ∧ (type_of% (uA c41_13.eq_1)) ∧ (type_of% (uR r41_12.eq_1)) ∧ (type_of% (uA c41_20.eq_1)) ∧ (type_of% (uR r41_16.eq_1)) ∧ (type_of% (uA c41_19.eq_1)) ∧ (type_of% (uA c41_18.eq_1)) ∧ (type_of% (uR r41_17.eq_1)) ∧ (type_of% (uA c41_36.eq_1)) ∧ (type_of% (uR r41_21.eq_1)) ∧ (type_of% (uA c41_35.eq_1)) ∧ (type_of% (uA c41_34.eq_1)) ∧ (type_of% (uA c41_52.eq_1)) ∧ (type_of% (uR r41_37.eq_1)) ∧ (type_of% (uA c41_51.eq_1)) ∧ (type_of% (uA c41_50.eq_1)) ∧ (type_of% (uR r41_53.eq_1)) ∧ (type_of% s41.eq_1) :=
  ⟨uA c41_33.eq_1, uA c41_24.eq_1, uR r41_22.eq_1, uA c41_23.eq_1, uA c41_31.eq_1, uA c41_30.eq_1, uR r41_25.eq_1, uR r41_26.eq_1, uA c41_29.eq_1, uA c41_28.eq_1, uR r41_27.eq_1, uR r41_32.eq_1, uA c41.eq_1, uR r41_0.eq_1, uA c41_10.eq_1, uR r41_1.eq_1, uA c41_9.eq_1, uA c41_8.eq_1, uA c41_6.eq_1, uR r41_2.eq_1, uA c41_5.eq_1, uA c41_4.eq_1, uR r41_3.eq_1, uR r41_7.eq_1, uA c41_15.eq_1, uR r41_11.eq_1, uA c41_14.eq_1, uA c41_13.eq_1, uR r41_12.eq_1, uA c41_20.eq_1, uR r41_16.eq_1, uA c41_19.eq_1, uA c41_18.eq_1, uR r41_17.eq_1, uA c41_36.eq_1, uR r41_21.eq_1, uA c41_35.eq_1, uA c41_34.eq_1, uA c41_52.eq_1, uR r41_37.eq_1, uA c41_51.eq_1, uA c41_50.eq_1, uR r41_53.eq_1, s41.eq_1⟩
theorem UKy_3 : (type_of% (uA c41_49.eq_1)) ∧ (type_of% (uA c41_40.eq_1)) ∧ (type_of% (uR r41_38.eq_1)) ∧ (type_of% (uA c41_39.eq_1)) ∧ (type_of% (uA c41_47.eq_1)) ∧ (type_of% (uA c41_46.eq_1)) ∧ (type_of% (uR r41_41.eq_1)) ∧ (type_of% (uR r41_42.eq_1)) ∧ (type_of% (uA c41_45.eq_1)) ∧ (type_of% (uA c41_44.eq_1)) ∧ (type_of% (uR r41_43.eq_1)) ∧ (type_of% (uR r41_48.eq_1)) ∧ (type_of% (uA c41.eq_1)) ∧ (type_of% (uR r41_0.eq_1)) ∧ (type_of% (uA c41_10.eq_1)) ∧ (type_of% (uR r41_1.eq_1)) ∧ (type_of% (uA c41_9.eq_1)) ∧ (type_of% (uA c41_8.eq_1)) ∧ (type_of% (uA c41_6.eq_1)) ∧ (type_of% (uR r41_2.eq_1)) ∧ (type_of% (uA c41_5.eq_1)) ∧ (type_of% (uA c41_4.eq_1)) ∧ (type_of% (uR r41_3.eq_1)) ∧ (type_of% (uR r41_7.eq_1)) ∧ (type_of% (uA c41_15.eq_1)) ∧ (type_of% (uR r41_11.eq_1)) ∧ (type_of% (uA c41_14.eq_1)) ∧ (type_of% (uA c41_13.eq_1)) ∧ (type_of% (uR r41_12.eq_1)) ∧ (type_of% (uA c41_20.eq_1)) ∧ (type_of% (uR r41_16.eq_1)) ∧ (type_of% (uA c41_19.eq_1)) ∧ (type_of% (uA c41_18.eq_1)) ∧ (type_of% (uR r41_17.eq_1)) ∧ (type_of% (uA c41_36.eq_1)) ∧ (type_of% (uR r41_21.eq_1)) ∧ (type_of% (uA c41_35.eq_1)) ∧ (type_of% (uA c41_34.eq_1)) ∧ (type_of% (uA c41_52.eq_1)) ∧ (type_of% (uR r41_37.eq_1)) ∧ (type_of% (uA c41_51.eq_1)) ∧ (type_of% (uA c41_50.eq_1)) ∧ (type_of% (uR r41_53.eq_1)) ∧ (type_of% s41.eq_1) :=
  ⟨uA c41_49.eq_1, uA c41_40.eq_1, uR r41_38.eq_1, uA c41_39.eq_1, uA c41_47.eq_1, uA c41_46.eq_1, uR r41_41.eq_1, uR r41_42.eq_1, uA c41_45.eq_1, uA c41_44.eq_1, uR r41_43.eq_1, uR r41_48.eq_1, uA c41.eq_1, uR r41_0.eq_1, uA c41_10.eq_1, uR r41_1.eq_1, uA c41_9.eq_1, uA c41_8.eq_1, uA c41_6.eq_1, uR r41_2.eq_1, uA c41_5.eq_1, uA c41_4.eq_1, uR r41_3.eq_1, uR r41_7.eq_1, uA c41_15.eq_1, uR r41_11.eq_1, uA c41_14.eq_1, uA c41_13.eq_1, uR r41_12.eq_1, uA c41_20.eq_1, uR r41_16.eq_1, uA c41_19.eq_1, uA c41_18.eq_1, uR r41_17.eq_1, uA c41_36.eq_1, uR r41_21.eq_1, uA c41_35.eq_1, uA c41_34.eq_1, uA c41_52.eq_1, uR r41_37.eq_1, uA c41_51.eq_1, uA c41_50.eq_1, uR r41_53.eq_1, s41.eq_1⟩
set_option maxHeartbeats 1000000 in
theorem fitsS_ok : ∀ (b a : Kd) (d d' : Nat), KOk d a → KOk d' b → KB 2000 a → KB 2000 b → ACallsF Try.prog 41 [tK a, tK b] [] (.b (fits a b)) := by
  intro b
  induction b using Kd.ind with
  | _ s' ns' ks' ih =>
    intro a d d' hOa hOb hBa hBb
    obtain ⟨s, ns, ks⟩ := a
    obtain ⟨_, hSa, hKa⟩ := hOa.inv
    obtain ⟨_, hSb, hKb⟩ := hOb.inv
    obtain ⟨a1, a2, a3, a4⟩ := hBa.inv
    obtain ⟨b1, b2, b3, b4⟩ := hBb.inv
    refine ACallsF.intro ok41 follows fun X c0 => ?_
    by_cases h6' : s' = 6
    · subst h6'
      have hl' := hSb.one (.inr rfl)
      obtain ⟨kb, hkb⟩ : ∃ k, ks'[0]? = some k := ⟨_, List.getElem?_eq_getElem (by omega)⟩
      have hmb := List.mem_of_getElem? hkb
      have ekb := encKs_at hkb
      by_cases h6 : s = 6
      · subst h6
        have hl := hSa.one (.inr rfl)
        obtain ⟨ka, hka⟩ : ∃ k, ks[0]? = some k := ⟨_, List.getElem?_eq_getElem (by omega)⟩
        have hma := List.mem_of_getElem? hka
        have eka := encKs_at hka
        have hC := ih kb hmb ka _ _ (hKa ka hma) (hKb kb hmb) (a4 ka hma) (b4 kb hmb)
        have hF : fits (.mk 6 ns ks) (.mk 6 ns' ks') = fits ka kb := fits_congr (Fits.mm_iff hka hkb)
        simp only [RUN, core, T.c, T.s, T.b, T.i, sBin, sInt, sUn, isShift, asInt, P1.cells, loadT, ptrC, storeT, putC, fillP, Nat.reduceAdd, reduceIte, Nat.reduceEqDiff, Nat.reduceLT, Nat.reduceLeDiff, reduceCtorEq, eq_self, FIT, lendCs_map, verC_map, FinC, resPs, resP, lendPl, lendCs, lendC, sealC, partsT, finHs, tupT, verT, verP, verC, verB, verAt, Blk.ver, handsAre, forall_const, CHT, disj, Nat.reduceBEq, beq_self_eq_true, APT, srcOf, sealPs, sealCs, sealC, List.mem_singleton, forall_eq, ALT, UKy_1, encK_mk, Int.reduceBEq, eka, ekb, Int.le_refl, Int.toNat_zero, List.length_map, encK_len, takeK]
        refine callC hC rfl rfl (by simp [closedA, closedP, closedC]) rfl ?_
        simp only [RUN, core, T.c, T.s, T.b, T.i, sBin, sInt, sUn, isShift, asInt, P1.cells, loadT, ptrC, storeT, putC, fillP, Nat.reduceAdd, reduceIte, Nat.reduceEqDiff, Nat.reduceLT, Nat.reduceLeDiff, reduceCtorEq, eq_self, FIT, lendCs_map, verC_map, FinC, resPs, resP, lendPl, lendCs, lendC, sealC, partsT, finHs, tupT, verT, verP, verC, verB, verAt, Blk.ver, handsAre, forall_const, CHT, disj, Nat.reduceBEq, beq_self_eq_true, APT, srcOf, sealPs, sealCs, sealC, List.mem_singleton, forall_eq, ALT, UKy_1, hF]
      · have h6b : (s == 6) = false := beq_eq_false_iff_ne.2 h6
        have hC := ih kb hmb (.mk s ns ks) _ _ hOa (hKb kb hmb) hBa (b4 kb hmb)
        have hF : fits (.mk s ns ks) (.mk 6 ns' ks') = fits (.mk s ns ks) kb := fits_congr (Fits.m_iff h6 hkb)
        simp only [tK, encK_mk, List.map_cons, List.map_nil] at hC
        simp only [RUN, core, T.c, T.s, T.b, T.i, sBin, sInt, sUn, isShift, asInt, P1.cells, loadT, ptrC, storeT, putC, fillP, Nat.reduceAdd, reduceIte, Nat.reduceEqDiff, Nat.reduceLT, Nat.reduceLeDiff, reduceCtorEq, eq_self, FIT, lendCs_map, verC_map, FinC, resPs, resP, lendPl, lendCs, lendC, sealC, partsT, finHs, tupT, verT, verP, verC, verB, verAt, Blk.ver, handsAre, forall_const, CHT, disj, Nat.reduceBEq, beq_self_eq_true, APT, srcOf, sealPs, sealCs, sealC, List.mem_singleton, forall_eq, ALT, UKy_1, encK_mk, Int.reduceBEq, h6b, ekb, Int.le_refl, Int.toNat_zero, List.length_map, encK_len, takeK]
        refine callC hC rfl rfl (by simp [closedA, closedP, closedC]) rfl ?_
        simp only [RUN, core, T.c, T.s, T.b, T.i, sBin, sInt, sUn, isShift, asInt, P1.cells, loadT, ptrC, storeT, putC, fillP, Nat.reduceAdd, reduceIte, Nat.reduceEqDiff, Nat.reduceLT, Nat.reduceLeDiff, reduceCtorEq, eq_self, FIT, lendCs_map, verC_map, FinC, resPs, resP, lendPl, lendCs, lendC, sealC, partsT, finHs, tupT, verT, verP, verC, verB, verAt, Blk.ver, handsAre, forall_const, CHT, disj, Nat.reduceBEq, beq_self_eq_true, APT, srcOf, sealPs, sealCs, sealC, List.mem_singleton, forall_eq, ALT, UKy_1, hF]
    · have h6b' : (s' == 6) = false := beq_eq_false_iff_ne.2 h6'
      by_cases hss : s = s'
      · subst hss
        have hse : (!(s == s)) = false := by simp
        by_cases h4 : s = 4
        · subst h4
          have hl := hSa.one (.inl rfl)
          have hl' := hSb.one (.inl rfl)
          obtain ⟨kb, hkb⟩ : ∃ k, ks'[0]? = some k := ⟨_, List.getElem?_eq_getElem (by omega)⟩
          have hmb := List.mem_of_getElem? hkb
          have ekb := encKs_at hkb
          obtain ⟨ka, hka⟩ : ∃ k, ks[0]? = some k := ⟨_, List.getElem?_eq_getElem (by omega)⟩
          have hma := List.mem_of_getElem? hka
          have eka := encKs_at hka
          have hC := ih kb hmb ka _ _ (hKa ka hma) (hKb kb hmb) (a4 ka hma) (b4 kb hmb)
          have hF : fits (.mk 4 ns ks) (.mk 4 ns' ks') = fits ka kb := fits_congr (Fits.l_iff hka hkb)
          simp only [RUN, core, T.c, T.s, T.b, T.i, sBin, sInt, sUn, isShift, asInt, P1.cells, loadT, ptrC, storeT, putC, fillP, Nat.reduceAdd, reduceIte, Nat.reduceEqDiff, Nat.reduceLT, Nat.reduceLeDiff, reduceCtorEq, eq_self, FIT, lendCs_map, verC_map, FinC, resPs, resP, lendPl, lendCs, lendC, sealC, partsT, finHs, tupT, verT, verP, verC, verB, verAt, Blk.ver, handsAre, forall_const, CHT, disj, Nat.reduceBEq, beq_self_eq_true, APT, srcOf, sealPs, sealCs, sealC, List.mem_singleton, forall_eq, ALT, UKy_1, encK_mk, Int.reduceBEq, Int.reduceBNe, eka, ekb, Int.le_refl, Int.toNat_zero, List.length_map, encK_len, takeK]
          refine callC hC rfl rfl (by simp [closedA, closedP, closedC]) rfl ?_
          simp only [RUN, core, T.c, T.s, T.b, T.i, sBin, sInt, sUn, isShift, asInt, P1.cells, loadT, ptrC, storeT, putC, fillP, Nat.reduceAdd, reduceIte, Nat.reduceEqDiff, Nat.reduceLT, Nat.reduceLeDiff, reduceCtorEq, eq_self, FIT, lendCs_map, verC_map, FinC, resPs, resP, lendPl, lendCs, lendC, sealC, partsT, finHs, tupT, verT, verP, verC, verB, verAt, Blk.ver, handsAre, forall_const, CHT, disj, Nat.reduceBEq, beq_self_eq_true, APT, srcOf, sealPs, sealCs, sealC, List.mem_singleton, forall_eq, ALT, UKy_1, hF]
        · have h4b : (s == 4) = false := beq_eq_false_iff_ne.2 h4
          have hne : (s != s) = false := by simp
          have hlen : ns.length ≤ ks.length := by
            by_cases h5 : s = 5
            · have := (hSa.form h5).1; omega
            · have := hSa.other h5; omega
          have hlen' : ns'.length ≤ ks'.length := by
            by_cases h5 : s = 5
            · have := (hSb.form h5).1; omega
            · have := hSb.other h5; omega
          have hfin : FitI1 ns ks ns' ks' ns.length → FitI2 ns ks ns' ks' ns'.length → Fits (.mk s ns ks) (.mk s ns' ks') := by
            intro g1 g2
            by_cases h5 : s = 5
            · subst h5
              refine .f _ _ _ _ (fun i x hi => ?_) (fun i x k k' hi hk hk' => ?_) fun i x k' hi hk => ?_
              · have hlt := (List.getElem?_eq_some_iff.1 hi).1
                obtain ⟨k', h1, _⟩ := g1 i hlt x _ hi (List.getElem?_eq_getElem (by omega))
                exact ⟨k', h1⟩
              · have hlt := (List.getElem?_eq_some_iff.1 hi).1
                obtain ⟨k2, h1, h2⟩ := g1 i hlt x k hi hk
                rw [hk'] at h1; cases h1; exact h2
              · exact g2 i (List.getElem?_eq_some_iff.1 hi).1 x k' hi hk
            · have := hSa.lo
              have := hSa.hi
              exact .leaf _ _ _ _ _ (by omega)
          have hbad : Fits (.mk s ns ks) (.mk s ns' ks') → (∀ (i : Nat) x k, ns[i]? = some x → ks[i]? = some k → ∃ k', kid ns' ks' x = some k' ∧ Fits k k') ∧ ∀ (i : Nat) x (k' : Kd), ns'[i]? = some x → ks'[i]? = some k' → kid ns ks x = none → k'.sort = 6 := by
            intro h
            cases h with
            | mm => exact absurd rfl h6'
            | m => exact absurd rfl h6'
            | l => exact absurd rfl h4
            | leaf _ _ _ _ _ hs =>
              have e1 := hSa.other (by omega)
              have e2 := hSb.other (by omega)
              rw [List.length_eq_zero_iff] at e1 e2
              subst e1 e2
              exact ⟨fun i x k h => by simp at h, fun i x k h => by simp at h⟩
            | f _ _ _ _ h1 h2 h3 => exact ⟨fun i x k hi hk => by obtain ⟨k', hk'⟩ := h1 i x hi; exact ⟨k', hk', h2 i x k k' hi hk hk'⟩, h3⟩
          simp only [RUN, core, T.c, T.s, T.b, T.i, sBin, sInt, sUn, isShift, asInt, P1.cells, loadT, ptrC, storeT, putC, fillP, Nat.reduceAdd, reduceIte, Nat.reduceEqDiff, Nat.reduceLT, Nat.reduceLeDiff, reduceCtorEq, eq_self, FIT, lendCs_map, verC_map, FinC, resPs, resP, lendPl, lendCs, lendC, sealC, partsT, finHs, tupT, verT, verP, verC, verB, verAt, Blk.ver, handsAre, forall_const, CHT, disj, Nat.reduceBEq, beq_self_eq_true, APT, srcOf, sealPs, sealCs, sealC, List.mem_singleton, forall_eq, ALT, UKy_1, encK_mk, h6b', h4b, hne]
          refine AW.upto ns.length (inv41a s ns ks ns' ks') ⟨fun j hj => absurd hj (Nat.not_lt_zero j), ⟨_, rfl, rfl⟩, ⟨_, rfl, rfl⟩, rfl⟩ fun i t H c hi h => ?_
          obtain ⟨g0, ⟨u2, e2, eH2⟩, ⟨u3, e3, eH3⟩, e5⟩ := h
          simp only [T.c, T.i] at e2 eH2 e3 eH3 e5
          by_cases hlt : i < ns.length
          · have k1 : (i : Int) < ns.length := by omega
            have gz : (0 : Int) ≤ i := by omega
            have gw : IntKind.i64.wrap ((i : Int) + 1) = ((i + 1 : Nat) : Int) := wrap64 (x := (i : Int) + 1) ⟨by omega, by omega⟩
            obtain ⟨x, hx⟩ : ∃ y, ns[i]? = some y := ⟨_, List.getElem?_eq_getElem hlt⟩
            obtain ⟨k, hk⟩ : ∃ k, ks[i]? = some k := ⟨_, List.getElem?_eq_getElem (by omega)⟩
            have hmk := List.mem_of_getElem? hk
            have es := encS_at hx
            have ek := encKs_at hk
            have hCk := kid_ok s ns' ks' x hlen' (by omega)
            simp only [tK, encK_mk] at hCk
            simp only [List.map_cons, List.map_nil] at hCk
            simp only [RUN, core, T.c, T.s, T.b, T.i, sBin, sInt, sUn, isShift, asInt, P1.cells, loadT, ptrC, storeT, putC, fillP, Nat.reduceAdd, reduceIte, Nat.reduceEqDiff, Nat.reduceLT, Nat.reduceLeDiff, reduceCtorEq, eq_self, FIT, lendCs_map, verC_map, FinC, resPs, resP, lendPl, lendCs, lendC, sealC, partsT, finHs, tupT, verT, verP, verC, verB, verAt, Blk.ver, handsAre, forall_const, CHT, disj, Nat.reduceBEq, beq_self_eq_true, APT, srcOf, sealPs, sealCs, sealC, List.mem_singleton, forall_eq, ALT, UKy_2, e2, eH2, e3, eH3, e5, k1, gz, encS_len, es, ek, Int.toNat_natCast]
            refine callC hCk rfl rfl (by simp [closedA, closedP, closedC]) (by simp [closedT, closedP, closedC]) ?_
            cases hq : kid ns' ks' x with
            | none =>
              have hkr : kidR ns' ks' x = (.mk 0 [] [], false) := by rw [kidR, hq]
              have hF : fits (.mk s ns ks) (.mk s ns' ks') = false := fits_false.2 fun h => by
                obtain ⟨k', h1, _⟩ := (hbad h).1 i x k hx hk
                rw [hq] at h1; cases h1
              simp only [RUN, core, T.c, T.s, T.b, T.i, sBin, sInt, sUn, isShift, asInt, P1.cells, loadT, ptrC, storeT, putC, fillP, Nat.reduceAdd, reduceIte, Nat.reduceEqDiff, Nat.reduceLT, Nat.reduceLeDiff, reduceCtorEq, eq_self, FIT, lendCs_map, verC_map, FinC, resPs, resP, lendPl, lendCs, lendC, sealC, partsT, finHs, tupT, verT, verP, verC, verB, verAt, Blk.ver, handsAre, forall_const, CHT, disj, Nat.reduceBEq, beq_self_eq_true, APT, srcOf, sealPs, sealCs, sealC, List.mem_singleton, forall_eq, ALT, UKy_2, e2, eH2, e3, eH3, e5, hkr, hF, List.length_map, encK_len, takeK, Nat.le_refl]
            | some k' =>
              have hkr : kidR ns' ks' x = (k', true) := by rw [kidR, hq]
              obtain ⟨j', hj1, hj2⟩ := kid_mem hq
              have hmk' := List.mem_of_getElem? hj2
              have hC := ih k' hmk' k _ _ (hKa k hmk) (hKb k' hmk') (a4 k hmk) (b4 k' hmk')
              simp only [RUN, core, T.c, T.s, T.b, T.i, sBin, sInt, sUn, isShift, asInt, P1.cells, loadT, ptrC, storeT, putC, fillP, Nat.reduceAdd, reduceIte, Nat.reduceEqDiff, Nat.reduceLT, Nat.reduceLeDiff, reduceCtorEq, eq_self, FIT, lendCs_map, verC_map, FinC, resPs, resP, lendPl, lendCs, lendC, sealC, partsT, finHs, tupT, verT, verP, verC, verB, verAt, Blk.ver, handsAre, forall_const, CHT, disj, Nat.reduceBEq, beq_self_eq_true, APT, srcOf, sealPs, sealCs, sealC, List.mem_singleton, forall_eq, ALT, UKy_2, e2, eH2, e3, eH3, e5, hkr, k1, gz, encS_len, es, ek, Int.toNat_natCast, List.length_map, encK_len, takeK, Nat.le_refl]
              refine callC hC rfl rfl (by simp [closedA, closedP, closedC]) rfl ?_
              cases hfk : fits k k' with
              | false =>
                have hF : fits (.mk s ns ks) (.mk s ns' ks') = false := fits_false.2 fun h => by
                  obtain ⟨k2, h1, h2⟩ := (hbad h).1 i x k hx hk
                  rw [hq] at h1; cases h1
                  rw [fits_false] at hfk; exact hfk h2
                simp only [RUN, core, T.c, T.s, T.b, T.i, sBin, sInt, sUn, isShift, asInt, P1.cells, loadT, ptrC, storeT, putC, fillP, Nat.reduceAdd, reduceIte, Nat.reduceEqDiff, Nat.reduceLT, Nat.reduceLeDiff, reduceCtorEq, eq_self, FIT, lendCs_map, verC_map, FinC, resPs, resP, lendPl, lendCs, lendC, sealC, partsT, finHs, tupT, verT, verP, verC, verB, verAt, Blk.ver, handsAre, forall_const, CHT, disj, Nat.reduceBEq, beq_self_eq_true, APT, srcOf, sealPs, sealCs, sealC, List.mem_singleton, forall_eq, ALT, UKy_2, hF]
              | true =>
                simp only [RUN, core, T.c, T.s, T.b, T.i, sBin, sInt, sUn, isShift, asInt, P1.cells, loadT, ptrC, storeT, putC, fillP, Nat.reduceAdd, reduceIte, Nat.reduceEqDiff, Nat.reduceLT, Nat.reduceLeDiff, reduceCtorEq, eq_self, FIT, lendCs_map, verC_map, FinC, resPs, resP, lendPl, lendCs, lendC, sealC, partsT, finHs, tupT, verT, verP, verC, verB, verAt, Blk.ver, handsAre, forall_const, CHT, disj, Nat.reduceBEq, beq_self_eq_true, APT, srcOf, sealPs, sealCs, sealC, List.mem_singleton, forall_eq, ALT, UKy_2, e5, gw]
                refine ⟨hlt, fun j hj x2 k2 h1 h2 => ?_, ⟨u2, e2, eH2⟩, ⟨u3, e3, eH3⟩, rfl⟩
                rcases Nat.lt_succ_iff_lt_or_eq.1 hj with hj | rfl
                · exact g0 j hj x2 k2 h1 h2
                · rw [hx] at h1; rw [hk] at h2; cases h1; cases h2
                  exact ⟨k', hq, fits_true.1 hfk⟩
          · have hin : i = ns.length := by omega
            subst hin
            have k1 : ¬ ((ns.length : Nat) : Int) < ns.length := by omega
            simp only [RUN, core, T.c, T.s, T.b, T.i, sBin, sInt, sUn, isShift, asInt, P1.cells, loadT, ptrC, storeT, putC, fillP, Nat.reduceAdd, reduceIte, Nat.reduceEqDiff, Nat.reduceLT, Nat.reduceLeDiff, reduceCtorEq, eq_self, FIT, lendCs_map, verC_map, FinC, resPs, resP, lendPl, lendCs, lendC, sealC, partsT, finHs, tupT, verT, verP, verC, verB, verAt, Blk.ver, handsAre, forall_const, CHT, disj, Nat.reduceBEq, beq_self_eq_true, APT, srcOf, sealPs, sealCs, sealC, List.mem_singleton, forall_eq, ALT, UKy_2, e2, eH2, e3, eH3, e5, k1, encS_len]
            refine AW.upto ns'.length (inv41b s ns ks ns' ks') ⟨fun j hj => absurd hj (Nat.not_lt_zero j), ⟨u2, e2, eH2⟩, ⟨u3, e3, eH3⟩, rfl⟩ fun i t H c hi h => ?_
            clear e2 eH2 e3 eH3 e5
            obtain ⟨g2, ⟨u2, e2, eH2⟩, ⟨u3, e3, eH3⟩, e8⟩ := h
            simp only [T.c, T.i] at e2 eH2 e3 eH3 e8
            by_cases hlt : i < ns'.length
            · have k1 : (i : Int) < ns'.length := by omega
              have gz : (0 : Int) ≤ i := by omega
              have gw : IntKind.i64.wrap ((i : Int) + 1) = ((i + 1 : Nat) : Int) := wrap64 (x := (i : Int) + 1) ⟨by omega, by omega⟩
              obtain ⟨x, hx⟩ : ∃ y, ns'[i]? = some y := ⟨_, List.getElem?_eq_getElem hlt⟩
              obtain ⟨k, hk⟩ : ∃ k, ks'[i]? = some k := ⟨_, List.getElem?_eq_getElem (by omega)⟩
              have es := encS_at hx
              have ek := encKs_at hk
              obtain ⟨rest, erest, hrest⟩ := encK_sort k
              have hCk := kid_ok s ns ks x hlen (by omega)
              simp only [tK, encK_mk] at hCk
              simp only [List.map_cons, List.map_nil] at hCk
              simp only [RUN, core, T.c, T.s, T.b, T.i, sBin, sInt, sUn, isShift, asInt, P1.cells, loadT, ptrC, storeT, putC, fillP, Nat.reduceAdd, reduceIte, Nat.reduceEqDiff, Nat.reduceLT, Nat.reduceLeDiff, reduceCtorEq, eq_self, FIT, lendCs_map, verC_map, FinC, resPs, resP, lendPl, lendCs, lendC, sealC, partsT, finHs, tupT, verT, verP, verC, verB, verAt, Blk.ver, handsAre, forall_const, CHT, disj, Nat.reduceBEq, beq_self_eq_true, APT, srcOf, sealPs, sealCs, sealC, List.mem_singleton, forall_eq, ALT, UKy_3, e2, eH2, e3, eH3, e8, k1, gz, encS_len, es, ek, Int.toNat_natCast]
              refine callC hCk rfl rfl (by simp [closedA, closedP, closedC]) (by simp [closedT, closedP, closedC]) ?_
              have key : (kid ns ks x = none → k.sort = 6) → FitI2 ns ks ns' ks' (i + 1) := by
                intro h j hj x2 k2 h1 h2 h3
                rcases Nat.lt_succ_iff_lt_or_eq.1 hj with hj | rfl
                · exact g2 j hj x2 k2 h1 h2 h3
                · rw [hx] at h1; rw [hk] at h2; cases h1; cases h2; exact h h3
              cases hq : kid ns ks x with
              | some k' =>
                have hkr : kidR ns ks x = (k', true) := by rw [kidR, hq]
                simp only [RUN, core, T.c, T.s, T.b, T.i, sBin, sInt, sUn, isShift, asInt, P1.cells, loadT, ptrC, storeT, putC, fillP, Nat.reduceAdd, reduceIte, Nat.reduceEqDiff, Nat.reduceLT, Nat.reduceLeDiff, reduceCtorEq, eq_self, FIT, lendCs_map, verC_map, FinC, resPs, resP, lendPl, lendCs, lendC, sealC, partsT, finHs, tupT, verT, verP, verC, verB, verAt, Blk.ver, handsAre, forall_const, CHT, disj, Nat.reduceBEq, beq_self_eq_true, APT, srcOf, sealPs, sealCs, sealC, List.mem_singleton, forall_eq, ALT, UKy_3, e8, hkr, gw, List.length_map, encK_len, takeK, Nat.le_refl]
                exact ⟨hlt, key (fun h => by rw [hq] at h; cases h), ⟨u2, e2, eH2⟩, ⟨u3, e3, eH3⟩, rfl⟩
              | none =>
                have hkr : kidR ns ks x = (.mk 0 [] [], false) := by rw [kidR, hq]
                have hr3 : rest.length + 1 = 3 := by omega
                by_cases hs6 : k.sort = 6
                · have hsb : (k.sort != 6) = false := by rw [hs6]; rfl
                  simp only [RUN, core, T.c, T.s, T.b, T.i, sBin, sInt, sUn, isShift, asInt, P1.cells, loadT, ptrC, storeT, putC, fillP, Nat.reduceAdd, reduceIte, Nat.reduceEqDiff, Nat.reduceLT, Nat.reduceLeDiff, reduceCtorEq, eq_self, FIT, lendCs_map, verC_map, FinC, resPs, resP, lendPl, lendCs, lendC, sealC, partsT, finHs, tupT, verT, verP, verC, verB, verAt, Blk.ver, handsAre, forall_const, CHT, disj, Nat.reduceBEq, beq_self_eq_true, APT, srcOf, sealPs, sealCs, sealC, List.mem_singleton, forall_eq, ALT, UKy_3, e3, eH3, e8, hkr, gz, ek, erest, hr3, hsb, gw, Int.toNat_natCast, List.length_map, encK_len, takeK, Nat.le_refl]
                  exact ⟨hlt, key fun _ => hs6, ⟨u2, e2, eH2⟩, ⟨u3, e3, eH3⟩, rfl⟩
                · have hsb : (k.sort != 6) = true := by simp [hs6]
                  have hF : fits (.mk s ns ks) (.mk s ns' ks') = false := fits_false.2 fun h => hs6 ((hbad h).2 i x k hx hk hq)
                  simp only [RUN, core, T.c, T.s, T.b, T.i, sBin, sInt, sUn, isShift, asInt, P1.cells, loadT, ptrC, storeT, putC, fillP, Nat.reduceAdd, reduceIte, Nat.reduceEqDiff, Nat.reduceLT, Nat.reduceLeDiff, reduceCtorEq, eq_self, FIT, lendCs_map, verC_map, FinC, resPs, resP, lendPl, lendCs, lendC, sealC, partsT, finHs, tupT, verT, verP, verC, verB, verAt, Blk.ver, handsAre, forall_const, CHT, disj, Nat.reduceBEq, beq_self_eq_true, APT, srcOf, sealPs, sealCs, sealC, List.mem_singleton, forall_eq, ALT, UKy_3, e3, eH3, e8, hkr, gz, ek, erest, hr3, hsb, hF, Int.toNat_natCast, List.length_map, encK_len, takeK, Nat.le_refl]
            · have hin : i = ns'.length := by omega
              subst hin
              have k1 : ¬ ((ns'.length : Nat) : Int) < ns'.length := by omega
              have hF : fits (.mk s ns ks) (.mk s ns' ks') = true := fits_true.2 (hfin g0 g2)
              simp only [RUN, core, T.c, T.s, T.b, T.i, sBin, sInt, sUn, isShift, asInt, P1.cells, loadT, ptrC, storeT, putC, fillP, Nat.reduceAdd, reduceIte, Nat.reduceEqDiff, Nat.reduceLT, Nat.reduceLeDiff, reduceCtorEq, eq_self, FIT, lendCs_map, verC_map, FinC, resPs, resP, lendPl, lendCs, lendC, sealC, partsT, finHs, tupT, verT, verP, verC, verB, verAt, Blk.ver, handsAre, forall_const, CHT, disj, Nat.reduceBEq, beq_self_eq_true, APT, srcOf, sealPs, sealCs, sealC, List.mem_singleton, forall_eq, ALT, UKy_3, UKy_1, e3, eH3, e8, k1, encS_len, hF]
      · have hne : (s != s') = true := by simp [hss]
        have hF : fits (.mk s ns ks) (.mk s' ns' ks') = false := fits_false.2 fun h => hss (h.sort_eq h6')
        simp only [RUN, core, T.c, T.s, T.b, T.i, sBin, sInt, sUn, isShift, asInt, P1.cells, loadT, ptrC, storeT, putC, fillP, Nat.reduceAdd, reduceIte, Nat.reduceEqDiff, Nat.reduceLT, Nat.reduceLeDiff, reduceCtorEq, eq_self, FIT, lendCs_map, verC_map, FinC, resPs, resP, lendPl, lendCs, lendC, sealC, partsT, finHs, tupT, verT, verP, verC, verB, verAt, Blk.ver, handsAre, forall_const, CHT, disj, Nat.reduceBEq, beq_self_eq_true, APT, srcOf, sealPs, sealCs, sealC, List.mem_singleton, forall_eq, ALT, UKy_1, encK_mk, h6b', hne, hF]
end Go.V
set_option linter.unusedSimpArgs false
namespace Go.V
open Go.Proofs
/- loop.example/teagle/spec.KindFits -/
def r10_0 : List AOper := [ao 0 2 (.box 26 (.t 0)),
  ao 1 3 (.box 26 (.t 1)),
  ao 2 4 (.mv (.k (.b false)))]
def r10_1 : List AOper := [ao 0 5 (.ld 3 true (.t 2)),
  ao 1 6 (.call (.k (.c (.fn 25 []))) [(.t 5)]),
  ao 2 7 (.mv (.t 6)),
  ag 3 8 7 true [] (.ld 3 true (.t 3)),
  ag 4 9 7 true [] (.call (.k (.c (.fn 25 []))) [(.t 8)]),
  ao 5 10 (.pick (.t 7) (.t 9) (.k (.b false))),
  ao 6 11 (.mv (.t 10)),
  ag 7 12 11 true [] (.ld 3 true (.t 2)),
  ag 8 13 11 true [] (.ld 3 true (.t 3)),
  ag 9 14 11 true [] (.call (.k (.c (.fn 41 []))) [(.t 12), (.t 13)]),
  ao 10 15 (.pick (.t 11) (.t 14) (.k (.b false))),
  ao 11 4 (.mv (.t 15))]
def c10 : ACode := .seq (.reg r10_0) (.seq (.reg r10_1) .ret)
def s10 : List ARes := [.tmp 4]
theorem ok10 : okF Try.prog 10 16 c10 s10 := ⟨Try.f10, Try.func10, Try.ntmps10, by kernel_rfl, by kernel_rfl, by kernel_rfl⟩
theorem UKz_1 : (type_of% (uA c10.eq_1)) ∧ (type_of% (uR r10_0.eq_1)) ∧ (type_of% (uR r10_1.eq_1)) ∧ (type_of% s10.eq_1) :=
  ⟨uA c10.eq_1, uR r10_0.eq_1, uR r10_1.eq_1, s10.eq_1⟩
theorem kindFitsS_ok (a b : Kd) (ha : KB 2000 a) (hb : KB 2000 b) : ACallsF Try.prog 10 [tK a, tK b] [] (.b (okK a && (okK b && fits a b))) := by
  refine ACallsF.intro ok10 follows fun X c0 => ?_
  simp only [RUN, core, T.c, T.s, T.b, T.i, sBin, sInt, sUn, isShift, asInt, P1.cells, loadT, ptrC, storeT, putC, fillP, Nat.reduceAdd, reduceIte, Nat.reduceEqDiff, Nat.reduceLT, Nat.reduceLeDiff, reduceCtorEq, eq_self, FIT, lendCs_map, verC_map, FinC, resPs, resP, lendPl, lendCs, lendC, sealC, partsT, finHs, tupT, verT, verP, verC, verB, verAt, Blk.ver, handsAre, forall_const, CHT, disj, Nat.reduceBEq, beq_self_eq_true, APT, srcOf, sealPs, sealCs, sealC, List.mem_singleton, forall_eq, ALT, UKz_1, List.length_map, encK_len, takeK, Nat.le_refl]
  refine callC (kindOkS_ok a (ha.le (by omega))) rfl rfl (by simp [closedA, closedP, closedC]) rfl ?_
  cases h1 : okK a with
  | false => simp only [RUN, core, T.c, T.s, T.b, T.i, sBin, sInt, sUn, isShift, asInt, P1.cells, loadT, ptrC, storeT, putC, fillP, Nat.reduceAdd, reduceIte, Nat.reduceEqDiff, Nat.reduceLT, Nat.reduceLeDiff, reduceCtorEq, eq_self, FIT, lendCs_map, verC_map, FinC, resPs, resP, lendPl, lendCs, lendC, sealC, partsT, finHs, tupT, verT, verP, verC, verB, verAt, Blk.ver, handsAre, forall_const, CHT, disj, Nat.reduceBEq, beq_self_eq_true, APT, srcOf, sealPs, sealCs, sealC, List.mem_singleton, forall_eq, ALT, UKz_1]
  | true =>
    simp only [RUN, core, T.c, T.s, T.b, T.i, sBin, sInt, sUn, isShift, asInt, P1.cells, loadT, ptrC, storeT, putC, fillP, Nat.reduceAdd, reduceIte, Nat.reduceEqDiff, Nat.reduceLT, Nat.reduceLeDiff, reduceCtorEq, eq_self, FIT, lendCs_map, verC_map, FinC, resPs, resP, lendPl, lendCs, lendC, sealC, partsT, finHs, tupT, verT, verP, verC, verB, verAt, Blk.ver, handsAre, forall_const, CHT, disj, Nat.reduceBEq, beq_self_eq_true, APT, srcOf, sealPs, sealCs, sealC, List.mem_singleton, forall_eq, ALT, UKz_1, List.length_map, encK_len, takeK, Nat.le_refl]
    refine callC (kindOkS_ok b (hb.le (by omega))) rfl rfl (by simp [closedA, closedP, closedC]) rfl ?_
    cases h2 : okK b with
    | false => simp only [RUN, core, T.c, T.s, T.b, T.i, sBin, sInt, sUn, isShift, asInt, P1.cells, loadT, ptrC, storeT, putC, fillP, Nat.reduceAdd, reduceIte, Nat.reduceEqDiff, Nat.reduceLT, Nat.reduceLeDiff, reduceCtorEq, eq_self, FIT, lendCs_map, verC_map, FinC, resPs, resP, lendPl, lendCs, lendC, sealC, partsT, finHs, tupT, verT, verP, verC, verB, verAt, Blk.ver, handsAre, forall_const, CHT, disj, Nat.reduceBEq, beq_self_eq_true, APT, srcOf, sealPs, sealCs, sealC, List.mem_singleton, forall_eq, ALT, UKz_1]
    | true =>
      simp only [RUN, core, T.c, T.s, T.b, T.i, sBin, sInt, sUn, isShift, asInt, P1.cells, loadT, ptrC, storeT, putC, fillP, Nat.reduceAdd, reduceIte, Nat.reduceEqDiff, Nat.reduceLT, Nat.reduceLeDiff, reduceCtorEq, eq_self, FIT, lendCs_map, verC_map, FinC, resPs, resP, lendPl, lendCs, lendC, sealC, partsT, finHs, tupT, verT, verP, verC, verB, verAt, Blk.ver, handsAre, forall_const, CHT, disj, Nat.reduceBEq, beq_self_eq_true, APT, srcOf, sealPs, sealCs, sealC, List.mem_singleton, forall_eq, ALT, UKz_1, List.length_map, encK_len, takeK, Nat.le_refl]
      refine callC (fitsS_ok b a 1 1 (okK_true.1 h1).1 (okK_true.1 h2).1 ha hb) rfl rfl (by simp [closedA, closedP, closedC]) rfl ?_
      simp only [RUN, core, T.c, T.s, T.b, T.i, sBin, sInt, sUn, isShift, asInt, P1.cells, loadT, ptrC, storeT, putC, fillP, Nat.reduceAdd, reduceIte, Nat.reduceEqDiff, Nat.reduceLT, Nat.reduceLeDiff, reduceCtorEq, eq_self, FIT, lendCs_map, verC_map, FinC, resPs, resP, lendPl, lendCs, lendC, sealC, partsT, finHs, tupT, verT, verP, verC, verB, verAt, Blk.ver, handsAre, forall_const, CHT, disj, Nat.reduceBEq, beq_self_eq_true, APT, srcOf, sealPs, sealCs, sealC, List.mem_singleton, forall_eq, ALT, UKz_1]
/- loop.example/teagle/impl.inRange -/
def r105_0 : List AOper := [ao 0 6 (.mv (.k (.b false)))]
def r105_1 : List AOper := [ao 0 7 (.mv (.t 1)),
  ao 1 8 (.mv (.t 0)),
  ao 2 9 (.bin .leq (.t 7) (.t 8)),
  ao 3 10 (.mv (.t 9)),
  ag 4 11 10 true [] (.mv (.t 0)),
  ag 5 12 10 true [] (.mv (.t 2)),
  ag 6 13 10 true [] (.bin .leq (.t 11) (.t 12)),
  ao 7 14 (.pick (.t 10) (.t 13) (.k (.b false))),
  ao 8 6 (.mv (.t 14))]
def c105 : ACode := .seq (.reg r105_0) (.seq (.reg r105_1) .ret)
def s105 : List ARes := [.tmp 6]
theorem ok105 : okF Try.prog 105 15 c105 s105 := ⟨Try.f105, Try.func105, Try.ntmps105, by kernel_rfl, by kernel_rfl, by kernel_rfl⟩
theorem UKz_2 : (type_of% (uA c105.eq_1)) ∧ (type_of% (uR r105_0.eq_1)) ∧ (type_of% (uR r105_1.eq_1)) ∧ (type_of% s105.eq_1) :=
  ⟨uA c105.eq_1, uR r105_0.eq_1, uR r105_1.eq_1, s105.eq_1⟩
theorem inRange_ok (n lo hi : Int) : ACallsF Try.prog 105 [.i n, .i lo, .i hi] [] (.b (decide (lo ≤ n) && decide (n ≤ hi))) := by
  refine ACallsF.intro ok105 follows fun X c0 => ?_
  by_cases h1 : lo ≤ n <;> by_cases h2 : n ≤ hi <;> simp only [RUN, core, T.c, T.s, T.b, T.i, sBin, sInt, sUn, isShift, asInt, P1.cells, loadT, ptrC, storeT, putC, fillP, Nat.reduceAdd, reduceIte, Nat.reduceEqDiff, Nat.reduceLT, Nat.reduceLeDiff, reduceCtorEq, eq_self, FIT, lendCs_map, verC_map, FinC, resPs, resP, lendPl, lendCs, lendC, sealC, partsT, finHs, tupT, verT, verP, verC, verB, verAt, Blk.ver, handsAre, forall_const, UKz_2, h1, h2]
/- loop.example/teagle/impl.isName -/
def r113_0 : List AOper := [ao 0 2 (.mv (.k (.b false)))]
def r113_1 : List AOper := [ao 0 5 (.mv (.t 0)),
  ao 1 6 (.lenS (.t 5)),
  ao 2 7 (.mv (.k (.i 0)))]
def r113_2 : List AOper := [ao 0 8 (.bin .lss (.t 7) (.t 6))]
def c113_3 : ACode := .cond (.t 8) .skip (.exit 0)
def r113_4 : List AOper := [ao 0 9 (.mv (.t 7)),
  ao 1 3 (.mv (.t 9))]
def r113_5 : List AOper := [ao 0 10 (.mv (.t 0)),
  ao 1 11 (.mv (.t 3)),
  ao 2 12 (.ix (.t 10) (.t 11)),
  ao 3 13 (.bin .geq (.t 12) (.k (.s (.int .u8 48)))),
  ao 4 14 (.mv (.t 13)),
  ag 5 15 14 true [] (.mv (.t 0)),
  ag 6 16 14 true [] (.mv (.t 3)),
  ag 7 17 14 true [] (.ix (.t 15) (.t 16)),
  ag 8 18 14 true [] (.bin .leq (.t 17) (.k (.s (.int .u8 57)))),
  ao 9 19 (.pick (.t 14) (.t 18) (.k (.b false))),
  ao 10 4 (.mv (.t 19))]
def r113_6 : List AOper := [ao 0 20 (.mv (.t 0)),
  ao 1 21 (.mv (.t 3)),
  ao 2 22 (.ix (.t 20) (.t 21)),
  ao 3 23 (.bin .lss (.t 22) (.k (.s (.int .u8 97)))),
  ao 4 24 (.mv (.t 23)),
  ag 5 25 24 false [] (.mv (.t 0)),
  ag 6 26 24 false [] (.mv (.t 3)),
  ag 7 27 24 false [] (.ix (.t 25) (.t 26)),
  ag 8 28 24 false [] (.bin .gtr (.t 27) (.k (.s (.int .u8 122)))),
  ao 9 29 (.pick (.t 24) (.k (.b true)) (.t 28)),
  ao 10 30 (.mv (.t 29)),
  ag 11 31 30 true [] (.mv (.t 4)),
  ag 12 32 30 true [] (.un .not (.t 31)),
  ag 13 33 30 true [] (.mv (.t 32)),
  ag 14 34 33 false [] (.mv (.t 3)),
  ag 15 35 33 false [] (.bin .eql (.t 34) (.k (.i 0))),
  ag 16 36 30 true [] (.pick (.t 33) (.k (.b true)) (.t 35)),
  ao 17 37 (.pick (.t 30) (.t 36) (.k (.b false)))]
def r113_7 : List AOper := [ao 0 2 (.mv (.k (.b false)))]
def c113_8 : ACode := .seq (.reg r113_7) .ret
def c113_9 : ACode := .cond (.t 37) c113_8 .skip
def c113_10 : ACode := .seq (.reg r113_4) (.seq (.reg r113_5) (.seq (.reg r113_6) c113_9))
def c113_11 : ACode := .block 1 c113_10
def r113_12 : List AOper := [ao 0 38 (.bin .add (.t 7) (.k (.i 1))),
  ao 1 7 (.mv (.t 38))]
def c113_13 : ACode := .seq (.reg r113_2) (.seq c113_3 (.seq c113_11 (.reg r113_12)))
def c113_14 : ACode := .loop c113_13
def c113_15 : ACode := .block 0 c113_14
def c113_16 : ACode := .seq (.reg r113_1) c113_15
def r113_17 : List AOper := [ao 0 39 (.mv (.t 0)),
  ao 1 40 (.lenS (.t 39)),
  ao 2 41 (.call (.k (.c (.fn 105 []))) [(.t 40), (.k (.i 1)), (.k (.i 8))]),
  ao 3 2 (.mv (.t 41))]
def c113 : ACode := .seq (.reg r113_0) (.seq c113_16 (.seq (.reg r113_17) .ret))
def s113 : List ARes := [.tmp 2]
theorem ok113 : okF Try.prog 113 42 c113 s113 := ⟨Try.f113, Try.func113, Try.ntmps113, by kernel_rfl, by kernel_rfl, by kernel_rfl⟩
def inv113 (s : ByteArray) (i : Nat) (σ : St) : Prop := (∀ j b, j < i → s.data[j]? = some b → (lower b || digit b) = true ∧ (j = 0 → lower b = true)) ∧ σ.t 0 = .s (.string s) ∧ σ.t 6 = .i s.size ∧ σ.t 7 = .i i
theorem UKz_3 : (type_of% (uA c113.eq_1)) ∧ (type_of% (uR r113_0.eq_1)) ∧ (type_of% (uA c113_16.eq_1)) ∧ (type_of% (uR r113_1.eq_1)) ∧ (type_of% (uA c113_15.eq_1)) ∧ (type_of% (uA c113_14.eq_1)) ∧ (type_of% (uR r113_17.eq_1)) ∧ (type_of% s113.eq_1) :=
  ⟨uA c113.eq_1, uR r113_0.eq_1, uA c113_16.eq_1, uR r113_1.eq_1, uA c113_15.eq_1, uA c113_14.eq_1, uR r113_17.eq_1, s113.eq_1⟩
theorem UKz_5 : (type_of% (uA c113_13.eq_1)) ∧ (type_of% (uR r113_2.eq_1)) ∧ (type_of% (uA c113_3.eq_1)) ∧ (type_of% (uA c113_11.eq_1)) ∧ (type_of% (uA c113_10.eq_1)) ∧ (type_of% (uR r113_4.eq_1)) ∧ (type_of% (uR r113_5.eq_1)) ∧ (type_of% (uR r113_6.eq_1)) ∧ (type_of% (uA c113_9.eq_1)) ∧ (type_of% (uA c113_8.eq_1)) ∧ (type_of% (uR r113_7.eq_1)) ∧ (type_of% (uR r113_12.eq_1)) ∧ (type_of% (uA c113.eq_1)) ∧ (type_of% (uR r113_0.eq_1)) ∧ (type_of% (uA c113_16.eq_1)) ∧ (type_of% (uR r113_1.eq_1)) ∧ (type_of% (uA c113_15.eq_1)) ∧ (type_of% (uA c113_14.eq_1)) ∧ (type_of% (uR r113_17.eq_1)) ∧ (type_of% s113.eq_1) :=
  ⟨uA c113_13.eq_1, uR r113_2.eq_1, uA c113_3.eq_1, uA c113_11.eq_1, uA c113_10.eq_1, uR r113_4.eq_1, uR r113_5.eq_1, uR r113_6.eq_1, uA c113_9.eq_1, uA c113_8.eq_1, uR r113_7.eq_1, uR r113_12.eq_1, uA c113.eq_1, uR r113_0.eq_1, uA c113_16.eq_1, uR r113_1.eq_1, uA c113_15.eq_1, uA c113_14.eq_1, uR r113_17.eq_1, s113.eq_1⟩
theorem isName_ok (s : ByteArray) (hs : s.size ≤ 4611686018427387904) : ACallsF Try.prog 113 [.s (.string s)] [] (.b (nameOk s)) := by
  refine ACallsF.intro ok113 follows fun X c0 => ?_
  simp only [RUN, core, T.c, T.s, T.b, T.i, sBin, sInt, sUn, isShift, asInt, P1.cells, loadT, ptrC, storeT, putC, fillP, Nat.reduceAdd, reduceIte, Nat.reduceEqDiff, Nat.reduceLT, Nat.reduceLeDiff, reduceCtorEq, eq_self, FIT, lendCs_map, verC_map, FinC, resPs, resP, lendPl, lendCs, lendC, sealC, partsT, finHs, tupT, verT, verP, verC, verB, verAt, Blk.ver, handsAre, forall_const, UKz_3]
  refine AW.upto s.size (inv113 s) ⟨fun j _ hj => absurd hj (Nat.not_lt_zero j), rfl, rfl, rfl⟩ fun i t H c hi h => ?_
  obtain ⟨g0, e0, e6, e7⟩ := h
  simp only [T.c, T.i, T.s] at e0 e6 e7
  by_cases hlt : i < s.size
  · have g1 : (i : Int) < s.size := by omega
    have gz : (0 : Int) ≤ i := by omega
    have gw : IntKind.i64.wrap ((i : Int) + 1) = ((i + 1 : Nat) : Int) := wrap64 (x := (i : Int) + 1) ⟨by omega, by omega⟩
    obtain ⟨b, hb⟩ : ∃ b, s.data[i]? = some b := ⟨_, Array.getElem?_eq_getElem (by rw [← size_data]; omega)⟩
    have hbad : ¬ ((lower b || digit b) = true ∧ (i = 0 → lower b = true)) → nameOk s = false := by
      intro h
      by_cases hl : (lower b || digit b) = true
      · have hi0 : i = 0 := by
          by_cases h0 : i = 0
          · exact h0
          · exact absurd ⟨hl, fun e => absurd e h0⟩ h
        have hlow : lower b = false := by
          cases hlb : lower b with
          | false => rfl
          | true => exact absurd ⟨hl, fun _ => hlb⟩ h
        subst hi0
        have hhead : s.data.toList.head? = some b := by rw [List.head?_eq_getElem?, Array.getElem?_toList]; exact hb
        simp [nameOk, hhead, hlow]
      · have : (s.data.toList.all fun b => lower b || digit b) = false := by
          rw [List.all_eq_false]
          exact ⟨b, by rw [Array.mem_toList_iff]; exact Array.mem_of_getElem? hb, hl⟩
        simp [nameOk, this]
    have hgood : ((lower b || digit b) = true ∧ (i = 0 → lower b = true)) → ∀ j b', j < i + 1 → s.data[j]? = some b' → (lower b' || digit b') = true ∧ (j = 0 → lower b' = true) := by
      intro hl j b' hj hj2
      rcases Nat.lt_succ_iff_lt_or_eq.1 hj with hj | rfl
      · exact g0 j b' hj hj2
      · rw [hb] at hj2; cases hj2; exact hl
    have hlo : lower b = true ↔ (97 ≤ (b.toNat : Int) ∧ (b.toNat : Int) ≤ 122) := by simp only [lower, Bool.and_eq_true, decide_eq_true_eq]; omega
    have hdi : digit b = true ↔ (48 ≤ (b.toNat : Int) ∧ (b.toNat : Int) ≤ 57) := by simp only [digit, Bool.and_eq_true, decide_eq_true_eq]; omega
    rw [Bool.or_eq_true, hlo, hdi] at hgood hbad
    have hfin : (97 ≤ (b.toNat : Int) ∧ (b.toNat : Int) ≤ 122 ∨ 48 ≤ (b.toNat : Int) ∧ (b.toNat : Int) ≤ 57) ∧ (i = 0 → 97 ≤ (b.toNat : Int) ∧ (b.toNat : Int) ≤ 122) → ∀ t' H' c', t' 0 = t 0 → t' 6 = t 6 → t' 7 = .i (i + 1 : Nat) → i < s.size ∧ inv113 s (i + 1) ⟨t', H', c'⟩ := by
      intro hl t' H' c' r1 r2 r3
      exact ⟨hlt, hgood hl, r1.trans e0, r2.trans e6, r3⟩
    have hbad' : ¬ ((97 ≤ (b.toNat : Int) ∧ (b.toNat : Int) ≤ 122 ∨ 48 ≤ (b.toNat : Int) ∧ (b.toNat : Int) ≤ 57) ∧ (i = 0 → 97 ≤ (b.toNat : Int) ∧ (b.toNat : Int) ≤ 122)) → nameOk s = false := hbad
    clear hbad hgood hlo hdi
    rcases (by omega : (97 ≤ (b.toNat : Int) ∧ (b.toNat : Int) ≤ 122) ∨ (48 ≤ (b.toNat : Int) ∧ (b.toNat : Int) ≤ 57) ∨ (b.toNat : Int) < 48 ∨ (57 < (b.toNat : Int) ∧ (b.toNat : Int) < 97) ∨ 122 < (b.toNat : Int)) with ⟨c1, c2⟩ | ⟨c1, c2⟩ | c1 | ⟨c1, c2⟩ | c1
    · have k1 : (b.toNat : Int) ≥ 48 := by omega
      have k2 : ¬ (b.toNat : Int) ≤ 57 := by omega
      have k3 : ¬ (b.toNat : Int) < 97 := by omega
      have k4 : ¬ (b.toNat : Int) > 122 := by omega
      have hf := hfin ⟨.inl ⟨c1, c2⟩, fun _ => ⟨c1, c2⟩⟩
      clear hfin hbad'
      simp only [RUN, core, T.c, T.s, T.b, T.i, sBin, sInt, sUn, isShift, asInt, P1.cells, loadT, ptrC, storeT, putC, fillP, Nat.reduceAdd, reduceIte, Nat.reduceEqDiff, Nat.reduceLT, Nat.reduceLeDiff, reduceCtorEq, eq_self, FIT, lendCs_map, verC_map, FinC, resPs, resP, lendPl, lendCs, lendC, sealC, partsT, finHs, tupT, verT, verP, verC, verB, verAt, Blk.ver, handsAre, forall_const, UKz_5, e0, e6, e7, g1, gz, hb, Int.toNat_natCast, k1, k2, k3, k4, gw]
      exact hf _ _ _ rfl rfl rfl
    · have k1 : (b.toNat : Int) ≥ 48 := by omega
      have k3 : (b.toNat : Int) < 97 := by omega
      by_cases hi0 : i = 0
      · have k5 : ((i : Int) == 0) = true := beq_iff_eq.2 (by omega)
        have hm := hbad' fun h => by have := h.2 hi0; omega
        clear hfin hbad'
        simp only [RUN, core, T.c, T.s, T.b, T.i, sBin, sInt, sUn, isShift, asInt, P1.cells, loadT, ptrC, storeT, putC, fillP, Nat.reduceAdd, reduceIte, Nat.reduceEqDiff, Nat.reduceLT, Nat.reduceLeDiff, reduceCtorEq, eq_self, FIT, lendCs_map, verC_map, FinC, resPs, resP, lendPl, lendCs, lendC, sealC, partsT, finHs, tupT, verT, verP, verC, verB, verAt, Blk.ver, handsAre, forall_const, UKz_5, e0, e6, e7, g1, gz, hb, Int.toNat_natCast, k1, c2, k3, k5, hm]
      · have k5 : ((i : Int) == 0) = false := beq_eq_false_iff_ne.2 (by omega)
        have hf := hfin ⟨.inr ⟨c1, c2⟩, fun h => absurd h hi0⟩
        clear hfin hbad'
        simp only [RUN, core, T.c, T.s, T.b, T.i, sBin, sInt, sUn, isShift, asInt, P1.cells, loadT, ptrC, storeT, putC, fillP, Nat.reduceAdd, reduceIte, Nat.reduceEqDiff, Nat.reduceLT, Nat.reduceLeDiff, reduceCtorEq, eq_self, FIT, lendCs_map, verC_map, FinC, resPs, resP, lendPl, lendCs, lendC, sealC, partsT, finHs, tupT, verT, verP, verC, verB, verAt, Blk.ver, handsAre, forall_const, UKz_5, e0, e6, e7, g1, gz, hb, Int.toNat_natCast, k1, c2, k3, k5, gw]
        exact hf _ _ _ rfl rfl rfl
    · have k1 : ¬ (b.toNat : Int) ≥ 48 := by omega
      have k3 : (b.toNat : Int) < 97 := by omega
      have hm := hbad' fun h => by have := h.1; omega
      clear hfin hbad'
      simp only [RUN, core, T.c, T.s, T.b, T.i, sBin, sInt, sUn, isShift, asInt, P1.cells, loadT, ptrC, storeT, putC, fillP, Nat.reduceAdd, reduceIte, Nat.reduceEqDiff, Nat.reduceLT, Nat.reduceLeDiff, reduceCtorEq, eq_self, FIT, lendCs_map, verC_map, FinC, resPs, resP, lendPl, lendCs, lendC, sealC, partsT, finHs, tupT, verT, verP, verC, verB, verAt, Blk.ver, handsAre, forall_const, UKz_5, e0, e6, e7, g1, gz, hb, Int.toNat_natCast, k1, k3, hm]
    · have k1 : (b.toNat : Int) ≥ 48 := by omega
      have k2 : ¬ (b.toNat : Int) ≤ 57 := by omega
      have hm := hbad' fun h => by have := h.1; omega
      clear hfin hbad'
      simp only [RUN, core, T.c, T.s, T.b, T.i, sBin, sInt, sUn, isShift, asInt, P1.cells, loadT, ptrC, storeT, putC, fillP, Nat.reduceAdd, reduceIte, Nat.reduceEqDiff, Nat.reduceLT, Nat.reduceLeDiff, reduceCtorEq, eq_self, FIT, lendCs_map, verC_map, FinC, resPs, resP, lendPl, lendCs, lendC, sealC, partsT, finHs, tupT, verT, verP, verC, verB, verAt, Blk.ver, handsAre, forall_const, UKz_5, e0, e6, e7, g1, gz, hb, Int.toNat_natCast, k1, k2, c2, hm]
    · have k1 : (b.toNat : Int) ≥ 48 := by omega
      have k2 : ¬ (b.toNat : Int) ≤ 57 := by omega
      have k3 : ¬ (b.toNat : Int) < 97 := by omega
      have k4 : (b.toNat : Int) > 122 := by omega
      have hm := hbad' fun h => by have := h.1; omega
      clear hfin hbad'
      simp only [RUN, core, T.c, T.s, T.b, T.i, sBin, sInt, sUn, isShift, asInt, P1.cells, loadT, ptrC, storeT, putC, fillP, Nat.reduceAdd, reduceIte, Nat.reduceEqDiff, Nat.reduceLT, Nat.reduceLeDiff, reduceCtorEq, eq_self, FIT, lendCs_map, verC_map, FinC, resPs, resP, lendPl, lendCs, lendC, sealC, partsT, finHs, tupT, verT, verP, verC, verB, verAt, Blk.ver, handsAre, forall_const, UKz_5, e0, e6, e7, g1, gz, hb, Int.toNat_natCast, k1, k2, k3, k4, hm]
  · have g1 : ¬ (i : Int) < s.size := by omega
    have hall : (s.data.toList.all fun b => lower b || digit b) = true := by
      rw [List.all_eq_true]
      intro b hb
      rw [Array.mem_toList_iff, Array.mem_iff_getElem?] at hb
      obtain ⟨j, hj⟩ := hb
      exact (g0 j b (by have := (Array.getElem?_eq_some_iff.1 hj).1; rw [size_data] at hlt; omega) hj).1
    have hm : (decide ((1 : Int) ≤ s.size) && decide ((s.size : Int) ≤ 8)) = nameOk s := by
      by_cases h0 : s.size = 0
      · have h1 : ¬ (1 : Int) ≤ s.size := by omega
        have h2 : ¬ 1 ≤ s.size := by omega
        simp [nameOk, h0]
      · obtain ⟨b0, hb0⟩ : ∃ b, s.data[0]? = some b := ⟨_, Array.getElem?_eq_getElem (by rw [← size_data]; omega)⟩
        have hhead : s.data.toList.head? = some b0 := by rw [List.head?_eq_getElem?, Array.getElem?_toList]; exact hb0
        have hlow := (g0 0 b0 (by omega) hb0).2 rfl
        have e1 : decide ((1 : Int) ≤ s.size) = decide (1 ≤ s.size) := decide_eq_decide.2 (by omega)
        have e2 : decide ((s.size : Int) ≤ 8) = decide (s.size ≤ 8) := decide_eq_decide.2 (by omega)
        simp only [nameOk, hall, hhead, Option.any_some, hlow, e1, e2, Bool.and_true]
    simp only [RUN, core, T.c, T.s, T.b, T.i, sBin, sInt, sUn, isShift, asInt, P1.cells, loadT, ptrC, storeT, putC, fillP, Nat.reduceAdd, reduceIte, Nat.reduceEqDiff, Nat.reduceLT, Nat.reduceLeDiff, reduceCtorEq, eq_self, FIT, lendCs_map, verC_map, FinC, resPs, resP, lendPl, lendCs, lendC, sealC, partsT, finHs, tupT, verT, verP, verC, verB, verAt, Blk.ver, handsAre, forall_const, UKz_5, UKz_3, e0, e6, e7, g1]
    refine callC (inRange_ok _ _ _) rfl rfl rfl rfl ?_
    simp only [RUN, core, T.c, T.s, T.b, T.i, sBin, sInt, sUn, isShift, asInt, P1.cells, loadT, ptrC, storeT, putC, fillP, Nat.reduceAdd, reduceIte, Nat.reduceEqDiff, Nat.reduceLT, Nat.reduceLeDiff, reduceCtorEq, eq_self, FIT, lendCs_map, verC_map, FinC, resPs, resP, lendPl, lendCs, lendC, sealC, partsT, finHs, tupT, verT, verP, verC, verB, verAt, Blk.ver, handsAre, forall_const, UKz_3, hm]
/- loop.example/teagle/impl.areNames -/
def r106_0 : List AOper := [ao 0 2 (.mv (.k (.b false)))]
def r106_1 : List AOper := [ao 0 5 (.mv (.t 0)),
  ao 1 6 (.len (.t 5)),
  ao 2 7 (.mv (.k (.i 0)))]
def r106_2 : List AOper := [ao 0 8 (.bin .lss (.t 7) (.t 6))]
def c106_3 : ACode := .cond (.t 8) .skip (.exit 0)
def r106_4 : List AOper := [ao 0 9 (.mv (.t 7)),
  ao 1 10 (.ia 1 (.t 5) (.t 7)),
  ao 2 11 (.ld 1 false (.t 10)),
  ao 3 3 (.mv (.t 9)),
  ao 4 4 (.mv (.t 11))]
def r106_5 : List AOper := [ao 0 12 (.mv (.t 4)),
  ao 1 13 (.call (.k (.c (.fn 113 []))) [(.t 12)]),
  ao 2 14 (.un .not (.t 13)),
  ao 3 15 (.mv (.t 14)),
  ag 4 16 15 false [] (.mv (.t 3)),
  ag 5 17 15 false [] (.bin .gtr (.t 16) (.k (.i 0))),
  ag 6 18 15 false [] (.mv (.t 17)),
  ag 7 19 18 true [] (.mv (.t 0)),
  ag 8 20 18 true [] (.mv (.t 3)),
  ag 9 21 18 true [] (.bin .sub (.t 20) (.k (.i 1))),
  ag 10 22 18 true [] (.ia 1 (.t 19) (.t 21)),
  ag 11 23 18 true [] (.ld 1 false (.t 22)),
  ag 12 24 18 true [] (.mv (.t 4)),
  ag 13 25 18 true [] (.bin .geq (.t 23) (.t 24)),
  ag 14 26 15 false [] (.pick (.t 18) (.t 25) (.k (.b false))),
  ao 15 27 (.pick (.t 15) (.k (.b true)) (.t 26))]
def r106_6 : List AOper := [ao 0 2 (.mv (.k (.b false)))]
def c106_7 : ACode := .seq (.reg r106_6) .ret
def c106_8 : ACode := .cond (.t 27) c106_7 .skip
def c106_9 : ACode := .seq (.reg r106_4) (.seq (.reg r106_5) c106_8)
def c106_10 : ACode := .block 1 c106_9
def r106_11 : List AOper := [ao 0 28 (.bin .add (.t 7) (.k (.i 1))),
  ao 1 7 (.mv (.t 28))]
def c106_12 : ACode := .seq (.reg r106_2) (.seq c106_3 (.seq c106_10 (.reg r106_11)))
def c106_13 : ACode := .loop c106_12
def c106_14 : ACode := .block 0 c106_13
def c106_15 : ACode := .seq (.reg r106_1) c106_14
def r106_16 : List AOper := [ao 0 2 (.mv (.k (.b true)))]
def c106 : ACode := .seq (.reg r106_0) (.seq c106_15 (.seq (.reg r106_16) .ret))
def s106 : List ARes := [.tmp 2]
theorem ok106 : okF Try.prog 106 29 c106 s106 := ⟨Try.f106, Try.func106, Try.ntmps106, by kernel_rfl, by kernel_rfl, by kernel_rfl⟩
def inv106 (ss : List ByteArray) (i : Nat) (σ : St) : Prop := (∀ j s, j < i → ss[j]? = some s → nameOk s = true ∧ ∀ s', 0 < j → ss[j - 1]? = some s' → Op.bytesLess s'.toList s.toList = true) ∧ σ.t 0 = .c (.v (.sl (encS ss))) ∧ σ.t 5 = .c (.v (.sl (encS ss))) ∧ σ.t 6 = .i ss.length ∧ σ.t 7 = .i i
theorem UKz_4 : (type_of% (uA c106.eq_1)) ∧ (type_of% (uR r106_0.eq_1)) ∧ (type_of% (uA c106_15.eq_1)) ∧ (type_of% (uR r106_1.eq_1)) ∧ (type_of% (uA c106_14.eq_1)) ∧ (type_of% (uA c106_13.eq_1)) ∧ (type_of% (uR r106_16.eq_1)) ∧ (type_of% s106.eq_1) :=
  ⟨uA c106.eq_1, uR r106_0.eq_1, uA c106_15.eq_1, uR r106_1.eq_1, uA c106_14.eq_1, uA c106_13.eq_1, uR r106_16.eq_1, s106.eq_1⟩
theorem UKz_6 : (type_of% (uA c106_12.eq_1)) ∧ (type_of% (uR r106_2.eq_1)) ∧ (type_of% (uA c106_3.eq_1)) ∧ (type_of% (uA c106_10.eq_1)) ∧ (type_of% (uA c106_9.eq_1)) ∧ (type_of% (uR r106_4.eq_1)) ∧ (type_of% (uR r106_5.eq_1)) ∧ (type_of% (uA c106_8.eq_1)) ∧ (type_of% (uA c106_7.eq_1)) ∧ (type_of% (uR r106_6.eq_1)) ∧ (type_of% (uR r106_11.eq_1)) ∧ (type_of% (uA c106.eq_1)) ∧ (type_of% (uR r106_0.eq_1)) ∧ (type_of% (uA c106_15.eq_1)) ∧ (type_of% (uR r106_1.eq_1)) ∧ (type_of% (uA c106_14.eq_1)) ∧ (type_of% (uA c106_13.eq_1)) ∧ (type_of% (uR r106_16.eq_1)) ∧ (type_of% s106.eq_1) :=
  ⟨uA c106_12.eq_1, uR r106_2.eq_1, uA c106_3.eq_1, uA c106_10.eq_1, uA c106_9.eq_1, uR r106_4.eq_1, uR r106_5.eq_1, uA c106_8.eq_1, uA c106_7.eq_1, uR r106_6.eq_1, uR r106_11.eq_1, uA c106.eq_1, uR r106_0.eq_1, uA c106_15.eq_1, uR r106_1.eq_1, uA c106_14.eq_1, uA c106_13.eq_1, uR r106_16.eq_1, s106.eq_1⟩
theorem areNames_ok (ss : List ByteArray) (hl : ss.length ≤ 4611686018427387904) (hs : ∀ s ∈ ss, s.size ≤ 4611686018427387904) : ACallsF Try.prog 106 [.c (.v (.sl (encS ss)))] [] (.b (rise ss)) := by
  refine ACallsF.intro ok106 follows fun X c0 => ?_
  simp only [RUN, core, T.c, T.s, T.b, T.i, sBin, sInt, sUn, isShift, asInt, P1.cells, loadT, ptrC, storeT, putC, fillP, Nat.reduceAdd, reduceIte, Nat.reduceEqDiff, Nat.reduceLT, Nat.reduceLeDiff, reduceCtorEq, eq_self, FIT, lendCs_map, verC_map, FinC, resPs, resP, lendPl, lendCs, lendC, sealC, partsT, finHs, tupT, verT, verP, verC, verB, verAt, Blk.ver, handsAre, forall_const, UKz_4, encS_len]
  refine AW.upto ss.length (inv106 ss) ⟨fun j _ hj => absurd hj (Nat.not_lt_zero j), rfl, rfl, rfl, rfl⟩ fun i t H c hi h => ?_
  obtain ⟨g0, e0, e5, e6, e7⟩ := h
  simp only [T.c, T.i, T.s] at e0 e5 e6 e7
  by_cases hlt : i < ss.length
  · have g1 : (i : Int) < ss.length := by omega
    have gz : (0 : Int) ≤ i := by omega
    have gw : IntKind.i64.wrap ((i : Int) + 1) = ((i + 1 : Nat) : Int) := wrap64 (x := (i : Int) + 1) ⟨by omega, by omega⟩
    obtain ⟨s, hs1⟩ : ∃ s, ss[i]? = some s := ⟨_, List.getElem?_eq_getElem hlt⟩
    have es := encS_at hs1
    have hC := isName_ok s (hs s (List.mem_of_getElem? hs1))
    have key : nameOk s = true → (∀ s', 0 < i → ss[i - 1]? = some s' → Op.bytesLess s'.toList s.toList = true) → ∀ j s, j < i + 1 → ss[j]? = some s → nameOk s = true ∧ ∀ s', 0 < j → ss[j - 1]? = some s' → Op.bytesLess s'.toList s.toList = true := by
      intro k1 k2 j s2 hj hj2
      rcases Nat.lt_succ_iff_lt_or_eq.1 hj with hj | rfl
      · exact g0 j s2 hj hj2
      · rw [hs1] at hj2; cases hj2; exact ⟨k1, k2⟩
    simp only [RUN, core, T.c, T.s, T.b, T.i, sBin, sInt, sUn, isShift, asInt, P1.cells, loadT, ptrC, storeT, putC, fillP, Nat.reduceAdd, reduceIte, Nat.reduceEqDiff, Nat.reduceLT, Nat.reduceLeDiff, reduceCtorEq, eq_self, FIT, lendCs_map, verC_map, FinC, resPs, resP, lendPl, lendCs, lendC, sealC, partsT, finHs, tupT, verT, verP, verC, verB, verAt, Blk.ver, handsAre, forall_const, UKz_6, e0, e5, e6, e7, g1, gz, encS_len, es, Int.toNat_natCast]
    refine callC hC rfl rfl rfl rfl ?_
    cases hn : nameOk s with
    | false =>
      have hm : rise ss = false := rise_false.2 fun h => by rw [(h i s hs1).1] at hn; cases hn
      simp only [RUN, core, T.c, T.s, T.b, T.i, sBin, sInt, sUn, isShift, asInt, P1.cells, loadT, ptrC, storeT, putC, fillP, Nat.reduceAdd, reduceIte, Nat.reduceEqDiff, Nat.reduceLT, Nat.reduceLeDiff, reduceCtorEq, eq_self, FIT, lendCs_map, verC_map, FinC, resPs, resP, lendPl, lendCs, lendC, sealC, partsT, finHs, tupT, verT, verP, verC, verB, verAt, Blk.ver, handsAre, forall_const, UKz_6, hm]
    | true =>
      by_cases hi0 : i = 0
      · have k1 : ¬ (i : Int) > 0 := by omega
        simp only [RUN, core, T.c, T.s, T.b, T.i, sBin, sInt, sUn, isShift, asInt, P1.cells, loadT, ptrC, storeT, putC, fillP, Nat.reduceAdd, reduceIte, Nat.reduceEqDiff, Nat.reduceLT, Nat.reduceLeDiff, reduceCtorEq, eq_self, FIT, lendCs_map, verC_map, FinC, resPs, resP, lendPl, lendCs, lendC, sealC, partsT, finHs, tupT, verT, verP, verC, verB, verAt, Blk.ver, handsAre, forall_const, UKz_6, e0, e5, e6, e7, k1, gw]
        exact ⟨hlt, key hn (fun s' h => by omega), e0, e5, e6, rfl⟩
      · have k1 : (i : Int) > 0 := by omega
        have k2 : IntKind.i64.wrap ((i : Int) - 1) = ((i - 1 : Nat) : Int) := (wrap64 (x := (i : Int) - 1) ⟨by omega, by omega⟩).trans (by omega)
        have k3 : (0 : Int) ≤ ((i - 1 : Nat) : Int) := by omega
        obtain ⟨s', hs2⟩ : ∃ s, ss[i - 1]? = some s := ⟨_, List.getElem?_eq_getElem (by omega)⟩
        have es2 := encS_at hs2
        cases hb : Op.bytesLess s'.toList s.toList with
        | false =>
          have hm : rise ss = false := rise_false.2 fun h => by rw [(h i s hs1).2 s' (by omega) hs2] at hb; cases hb
          simp only [RUN, core, T.c, T.s, T.b, T.i, sBin, sInt, sUn, isShift, asInt, P1.cells, loadT, ptrC, storeT, putC, fillP, Nat.reduceAdd, reduceIte, Nat.reduceEqDiff, Nat.reduceLT, Nat.reduceLeDiff, reduceCtorEq, eq_self, FIT, lendCs_map, verC_map, FinC, resPs, resP, lendPl, lendCs, lendC, sealC, partsT, finHs, tupT, verT, verP, verC, verB, verAt, Blk.ver, handsAre, forall_const, UKz_6, e0, e5, e6, e7, k1, k2, k3, es, es2, gz, Int.toNat_natCast, sStr, hb, hm]
        | true =>
          simp only [RUN, core, T.c, T.s, T.b, T.i, sBin, sInt, sUn, isShift, asInt, P1.cells, loadT, ptrC, storeT, putC, fillP, Nat.reduceAdd, reduceIte, Nat.reduceEqDiff, Nat.reduceLT, Nat.reduceLeDiff, reduceCtorEq, eq_self, FIT, lendCs_map, verC_map, FinC, resPs, resP, lendPl, lendCs, lendC, sealC, partsT, finHs, tupT, verT, verP, verC, verB, verAt, Blk.ver, handsAre, forall_const, UKz_6, e0, e5, e6, e7, k1, k2, k3, es, es2, gz, Int.toNat_natCast, sStr, hb, gw]
          exact ⟨hlt, key hn (fun s2 _ h2 => by rw [hs2] at h2; cases h2; exact hb), e0, e5, e6, rfl⟩
  · have g1 : ¬ (i : Int) < ss.length := by omega
    have hm : rise ss = true := rise_true.2 fun j s hj => g0 j s (by have := (List.getElem?_eq_some_iff.1 hj).1; omega) hj
    simp only [RUN, core, T.c, T.s, T.b, T.i, sBin, sInt, sUn, isShift, asInt, P1.cells, loadT, ptrC, storeT, putC, fillP, Nat.reduceAdd, reduceIte, Nat.reduceEqDiff, Nat.reduceLT, Nat.reduceLeDiff, reduceCtorEq, eq_self, FIT, lendCs_map, verC_map, FinC, resPs, resP, lendPl, lendCs, lendC, sealC, partsT, finHs, tupT, verT, verP, verC, verB, verAt, Blk.ver, handsAre, forall_const, UKz_6, UKz_4, e0, e6, e7, g1, encS_len, hm]
end Go.V
set_option linter.unusedSimpArgs false
namespace Go.V
open Go.Proofs
theorem lendT_closed (hs : List Hand) (H : HMap) {x : T} (h : closedA x = true) : lendT H x x = some (x, [], []) ∧ renIT hs x = some x := by
  cases x with
  | pt p =>
    cases p with
    | one c => obtain ⟨h1, h2, _⟩ := closed_C hs H c h; exact ⟨by simp [lendT, h1], by simp [renIT, h2]⟩
    | agg cs => obtain ⟨h1, h2, _⟩ := closed_Cs hs H cs h; exact ⟨by simp [lendT, h1], by simp [renIT, h2]⟩
  | junk => simp [closedA] at h
  | undef => simp [closedA] at h
  | tup ps => simp [closedA] at h
theorem lendTs_snoc (hs : List Hand) (H : HMap) (n m v j : Nat) (hI : inN hs n = some m) : ∀ (ac : List T), ac.all closedA = true → lendTs H (ac ++ [.c (.ptr n v j)]) (ac ++ [.c (.ptr m v j)]) = some (ac ++ [.c (.ptr m v j)], [], []) ∧ renITs hs (ac ++ [.c (.ptr n v j)]) = some (ac ++ [.c (.ptr m v j)])
  | [], _ => ⟨by simp [lendTs, lendT, lendC, T.c], by simp [renITs, renIT, renI, hI, T.c]⟩
  | x :: ac, h => by
    simp only [List.all_cons, Bool.and_eq_true] at h
    obtain ⟨h1, h2⟩ := lendT_closed hs H h.1
    obtain ⟨h3, h4⟩ := lendTs_snoc hs H n m v j hI ac h.2
    exact ⟨by simp only [List.cons_append, lendTs, h1, h3, List.nil_append], by simp only [List.cons_append, renITs, h2, h4]⟩
/-- A call that hands on a variable by a pointer to it, the last argument, beside closed values. -/
theorem callP {P : Program} {t : Nat → T} {H : HMap} {c : Nat} {f : Opd} {args : List Opd} {fid : FuncId} {n m v : Nat} {ty : TypeId} {xs ys : List V} {argsC : List T} {r : T} {k : Nat} {d : Option Nat} {un : List Nat} {l : List AOper} {prev : List (Nat × List Nat × List Nat)} {K : St → Prop}
    (hC : ACallsF P fid (argsC ++ [.c (.ptr n v 0)]) [⟨n, m, some (.var v ty (xs.map .v)), .var v ty (ys.map .v), true⟩] r) (hf : ev t f = .pt (.one (.fn fid []))) (hl : args.map (ev t) = argsC ++ [.c (.ptr m v 0)])
    (ha : argsC.all closedA = true) (hr : closedT r = true) (hH : H m = some (.var v ty (xs.map .v)))
    (hk : chk prev un ⟨r, [(m, .var v ty (ys.map .v))], [m], [m]⟩ = true ∧ DRun P l ((k, [m], [m]) :: prev) K ⟨updD t d r, upd H m (some (.var v ty (ys.map .v))), c⟩) :
    step P k d un (.call f args) l prev K t H c := by
  let hs : List Hand := [⟨n, m, some (.var v ty (xs.map .v)), .var v ty (ys.map .v), true⟩]
  have hcl : ∀ xs : List V, (xs.map C.v).all closedC = true := by intro xs; simp [closedC]
  have hN : renN hs n = some ⟨n, m, some (.var v ty (xs.map .v)), .var v ty (ys.map .v), true⟩ := by simp [hs, renN]
  have hI : inN hs n = some m := by simp [inN, hN]
  obtain ⟨h1, h2⟩ := lendTs_snoc hs H n m v 0 hI argsC ha
  refine callW (caps := []) (ws := []) (ns := []) hs hC hf (by rw [hl]; simpa using h1) h2 ⟨?_, trivial⟩ (by simp [hs]) (by simp [hs]) (closed_T hs r hr _) (ob := [(m, .var v ty (ys.map .v))]) ?_ ?_
  · simp only [renIB, (closed_Cs hs H (xs.map .v) (hcl _)).2.1, Option.map_some]
    exact hH
  · simp only [hs, renOBs, renOB, verOf, Blk.ver]
    rw [(closed_Cs _ H (ys.map .v) (hcl _)).2.2]
    rfl
  · have hq : quiet r hs = false := by simp [quiet, hs]
    simpa [hq, hs, updH] using hk
/- (loop.example/teagle/impl.Kind).shapeOk -/
def r98_0 : List AOper := [ao 0 1 (.box 26 (.t 0)),
  ao 1 2 (.mv (.k (.b false)))]
def r98_1 : List AOper := [ao 0 3 (.fa 0 (.t 1)),
  ao 1 4 (.ld 1 false (.t 3))]
def r98_2 : List AOper := [ao 0 6 (.bin .eql (.t 4) (.k (.i 1))),
  ao 1 5 (.mv (.t 6))]
def r98_3 : List AOper := [ao 0 7 (.bin .eql (.t 4) (.k (.i 2))),
  ao 1 5 (.mv (.t 7))]
def r98_4 : List AOper := [ao 0 8 (.bin .eql (.t 4) (.k (.i 3))),
  ao 1 5 (.mv (.t 8))]
def c98_5 : ACode := .cond (.t 5) .skip (.reg r98_4)
def c98_6 : ACode := .seq (.reg r98_3) c98_5
def c98_7 : ACode := .cond (.t 5) .skip c98_6
def c98_8 : ACode := .seq (.reg r98_2) c98_7
def r98_9 : List AOper := [ao 0 9 (.fa 1 (.t 1)),
  ao 1 10 (.ld 1 false (.t 9)),
  ao 2 11 (.len (.t 10)),
  ao 3 12 (.fa 2 (.t 1)),
  ao 4 13 (.ld 1 false (.t 12)),
  ao 5 14 (.len (.t 13)),
  ao 6 15 (.bin .add (.t 11) (.t 14)),
  ao 7 16 (.bin .eql (.t 15) (.k (.i 0))),
  ao 8 2 (.mv (.t 16))]
def c98_10 : ACode := .seq (.reg r98_9) .ret
def r98_11 : List AOper := [ao 0 18 (.bin .eql (.t 4) (.k (.i 4))),
  ao 1 17 (.mv (.t 18))]
def r98_12 : List AOper := [ao 0 19 (.bin .eql (.t 4) (.k (.i 6))),
  ao 1 17 (.mv (.t 19))]
def c98_13 : ACode := .cond (.t 17) .skip (.reg r98_12)
def c98_14 : ACode := .seq (.reg r98_11) c98_13
def r98_15 : List AOper := [ao 0 20 (.fa 1 (.t 1)),
  ao 1 21 (.ld 1 false (.t 20)),
  ao 2 22 (.len (.t 21)),
  ao 3 23 (.bin .eql (.t 22) (.k (.i 0))),
  ao 4 24 (.mv (.t 23)),
  ag 5 25 24 true [] (.fa 2 (.t 1)),
  ag 6 26 24 true [] (.ld 1 false (.t 25)),
  ag 7 27 24 true [] (.len (.t 26)),
  ag 8 28 24 true [] (.bin .eql (.t 27) (.k (.i 1))),
  ao 9 29 (.pick (.t 24) (.t 28) (.k (.b false))),
  ao 10 2 (.mv (.t 29))]
def c98_16 : ACode := .seq (.reg r98_15) .ret
def c98_17 : ACode := .cond (.t 17) c98_16 .skip
def c98_18 : ACode := .seq c98_14 c98_17
def c98_19 : ACode := .cond (.t 5) c98_10 c98_18
def c98_20 : ACode := .seq c98_8 c98_19
def c98_21 : ACode := .block 0 c98_20
def c98_22 : ACode := .seq (.reg r98_1) c98_21
def r98_23 : List AOper := [ao 0 30 (.fa 0 (.t 1)),
  ao 1 31 (.ld 1 false (.t 30)),
  ao 2 32 (.bin .eql (.t 31) (.k (.i 5))),
  ao 3 33 (.mv (.t 32)),
  ag 4 34 33 true [] (.fa 1 (.t 1)),
  ag 5 35 33 true [] (.ld 1 false (.t 34)),
  ag 6 36 33 true [] (.call (.k (.c (.fn 106 []))) [(.t 35)]),
  ao 7 37 (.pick (.t 33) (.t 36) (.k (.b false))),
  ao 8 38 (.mv (.t 37)),
  ag 9 39 38 true [] (.fa 1 (.t 1)),
  ag 10 40 38 true [] (.ld 1 false (.t 39)),
  ag 11 41 38 true [] (.len (.t 40)),
  ag 12 42 38 true [] (.fa 2 (.t 1)),
  ag 13 43 38 true [] (.ld 1 false (.t 42)),
  ag 14 44 38 true [] (.len (.t 43)),
  ag 15 45 38 true [] (.bin .eql (.t 41) (.t 44)),
  ao 16 46 (.pick (.t 38) (.t 45) (.k (.b false))),
  ao 17 2 (.mv (.t 46))]
def c98 : ACode := .seq (.reg r98_0) (.seq c98_22 (.seq (.reg r98_23) .ret))
def s98 : List ARes := [.tmp 2]
theorem ok98 : okF Try.prog 98 47 c98 s98 := ⟨Try.f98, Try.func98, Try.ntmps98, by kernel_rfl, by kernel_rfl, by kernel_rfl⟩
noncomputable def shapeB (s : Int) (ns : List ByteArray) (ks : List Kd) : Bool := @decide (Shape s ns ks) (Classical.propDecidable _)
theorem shapeB_true {s : Int} {ns : List ByteArray} {ks : List Kd} : shapeB s ns ks = true ↔ Shape s ns ks := by simp [shapeB]
theorem shapeB_eq {s : Int} {ns : List ByteArray} {ks : List Kd} {b : Bool} (h : Shape s ns ks ↔ b = true) : shapeB s ns ks = b := by
  cases h1 : shapeB s ns ks with
  | true => exact (h.1 (shapeB_true.1 h1)).symm
  | false =>
    cases b with
    | false => rfl
    | true => rw [shapeB_true.2 (h.2 rfl)] at h1; cases h1
theorem ULa_1 : (type_of% (uA c98.eq_1)) ∧ (type_of% (uR r98_0.eq_1)) ∧ (type_of% (uA c98_22.eq_1)) ∧ (type_of% (uR r98_1.eq_1)) ∧ (type_of% (uA c98_21.eq_1)) ∧ (type_of% (uA c98_20.eq_1)) ∧ (type_of% (uA c98_8.eq_1)) ∧ (type_of% (uR r98_2.eq_1)) ∧ (type_of% (uA c98_7.eq_1)) ∧ (type_of% (uA c98_6.eq_1)) ∧ (type_of% (uR r98_3.eq_1)) ∧ (type_of% (uA c98_5.eq_1)) ∧ (type_of% (uR r98_4.eq_1)) ∧ (type_of% (uA c98_19.eq_1)) ∧ (type_of% (uA c98_10.eq_1)) ∧ (type_of% (uR r98_9.eq_1)) ∧ (type_of% (uA c98_18.eq_1)) ∧ (type_of% (uA c98_14.eq_1)) ∧ (type_of% (uR r98_11.eq_1)) ∧ (type_of% (uA c98_13.eq_1)) ∧ (type_of% (uR r98_12.eq_1)) ∧ (type_of% (uA c98_17.eq_1)) ∧ (type_of% (uA c98_16.eq_1)) ∧ (type_of% (uR r98_15.eq_1)) ∧ (type_of% (uR r98_23.eq_1)) ∧ (type_of% s98.eq_1) :=
  ⟨uA c98.eq_1, uR r98_0.eq_1, uA c98_22.eq_1, uR r98_1.eq_1, uA c98_21.eq_1, uA c98_20.eq_1, uA c98_8.eq_1, uR r98_2.eq_1, uA c98_7.eq_1, uA c98_6.eq_1, uR r98_3.eq_1, uA c98_5.eq_1, uR r98_4.eq_1, uA c98_19.eq_1, uA c98_10.eq_1, uR r98_9.eq_1, uA c98_18.eq_1, uA c98_14.eq_1, uR r98_11.eq_1, uA c98_13.eq_1, uR r98_12.eq_1, uA c98_17.eq_1, uA c98_16.eq_1, uR r98_15.eq_1, uR r98_23.eq_1, s98.eq_1⟩
theorem shapeOk_ok (s : Int) (ns : List ByteArray) (ks : List Kd) (hl : ns.length ≤ 1000000 ∧ ks.length ≤ 1000000) (hs : ∀ s ∈ ns, s.size ≤ 1000000) : ACallsF Try.prog 98 [tK (.mk s ns ks)] [] (.b (shapeB s ns ks)) := by
  have w1 : IntKind.i64.wrap ((ns.length : Int) + (ks.length : Int)) = (ns.length : Int) + (ks.length : Int) := wrap64 ⟨by omega, by omega⟩
  have leaf : 1 ≤ s ∧ s ≤ 3 → shapeB s ns ks = ((ns.length : Int) + (ks.length : Int) == 0) := by
    rintro ⟨h1, h2⟩
    refine shapeB_eq ⟨fun h => ?_, fun h => ?_⟩
    · have e1 := h.other (by omega)
      have e2 := h.leaf (by omega)
      exact beq_iff_eq.2 (by omega)
    · have h := beq_iff_eq.1 h
      exact ⟨by omega, by omega, fun h => by omega, fun _ => by omega, fun _ => by omega, fun h => by omega⟩
  have one : s = 4 ∨ s = 6 → ∀ b1 b2, ((ns.length : Int) == 0) = b1 → ((ks.length : Int) == 1) = b2 → shapeB s ns ks = (b1 && b2) := by
    rintro h b1 b2 rfl rfl
    refine shapeB_eq ⟨fun h2 => ?_, fun h2 => ?_⟩
    · have e1 := h2.other (by omega)
      have e2 := h2.one h
      simp only [Bool.and_eq_true, beq_iff_eq]; omega
    · simp only [Bool.and_eq_true, beq_iff_eq] at h2
      exact ⟨by omega, by omega, fun h => by omega, fun _ => by omega, fun _ => by omega, fun _ => by omega⟩
  refine ACallsF.intro ok98 follows fun X c0 => ?_
  by_cases hlf : 1 ≤ s ∧ s ≤ 3
  · have hm := leaf hlf
    rcases (by omega : s = 1 ∨ s = 2 ∨ s = 3) with rfl | rfl | rfl
    all_goals simp only [RUN, core, T.c, T.s, T.b, T.i, sBin, sInt, sUn, isShift, asInt, P1.cells, loadT, ptrC, storeT, putC, fillP, Nat.reduceAdd, reduceIte, Nat.reduceEqDiff, Nat.reduceLT, Nat.reduceLeDiff, reduceCtorEq, eq_self, FIT, lendCs_map, verC_map, FinC, resPs, resP, lendPl, lendCs, lendC, sealC, partsT, finHs, tupT, verT, verP, verC, verB, verAt, Blk.ver, handsAre, forall_const, CHT, disj, Nat.reduceBEq, beq_self_eq_true, APT, srcOf, sealPs, sealCs, sealC, List.mem_singleton, forall_eq, ALT, ULa_1, encK_mk, encKs_len, encS_len, Int.reduceBEq, w1, hm]
  by_cases hon : s = 4 ∨ s = 6
  · have hm := one hon
    have hb : ∃ b1 b2, ((ns.length : Int) == 0) = b1 ∧ ((ks.length : Int) == 1) = b2 := ⟨_, _, rfl, rfl⟩
    obtain ⟨b1, b2, hb1, hb2⟩ := hb
    have hm := hm b1 b2 hb1 hb2
    rcases hon with rfl | rfl
    all_goals
      cases b1
      · simp only [RUN, core, T.c, T.s, T.b, T.i, sBin, sInt, sUn, isShift, asInt, P1.cells, loadT, ptrC, storeT, putC, fillP, Nat.reduceAdd, reduceIte, Nat.reduceEqDiff, Nat.reduceLT, Nat.reduceLeDiff, reduceCtorEq, eq_self, FIT, lendCs_map, verC_map, FinC, resPs, resP, lendPl, lendCs, lendC, sealC, partsT, finHs, tupT, verT, verP, verC, verB, verAt, Blk.ver, handsAre, forall_const, CHT, disj, Nat.reduceBEq, beq_self_eq_true, APT, srcOf, sealPs, sealCs, sealC, List.mem_singleton, forall_eq, ALT, ULa_1, encK_mk, encKs_len, encS_len, Int.reduceBEq, hb1, hb2, hm]
      · simp only [RUN, core, T.c, T.s, T.b, T.i, sBin, sInt, sUn, isShift, asInt, P1.cells, loadT, ptrC, storeT, putC, fillP, Nat.reduceAdd, reduceIte, Nat.reduceEqDiff, Nat.reduceLT, Nat.reduceLeDiff, reduceCtorEq, eq_self, FIT, lendCs_map, verC_map, FinC, resPs, resP, lendPl, lendCs, lendC, sealC, partsT, finHs, tupT, verT, verP, verC, verB, verAt, Blk.ver, handsAre, forall_const, CHT, disj, Nat.reduceBEq, beq_self_eq_true, APT, srcOf, sealPs, sealCs, sealC, List.mem_singleton, forall_eq, ALT, ULa_1, encK_mk, encKs_len, encS_len, Int.reduceBEq, hb1, hb2, hm]
  have b1 : (s == 1) = false := beq_eq_false_iff_ne.2 (by omega)
  have b2 : (s == 2) = false := beq_eq_false_iff_ne.2 (by omega)
  have b3 : (s == 3) = false := beq_eq_false_iff_ne.2 (by omega)
  have b4 : (s == 4) = false := beq_eq_false_iff_ne.2 (by omega)
  have b6 : (s == 6) = false := beq_eq_false_iff_ne.2 (by omega)
  by_cases h5 : s = 5
  · subst h5
    simp only [RUN, core, T.c, T.s, T.b, T.i, sBin, sInt, sUn, isShift, asInt, P1.cells, loadT, ptrC, storeT, putC, fillP, Nat.reduceAdd, reduceIte, Nat.reduceEqDiff, Nat.reduceLT, Nat.reduceLeDiff, reduceCtorEq, eq_self, FIT, lendCs_map, verC_map, FinC, resPs, resP, lendPl, lendCs, lendC, sealC, partsT, finHs, tupT, verT, verP, verC, verB, verAt, Blk.ver, handsAre, forall_const, CHT, disj, Nat.reduceBEq, beq_self_eq_true, APT, srcOf, sealPs, sealCs, sealC, List.mem_singleton, forall_eq, ALT, ULa_1, encK_mk, encKs_len, encS_len, Int.reduceBEq]
    refine callC (areNames_ok ns (by omega) (fun s h => by have := hs s h; omega)) rfl rfl rfl rfl ?_
    cases hr : rise ns with
    | false =>
      have hm : shapeB 5 ns ks = false := shapeB_eq ⟨fun h => absurd hr (by rw [(h.form rfl).2]; simp), fun h => by cases h⟩
      simp only [RUN, core, T.c, T.s, T.b, T.i, sBin, sInt, sUn, isShift, asInt, P1.cells, loadT, ptrC, storeT, putC, fillP, Nat.reduceAdd, reduceIte, Nat.reduceEqDiff, Nat.reduceLT, Nat.reduceLeDiff, reduceCtorEq, eq_self, FIT, lendCs_map, verC_map, FinC, resPs, resP, lendPl, lendCs, lendC, sealC, partsT, finHs, tupT, verT, verP, verC, verB, verAt, Blk.ver, handsAre, forall_const, CHT, disj, Nat.reduceBEq, beq_self_eq_true, APT, srcOf, sealPs, sealCs, sealC, List.mem_singleton, forall_eq, ALT, ULa_1, encKs_len, encS_len, hm]
    | true =>
      have hm : shapeB 5 ns ks = ((ns.length : Int) == (ks.length : Int)) := shapeB_eq ⟨fun h => beq_iff_eq.2 (by have := (h.form rfl).1; omega), fun h => by
        have h := beq_iff_eq.1 h
        exact ⟨by omega, by omega, fun _ => ⟨by omega, hr⟩, fun h => absurd rfl h, fun h => by omega, fun h => by omega⟩⟩
      simp only [RUN, core, T.c, T.s, T.b, T.i, sBin, sInt, sUn, isShift, asInt, P1.cells, loadT, ptrC, storeT, putC, fillP, Nat.reduceAdd, reduceIte, Nat.reduceEqDiff, Nat.reduceLT, Nat.reduceLeDiff, reduceCtorEq, eq_self, FIT, lendCs_map, verC_map, FinC, resPs, resP, lendPl, lendCs, lendC, sealC, partsT, finHs, tupT, verT, verP, verC, verB, verAt, Blk.ver, handsAre, forall_const, CHT, disj, Nat.reduceBEq, beq_self_eq_true, APT, srcOf, sealPs, sealCs, sealC, List.mem_singleton, forall_eq, ALT, ULa_1, encKs_len, encS_len, hm]
  · have b5 : (s == 5) = false := beq_eq_false_iff_ne.2 h5
    have hm : shapeB s ns ks = false := shapeB_eq ⟨fun h => by have := h.lo; have := h.hi; omega, fun h => by cases h⟩
    simp only [RUN, core, T.c, T.s, T.b, T.i, sBin, sInt, sUn, isShift, asInt, P1.cells, loadT, ptrC, storeT, putC, fillP, Nat.reduceAdd, reduceIte, Nat.reduceEqDiff, Nat.reduceLT, Nat.reduceLeDiff, reduceCtorEq, eq_self, FIT, lendCs_map, verC_map, FinC, resPs, resP, lendPl, lendCs, lendC, sealC, partsT, finHs, tupT, verT, verP, verC, verB, verAt, Blk.ver, handsAre, forall_const, CHT, disj, Nat.reduceBEq, beq_self_eq_true, APT, srcOf, sealPs, sealCs, sealC, List.mem_singleton, forall_eq, ALT, ULa_1, encK_mk, encKs_len, encS_len, b1, b2, b3, b4, b5, b6, hm]
end Go.V
set_option linter.unusedSimpArgs false
namespace Go.V
open Go.Proofs
/- (loop.example/teagle/impl.Kind).look -/
def r78_0 : List AOper := [ao 0 3 (.box 26 (.t 0)),
  ao 1 6 (.mv (.k (.b false)))]
def r78_1 : List AOper := [ao 0 9 (.mv (.t 2)),
  ao 1 10 (.nck (.t 9)),
  ao 2 11 (.ld 1 false (.t 10)),
  ao 3 12 (.bin .add (.t 11) (.k (.i 1))),
  ao 4 13 (.nck (.t 9)),
  an 5 (.st 1 (.t 13) (.t 12))]
def r78_2 : List AOper := [ao 0 14 (.mv (.t 1)),
  ao 1 15 (.bin .gtr (.t 14) (.k (.i 6))),
  ao 2 16 (.mv (.t 15)),
  ag 3 17 16 false [] (.mv (.t 2)),
  ag 4 18 16 false [] (.nck (.t 17)),
  ag 5 19 16 false [] (.ld 1 false (.t 18)),
  ag 6 20 16 false [] (.bin .gtr (.t 19) (.k (.i 40))),
  ao 7 21 (.pick (.t 16) (.k (.b true)) (.t 20)),
  ao 8 22 (.mv (.t 21)),
  ag 9 23 22 false [] (.ld 3 true (.t 3)),
  ag 10 24 22 false [] (.call (.k (.c (.fn 98 []))) [(.t 23)]),
  ag 11 25 22 false [] (.un .not (.t 24)),
  ao 12 26 (.pick (.t 22) (.k (.b true)) (.t 25))]
def r78_3 : List AOper := [ao 0 6 (.mv (.k (.b false)))]
def c78_4 : ACode := .seq (.reg r78_3) .ret
def c78_5 : ACode := .cond (.t 26) c78_4 .skip
def c78_6 : ACode := .seq (.reg r78_2) c78_5
def r78_7 : List AOper := [ao 0 27 (.fa 2 (.t 3)),
  ao 1 28 (.ld 1 false (.t 27)),
  ao 2 29 (.len (.t 28)),
  ao 3 30 (.mv (.k (.i 0)))]
def r78_8 : List AOper := [ao 0 31 (.bin .lss (.t 30) (.t 29))]
def c78_9 : ACode := .cond (.t 31) .skip (.exit 0)
def r78_10 : List AOper := [ao 0 32 (.ia 3 (.t 28) (.t 30)),
  ao 1 33 (.ld 3 true (.t 32)),
  ao 2 8 (.alloc 26 [(.v (.s (.int .i64 0))), .nil0, .nil0]),
  an 3 (.st 3 (.t 8) (.t 33))]
def r78_11 : List AOper := [ao 0 34 (.ld 3 true (.t 8)),
  ao 1 35 (.mv (.t 1)),
  ao 2 36 (.bin .add (.t 35) (.k (.i 1))),
  ao 3 37 (.mv (.t 2)),
  ao 4 38 (.call (.k (.c (.fn 78 []))) [(.t 34), (.t 36), (.t 37)]),
  ao 5 39 (.un .not (.t 38))]
def r78_12 : List AOper := [ao 0 6 (.mv (.k (.b false)))]
def c78_13 : ACode := .seq (.reg r78_12) .ret
def c78_14 : ACode := .cond (.t 39) c78_13 .skip
def c78_15 : ACode := .seq (.reg r78_10) (.seq (.reg r78_11) c78_14)
def c78_16 : ACode := .block 1 c78_15
def r78_17 : List AOper := [ao 0 40 (.bin .add (.t 30) (.k (.i 1))),
  ao 1 30 (.mv (.t 40))]
def c78_18 : ACode := .seq (.reg r78_8) (.seq c78_9 (.seq c78_16 (.reg r78_17)))
def c78_19 : ACode := .loop c78_18
def c78_20 : ACode := .block 0 c78_19
def c78_21 : ACode := .seq (.reg r78_7) c78_20
def r78_22 : List AOper := [ao 0 6 (.mv (.k (.b true)))]
def c78 : ACode := .seq (.reg r78_0) (.seq (.reg r78_1) (.seq c78_6 (.seq c78_21 (.seq (.reg r78_22) .ret))))
def s78 : List ARes := [.tmp 6]
theorem ok78 : okF Try.prog 78 41 c78 s78 := ⟨Try.f78, Try.func78, Try.ntmps78, by kernel_rfl, by kernel_rfl, by kernel_rfl⟩
abbrev lH (m v : Nat) (p p' : Int) : Hand := ⟨1001, m, some (.var v 3 ([.s (.int .i64 p)].map .v)), .var v 3 ([.s (.int .i64 p')].map .v), true⟩
def LookR (d : Nat) (k : Kd) (p : Nat) (p' : Int) (b : Bool) : Prop := (KOk d k ∧ p + parts k ≤ 40 ∧ b = true ∧ p' = (p + parts k : Nat)) ∨ (¬ (KOk d k ∧ p + parts k ≤ 40) ∧ b = false)
def inv78 (v d : Nat) (p : Nat) (ks : List Kd) (i : Nat) (σ : St) : Prop :=
  σ.t 1 = .i d ∧ σ.t 2 = .c (.ptr 1001 v 0) ∧ σ.t 28 = .c (.v (.sl (encKs ks))) ∧ σ.t 29 = .i ks.length ∧ σ.t 30 = .i i ∧ σ.H 1001 = some (.var v 3 [.v (.s (.int .i64 ((p + 1 + partsL (ks.take i) : Nat) : Int)))])
theorem ULb_1 : (type_of% (uA c78.eq_1)) ∧ (type_of% (uR r78_0.eq_1)) ∧ (type_of% (uR r78_1.eq_1)) ∧ (type_of% (uA c78_6.eq_1)) ∧ (type_of% (uR r78_2.eq_1)) ∧ (type_of% (uA c78_5.eq_1)) ∧ (type_of% (uA c78_4.eq_1)) ∧ (type_of% (uR r78_3.eq_1)) ∧ (type_of% (uA c78_21.eq_1)) ∧ (type_of% (uR r78_7.eq_1)) ∧ (type_of% (uA c78_20.eq_1)) ∧ (type_of% (uA c78_19.eq_1)) ∧ (type_of% (uR r78_22.eq_1)) ∧ (type_of% s78.eq_1) :=
  ⟨uA c78.eq_1, uR r78_0.eq_1, uR r78_1.eq_1, uA c78_6.eq_1, uR r78_2.eq_1, uA c78_5.eq_1, uA c78_4.eq_1, uR r78_3.eq_1, uA c78_21.eq_1, uR r78_7.eq_1, uA c78_20.eq_1, uA c78_19.eq_1, uR r78_22.eq_1, s78.eq_1⟩
theorem ULb_3 : (type_of% (uA c78_18.eq_1)) ∧ (type_of% (uR r78_8.eq_1)) ∧ (type_of% (uA c78_9.eq_1)) ∧ (type_of% (uA c78_16.eq_1)) ∧ (type_of% (uA c78_15.eq_1)) ∧ (type_of% (uR r78_10.eq_1)) ∧ (type_of% (uR r78_11.eq_1)) ∧ (type_of% (uA c78_14.eq_1)) ∧ (type_of% (uA c78_13.eq_1)) ∧ (type_of% (uR r78_12.eq_1)) ∧ (type_of% (uR r78_17.eq_1)) ∧ (type_of% (uA c78.eq_1)) ∧ (type_of% (uR r78_0.eq_1)) ∧ (type_of% (uR r78_1.eq_1)) ∧ (type_of% (uA c78_6.eq_1)) ∧ (type_of% (uR r78_2.eq_1)) ∧ (type_of% (uA c78_5.eq_1)) ∧ (type_of% (uA c78_4.eq_1)) ∧ (type_of% (uR r78_3.eq_1)) ∧ (type_of% (uA c78_21.eq_1)) ∧ (type_of% (uR r78_7.eq_1)) ∧ (type_of% (uA c78_20.eq_1)) ∧ (type_of% (uA c78_19.eq_1)) ∧ (type_of% (uR r78_22.eq_1)) ∧ (type_of% s78.eq_1) :=
  ⟨uA c78_18.eq_1, uR r78_8.eq_1, uA c78_9.eq_1, uA c78_16.eq_1, uA c78_15.eq_1, uR r78_10.eq_1, uR r78_11.eq_1, uA c78_14.eq_1, uA c78_13.eq_1, uR r78_12.eq_1, uR r78_17.eq_1, uA c78.eq_1, uR r78_0.eq_1, uR r78_1.eq_1, uA c78_6.eq_1, uR r78_2.eq_1, uA c78_5.eq_1, uA c78_4.eq_1, uR r78_3.eq_1, uA c78_21.eq_1, uR r78_7.eq_1, uA c78_20.eq_1, uA c78_19.eq_1, uR r78_22.eq_1, s78.eq_1⟩
theorem look_ok : ∀ k : Kd, KB 1000000 k → ∀ d p : Nat, d ≤ 100 → p ≤ 1000000 → ∃ (p' : Int) (b : Bool), LookR d k p p' b ∧ ∀ m v, ACallsF Try.prog 78 [tK k, .i d, .c (.ptr 1001 v 0)] [lH m v p p'] (.b b) := by
  intro k
  induction k using Kd.ind with
  | _ s ns ks ih =>
    intro hB d p hd hp
    obtain ⟨hB1, hB2, hB3, hB4⟩ := hB.inv
    have gw : IntKind.i64.wrap ((p : Int) + 1) = ((p + 1 : Nat) : Int) := (wrap64 ⟨by omega, by omega⟩).trans (by omega)
    have hCs := shapeOk_ok s ns ks ⟨hB1, hB2⟩ hB3
    simp only [tK, encK_mk, List.map_cons, List.map_nil] at hCs
    have htake : ∀ i k, ks[i]? = some k → partsL (ks.take (i + 1)) = partsL (ks.take i) + parts k := fun i k hk => by
      rw [List.take_add_one, hk]; exact partsL_snoc _ _
    by_cases hgood : d ≤ 6 ∧ p + 1 ≤ 40 ∧ Shape s ns ks
    · obtain ⟨hd6, hp40, hS⟩ := hgood
      have k1 : ¬ (d : Int) > 6 := by omega
      have k2 : ¬ ((p + 1 : Nat) : Int) > 40 := by omega
      have hsb := shapeB_true.2 hS
      obtain ⟨N, p', b, hN, hok, hR, hend⟩ : ∃ (N : Nat) (p' : Int) (b : Bool), N ≤ ks.length ∧ (∀ i k, i < N → ks[i]? = some k → KOk (d + 1) k ∧ p + 1 + partsL (ks.take (i + 1)) ≤ 40) ∧ LookR d (.mk s ns ks) p p' b ∧
          ((N = ks.length ∧ b = true ∧ p' = ((p + 1 + partsL (ks.take N) : Nat) : Int)) ∨ ∃ k, ks[N]? = some k ∧ b = false ∧ ∀ m v, ACallsF Try.prog 78 [tK k, .i (d + 1 : Nat), .c (.ptr 1001 v 0)] [lH m v ((p + 1 + partsL (ks.take N) : Nat) : Int) p'] (.b false)) := by
        by_cases hbad : ∃ i, ∃ k, ks[i]? = some k ∧ ¬ (KOk (d + 1) k ∧ p + 1 + partsL (ks.take (i + 1)) ≤ 40)
        · obtain ⟨N, ⟨k, hk, hno⟩, hmin⟩ := least hbad
          have hlt := (List.getElem?_eq_some_iff.1 hk).1
          have hmem := List.mem_of_getElem? hk
          have hpre : ∀ i k, i < N → ks[i]? = some k → KOk (d + 1) k ∧ p + 1 + partsL (ks.take (i + 1)) ≤ 40 := fun i k2 hi hk2 => by
            by_cases h : KOk (d + 1) k2 ∧ p + 1 + partsL (ks.take (i + 1)) ≤ 40
            · exact h
            · have := hmin i ⟨k2, hk2, h⟩; omega
          have hq : p + 1 + partsL (ks.take N) ≤ 40 := by
            cases N with
            | zero => simp [partsL]; omega
            | succ n => exact (hpre n _ (by omega) (List.getElem?_eq_getElem (by omega))).2
          obtain ⟨p2, b2, hR2, hC2⟩ := ih k hmem (hB4 k hmem) (d + 1) (p + 1 + partsL (ks.take N)) (by omega) (by omega)
          rcases hR2 with ⟨r1, r2, _⟩ | ⟨_, rfl⟩
          · exact absurd ⟨r1, by rw [htake N k hk]; omega⟩ hno
          · refine ⟨N, p2, false, by omega, hpre, .inr ⟨fun h => hno ?_, rfl⟩, .inr ⟨k, hk, rfl, hC2⟩⟩
            obtain ⟨h1, h2⟩ := h
            refine ⟨h1.inv.2.2 k hmem, ?_⟩
            have := partsL_take_le ks (N + 1)
            simp only [parts] at h2
            omega
        · have hall : ∀ i k, ks[i]? = some k → KOk (d + 1) k ∧ p + 1 + partsL (ks.take (i + 1)) ≤ 40 := fun i k hk => by
            by_cases h : KOk (d + 1) k ∧ p + 1 + partsL (ks.take (i + 1)) ≤ 40
            · exact h
            · exact absurd ⟨i, k, hk, h⟩ hbad
          refine ⟨ks.length, ((p + 1 + partsL (ks.take ks.length) : Nat) : Int), true, Nat.le_refl _, fun i k _ hk => hall i k hk, .inl ⟨.mk _ _ _ _ hd6 hS fun k hk => ?_, ?_, rfl, ?_⟩, .inl ⟨rfl, rfl, rfl⟩⟩
          · obtain ⟨i, hi⟩ := List.mem_iff_getElem?.1 hk
            exact (hall i k hi).1
          · simp only [parts]
            cases hk0 : ks.length with
            | zero => rw [List.length_eq_zero_iff] at hk0; subst hk0; simp [partsL]; omega
            | succ n =>
              have := (hall n _ (List.getElem?_eq_getElem (by omega))).2
              rw [← hk0, List.take_length] at this
              omega
          · rw [List.take_length]; simp only [parts]; omega
      refine ⟨p', b, hR, fun m v => ACallsF.intro ok78 follows fun X c0 => ?_⟩
      simp only [RUN, core, T.c, T.s, T.b, T.i, sBin, sInt, sUn, isShift, asInt, P1.cells, loadT, ptrC, storeT, putC, fillP, Nat.reduceAdd, reduceIte, Nat.reduceEqDiff, Nat.reduceLT, Nat.reduceLeDiff, reduceCtorEq, eq_self, FIT, lendCs_map, verC_map, FinC, resPs, resP, lendPl, lendCs, lendC, sealC, partsT, finHs, tupT, verT, verP, verC, verB, verAt, Blk.ver, handsAre, forall_const, CHT, disj, Nat.reduceBEq, beq_self_eq_true, APT, srcOf, sealPs, sealCs, sealC, List.mem_singleton, forall_eq, ALT, ULb_1, encK_mk, encKs_len, gw, k1, k2]
      refine callC hCs rfl rfl (by simp [closedA, closedP, closedC]) rfl ?_
      simp only [RUN, core, T.c, T.s, T.b, T.i, sBin, sInt, sUn, isShift, asInt, P1.cells, loadT, ptrC, storeT, putC, fillP, Nat.reduceAdd, reduceIte, Nat.reduceEqDiff, Nat.reduceLT, Nat.reduceLeDiff, reduceCtorEq, eq_self, FIT, lendCs_map, verC_map, FinC, resPs, resP, lendPl, lendCs, lendC, sealC, partsT, finHs, tupT, verT, verP, verC, verB, verAt, Blk.ver, handsAre, forall_const, CHT, disj, Nat.reduceBEq, beq_self_eq_true, APT, srcOf, sealPs, sealCs, sealC, List.mem_singleton, forall_eq, ALT, ULb_1, encK_mk, encKs_len, hsb]
      refine AW.upto N (inv78 v d p ks) ⟨rfl, rfl, rfl, rfl, rfl, by simp [partsL]⟩ fun i t H c hi h => ?_
      obtain ⟨e1, e2, e28, e29, e30, eH⟩ := h
      simp only [T.c, T.i] at e1 e2 e28 e29 e30 eH
      have gz : (0 : Int) ≤ i := by omega
      have gw2 : IntKind.i64.wrap ((i : Int) + 1) = ((i + 1 : Nat) : Int) := wrap64 (x := (i : Int) + 1) ⟨by omega, by omega⟩
      have gd : IntKind.i64.wrap ((d : Int) + 1) = ((d + 1 : Nat) : Int) := wrap64 (x := (d : Int) + 1) ⟨by omega, by omega⟩
      by_cases hlt : i < N
      · have k3 : (i : Int) < ks.length := by omega
        obtain ⟨k, hk⟩ : ∃ k, ks[i]? = some k := ⟨_, List.getElem?_eq_getElem (by omega)⟩
        have hmem := List.mem_of_getElem? hk
        have ek := encKs_at hk
        obtain ⟨o1, o2⟩ := hok i k hlt hk
        have ht := htake i k hk
        obtain ⟨p2, b2, hR2, hC2⟩ := ih k hmem (hB4 k hmem) (d + 1) (p + 1 + partsL (ks.take i)) (by omega) (by omega)
        rcases hR2 with ⟨_, _, rfl, rfl⟩ | ⟨r1, _⟩
        · simp only [RUN, core, T.c, T.s, T.b, T.i, sBin, sInt, sUn, isShift, asInt, P1.cells, loadT, ptrC, storeT, putC, fillP, Nat.reduceAdd, reduceIte, Nat.reduceEqDiff, Nat.reduceLT, Nat.reduceLeDiff, reduceCtorEq, eq_self, FIT, lendCs_map, verC_map, FinC, resPs, resP, lendPl, lendCs, lendC, sealC, partsT, finHs, tupT, verT, verP, verC, verB, verAt, Blk.ver, handsAre, forall_const, CHT, disj, Nat.reduceBEq, beq_self_eq_true, APT, srcOf, sealPs, sealCs, sealC, List.mem_singleton, forall_eq, ALT, ULb_3, e1, e2, e28, e29, e30, k3, gz, ek, Int.toNat_natCast, gd, List.length_map, encK_len, takeK, Nat.le_refl]
          refine callP (argsC := [tK k, .i (d + 1 : Nat)]) (hC2 1001 v) rfl rfl (by simp [closedA, closedP, closedC]) rfl eH ⟨rfl, ?_⟩
          simp only [RUN, core, T.c, T.s, T.b, T.i, sBin, sInt, sUn, isShift, asInt, P1.cells, loadT, ptrC, storeT, putC, fillP, Nat.reduceAdd, reduceIte, Nat.reduceEqDiff, Nat.reduceLT, Nat.reduceLeDiff, reduceCtorEq, eq_self, FIT, lendCs_map, verC_map, FinC, resPs, resP, lendPl, lendCs, lendC, sealC, partsT, finHs, tupT, verT, verP, verC, verB, verAt, Blk.ver, handsAre, forall_const, CHT, disj, Nat.reduceBEq, beq_self_eq_true, APT, srcOf, sealPs, sealCs, sealC, List.mem_singleton, forall_eq, ALT, ULb_3, e30, gw2]
          exact ⟨hlt, e1, e2, e28, e29, rfl, by rw [ht, ← Nat.add_assoc]; rfl⟩
        · exact absurd ⟨o1, by rw [ht] at o2; omega⟩ r1
      · have hiN : i = N := by omega
        subst hiN
        rcases hend with ⟨rfl, rfl, rfl⟩ | ⟨k, hk, rfl, hC2⟩
        · have k3 : ¬ ((ks.length : Nat) : Int) < ks.length := by omega
          simp only [RUN, core, T.c, T.s, T.b, T.i, sBin, sInt, sUn, isShift, asInt, P1.cells, loadT, ptrC, storeT, putC, fillP, Nat.reduceAdd, reduceIte, Nat.reduceEqDiff, Nat.reduceLT, Nat.reduceLeDiff, reduceCtorEq, eq_self, FIT, lendCs_map, verC_map, FinC, resPs, resP, lendPl, lendCs, lendC, sealC, partsT, finHs, tupT, verT, verP, verC, verB, verAt, Blk.ver, handsAre, forall_const, CHT, disj, Nat.reduceBEq, beq_self_eq_true, APT, srcOf, sealPs, sealCs, sealC, List.mem_singleton, forall_eq, ALT, ULb_3, ULb_1, e29, e30, k3, eH]
        · have hlt2 := (List.getElem?_eq_some_iff.1 hk).1
          have k3 : (i : Int) < ks.length := by omega
          have ek := encKs_at hk
          simp only [RUN, core, T.c, T.s, T.b, T.i, sBin, sInt, sUn, isShift, asInt, P1.cells, loadT, ptrC, storeT, putC, fillP, Nat.reduceAdd, reduceIte, Nat.reduceEqDiff, Nat.reduceLT, Nat.reduceLeDiff, reduceCtorEq, eq_self, FIT, lendCs_map, verC_map, FinC, resPs, resP, lendPl, lendCs, lendC, sealC, partsT, finHs, tupT, verT, verP, verC, verB, verAt, Blk.ver, handsAre, forall_const, CHT, disj, Nat.reduceBEq, beq_self_eq_true, APT, srcOf, sealPs, sealCs, sealC, List.mem_singleton, forall_eq, ALT, ULb_3, e1, e2, e28, e29, e30, k3, gz, ek, Int.toNat_natCast, gd, List.length_map, encK_len, takeK, Nat.le_refl]
          refine callP (argsC := [tK k, .i (d + 1 : Nat)]) (hC2 1001 v) rfl rfl (by simp [closedA, closedP, closedC]) rfl eH ⟨rfl, ?_⟩
          simp only [RUN, core, T.c, T.s, T.b, T.i, sBin, sInt, sUn, isShift, asInt, P1.cells, loadT, ptrC, storeT, putC, fillP, Nat.reduceAdd, reduceIte, Nat.reduceEqDiff, Nat.reduceLT, Nat.reduceLeDiff, reduceCtorEq, eq_self, FIT, lendCs_map, verC_map, FinC, resPs, resP, lendPl, lendCs, lendC, sealC, partsT, finHs, tupT, verT, verP, verC, verB, verAt, Blk.ver, handsAre, forall_const, CHT, disj, Nat.reduceBEq, beq_self_eq_true, APT, srcOf, sealPs, sealCs, sealC, List.mem_singleton, forall_eq, ALT, ULb_3]
    · refine ⟨((p + 1 : Nat) : Int), false, .inr ⟨fun h => hgood ⟨h.1.inv.1, by have := parts_pos (.mk s ns ks); omega, h.1.inv.2.1⟩, rfl⟩, fun m v => ACallsF.intro ok78 follows fun X c0 => ?_⟩
      by_cases h1 : (d : Int) > 6
      · simp only [RUN, core, T.c, T.s, T.b, T.i, sBin, sInt, sUn, isShift, asInt, P1.cells, loadT, ptrC, storeT, putC, fillP, Nat.reduceAdd, reduceIte, Nat.reduceEqDiff, Nat.reduceLT, Nat.reduceLeDiff, reduceCtorEq, eq_self, FIT, lendCs_map, verC_map, FinC, resPs, resP, lendPl, lendCs, lendC, sealC, partsT, finHs, tupT, verT, verP, verC, verB, verAt, Blk.ver, handsAre, forall_const, CHT, disj, Nat.reduceBEq, beq_self_eq_true, APT, srcOf, sealPs, sealCs, sealC, List.mem_singleton, forall_eq, ALT, ULb_1, encK_mk, encKs_len, gw, h1]
      · by_cases h2 : ((p + 1 : Nat) : Int) > 40
        · simp only [RUN, core, T.c, T.s, T.b, T.i, sBin, sInt, sUn, isShift, asInt, P1.cells, loadT, ptrC, storeT, putC, fillP, Nat.reduceAdd, reduceIte, Nat.reduceEqDiff, Nat.reduceLT, Nat.reduceLeDiff, reduceCtorEq, eq_self, FIT, lendCs_map, verC_map, FinC, resPs, resP, lendPl, lendCs, lendC, sealC, partsT, finHs, tupT, verT, verP, verC, verB, verAt, Blk.ver, handsAre, forall_const, CHT, disj, Nat.reduceBEq, beq_self_eq_true, APT, srcOf, sealPs, sealCs, sealC, List.mem_singleton, forall_eq, ALT, ULb_1, encK_mk, encKs_len, gw, h1, h2]
        · have hsb : shapeB s ns ks = false := by
            cases h : shapeB s ns ks with
            | false => rfl
            | true => exact absurd ⟨by omega, by omega, shapeB_true.1 h⟩ hgood
          simp only [RUN, core, T.c, T.s, T.b, T.i, sBin, sInt, sUn, isShift, asInt, P1.cells, loadT, ptrC, storeT, putC, fillP, Nat.reduceAdd, reduceIte, Nat.reduceEqDiff, Nat.reduceLT, Nat.reduceLeDiff, reduceCtorEq, eq_self, FIT, lendCs_map, verC_map, FinC, resPs, resP, lendPl, lendCs, lendC, sealC, partsT, finHs, tupT, verT, verP, verC, verB, verAt, Blk.ver, handsAre, forall_const, CHT, disj, Nat.reduceBEq, beq_self_eq_true, APT, srcOf, sealPs, sealCs, sealC, List.mem_singleton, forall_eq, ALT, ULb_1, encK_mk, encKs_len, gw, h1, h2]
          refine callC hCs rfl rfl (by simp [closedA, closedP, closedC]) rfl ?_
          simp only [RUN, core, T.c, T.s, T.b, T.i, sBin, sInt, sUn, isShift, asInt, P1.cells, loadT, ptrC, storeT, putC, fillP, Nat.reduceAdd, reduceIte, Nat.reduceEqDiff, Nat.reduceLT, Nat.reduceLeDiff, reduceCtorEq, eq_self, FIT, lendCs_map, verC_map, FinC, resPs, resP, lendPl, lendCs, lendC, sealC, partsT, finHs, tupT, verT, verP, verC, verB, verAt, Blk.ver, handsAre, forall_const, CHT, disj, Nat.reduceBEq, beq_self_eq_true, APT, srcOf, sealPs, sealCs, sealC, List.mem_singleton, forall_eq, ALT, ULb_1, encK_mk, encKs_len, hsb]
/- loop.example/teagle/impl.KindOk -/
def r42_0 : List AOper := [ao 0 1 (.box 26 (.t 0)),
  ao 1 2 (.mv (.k (.b false)))]
def r42_1 : List AOper := [ao 0 3 (.alloc 3 [(.v (.s (.int .i64 0)))]),
  an 1 (.st 1 (.t 3) (.k (.i 0)))]
def r42_2 : List AOper := [ao 0 4 (.ld 3 true (.t 1)),
  ao 1 5 (.call (.k (.c (.fn 78 []))) [(.t 4), (.k (.i 1)), (.t 3)]),
  ao 2 2 (.mv (.t 5))]
def c42 : ACode := .seq (.reg r42_0) (.seq (.reg r42_1) (.seq (.reg r42_2) .ret))
def s42 : List ARes := [.tmp 2]
theorem ok42 : okF Try.prog 42 6 c42 s42 := ⟨Try.f42, Try.func42, Try.ntmps42, by kernel_rfl, by kernel_rfl, by kernel_rfl⟩
theorem ULb_2 : (type_of% (uA c42.eq_1)) ∧ (type_of% (uR r42_0.eq_1)) ∧ (type_of% (uR r42_1.eq_1)) ∧ (type_of% (uR r42_2.eq_1)) ∧ (type_of% s42.eq_1) :=
  ⟨uA c42.eq_1, uR r42_0.eq_1, uR r42_1.eq_1, uR r42_2.eq_1, s42.eq_1⟩
theorem kindOkI_ok (k : Kd) (hB : KB 1000000 k) : ACallsF Try.prog 42 [tK k] [] (.b (okK k)) := by
  obtain ⟨p', b, hR, hC⟩ := look_ok k hB 1 0 (by omega) (by omega)
  have hb : okK k = b := by
    rcases hR with ⟨h1, h2, rfl, _⟩ | ⟨h1, rfl⟩
    · exact okK_true.2 ⟨h1, by omega⟩
    · exact okK_false.2 fun h => h1 ⟨h.1, by omega⟩
  refine ACallsF.intro ok42 follows fun X c0 => ?_
  simp only [RUN, core, T.c, T.s, T.b, T.i, sBin, sInt, sUn, isShift, asInt, P1.cells, loadT, ptrC, storeT, putC, fillP, Nat.reduceAdd, reduceIte, Nat.reduceEqDiff, Nat.reduceLT, Nat.reduceLeDiff, reduceCtorEq, eq_self, FIT, lendCs_map, verC_map, FinC, resPs, resP, lendPl, lendCs, lendC, sealC, partsT, finHs, tupT, verT, verP, verC, verB, verAt, Blk.ver, handsAre, forall_const, CHT, disj, Nat.reduceBEq, beq_self_eq_true, APT, srcOf, sealPs, sealCs, sealC, List.mem_singleton, forall_eq, ALT, ULb_2, List.length_map, encK_len, takeK, Nat.le_refl]
  refine callP (argsC := [tK k, .i (1 : Nat)]) (hC 3 _) rfl rfl (by simp [closedA, closedP, closedC]) rfl rfl ⟨rfl, ?_⟩
  simp only [RUN, core, T.c, T.s, T.b, T.i, sBin, sInt, sUn, isShift, asInt, P1.cells, loadT, ptrC, storeT, putC, fillP, Nat.reduceAdd, reduceIte, Nat.reduceEqDiff, Nat.reduceLT, Nat.reduceLeDiff, reduceCtorEq, eq_self, FIT, lendCs_map, verC_map, FinC, resPs, resP, lendPl, lendCs, lendC, sealC, partsT, finHs, tupT, verT, verP, verC, verB, verAt, Blk.ver, handsAre, forall_const, CHT, disj, Nat.reduceBEq, beq_self_eq_true, APT, srcOf, sealPs, sealCs, sealC, List.mem_singleton, forall_eq, ALT, ULb_2, hb]
end Go.V
set_option linter.unusedSimpArgs false
namespace Go.V
open Go.Proofs
theorem bl_irrefl : ∀ x : List UInt8, Op.bytesLess x x = false
  | [] => rfl
  | a :: x => by simp [Op.bytesLess, bl_irrefl x]
theorem bl_trans : ∀ {x y z : List UInt8}, Op.bytesLess x y = true → Op.bytesLess y z = true → Op.bytesLess x z = true
  | _, [], _, h, _ => by simp [Op.bytesLess] at h
  | _, _ :: _, [], _, h => by simp [Op.bytesLess] at h
  | [], _ :: _, _ :: _, _, _ => by simp [Op.bytesLess]
  | a :: x, b :: y, c :: z, h1, h2 => by
    simp only [Op.bytesLess, Bool.or_eq_true, decide_eq_true_eq, Bool.and_eq_true, beq_iff_eq] at h1 h2 ⊢
    rcases h1 with h1 | ⟨rfl, h1⟩
    · rcases h2 with h2 | ⟨rfl, h2⟩
      · exact .inl (UInt8.lt_trans h1 h2)
      · exact .inl h1
    · rcases h2 with h2 | ⟨rfl, h2⟩
      · exact .inl h2
      · exact .inr ⟨rfl, bl_trans h1 h2⟩
def less (a b : ByteArray) : Bool := Op.bytesLess a.toList b.toList
theorem less_irrefl (a : ByteArray) : less a a = false := bl_irrefl _
theorem less_trans {a b c : ByteArray} (h1 : less a b = true) (h2 : less b c = true) : less a c = true := bl_trans h1 h2
theorem rise_lt {ns : List ByteArray} (h : RiseP ns) : ∀ (d i : Nat) (x y : ByteArray), ns[i]? = some x → ns[i + d + 1]? = some y → less x y = true
  | 0, i, x, y, hx, hy => (h (i + 1) y hy).2 x (by omega) (by simpa using hx)
  | d + 1, i, x, y, hx, hy => by
    obtain ⟨z, hz⟩ : ∃ z, ns[i + d + 1]? = some z := ⟨_, List.getElem?_eq_getElem (by have := (List.getElem?_eq_some_iff.1 hy).1; omega)⟩
    exact less_trans (rise_lt h d i x z hx hz) ((h (i + d + 1 + 1) y hy).2 z (by omega) (by simpa using hz))
theorem rise_at {ns : List ByteArray} (h : RiseP ns) {i j : Nat} {x y : ByteArray} (hij : i < j) (hx : ns[i]? = some x) (hy : ns[j]? = some y) : less x y = true := by
  obtain ⟨d, rfl⟩ : ∃ d, j = i + d + 1 := ⟨j - i - 1, by omega⟩
  exact rise_lt h d i x y hx hy
theorem rise_inj {ns : List ByteArray} (h : RiseP ns) {i j : Nat} {x : ByteArray} (hx : ns[i]? = some x) (hy : ns[j]? = some x) : i = j := by
  rcases Nat.lt_trichotomy i j with h1 | h1 | h1
  · have := rise_at h h1 hx hy; rw [less_irrefl] at this; cases this
  · exact h1
  · have := rise_at h h1 hy hx; rw [less_irrefl] at this; cases this
/- cmp.isNaN[string] -/
def r111_0 : List AOper := [ao 0 2 (.mv (.k (.b false)))]
def r111_1 : List AOper := [ao 0 3 (.mv (.t 0)),
  ao 1 4 (.mv (.t 0)),
  ao 2 5 (.bin .neq (.t 3) (.t 4)),
  ao 3 2 (.mv (.t 5))]
def c111 : ACode := .seq (.reg r111_0) (.seq (.reg r111_1) .ret)
def s111 : List ARes := [.tmp 2]
theorem ok111 : okF Try.prog 111 6 c111 s111 := ⟨Try.f111, Try.func111, Try.ntmps111, by kernel_rfl, by kernel_rfl, by kernel_rfl⟩
theorem ULc_1 : (type_of% (uA c111.eq_1)) ∧ (type_of% (uR r111_0.eq_1)) ∧ (type_of% (uR r111_1.eq_1)) ∧ (type_of% s111.eq_1) :=
  ⟨uA c111.eq_1, uR r111_0.eq_1, uR r111_1.eq_1, s111.eq_1⟩
theorem isNaN2_ok (s : ByteArray) : ACallsF Try.prog 111 [.s (.string s)] [] (.b false) := by
  refine ACallsF.intro ok111 follows fun X c0 => ?_
  simp only [RUN, core, T.c, T.s, T.b, T.i, sBin, sInt, sUn, isShift, asInt, P1.cells, loadT, ptrC, storeT, putC, fillP, Nat.reduceAdd, reduceIte, Nat.reduceEqDiff, Nat.reduceLT, Nat.reduceLeDiff, reduceCtorEq, eq_self, FIT, lendCs_map, verC_map, FinC, resPs, resP, lendPl, lendCs, lendC, sealC, partsT, finHs, tupT, verT, verP, verC, verB, verAt, Blk.ver, handsAre, forall_const, ULc_1, sStr, str_beq]
/- slices.isNaN[string] -/
def r100_0 : List AOper := [ao 0 2 (.mv (.k (.b false)))]
def r100_1 : List AOper := [ao 0 3 (.mv (.t 0)),
  ao 1 4 (.mv (.t 0)),
  ao 2 5 (.bin .neq (.t 3) (.t 4)),
  ao 3 2 (.mv (.t 5))]
def c100 : ACode := .seq (.reg r100_0) (.seq (.reg r100_1) .ret)
def s100 : List ARes := [.tmp 2]
theorem ok100 : okF Try.prog 100 6 c100 s100 := ⟨Try.f100, Try.func100, Try.ntmps100, by kernel_rfl, by kernel_rfl, by kernel_rfl⟩
theorem ULc_2 : (type_of% (uA c100.eq_1)) ∧ (type_of% (uR r100_0.eq_1)) ∧ (type_of% (uR r100_1.eq_1)) ∧ (type_of% s100.eq_1) :=
  ⟨uA c100.eq_1, uR r100_0.eq_1, uR r100_1.eq_1, s100.eq_1⟩
theorem isNaN_ok (s : ByteArray) : ACallsF Try.prog 100 [.s (.string s)] [] (.b false) := by
  refine ACallsF.intro ok100 follows fun X c0 => ?_
  simp only [RUN, core, T.c, T.s, T.b, T.i, sBin, sInt, sUn, isShift, asInt, P1.cells, loadT, ptrC, storeT, putC, fillP, Nat.reduceAdd, reduceIte, Nat.reduceEqDiff, Nat.reduceLT, Nat.reduceLeDiff, reduceCtorEq, eq_self, FIT, lendCs_map, verC_map, FinC, resPs, resP, lendPl, lendCs, lendC, sealC, partsT, finHs, tupT, verT, verP, verC, verB, verAt, Blk.ver, handsAre, forall_const, ULc_2, sStr, str_beq]
/- cmp.Less[string] -/
def r99_0 : List AOper := [ao 0 4 (.mv (.k (.b false)))]
def r99_1 : List AOper := [ao 0 5 (.mv (.t 0)),
  ao 1 6 (.call (.k (.c (.fn 111 []))) [(.t 5)]),
  ao 2 7 (.mv (.t 6)),
  ag 3 8 7 true [] (.mv (.t 1)),
  ag 4 9 7 true [] (.call (.k (.c (.fn 111 []))) [(.t 8)]),
  ag 5 10 7 true [] (.un .not (.t 9)),
  ao 6 11 (.pick (.t 7) (.t 10) (.k (.b false))),
  ao 7 12 (.mv (.t 11)),
  ag 8 13 12 false [] (.mv (.t 0)),
  ag 9 14 12 false [] (.mv (.t 1)),
  ag 10 15 12 false [] (.bin .lss (.t 13) (.t 14)),
  ao 11 16 (.pick (.t 12) (.k (.b true)) (.t 15)),
  ao 12 4 (.mv (.t 16))]
def c99 : ACode := .seq (.reg r99_0) (.seq (.reg r99_1) .ret)
def s99 : List ARes := [.tmp 4]
theorem ok99 : okF Try.prog 99 17 c99 s99 := ⟨Try.f99, Try.func99, Try.ntmps99, by kernel_rfl, by kernel_rfl, by kernel_rfl⟩
theorem ULc_3 : (type_of% (uA c99.eq_1)) ∧ (type_of% (uR r99_0.eq_1)) ∧ (type_of% (uR r99_1.eq_1)) ∧ (type_of% s99.eq_1) :=
  ⟨uA c99.eq_1, uR r99_0.eq_1, uR r99_1.eq_1, s99.eq_1⟩
theorem less_ok (a b : ByteArray) : ACallsF Try.prog 99 [.s (.string a), .s (.string b)] [] (.b (less a b)) := by
  refine ACallsF.intro ok99 follows fun X c0 => ?_
  simp only [RUN, core, T.c, T.s, T.b, T.i, sBin, sInt, sUn, isShift, asInt, P1.cells, loadT, ptrC, storeT, putC, fillP, Nat.reduceAdd, reduceIte, Nat.reduceEqDiff, Nat.reduceLT, Nat.reduceLeDiff, reduceCtorEq, eq_self, FIT, lendCs_map, verC_map, FinC, resPs, resP, lendPl, lendCs, lendC, sealC, partsT, finHs, tupT, verT, verP, verC, verB, verAt, Blk.ver, handsAre, forall_const, ULc_3]
  refine callC (isNaN2_ok a) rfl rfl rfl rfl ?_
  simp only [RUN, core, T.c, T.s, T.b, T.i, sBin, sInt, sUn, isShift, asInt, P1.cells, loadT, ptrC, storeT, putC, fillP, Nat.reduceAdd, reduceIte, Nat.reduceEqDiff, Nat.reduceLT, Nat.reduceLeDiff, reduceCtorEq, eq_self, FIT, lendCs_map, verC_map, FinC, resPs, resP, lendPl, lendCs, lendC, sealC, partsT, finHs, tupT, verT, verP, verC, verB, verAt, Blk.ver, handsAre, forall_const, ULc_3, sStr, less]
/- slices.BinarySearch[[]string,string] -/
def r79_0 : List AOper := [ao 0 4 (.mv (.k (.i 0))),
  ao 1 5 (.mv (.k (.b false)))]
def r79_1 : List AOper := [ao 0 10 (.mv (.t 0)),
  ao 1 11 (.len (.t 10)),
  ao 2 6 (.mv (.t 11))]
def r79_2 : List AOper := [ao 0 12 (.mv (.t 6)),
  ao 1 7 (.mv (.k (.i 0))),
  ao 2 8 (.mv (.t 12))]
def r79_3 : List AOper := [ao 0 13 (.mv (.t 7)),
  ao 1 14 (.mv (.t 8)),
  ao 2 15 (.bin .lss (.t 13) (.t 14))]
def c79_4 : ACode := .cond (.t 15) .skip (.exit 0)
def c79_5 : ACode := .seq (.reg r79_3) c79_4
def r79_6 : List AOper := [ao 0 16 (.mv (.t 7)),
  ao 1 17 (.mv (.t 8)),
  ao 2 18 (.bin .add (.t 16) (.t 17)),
  ao 3 19 (.cnvI .u64 (.t 18)),
  ao 4 20 (.bin .shr (.t 19) (.k (.s (.int .u64 1)))),
  ao 5 21 (.cnvI .i64 (.t 20)),
  ao 6 9 (.mv (.t 21))]
def r79_7 : List AOper := [ao 0 22 (.mv (.t 0)),
  ao 1 23 (.mv (.t 9)),
  ao 2 24 (.ia 1 (.t 22) (.t 23)),
  ao 3 25 (.ld 1 false (.t 24)),
  ao 4 26 (.mv (.t 1)),
  ao 5 27 (.call (.k (.c (.fn 99 []))) [(.t 25), (.t 26)])]
def r79_8 : List AOper := [ao 0 28 (.mv (.t 9)),
  ao 1 29 (.bin .add (.t 28) (.k (.i 1))),
  ao 2 7 (.mv (.t 29))]
def r79_9 : List AOper := [ao 0 30 (.mv (.t 9)),
  ao 1 8 (.mv (.t 30))]
def c79_10 : ACode := .cond (.t 27) (.reg r79_8) (.reg r79_9)
def c79_11 : ACode := .seq (.reg r79_6) (.seq (.reg r79_7) c79_10)
def c79_12 : ACode := .block 1 c79_11
def c79_13 : ACode := .seq c79_5 c79_12
def c79_14 : ACode := .loop c79_13
def c79_15 : ACode := .block 0 c79_14
def r79_16 : List AOper := [ao 0 31 (.mv (.t 7)),
  ao 1 32 (.mv (.t 7)),
  ao 2 33 (.mv (.t 6)),
  ao 3 34 (.bin .lss (.t 32) (.t 33)),
  ao 4 35 (.mv (.t 34)),
  ag 5 36 35 true [] (.mv (.t 0)),
  ag 6 37 35 true [] (.mv (.t 7)),
  ag 7 38 35 true [] (.ia 1 (.t 36) (.t 37)),
  ag 8 39 35 true [] (.ld 1 false (.t 38)),
  ag 9 40 35 true [] (.mv (.t 1)),
  ag 10 41 35 true [] (.bin .eql (.t 39) (.t 40)),
  ag 11 42 35 true [] (.mv (.t 41)),
  ag 12 43 42 false [] (.mv (.t 0)),
  ag 13 44 42 false [] (.mv (.t 7)),
  ag 14 45 42 false [] (.ia 1 (.t 43) (.t 44)),
  ag 15 46 42 false [] (.ld 1 false (.t 45)),
  ag 16 47 42 false [] (.call (.k (.c (.fn 100 []))) [(.t 46)]),
  ag 17 48 42 false [] (.mv (.t 47)),
  ag 18 49 48 true [] (.mv (.t 1)),
  ag 19 50 48 true [] (.call (.k (.c (.fn 100 []))) [(.t 49)]),
  ag 20 51 42 false [] (.pick (.t 48) (.t 50) (.k (.b false))),
  ag 21 52 35 true [] (.pick (.t 42) (.k (.b true)) (.t 51)),
  ao 22 53 (.pick (.t 35) (.t 52) (.k (.b false))),
  ao 23 4 (.mv (.t 31)),
  ao 24 5 (.mv (.t 53))]
def c79 : ACode := .seq (.reg r79_0) (.seq (.reg r79_1) (.seq (.reg r79_2) (.seq c79_15 (.seq (.reg r79_16) .ret))))
def s79 : List ARes := [.tmp 4, .tmp 5]
theorem ok79 : okF Try.prog 79 54 c79 s79 := ⟨Try.f79, Try.func79, Try.ntmps79, by kernel_rfl, by kernel_rfl, by kernel_rfl⟩
theorem wrapU {x : Int} (h : 0 ≤ x ∧ x ≤ 9223372036854775807) : IntKind.u64.wrap x = x := by
  have : IntKind.u64.wrap x = x % 18446744073709551616 := by simp [IntKind.wrap, IntKind.bits, IntKind.signed]
  rw [this]; omega
abbrev tIB (j : Nat) (b : Bool) : T := .tup [.one (.v (.s (.int .i64 j))), .one (.v (.s (.bool b)))]
theorem ULc_4 : (type_of% (uA c79.eq_1)) ∧ (type_of% (uR r79_0.eq_1)) ∧ (type_of% (uR r79_1.eq_1)) ∧ (type_of% (uR r79_2.eq_1)) ∧ (type_of% (uA c79_15.eq_1)) ∧ (type_of% (uA c79_14.eq_1)) ∧ (type_of% (uR r79_16.eq_1)) ∧ (type_of% s79.eq_1) :=
  ⟨uA c79.eq_1, uR r79_0.eq_1, uR r79_1.eq_1, uR r79_2.eq_1, uA c79_15.eq_1, uA c79_14.eq_1, uR r79_16.eq_1, s79.eq_1⟩
theorem ULc_5 : (type_of% (uA c79_13.eq_1)) ∧ (type_of% (uA c79_5.eq_1)) ∧ (type_of% (uR r79_3.eq_1)) ∧ (type_of% (uA c79_4.eq_1)) ∧ (type_of% (uA c79_12.eq_1)) ∧ (type_of% (uA c79_11.eq_1)) ∧ (type_of% (uR r79_6.eq_1)) ∧ (type_of% (uR r79_7.eq_1)) ∧ (type_of% (uA c79_10.eq_1)) ∧ (type_of% (uR r79_8.eq_1)) ∧ (type_of% (uR r79_9.eq_1)) ∧ (type_of% (uA c79.eq_1)) ∧ (type_of% (uR r79_0.eq_1)) ∧ (type_of% (uR r79_1.eq_1)) ∧ (type_of% (uR r79_2.eq_1)) ∧ (type_of% (uA c79_15.eq_1)) ∧ (type_of% (uA c79_14.eq_1)) ∧ (type_of% (uR r79_16.eq_1)) ∧ (type_of% s79.eq_1) :=
  ⟨uA c79_13.eq_1, uA c79_5.eq_1, uR r79_3.eq_1, uA c79_4.eq_1, uA c79_12.eq_1, uA c79_11.eq_1, uR r79_6.eq_1, uR r79_7.eq_1, uA c79_10.eq_1, uR r79_8.eq_1, uR r79_9.eq_1, uA c79.eq_1, uR r79_0.eq_1, uR r79_1.eq_1, uR r79_2.eq_1, uA c79_15.eq_1, uA c79_14.eq_1, uR r79_16.eq_1, s79.eq_1⟩
theorem search_ok (ns : List ByteArray) (x : ByteArray) (hr : rise ns = true) (hl : ns.length ≤ 1000000) :
    ∃ (J : Nat) (b : Bool), (b = true → ns[J]? = some x) ∧ (b = false → ∀ i : Nat, ns[i]? ≠ some x) ∧ ACallsF Try.prog 79 [.c (.v (.sl (encS ns))), .s (.string x)] [] (tIB J b) := by
  have hR := rise_true.1 hr
  have hex : ∃ J, J = ns.length ∨ ∃ s, ns[J]? = some s ∧ less s x = false := ⟨ns.length, .inl rfl⟩
  obtain ⟨J, hJ, hmin⟩ := least hex
  have hJle : J ≤ ns.length := by
    rcases hJ with h | ⟨s, h, _⟩
    · omega
    · have := (List.getElem?_eq_some_iff.1 h).1; omega
  have hA : ∀ i s, i < J → ns[i]? = some s → less s x = true := fun i s hi hs => by
    cases h : less s x with
    | true => rfl
    | false => have := hmin i (.inr ⟨s, hs, h⟩); omega
  have hB : ∀ i s, J ≤ i → ns[i]? = some s → less s x = false := fun i s hi hs => by
    have hlt := (List.getElem?_eq_some_iff.1 hs).1
    rcases hJ with h | ⟨s0, h0, h1⟩
    · omega
    · rcases Nat.lt_or_ge J i with h | h
      · cases h2 : less s x with
        | false => rfl
        | true => rw [less_trans (rise_at hR h h0 hs) h2] at h1; cases h1
      · have : i = J := by omega
        subst this; rw [h0] at hs; cases hs; exact h1
  obtain ⟨b, hb⟩ : ∃ b, (b = true → ns[J]? = some x) ∧ (b = false → ns[J]? ≠ some x) := by
    by_cases h : ns[J]? = some x
    · exact ⟨true, fun _ => h, fun e => absurd e (by simp)⟩
    · exact ⟨false, fun e => absurd e (by simp), fun _ => h⟩
  refine ⟨J, b, hb.1, fun hbf i hi => ?_, ACallsF.intro ok79 follows fun X c0 => ?_⟩
  · rcases Nat.lt_trichotomy i J with h | h | h
    · have := hA i x h hi; rw [less_irrefl] at this; cases this
    · subst h; exact hb.2 hbf hi
    · obtain ⟨s0, h0⟩ : ∃ s, ns[J]? = some s := ⟨_, List.getElem?_eq_getElem (by have := (List.getElem?_eq_some_iff.1 hi).1; omega)⟩
      have := rise_at hR h h0 hi
      rw [hB J s0 (Nat.le_refl _) h0] at this; cases this
  simp only [RUN, core, T.c, T.s, T.b, T.i, sBin, sInt, sUn, isShift, asInt, P1.cells, loadT, ptrC, storeT, putC, fillP, Nat.reduceAdd, reduceIte, Nat.reduceEqDiff, Nat.reduceLT, Nat.reduceLeDiff, reduceCtorEq, eq_self, FIT, lendCs_map, verC_map, FinC, resPs, resP, lendPl, lendCs, lendC, sealC, partsT, finHs, tupT, verT, verP, verC, verB, verAt, Blk.ver, handsAre, forall_const, ULc_4, encS_len]
  refine AW.loop (ι := Nat × Nat) (fun q σ => q.1 ≤ J ∧ J ≤ q.2 ∧ q.2 ≤ ns.length ∧ σ.t 0 = .c (.v (.sl (encS ns))) ∧ σ.t 1 = .s (.string x) ∧ σ.t 6 = .i ns.length ∧ σ.t 7 = .i q.1 ∧ σ.t 8 = .i q.2) (fun q => q.2 - q.1) (0, ns.length) ⟨Nat.zero_le _, hJle, Nat.le_refl _, rfl, rfl, rfl, rfl, rfl⟩ ?_
  rintro ⟨i, j⟩ ⟨t, H, c⟩ ⟨h1, h2, h3, e0, e1, e6, e7, e8⟩
  simp only [T.s, T.i, T.c] at h1 h2 h3 e0 e1 e6 e7 e8
  refine AW.of ?_
  by_cases hij : i < j
  · have k1 : (i : Int) < j := by omega
    have w1 : IntKind.i64.wrap ((i : Int) + j) = ((i + j : Nat) : Int) := (wrap64 (x := (i : Int) + j) ⟨by omega, by omega⟩).trans (by omega)
    have w2 : IntKind.u64.wrap ((i + j : Nat) : Int) = ((i + j : Nat) : Int) := wrapU ⟨by omega, by omega⟩
    have w3 : ((i + j : Nat) : Int).fdiv (2 ^ min (Int.toNat 1) IntKind.u64.bits) = (((i + j) / 2 : Nat) : Int) := by
      have e : (2 : Int) ^ min (Int.toNat 1) IntKind.u64.bits = 2 := rfl
      rw [e, Int.fdiv_eq_ediv_of_nonneg _ (by omega)]
      omega
    have w4 : IntKind.i64.wrap (((i + j) / 2 : Nat) : Int) = (((i + j) / 2 : Nat) : Int) := wrap64 ⟨by omega, by omega⟩
    have w5 : IntKind.i64.wrap ((((i + j) / 2 : Nat) : Int) + 1) = (((i + j) / 2 + 1 : Nat) : Int) := (wrap64 ⟨by omega, by omega⟩).trans (by omega)
    have hh1 : i ≤ (i + j) / 2 := by omega
    have hh2 : (i + j) / 2 < j := by omega
    generalize (i + j) / 2 = h at w3 w4 w5 hh1 hh2
    obtain ⟨s, hs⟩ : ∃ s, ns[h]? = some s := ⟨_, List.getElem?_eq_getElem (by omega)⟩
    have es := encS_at hs
    have gz : (0 : Int) ≤ h := by omega
    have n0 : ¬ (1 : Int) < 0 := by omega
    simp only [RUN, core, T.c, T.s, T.b, T.i, sBin, sInt, sUn, isShift, asInt, P1.cells, loadT, ptrC, storeT, putC, fillP, Nat.reduceAdd, reduceIte, Nat.reduceEqDiff, Nat.reduceLT, Nat.reduceLeDiff, reduceCtorEq, eq_self, FIT, lendCs_map, verC_map, FinC, resPs, resP, lendPl, lendCs, lendC, sealC, partsT, finHs, tupT, verT, verP, verC, verB, verAt, Blk.ver, handsAre, forall_const, ULc_5, e0, e1, e7, e8, k1, w1, w2, n0, w3, w4, gz, es, Int.toNat_natCast]
    refine callC (less_ok s x) rfl rfl rfl rfl ?_
    cases hls : less s x with
    | true =>
      simp only [RUN, core, T.c, T.s, T.b, T.i, sBin, sInt, sUn, isShift, asInt, P1.cells, loadT, ptrC, storeT, putC, fillP, Nat.reduceAdd, reduceIte, Nat.reduceEqDiff, Nat.reduceLT, Nat.reduceLeDiff, reduceCtorEq, eq_self, FIT, lendCs_map, verC_map, FinC, resPs, resP, lendPl, lendCs, lendC, sealC, partsT, finHs, tupT, verT, verP, verC, verB, verAt, Blk.ver, handsAre, forall_const, ULc_5, w5]
      have : h < J := by
        rcases Nat.lt_or_ge h J with h' | h'
        · exact h'
        · rw [hB h s h' hs] at hls; cases hls
      exact ⟨(h + 1, j), by show j - (h + 1) < j - i; omega, by show h + 1 ≤ J; omega, h2, h3, e0, e1, e6, rfl, e8⟩
    | false =>
      simp only [RUN, core, T.c, T.s, T.b, T.i, sBin, sInt, sUn, isShift, asInt, P1.cells, loadT, ptrC, storeT, putC, fillP, Nat.reduceAdd, reduceIte, Nat.reduceEqDiff, Nat.reduceLT, Nat.reduceLeDiff, reduceCtorEq, eq_self, FIT, lendCs_map, verC_map, FinC, resPs, resP, lendPl, lendCs, lendC, sealC, partsT, finHs, tupT, verT, verP, verC, verB, verAt, Blk.ver, handsAre, forall_const, ULc_5]
      have : J ≤ h := by
        rcases Nat.lt_or_ge h J with h' | h'
        · rw [hA h s h' hs] at hls; cases hls
        · exact h'
      exact ⟨(i, h), by show h - i < j - i; omega, h1, by show J ≤ h; omega, by show h ≤ ns.length; omega, e0, e1, e6, e7, rfl⟩
  · have k1 : ¬ (i : Int) < j := by omega
    have hiJ : i = J := by omega
    subst hiJ
    by_cases hn : i < ns.length
    · have k2 : (i : Int) < ns.length := by omega
      obtain ⟨s, hs⟩ : ∃ s, ns[i]? = some s := ⟨_, List.getElem?_eq_getElem hn⟩
      have es := encS_at hs
      have gz : (0 : Int) ≤ i := by omega
      by_cases hsx : s = x
      · subst hsx
        have hbt : b = true := by
          cases b with
          | true => rfl
          | false => exact absurd hs (hb.2 rfl)
        simp only [RUN, core, T.c, T.s, T.b, T.i, sBin, sInt, sUn, isShift, asInt, P1.cells, loadT, ptrC, storeT, putC, fillP, Nat.reduceAdd, reduceIte, Nat.reduceEqDiff, Nat.reduceLT, Nat.reduceLeDiff, reduceCtorEq, eq_self, FIT, lendCs_map, verC_map, FinC, resPs, resP, lendPl, lendCs, lendC, sealC, partsT, finHs, tupT, verT, verP, verC, verB, verAt, Blk.ver, handsAre, forall_const, ULc_5, ULc_4, e0, e1, e6, e7, e8, k1, k2, gz, es, Int.toNat_natCast, sStr, str_beq, hbt]
      · have hbf : b = false := by
          cases b with
          | false => rfl
          | true => have := hb.1 rfl; rw [hs] at this; cases this; exact absurd rfl hsx
        simp only [RUN, core, T.c, T.s, T.b, T.i, sBin, sInt, sUn, isShift, asInt, P1.cells, loadT, ptrC, storeT, putC, fillP, Nat.reduceAdd, reduceIte, Nat.reduceEqDiff, Nat.reduceLT, Nat.reduceLeDiff, reduceCtorEq, eq_self, FIT, lendCs_map, verC_map, FinC, resPs, resP, lendPl, lendCs, lendC, sealC, partsT, finHs, tupT, verT, verP, verC, verB, verAt, Blk.ver, handsAre, forall_const, ULc_5, ULc_4, e0, e1, e6, e7, e8, k1, k2, gz, es, Int.toNat_natCast, sStr, str_beq, hsx]
        refine callC (isNaN_ok s) rfl rfl rfl rfl ?_
        simp only [RUN, core, T.c, T.s, T.b, T.i, sBin, sInt, sUn, isShift, asInt, P1.cells, loadT, ptrC, storeT, putC, fillP, Nat.reduceAdd, reduceIte, Nat.reduceEqDiff, Nat.reduceLT, Nat.reduceLeDiff, reduceCtorEq, eq_self, FIT, lendCs_map, verC_map, FinC, resPs, resP, lendPl, lendCs, lendC, sealC, partsT, finHs, tupT, verT, verP, verC, verB, verAt, Blk.ver, handsAre, forall_const, ULc_5, ULc_4, hbf]
    · have k2 : ¬ (i : Int) < ns.length := by omega
      have hbf : b = false := by
        cases b with
        | false => rfl
        | true => have := (List.getElem?_eq_some_iff.1 (hb.1 rfl)).1; omega
      simp only [RUN, core, T.c, T.s, T.b, T.i, sBin, sInt, sUn, isShift, asInt, P1.cells, loadT, ptrC, storeT, putC, fillP, Nat.reduceAdd, reduceIte, Nat.reduceEqDiff, Nat.reduceLT, Nat.reduceLeDiff, reduceCtorEq, eq_self, FIT, lendCs_map, verC_map, FinC, resPs, resP, lendPl, lendCs, lendC, sealC, partsT, finHs, tupT, verT, verP, verC, verB, verAt, Blk.ver, handsAre, forall_const, ULc_5, ULc_4, e0, e1, e6, e7, e8, k1, k2, hbf]
end Go.V
set_option linter.unusedSimpArgs false
namespace Go.V
open Go.Proofs
theorem nodup_le {α : Type} [DecidableEq α] : ∀ (l m : List α), l.Nodup → (∀ x ∈ l, x ∈ m) → l.length ≤ m.length
  | [], _, _, _ => Nat.zero_le _
  | a :: l, m, hn, hs => by
    have h1 := List.nodup_cons.1 hn
    have hm := hs a (by simp)
    have h2 := nodup_le l (m.erase a) h1.2 fun x hx => by
      have hxa : x ≠ a := fun e => h1.1 (e ▸ hx)
      exact (List.mem_erase_of_ne hxa).2 (hs x (by simp [hx]))
    have h3 := List.length_erase_of_mem hm
    have h4 := List.length_pos_of_mem hm
    simp only [List.length_cons]
    omega
noncomputable def both (ns ms : List ByteArray) : List ByteArray := ms.filter fun x => @decide (x ∈ ns) (Classical.propDecidable _)
theorem both_len {ns ms : List ByteArray} (hn : ns.Nodup) (hm : ms.Nodup) : (both ns ms).length = ns.length ↔ ∀ x ∈ ns, x ∈ ms := by
  have hF : (both ns ms).Nodup := hm.filter _
  have hsub : ∀ x ∈ both ns ms, x ∈ ns := fun x hx => by simp only [both, List.mem_filter, decide_eq_true_eq] at hx; exact hx.2
  constructor
  · intro h x hx
    by_cases hxF : x ∈ both ns ms
    · simp only [both, List.mem_filter] at hxF; exact hxF.1
    · have := nodup_le (x :: both ns ms) ns (List.nodup_cons.2 ⟨hxF, hF⟩) fun y hy => by
        rcases List.mem_cons.1 hy with rfl | h
        · exact hx
        · exact hsub y h
      simp only [List.length_cons] at this
      omega
  · intro h
    have h1 := nodup_le _ _ hF hsub
    have h2 := nodup_le ns (both ns ms) hn fun x hx => by simp only [both, List.mem_filter, decide_eq_true_eq]; exact ⟨h x hx, hx⟩
    omega
theorem rise_nodup {ns : List ByteArray} (h : RiseP ns) : ns.Nodup := by
  rw [List.Nodup, List.pairwise_iff_getElem]
  intro i j hi hj hij e
  have := rise_inj h (List.getElem?_eq_getElem hi) (by rw [List.getElem?_eq_getElem hj, e])
  omega
theorem both_in {ns ms : List ByteArray} {x : ByteArray} (h : x ∈ ns) : both ns (ms ++ [x]) = both ns ms ++ [x] := by
  simp [both, List.filter_append, h]
theorem both_out {ns ms : List ByteArray} {x : ByteArray} (h : ¬ x ∈ ns) : both ns (ms ++ [x]) = both ns ms := by
  simp [both, List.filter_append, h]
/- loop.example/teagle/impl.fits -/
def r43_0 : List AOper := [ao 0 2 (.box 26 (.t 0)),
  ao 1 3 (.box 26 (.t 1)),
  ao 2 4 (.mv (.k (.b false)))]
def r43_1 : List AOper := [ao 0 11 (.fa 0 (.t 3)),
  ao 1 12 (.ld 1 false (.t 11)),
  ao 2 13 (.bin .eql (.t 12) (.k (.i 6))),
  ao 3 14 (.mv (.t 13)),
  ag 4 15 14 true [] (.fa 0 (.t 2)),
  ag 5 16 14 true [] (.ld 1 false (.t 15)),
  ag 6 17 14 true [] (.bin .eql (.t 16) (.k (.i 6))),
  ao 7 18 (.pick (.t 14) (.t 17) (.k (.b false))),
  ao 8 10 (.mv (.t 18))]
def r43_2 : List AOper := [ao 0 19 (.fa 2 (.t 2)),
  ao 1 20 (.ld 1 false (.t 19)),
  ao 2 21 (.ia 3 (.t 20) (.k (.i 0))),
  ao 3 22 (.ld 3 true (.t 21)),
  au 4 23 (ru 4) (.fa 2 (.t 3)),
  au 5 24 (ru 4) (.ld 1 false (.t 23)),
  au 6 25 (ru 4) (.ia 3 (.t 24) (.k (.i 0))),
  au 7 26 (ru 4) (.ld 3 true (.t 25)),
  ao 8 27 (.call (.k (.c (.fn 43 []))) [(.t 22), (.t 26)]),
  ao 9 4 (.mv (.t 27))]
def c43_3 : ACode := .seq (.reg r43_2) .ret
def r43_4 : List AOper := [ao 0 29 (.fa 0 (.t 3)),
  ao 1 30 (.ld 1 false (.t 29)),
  ao 2 31 (.bin .eql (.t 30) (.k (.i 6))),
  ao 3 28 (.mv (.t 31))]
def r43_5 : List AOper := [ao 0 32 (.ld 3 true (.t 2)),
  au 1 33 [0] (.fa 2 (.t 3)),
  au 2 34 [0] (.ld 1 false (.t 33)),
  au 3 35 [0] (.ia 3 (.t 34) (.k (.i 0))),
  au 4 36 [0] (.ld 3 true (.t 35)),
  ao 5 37 (.call (.k (.c (.fn 43 []))) [(.t 32), (.t 36)]),
  ao 6 4 (.mv (.t 37))]
def c43_6 : ACode := .seq (.reg r43_5) .ret
def r43_7 : List AOper := [ao 0 39 (.fa 0 (.t 2)),
  ao 1 40 (.ld 1 false (.t 39)),
  ao 2 41 (.fa 0 (.t 3)),
  ao 3 42 (.ld 1 false (.t 41)),
  ao 4 43 (.bin .neq (.t 40) (.t 42)),
  ao 5 38 (.mv (.t 43))]
def r43_8 : List AOper := [ao 0 4 (.mv (.k (.b false)))]
def c43_9 : ACode := .seq (.reg r43_8) .ret
def r43_10 : List AOper := [ao 0 45 (.fa 0 (.t 3)),
  ao 1 46 (.ld 1 false (.t 45)),
  ao 2 47 (.bin .eql (.t 46) (.k (.i 4))),
  ao 3 44 (.mv (.t 47))]
def r43_11 : List AOper := [ao 0 48 (.fa 2 (.t 2)),
  ao 1 49 (.ld 1 false (.t 48)),
  ao 2 50 (.ia 3 (.t 49) (.k (.i 0))),
  ao 3 51 (.ld 3 true (.t 50)),
  au 4 52 (ru 4) (.fa 2 (.t 3)),
  au 5 53 (ru 4) (.ld 1 false (.t 52)),
  au 6 54 (ru 4) (.ia 3 (.t 53) (.k (.i 0))),
  au 7 55 (ru 4) (.ld 3 true (.t 54)),
  ao 8 56 (.call (.k (.c (.fn 43 []))) [(.t 51), (.t 55)]),
  ao 9 4 (.mv (.t 56))]
def c43_12 : ACode := .seq (.reg r43_11) .ret
def c43_13 : ACode := .cond (.t 44) c43_12 .skip
def c43_14 : ACode := .seq (.reg r43_10) c43_13
def c43_15 : ACode := .cond (.t 38) c43_9 c43_14
def c43_16 : ACode := .seq (.reg r43_7) c43_15
def c43_17 : ACode := .cond (.t 28) c43_6 c43_16
def c43_18 : ACode := .seq (.reg r43_4) c43_17
def c43_19 : ACode := .cond (.t 10) c43_3 c43_18
def c43_20 : ACode := .seq (.reg r43_1) c43_19
def c43_21 : ACode := .block 0 c43_20
def r43_22 : List AOper := [ao 0 5 (.mv (.k (.i 0)))]
def r43_23 : List AOper := [ao 0 57 (.fa 1 (.t 3)),
  ao 1 58 (.ld 1 false (.t 57)),
  ao 2 59 (.len (.t 58)),
  ao 3 60 (.mv (.k (.i 0)))]
def r43_24 : List AOper := [ao 0 61 (.bin .lss (.t 60) (.t 59))]
def c43_25 : ACode := .cond (.t 61) .skip (.exit 1)
def r43_26 : List AOper := [ao 0 62 (.mv (.t 60)),
  ao 1 63 (.ia 1 (.t 58) (.t 60)),
  ao 2 64 (.ld 1 false (.t 63)),
  ao 3 6 (.mv (.t 62)),
  ao 4 7 (.mv (.t 64))]
def r43_27 : List AOper := [ao 0 66 (.fa 1 (.t 2)),
  ao 1 67 (.ld 1 false (.t 66)),
  ao 2 68 (.mv (.t 7)),
  ao 3 69 (.call (.k (.c (.fn 79 []))) [(.t 67), (.t 68)]),
  ao 4 65 (.mv (.t 69)),
  ao 5 70 (.ext 0 (.t 65)),
  ao 6 71 (.ext 1 (.t 65)),
  ao 7 8 (.mv (.t 70)),
  ao 8 9 (.mv (.t 71))]
def r43_28 : List AOper := [ao 0 73 (.mv (.t 9)),
  ao 1 74 (.mv (.t 73)),
  ag 2 75 74 true [] (.fa 2 (.t 2)),
  ag 3 76 74 true [] (.ld 1 false (.t 75)),
  ag 4 77 74 true [2, 3] (.mv (.t 8)),
  ag 5 78 74 true [] (.ia 3 (.t 76) (.t 77)),
  ag 6 79 74 true [] (.ld 3 true (.t 78)),
  ag 7 80 74 true [2, 3, 4, 5, 6] (.fa 2 (.t 3)),
  ag 8 81 74 true [2, 3, 4, 5, 6] (.ld 1 false (.t 80)),
  ag 9 82 74 true [2, 3, 4, 5, 6, 7, 8] (.mv (.t 6)),
  ag 10 83 74 true [2, 3, 4, 5, 6] (.ia 3 (.t 81) (.t 82)),
  ag 11 84 74 true [2, 3, 4, 5, 6] (.ld 3 true (.t 83)),
  ag 12 85 74 true [] (.call (.k (.c (.fn 43 []))) [(.t 79), (.t 84)]),
  ag 13 86 74 true [] (.un .not (.t 85)),
  ao 14 87 (.pick (.t 74) (.t 86) (.k (.b false))),
  ao 15 72 (.mv (.t 87))]
def r43_29 : List AOper := [ao 0 4 (.mv (.k (.b false)))]
def c43_30 : ACode := .seq (.reg r43_29) .ret
def r43_31 : List AOper := [ao 0 89 (.mv (.t 9)),
  ao 1 88 (.mv (.t 89))]
def r43_32 : List AOper := [ao 0 90 (.mv (.t 5)),
  ao 1 91 (.bin .add (.t 90) (.k (.i 1))),
  ao 2 5 (.mv (.t 91))]
def r43_33 : List AOper := [ao 0 93 (.fa 2 (.t 3)),
  ao 1 94 (.ld 1 false (.t 93)),
  ao 2 95 (.mv (.t 6)),
  ao 3 96 (.ia 3 (.t 94) (.t 95)),
  ao 4 97 (.fa 0 (.t 96)),
  ao 5 98 (.ld 1 false (.t 97)),
  ao 6 99 (.bin .neq (.t 98) (.k (.i 6))),
  ao 7 92 (.mv (.t 99))]
def r43_34 : List AOper := [ao 0 4 (.mv (.k (.b false)))]
def c43_35 : ACode := .seq (.reg r43_34) .ret
def c43_36 : ACode := .cond (.t 92) c43_35 .skip
def c43_37 : ACode := .seq (.reg r43_33) c43_36
def c43_38 : ACode := .cond (.t 88) (.reg r43_32) c43_37
def c43_39 : ACode := .seq (.reg r43_31) c43_38
def c43_40 : ACode := .cond (.t 72) c43_30 c43_39
def c43_41 : ACode := .seq (.reg r43_28) c43_40
def c43_42 : ACode := .block 3 c43_41
def c43_43 : ACode := .seq (.reg r43_26) (.seq (.reg r43_27) c43_42)
def c43_44 : ACode := .block 2 c43_43
def r43_45 : List AOper := [ao 0 100 (.bin .add (.t 60) (.k (.i 1))),
  ao 1 60 (.mv (.t 100))]
def c43_46 : ACode := .seq (.reg r43_24) (.seq c43_25 (.seq c43_44 (.reg r43_45)))
def c43_47 : ACode := .loop c43_46
def c43_48 : ACode := .block 1 c43_47
def c43_49 : ACode := .seq (.reg r43_23) c43_48
def r43_50 : List AOper := [ao 0 101 (.mv (.t 5)),
  ao 1 102 (.fa 1 (.t 2)),
  ao 2 103 (.ld 1 false (.t 102)),
  ao 3 104 (.len (.t 103)),
  ao 4 105 (.bin .eql (.t 101) (.t 104)),
  ao 5 4 (.mv (.t 105))]
def c43 : ACode := .seq (.reg r43_0) (.seq c43_21 (.seq (.reg r43_22) (.seq c43_49 (.seq (.reg r43_50) .ret))))
def s43 : List ARes := [.tmp 4]
theorem ok43 : okF Try.prog 43 106 c43 s43 := ⟨Try.f43, Try.func43, Try.ntmps43, by kernel_rfl, by kernel_rfl, by kernel_rfl⟩
def FitJ (ns : List ByteArray) (ks : List Kd) (ns' : List ByteArray) (ks' : List Kd) (i : Nat) : Prop := ∀ j, j < i → ∀ x (k' : Kd), ns'[j]? = some x → ks'[j]? = some k' →
  (∀ (l : Nat) k, ns[l]? = some x → ks[l]? = some k → Fits k k') ∧ ((∀ l : Nat, ns[l]? ≠ some x) → k'.sort = 6)
def inv43 (s : Int) (ns : List ByteArray) (ks : List Kd) (ns' : List ByteArray) (ks' : List Kd) (i : Nat) (σ : St) : Prop :=
  FitJ ns ks ns' ks' i ∧ (∃ u, σ.t 2 = .c (.ptr 2 u 0) ∧ σ.H 2 = some (.var u 26 [.v (.s (.int .i64 s)), .v (.sl (encS ns)), .v (.sl (encKs ks))])) ∧ (∃ u, σ.t 3 = .c (.ptr 3 u 0) ∧ σ.H 3 = some (.var u 26 [.v (.s (.int .i64 s)), .v (.sl (encS ns')), .v (.sl (encKs ks'))])) ∧
  σ.t 5 = .i (both ns (ns'.take i)).length ∧ σ.t 58 = .c (.v (.sl (encS ns'))) ∧ σ.t 59 = .i ns'.length ∧ σ.t 60 = .i i
theorem ULd_1 : (type_of% (uA c43.eq_1)) ∧ (type_of% (uR r43_0.eq_1)) ∧ (type_of% (uA c43_21.eq_1)) ∧ (type_of% (uA c43_20.eq_1)) ∧ (type_of% (uR r43_1.eq_1)) ∧ (type_of% (uA c43_19.eq_1)) ∧ (type_of% (uA c43_3.eq_1)) ∧ (type_of% (uR r43_2.eq_1)) ∧ (type_of% (uA c43_18.eq_1)) ∧ (type_of% (uR r43_4.eq_1)) ∧ (type_of% (uA c43_17.eq_1)) ∧ (type_of% (uA c43_6.eq_1)) ∧ (type_of% (uR r43_5.eq_1)) ∧ (type_of% (uA c43_16.eq_1)) ∧ (type_of% (uR r43_7.eq_1)) ∧ (type_of% (uA c43_15.eq_1)) ∧ (type_of% (uA c43_9.eq_1)) ∧ (type_of% (uR r43_8.eq_1)) ∧ (type_of% (uA c43_14.eq_1)) ∧ (type_of% (uR r43_10.eq_1)) ∧ (type_of% (uA c43_13.eq_1)) ∧ (type_of% (uA c43_12.eq_1)) ∧ (type_of% (uR r43_11.eq_1)) ∧ (type_of% (uR r43_22.eq_1)) ∧ (type_of% (uA c43_49.eq_1)) ∧ (type_of% (uR r43_23.eq_1)) ∧ (type_of% (uA c43_48.eq_1)) ∧ (type_of% (uA c43_47.eq_1)) ∧ (type_of% (uR r43_50.eq_1)) ∧ (type_of% s43.eq_1) :=
  ⟨uA c43.eq_1, uR r43_0.eq_1, uA c43_21.eq_1, uA c43_20.eq_1, uR r43_1.eq_1, uA c43_19.eq_1, uA c43_3.eq_1, uR r43_2.eq_1, uA c43_18.eq_1, uR r43_4.eq_1, uA c43_17.eq_1, uA c43_6.eq_1, uR r43_5.eq_1, uA c43_16.eq_1, uR r43_7.eq_1, uA c43_15.eq_1, uA c43_9.eq_1, uR r43_8.eq_1, uA c43_14.eq_1, uR r43_10.eq_1, uA c43_13.eq_1, uA c43_12.eq_1, uR r43_11.eq_1, uR r43_22.eq_1, uA c43_49.eq_1, uR r43_23.eq_1, uA c43_48.eq_1, uA c43_47.eq_1, uR r43_50.eq_1, s43.eq_1⟩
theorem ULd_3 : (type_of% (uA c43_46.eq_1)) ∧ (type_of% (uR r43_24.eq_1)) ∧ (type_of% (uA c43_25.eq_1)) ∧ (type_of% (uA c43_44.eq_1)) ∧ (type_of% (uA c43_43.eq_1)) ∧ (type_of% (uR r43_26.eq_1)) ∧ (type_of% (uR r43_27.eq_1)) ∧ (type_of% (uA c43_42.eq_1)) ∧ (type_of% (uA c43_41.eq_1)) ∧ (type_of% (uR r43_28.eq_1)) ∧ (type_of% (uA c43_40.eq_1)) ∧ (type_of% (uA c43_30.eq_1)) ∧ (type_of% (uR r43_29.eq_1)) ∧ (type_of% (uA c43_39.eq_1)) ∧ (type_of% (uR r43_31.eq_1)) ∧ (type_of% (uA c43_38.eq_1)) ∧ (type_of% (uR r43_32.eq_1)) ∧ (type_of% (uA c43_37.eq_1)) ∧ (type_of% (uR r43_33.eq_1)) ∧ (type_of% (uA c43_36.eq_1)) ∧ (type_of% (uA c43_35.eq_1)) ∧ (type_of% (uR r43_34.eq_1)) ∧ (type_of% (uR r43_45.eq_1)) ∧ (type_of% (uA c43.eq_1)) ∧ (type_of% (uR r43_0.eq_1)) ∧ (type_of% (uA c43_21.eq_1)) ∧ (type_of% (uA c43_20.eq_1)) ∧ (type_of% (uR r43_1.eq_1)) ∧ (type_of% (uA c43_19.eq_1)) ∧ (type_of% (uA c43_3.eq_1)) ∧ (type_of% (uR r43_2.eq_1)) ∧ (type_of% (uA c43_18.eq_1)) ∧ (type_of% (uR r43_4.eq_1)) ∧ (type_of% (uA c43_17.eq_1)) ∧ (type_of% (uA c43_6.eq_1)) ∧ (type_of% (uR r43_5.eq_1)) ∧ (type_of% (uA c43_16.eq_1)) ∧ (type_of% (uR r43_7.eq_1)) ∧ (type_of% (uA c43_15.eq_1)) ∧ (type_of% (uA c43_9.eq_1)) ∧ (type_of% (uR r43_8.eq_1)) ∧ (type_of% (uA c43_14.eq_1)) ∧ (type_of% (uR r43_10.eq_1)) ∧ (type_of% (uA c43_13.eq_1)) ∧ (type_of% (uA c43_12.eq_1)) ∧ (type_of% (uR r43_11.eq_1)) ∧ (type_of% (uR r43_22.eq_1)) ∧ (type_of% (uA c43_49.eq_1)) ∧ (type_of% (uR r43_23.eq_1)) ∧ (type_of% (uA c43_48.eq_1)) ∧ (type_of% (uA c43_47.eq_1)) ∧ (type_of% (uR r43_50.eq_1)) ∧ (type_of% s43.eq_1) :=
  ⟨uA c43_46.eq_1, uR r43_24.eq_1, uA c43_25.eq_1, uA c43_44.eq_1, uA c43_43.eq_1, uR r43_26.eq_1, uR r43_27.eq_1, uA c43_42.eq_1, uA c43_41.eq_1, uR r43_28.eq_1, uA c43_40.eq_1, uA c43_30.eq_1, uR r43_29.eq_1, uA c43_39.eq_1, uR r43_31.eq_1, uA c43_38.eq_1, uR r43_32.eq_1, uA c43_37.eq_1, uR r43_33.eq_1, uA c43_36.eq_1, uA c43_35.eq_1, uR r43_34.eq_1, uR r43_45.eq_1, uA c43.eq_1, uR r43_0.eq_1, uA c43_21.eq_1, uA c43_20.eq_1, uR r43_1.eq_1, uA c43_19.eq_1, uA c43_3.eq_1, uR r43_2.eq_1, uA c43_18.eq_1, uR r43_4.eq_1, uA c43_17.eq_1, uA c43_6.eq_1, uR r43_5.eq_1, uA c43_16.eq_1, uR r43_7.eq_1, uA c43_15.eq_1, uA c43_9.eq_1, uR r43_8.eq_1, uA c43_14.eq_1, uR r43_10.eq_1, uA c43_13.eq_1, uA c43_12.eq_1, uR r43_11.eq_1, uR r43_22.eq_1, uA c43_49.eq_1, uR r43_23.eq_1, uA c43_48.eq_1, uA c43_47.eq_1, uR r43_50.eq_1, s43.eq_1⟩
set_option maxHeartbeats 1000000 in
theorem fitsI_ok : ∀ (b a : Kd) (d d' : Nat), KOk d a → KOk d' b → KB 2000 a → KB 2000 b → ACallsF Try.prog 43 [tK a, tK b] [] (.b (fits a b)) := by
  intro b
  induction b using Kd.ind with
  | _ s' ns' ks' ih =>
    intro a d d' hOa hOb hBa hBb
    obtain ⟨s, ns, ks⟩ := a
    obtain ⟨_, hSa, hKa⟩ := hOa.inv
    obtain ⟨_, hSb, hKb⟩ := hOb.inv
    obtain ⟨a1, a2, a3, a4⟩ := hBa.inv
    obtain ⟨b1, b2, b3, b4⟩ := hBb.inv
    refine ACallsF.intro ok43 follows fun X c0 => ?_
    by_cases h6' : s' = 6
    · subst h6'
      have hl' := hSb.one (.inr rfl)
      obtain ⟨kb, hkb⟩ : ∃ k, ks'[0]? = some k := ⟨_, List.getElem?_eq_getElem (by omega)⟩
      have hmb := List.mem_of_getElem? hkb
      have ekb := encKs_at hkb
      by_cases h6 : s = 6
      · subst h6
        have hl := hSa.one (.inr rfl)
        obtain ⟨ka, hka⟩ : ∃ k, ks[0]? = some k := ⟨_, List.getElem?_eq_getElem (by omega)⟩
        have hma := List.mem_of_getElem? hka
        have eka := encKs_at hka
        have hC := ih kb hmb ka _ _ (hKa ka hma) (hKb kb hmb) (a4 ka hma) (b4 kb hmb)
        have hF : fits (.mk 6 ns ks) (.mk 6 ns' ks') = fits ka kb := fits_congr (Fits.mm_iff hka hkb)
        simp only [RUN, core, T.c, T.s, T.b, T.i, sBin, sInt, sUn, isShift, asInt, P1.cells, loadT, ptrC, storeT, putC, fillP, Nat.reduceAdd, reduceIte, Nat.reduceEqDiff, Nat.reduceLT, Nat.reduceLeDiff, reduceCtorEq, eq_self, FIT, lendCs_map, verC_map, FinC, resPs, resP, lendPl, lendCs, lendC, sealC, partsT, finHs, tupT, verT, verP, verC, verB, verAt, Blk.ver, handsAre, forall_const, CHT, disj, Nat.reduceBEq, beq_self_eq_true, APT, srcOf, sealPs, sealCs, sealC, List.mem_singleton, forall_eq, ALT, ULd_1, encK_mk, Int.reduceBEq, eka, ekb, Int.le_refl, Int.toNat_zero, List.length_map, encK_len, takeK]
        refine callC hC rfl rfl (by simp [closedA, closedP, closedC]) rfl ?_
        simp only [RUN, core, T.c, T.s, T.b, T.i, sBin, sInt, sUn, isShift, asInt, P1.cells, loadT, ptrC, storeT, putC, fillP, Nat.reduceAdd, reduceIte, Nat.reduceEqDiff, Nat.reduceLT, Nat.reduceLeDiff, reduceCtorEq, eq_self, FIT, lendCs_map, verC_map, FinC, resPs, resP, lendPl, lendCs, lendC, sealC, partsT, finHs, tupT, verT, verP, verC, verB, verAt, Blk.ver, handsAre, forall_const, CHT, disj, Nat.reduceBEq, beq_self_eq_true, APT, srcOf, sealPs, sealCs, sealC, List.mem_singleton, forall_eq, ALT, ULd_1, hF]
      · have h6b : (s == 6) = false := beq_eq_false_iff_ne.2 h6
        have hC := ih kb hmb (.mk s ns ks) _ _ hOa (hKb kb hmb) hBa (b4 kb hmb)
        have hF : fits (.mk s ns ks) (.mk 6 ns' ks') = fits (.mk s ns ks) kb := fits_congr (Fits.m_iff h6 hkb)
        simp only [tK, encK_mk, List.map_cons, List.map_nil] at hC
        simp only [RUN, core, T.c, T.s, T.b, T.i, sBin, sInt, sUn, isShift, asInt, P1.cells, loadT, ptrC, storeT, putC, fillP, Nat.reduceAdd, reduceIte, Nat.reduceEqDiff, Nat.reduceLT, Nat.reduceLeDiff, reduceCtorEq, eq_self, FIT, lendCs_map, verC_map, FinC, resPs, resP, lendPl, lendCs, lendC, sealC, partsT, finHs, tupT, verT, verP, verC, verB, verAt, Blk.ver, handsAre, forall_const, CHT, disj, Nat.reduceBEq, beq_self_eq_true, APT, srcOf, sealPs, sealCs, sealC, List.mem_singleton, forall_eq, ALT, ULd_1, encK_mk, Int.reduceBEq, h6b, ekb, Int.le_refl, Int.toNat_zero, List.length_map, encK_len, takeK]
        refine callC hC rfl rfl (by simp [closedA, closedP, closedC]) rfl ?_
        simp only [RUN, core, T.c, T.s, T.b, T.i, sBin, sInt, sUn, isShift, asInt, P1.cells, loadT, ptrC, storeT, putC, fillP, Nat.reduceAdd, reduceIte, Nat.reduceEqDiff, Nat.reduceLT, Nat.reduceLeDiff, reduceCtorEq, eq_self, FIT, lendCs_map, verC_map, FinC, resPs, resP, lendPl, lendCs, lendC, sealC, partsT, finHs, tupT, verT, verP, verC, verB, verAt, Blk.ver, handsAre, forall_const, CHT, disj, Nat.reduceBEq, beq_self_eq_true, APT, srcOf, sealPs, sealCs, sealC, List.mem_singleton, forall_eq, ALT, ULd_1, hF]
    · have h6b' : (s' == 6) = false := beq_eq_false_iff_ne.2 h6'
      by_cases hss : s = s'
      · subst hss
        by_cases h4 : s = 4
        · subst h4
          have hl := hSa.one (.inl rfl)
          have hl' := hSb.one (.inl rfl)
          obtain ⟨kb, hkb⟩ : ∃ k, ks'[0]? = some k := ⟨_, List.getElem?_eq_getElem (by omega)⟩
          have hmb := List.mem_of_getElem? hkb
          have ekb := encKs_at hkb
          obtain ⟨ka, hka⟩ : ∃ k, ks[0]? = some k := ⟨_, List.getElem?_eq_getElem (by omega)⟩
          have hma := List.mem_of_getElem? hka
          have eka := encKs_at hka
          have hC := ih kb hmb ka _ _ (hKa ka hma) (hKb kb hmb) (a4 ka hma) (b4 kb hmb)
          have hF : fits (.mk 4 ns ks) (.mk 4 ns' ks') = fits ka kb := fits_congr (Fits.l_iff hka hkb)
          simp only [RUN, core, T.c, T.s, T.b, T.i, sBin, sInt, sUn, isShift, asInt, P1.cells, loadT, ptrC, storeT, putC, fillP, Nat.reduceAdd, reduceIte, Nat.reduceEqDiff, Nat.reduceLT, Nat.reduceLeDiff, reduceCtorEq, eq_self, FIT, lendCs_map, verC_map, FinC, resPs, resP, lendPl, lendCs, lendC, sealC, partsT, finHs, tupT, verT, verP, verC, verB, verAt, Blk.ver, handsAre, forall_const, CHT, disj, Nat.reduceBEq, beq_self_eq_true, APT, srcOf, sealPs, sealCs, sealC, List.mem_singleton, forall_eq, ALT, ULd_1, encK_mk, Int.reduceBEq, Int.reduceBNe, eka, ekb, Int.le_refl, Int.toNat_zero, List.length_map, encK_len, takeK]
          refine callC hC rfl rfl (by simp [closedA, closedP, closedC]) rfl ?_
          simp only [RUN, core, T.c, T.s, T.b, T.i, sBin, sInt, sUn, isShift, asInt, P1.cells, loadT, ptrC, storeT, putC, fillP, Nat.reduceAdd, reduceIte, Nat.reduceEqDiff, Nat.reduceLT, Nat.reduceLeDiff, reduceCtorEq, eq_self, FIT, lendCs_map, verC_map, FinC, resPs, resP, lendPl, lendCs, lendC, sealC, partsT, finHs, tupT, verT, verP, verC, verB, verAt, Blk.ver, handsAre, forall_const, CHT, disj, Nat.reduceBEq, beq_self_eq_true, APT, srcOf, sealPs, sealCs, sealC, List.mem_singleton, forall_eq, ALT, ULd_1, hF]
        · have h4b : (s == 4) = false := beq_eq_false_iff_ne.2 h4
          have hne : (s != s) = false := by simp
          have hlen : ns.length ≤ ks.length := by
            by_cases h5 : s = 5
            · have := (hSa.form h5).1; omega
            · have := hSa.other h5; omega
          have hlen' : ns'.length ≤ ks'.length := by
            by_cases h5 : s = 5
            · have := (hSb.form h5).1; omega
            · have := hSb.other h5; omega
          have hra : rise ns = true := by
            by_cases h5 : s = 5
            · exact (hSa.form h5).2
            · rw [List.length_eq_zero_iff.1 (hSa.other h5)]; exact rise_true.2 fun i s hs => by simp at hs
          have hrb : rise ns' = true := by
            by_cases h5 : s = 5
            · exact (hSb.form h5).2
            · rw [List.length_eq_zero_iff.1 (hSb.other h5)]; exact rise_true.2 fun i s hs => by simp at hs
          have hboth := both_len (rise_nodup (rise_true.1 hra)) (rise_nodup (rise_true.1 hrb))
          have hfin : FitJ ns ks ns' ks' ns'.length → (both ns ns').length = ns.length → Fits (.mk s ns ks) (.mk s ns' ks') := by
            intro g1 g2
            have g2 := hboth.1 g2
            by_cases h5 : s = 5
            · subst h5
              refine .f _ _ _ _ (fun i x hi => ?_) (fun i x k k' hi hk hk' => ?_) fun i x k' hi hk hq => ?_
              · obtain ⟨j, hj⟩ := List.mem_iff_getElem?.1 (g2 x (List.mem_of_getElem? hi))
                exact kid_len hlen' hj
              · obtain ⟨j, hj1, hj2⟩ := kid_mem hk'
                exact (g1 j (List.getElem?_eq_some_iff.1 hj1).1 x k' hj1 hj2).1 i k hi hk
              · refine (g1 i (List.getElem?_eq_some_iff.1 hi).1 x k' hi hk).2 fun l hl => ?_
                obtain ⟨k, hk⟩ := kid_len hlen hl
                rw [hq] at hk; cases hk
            · have := hSa.lo
              have := hSa.hi
              exact .leaf _ _ _ _ _ (by omega)
          have hbad : Fits (.mk s ns ks) (.mk s ns' ks') → FitJ ns ks ns' ks' ns'.length ∧ (both ns ns').length = ns.length := by
            intro h
            cases h with
            | mm => exact absurd rfl h6'
            | m => exact absurd rfl h6'
            | l => exact absurd rfl h4
            | leaf _ _ _ _ _ hs =>
              have e1 := hSa.other (by omega)
              have e2 := hSb.other (by omega)
              rw [List.length_eq_zero_iff] at e1 e2
              subst e1 e2
              exact ⟨fun j hj => absurd hj (Nat.not_lt_zero j), rfl⟩
            | f _ _ _ _ h1 h2 h3 =>
              refine ⟨fun j hj x k' hx hk' => ⟨fun l k hl hk => ?_, fun hno => h3 j x k' hx hk' (kid_none hno)⟩, hboth.2 fun x hx => ?_⟩
              · refine h2 l x k k' hl hk (kid_at (fun i hi e => ?_) hx hk')
                have := rise_inj (rise_true.1 hrb) e hx
                omega
              · obtain ⟨i, hi⟩ := List.mem_iff_getElem?.1 hx
                obtain ⟨k', hk'⟩ := h1 i x hi
                obtain ⟨j, hj, _⟩ := kid_mem hk'
                exact List.mem_of_getElem? hj
          simp only [RUN, core, T.c, T.s, T.b, T.i, sBin, sInt, sUn, isShift, asInt, P1.cells, loadT, ptrC, storeT, putC, fillP, Nat.reduceAdd, reduceIte, Nat.reduceEqDiff, Nat.reduceLT, Nat.reduceLeDiff, reduceCtorEq, eq_self, FIT, lendCs_map, verC_map, FinC, resPs, resP, lendPl, lendCs, lendC, sealC, partsT, finHs, tupT, verT, verP, verC, verB, verAt, Blk.ver, handsAre, forall_const, CHT, disj, Nat.reduceBEq, beq_self_eq_true, APT, srcOf, sealPs, sealCs, sealC, List.mem_singleton, forall_eq, ALT, ULd_1, encK_mk, h6b', h4b, hne, encS_len]
          refine AW.upto ns'.length (inv43 s ns ks ns' ks') ⟨fun j hj => absurd hj (Nat.not_lt_zero j), ⟨_, rfl, rfl⟩, ⟨_, rfl, rfl⟩, rfl, rfl, rfl, rfl⟩ fun i t H c hi h => ?_
          obtain ⟨g0, ⟨u2, e2, eH2⟩, ⟨u3, e3, eH3⟩, e5, e58, e59, e60⟩ := h
          simp only [T.c, T.i] at e2 eH2 e3 eH3 e5 e58 e59 e60
          by_cases hlt : i < ns'.length
          · have k1 : (i : Int) < ns'.length := by omega
            have gz : (0 : Int) ≤ i := by omega
            have gw : IntKind.i64.wrap ((i : Int) + 1) = ((i + 1 : Nat) : Int) := wrap64 (x := (i : Int) + 1) ⟨by omega, by omega⟩
            obtain ⟨x, hx⟩ : ∃ y, ns'[i]? = some y := ⟨_, List.getElem?_eq_getElem hlt⟩
            obtain ⟨k', hk'⟩ : ∃ k, ks'[i]? = some k := ⟨_, List.getElem?_eq_getElem (by omega)⟩
            have hmk' := List.mem_of_getElem? hk'
            have es := encS_at hx
            have ek' := encKs_at hk'
            obtain ⟨J, b, hb1, hb2, hCs⟩ := search_ok ns x hra (by omega)
            have htk : ns'.take (i + 1) = ns'.take i ++ [x] := by rw [List.take_add_one, hx]; rfl
            have hbl : (both ns (ns'.take i)).length ≤ i := by
              have h1 : (both ns (ns'.take i)).length ≤ (ns'.take i).length := List.length_filter_le _ _
              have h2 : (ns'.take i).length ≤ i := by rw [List.length_take]; omega
              omega
            have key : ((∀ (l : Nat) k, ns[l]? = some x → ks[l]? = some k → Fits k k') ∧ ((∀ l : Nat, ns[l]? ≠ some x) → k'.sort = 6)) → FitJ ns ks ns' ks' (i + 1) := by
              intro h j hj x2 k2 h1 h2
              rcases Nat.lt_succ_iff_lt_or_eq.1 hj with hj | rfl
              · exact g0 j hj x2 k2 h1 h2
              · rw [hx] at h1; rw [hk'] at h2; cases h1; cases h2; exact h
            simp only [RUN, core, T.c, T.s, T.b, T.i, sBin, sInt, sUn, isShift, asInt, P1.cells, loadT, ptrC, storeT, putC, fillP, Nat.reduceAdd, reduceIte, Nat.reduceEqDiff, Nat.reduceLT, Nat.reduceLeDiff, reduceCtorEq, eq_self, FIT, lendCs_map, verC_map, FinC, resPs, resP, lendPl, lendCs, lendC, sealC, partsT, finHs, tupT, verT, verP, verC, verB, verAt, Blk.ver, handsAre, forall_const, CHT, disj, Nat.reduceBEq, beq_self_eq_true, APT, srcOf, sealPs, sealCs, sealC, List.mem_singleton, forall_eq, ALT, ULd_3, e2, eH2, e3, eH3, e58, e59, e60, k1, gz, encS_len, es, Int.toNat_natCast]
            refine callC hCs rfl rfl (by simp [closedA, closedP, closedC]) (by simp [closedT, closedP, closedC]) ?_
            cases b with
            | true =>
              have hJ := hb1 rfl
              obtain ⟨k, hk⟩ : ∃ k, ks[J]? = some k := ⟨_, List.getElem?_eq_getElem (by have := (List.getElem?_eq_some_iff.1 hJ).1; omega)⟩
              have hmk := List.mem_of_getElem? hk
              have ek := encKs_at hk
              have gzJ : (0 : Int) ≤ J := by omega
              have hC := ih k' hmk' k _ _ (hKa k hmk) (hKb k' hmk') (a4 k hmk) (b4 k' hmk')
              simp only [RUN, core, T.c, T.s, T.b, T.i, sBin, sInt, sUn, isShift, asInt, P1.cells, loadT, ptrC, storeT, putC, fillP, Nat.reduceAdd, reduceIte, Nat.reduceEqDiff, Nat.reduceLT, Nat.reduceLeDiff, reduceCtorEq, eq_self, FIT, lendCs_map, verC_map, FinC, resPs, resP, lendPl, lendCs, lendC, sealC, partsT, finHs, tupT, verT, verP, verC, verB, verAt, Blk.ver, handsAre, forall_const, CHT, disj, Nat.reduceBEq, beq_self_eq_true, APT, srcOf, sealPs, sealCs, sealC, List.mem_singleton, forall_eq, ALT, ULd_3, e2, eH2, e3, eH3, gz, gzJ, ek, ek', Int.toNat_natCast, List.length_map, encK_len, takeK, Nat.le_refl]
              refine callC hC rfl rfl (by simp [closedA, closedP, closedC]) rfl ?_
              cases hfk : fits k k' with
              | false =>
                have hF : fits (.mk s ns ks) (.mk s ns' ks') = false := fits_false.2 fun h => by
                  rw [fits_false] at hfk
                  exact hfk (((hbad h).1 i hlt x k' hx hk').1 J k hJ hk)
                simp only [RUN, core, T.c, T.s, T.b, T.i, sBin, sInt, sUn, isShift, asInt, P1.cells, loadT, ptrC, storeT, putC, fillP, Nat.reduceAdd, reduceIte, Nat.reduceEqDiff, Nat.reduceLT, Nat.reduceLeDiff, reduceCtorEq, eq_self, FIT, lendCs_map, verC_map, FinC, resPs, resP, lendPl, lendCs, lendC, sealC, partsT, finHs, tupT, verT, verP, verC, verB, verAt, Blk.ver, handsAre, forall_const, CHT, disj, Nat.reduceBEq, beq_self_eq_true, APT, srcOf, sealPs, sealCs, sealC, List.mem_singleton, forall_eq, ALT, ULd_3, hF]
              | true =>
                have gw2 : IntKind.i64.wrap (((both ns (ns'.take i)).length : Int) + 1) = ((both ns (ns'.take (i + 1))).length : Int) := by
                  rw [htk, both_in (List.mem_of_getElem? hJ), wrap64 ⟨by omega, by omega⟩]; simp
                simp only [RUN, core, T.c, T.s, T.b, T.i, sBin, sInt, sUn, isShift, asInt, P1.cells, loadT, ptrC, storeT, putC, fillP, Nat.reduceAdd, reduceIte, Nat.reduceEqDiff, Nat.reduceLT, Nat.reduceLeDiff, reduceCtorEq, eq_self, FIT, lendCs_map, verC_map, FinC, resPs, resP, lendPl, lendCs, lendC, sealC, partsT, finHs, tupT, verT, verP, verC, verB, verAt, Blk.ver, handsAre, forall_const, CHT, disj, Nat.reduceBEq, beq_self_eq_true, APT, srcOf, sealPs, sealCs, sealC, List.mem_singleton, forall_eq, ALT, ULd_3, e5, e60, gw, gw2]
                refine ⟨hlt, key ⟨fun l k2 hl hk2 => ?_, fun h => absurd hJ (h J)⟩, ⟨u2, e2, eH2⟩, ⟨u3, e3, eH3⟩, rfl, e58, e59, rfl⟩
                have := rise_inj (rise_true.1 hra) hl hJ
                subst this
                rw [hk] at hk2; cases hk2; exact fits_true.1 hfk
            | false =>
              have hno := hb2 rfl
              obtain ⟨rest, erest, hrest⟩ := encK_sort k'
              have hr3 : rest.length + 1 = 3 := by omega
              by_cases hs6 : k'.sort = 6
              · have hsb : (k'.sort != 6) = false := by rw [hs6]; rfl
                have gw2 : ((both ns (ns'.take i)).length : Int) = ((both ns (ns'.take (i + 1))).length : Int) := by
                  rw [htk, both_out (fun h => by obtain ⟨l, hl⟩ := List.mem_iff_getElem?.1 h; exact hno l hl)]
                simp only [RUN, core, T.c, T.s, T.b, T.i, sBin, sInt, sUn, isShift, asInt, P1.cells, loadT, ptrC, storeT, putC, fillP, Nat.reduceAdd, reduceIte, Nat.reduceEqDiff, Nat.reduceLT, Nat.reduceLeDiff, reduceCtorEq, eq_self, FIT, lendCs_map, verC_map, FinC, resPs, resP, lendPl, lendCs, lendC, sealC, partsT, finHs, tupT, verT, verP, verC, verB, verAt, Blk.ver, handsAre, forall_const, CHT, disj, Nat.reduceBEq, beq_self_eq_true, APT, srcOf, sealPs, sealCs, sealC, List.mem_singleton, forall_eq, ALT, ULd_3, e2, eH2, e3, eH3, e60, gz, ek', erest, hr3, hsb, gw, Int.toNat_natCast, Nat.le_refl]
                refine ⟨hlt, key ⟨fun l k2 hl _ => absurd hl (hno l), fun _ => hs6⟩, ⟨u2, e2, eH2⟩, ⟨u3, e3, eH3⟩, ?_, e58, e59, rfl⟩
                rw [← gw2]; exact e5
              · have hsb : (k'.sort != 6) = true := by simp [hs6]
                have hF : fits (.mk s ns ks) (.mk s ns' ks') = false := fits_false.2 fun h => hs6 (((hbad h).1 i hlt x k' hx hk').2 hno)
                simp only [RUN, core, T.c, T.s, T.b, T.i, sBin, sInt, sUn, isShift, asInt, P1.cells, loadT, ptrC, storeT, putC, fillP, Nat.reduceAdd, reduceIte, Nat.reduceEqDiff, Nat.reduceLT, Nat.reduceLeDiff, reduceCtorEq, eq_self, FIT, lendCs_map, verC_map, FinC, resPs, resP, lendPl, lendCs, lendC, sealC, partsT, finHs, tupT, verT, verP, verC, verB, verAt, Blk.ver, handsAre, forall_const, CHT, disj, Nat.reduceBEq, beq_self_eq_true, APT, srcOf, sealPs, sealCs, sealC, List.mem_singleton, forall_eq, ALT, ULd_3, e2, eH2, e3, eH3, e60, gz, ek', erest, hr3, hsb, hF, Int.toNat_natCast, Nat.le_refl]
          · have hin : i = ns'.length := by omega
            subst hin
            have k1 : ¬ ((ns'.length : Nat) : Int) < ns'.length := by omega
            rw [List.take_length] at e5
            have hF : fits (.mk s ns ks) (.mk s ns' ks') = (((both ns ns').length : Int) == (ns.length : Int)) := by
              by_cases h : (both ns ns').length = ns.length
              · rw [fits_true.2 (hfin g0 h)]; exact (beq_iff_eq.2 (by omega)).symm
              · rw [fits_false.2 fun h2 => h (hbad h2).2]; exact (beq_eq_false_iff_ne.2 (by omega)).symm
            simp only [RUN, core, T.c, T.s, T.b, T.i, sBin, sInt, sUn, isShift, asInt, P1.cells, loadT, ptrC, storeT, putC, fillP, Nat.reduceAdd, reduceIte, Nat.reduceEqDiff, Nat.reduceLT, Nat.reduceLeDiff, reduceCtorEq, eq_self, FIT, lendCs_map, verC_map, FinC, resPs, resP, lendPl, lendCs, lendC, sealC, partsT, finHs, tupT, verT, verP, verC, verB, verAt, Blk.ver, handsAre, forall_const, CHT, disj, Nat.reduceBEq, beq_self_eq_true, APT, srcOf, sealPs, sealCs, sealC, List.mem_singleton, forall_eq, ALT, ULd_3, ULd_1, e2, eH2, e5, e59, e60, k1, encS_len, hF]
      · have hne : (s != s') = true := by simp [hss]
        have hF : fits (.mk s ns ks) (.mk s' ns' ks') = false := fits_false.2 fun h => hss (h.sort_eq h6')
        simp only [RUN, core, T.c, T.s, T.b, T.i, sBin, sInt, sUn, isShift, asInt, P1.cells, loadT, ptrC, storeT, putC, fillP, Nat.reduceAdd, reduceIte, Nat.reduceEqDiff, Nat.reduceLT, Nat.reduceLeDiff, reduceCtorEq, eq_self, FIT, lendCs_map, verC_map, FinC, resPs, resP, lendPl, lendCs, lendC, sealC, partsT, finHs, tupT, verT, verP, verC, verB, verAt, Blk.ver, handsAre, forall_const, CHT, disj, Nat.reduceBEq, beq_self_eq_true, APT, srcOf, sealPs, sealCs, sealC, List.mem_singleton, forall_eq, ALT, ULd_1, encK_mk, h6b', hne, hF]
/- loop.example/teagle/impl.KindFits -/
def r11_0 : List AOper := [ao 0 2 (.box 26 (.t 0)),
  ao 1 3 (.box 26 (.t 1)),
  ao 2 4 (.mv (.k (.b false)))]
def r11_1 : List AOper := [ao 0 5 (.ld 3 true (.t 2)),
  ao 1 6 (.call (.k (.c (.fn 42 []))) [(.t 5)]),
  ao 2 7 (.mv (.t 6)),
  ag 3 8 7 true [] (.ld 3 true (.t 3)),
  ag 4 9 7 true [] (.call (.k (.c (.fn 42 []))) [(.t 8)]),
  ao 5 10 (.pick (.t 7) (.t 9) (.k (.b false))),
  ao 6 11 (.mv (.t 10)),
  ag 7 12 11 true [] (.ld 3 true (.t 2)),
  ag 8 13 11 true [] (.ld 3 true (.t 3)),
  ag 9 14 11 true [] (.call (.k (.c (.fn 43 []))) [(.t 12), (.t 13)]),
  ao 10 15 (.pick (.t 11) (.t 14) (.k (.b false))),
  ao 11 4 (.mv (.t 15))]
def c11 : ACode := .seq (.reg r11_0) (.seq (.reg r11_1) .ret)
def s11 : List ARes := [.tmp 4]
theorem ok11 : okF Try.prog 11 16 c11 s11 := ⟨Try.f11, Try.func11, Try.ntmps11, by kernel_rfl, by kernel_rfl, by kernel_rfl⟩
theorem ULd_2 : (type_of% (uA c11.eq_1)) ∧ (type_of% (uR r11_0.eq_1)) ∧ (type_of% (uR r11_1.eq_1)) ∧ (type_of% s11.eq_1) :=
  ⟨uA c11.eq_1, uR r11_0.eq_1, uR r11_1.eq_1, s11.eq_1⟩
theorem kindFitsI_ok (a b : Kd) (ha : KB 2000 a) (hb : KB 2000 b) : ACallsF Try.prog 11 [tK a, tK b] [] (.b (okK a && (okK b && fits a b))) := by
  refine ACallsF.intro ok11 follows fun X c0 => ?_
  simp only [RUN, core, T.c, T.s, T.b, T.i, sBin, sInt, sUn, isShift, asInt, P1.cells, loadT, ptrC, storeT, putC, fillP, Nat.reduceAdd, reduceIte, Nat.reduceEqDiff, Nat.reduceLT, Nat.reduceLeDiff, reduceCtorEq, eq_self, FIT, lendCs_map, verC_map, FinC, resPs, resP, lendPl, lendCs, lendC, sealC, partsT, finHs, tupT, verT, verP, verC, verB, verAt, Blk.ver, handsAre, forall_const, CHT, disj, Nat.reduceBEq, beq_self_eq_true, APT, srcOf, sealPs, sealCs, sealC, List.mem_singleton, forall_eq, ALT, ULd_2, List.length_map, encK_len, takeK, Nat.le_refl]
  refine callC (kindOkI_ok a (ha.le (by omega))) rfl rfl (by simp [closedA, closedP, closedC]) rfl ?_
  cases h1 : okK a with
  | false => simp only [RUN, core, T.c, T.s, T.b, T.i, sBin, sInt, sUn, isShift, asInt, P1.cells, loadT, ptrC, storeT, putC, fillP, Nat.reduceAdd, reduceIte, Nat.reduceEqDiff, Nat.reduceLT, Nat.reduceLeDiff, reduceCtorEq, eq_self, FIT, lendCs_map, verC_map, FinC, resPs, resP, lendPl, lendCs, lendC, sealC, partsT, finHs, tupT, verT, verP, verC, verB, verAt, Blk.ver, handsAre, forall_const, CHT, disj, Nat.reduceBEq, beq_self_eq_true, APT, srcOf, sealPs, sealCs, sealC, List.mem_singleton, forall_eq, ALT, ULd_2]
  | true =>
    simp only [RUN, core, T.c, T.s, T.b, T.i, sBin, sInt, sUn, isShift, asInt, P1.cells, loadT, ptrC, storeT, putC, fillP, Nat.reduceAdd, reduceIte, Nat.reduceEqDiff, Nat.reduceLT, Nat.reduceLeDiff, reduceCtorEq, eq_self, FIT, lendCs_map, verC_map, FinC, resPs, resP, lendPl, lendCs, lendC, sealC, partsT, finHs, tupT, verT, verP, verC, verB, verAt, Blk.ver, handsAre, forall_const, CHT, disj, Nat.reduceBEq, beq_self_eq_true, APT, srcOf, sealPs, sealCs, sealC, List.mem_singleton, forall_eq, ALT, ULd_2, List.length_map, encK_len, takeK, Nat.le_refl]
    refine callC (kindOkI_ok b (hb.le (by omega))) rfl rfl (by simp [closedA, closedP, closedC]) rfl ?_
    cases h2 : okK b with
    | false => simp only [RUN, core, T.c, T.s, T.b, T.i, sBin, sInt, sUn, isShift, asInt, P1.cells, loadT, ptrC, storeT, putC, fillP, Nat.reduceAdd, reduceIte, Nat.reduceEqDiff, Nat.reduceLT, Nat.reduceLeDiff, reduceCtorEq, eq_self, FIT, lendCs_map, verC_map, FinC, resPs, resP, lendPl, lendCs, lendC, sealC, partsT, finHs, tupT, verT, verP, verC, verB, verAt, Blk.ver, handsAre, forall_const, CHT, disj, Nat.reduceBEq, beq_self_eq_true, APT, srcOf, sealPs, sealCs, sealC, List.mem_singleton, forall_eq, ALT, ULd_2]
    | true =>
      simp only [RUN, core, T.c, T.s, T.b, T.i, sBin, sInt, sUn, isShift, asInt, P1.cells, loadT, ptrC, storeT, putC, fillP, Nat.reduceAdd, reduceIte, Nat.reduceEqDiff, Nat.reduceLT, Nat.reduceLeDiff, reduceCtorEq, eq_self, FIT, lendCs_map, verC_map, FinC, resPs, resP, lendPl, lendCs, lendC, sealC, partsT, finHs, tupT, verT, verP, verC, verB, verAt, Blk.ver, handsAre, forall_const, CHT, disj, Nat.reduceBEq, beq_self_eq_true, APT, srcOf, sealPs, sealCs, sealC, List.mem_singleton, forall_eq, ALT, ULd_2, List.length_map, encK_len, takeK, Nat.le_refl]
      refine callC (fitsI_ok b a 1 1 (okK_true.1 h1).1 (okK_true.1 h2).1 ha hb) rfl rfl (by simp [closedA, closedP, closedC]) rfl ?_
      simp only [RUN, core, T.c, T.s, T.b, T.i, sBin, sInt, sUn, isShift, asInt, P1.cells, loadT, ptrC, storeT, putC, fillP, Nat.reduceAdd, reduceIte, Nat.reduceEqDiff, Nat.reduceLT, Nat.reduceLeDiff, reduceCtorEq, eq_self, FIT, lendCs_map, verC_map, FinC, resPs, resP, lendPl, lendCs, lendC, sealC, partsT, finHs, tupT, verT, verP, verC, verB, verAt, Blk.ver, handsAre, forall_const, CHT, disj, Nat.reduceBEq, beq_self_eq_true, APT, srcOf, sealPs, sealCs, sealC, List.mem_singleton, forall_eq, ALT, ULd_2]
end Go.V
set_option linter.unusedSimpArgs false
namespace Go.V
open Go.Proofs
/- loop.example/teagle/impl.isNum -/
def r103_0 : List AOper := [ao 0 2 (.mv (.k (.b false)))]
def r103_1 : List AOper := [ao 0 3 (.mv (.t 0)),
  ao 1 4 (.call (.k (.c (.fn 105 []))) [(.t 3), (.k (.i (-999999999))), (.k (.i 999999999))]),
  ao 2 2 (.mv (.t 4))]
def c103 : ACode := .seq (.reg r103_0) (.seq (.reg r103_1) .ret)
def s103 : List ARes := [.tmp 2]
theorem ok103 : okF Try.prog 103 5 c103 s103 := ⟨Try.f103, Try.func103, Try.ntmps103, by kernel_rfl, by kernel_rfl, by kernel_rfl⟩
theorem ULe_1 : (type_of% (uA c103.eq_1)) ∧ (type_of% (uR r103_0.eq_1)) ∧ (type_of% (uR r103_1.eq_1)) ∧ (type_of% s103.eq_1) :=
  ⟨uA c103.eq_1, uR r103_0.eq_1, uR r103_1.eq_1, s103.eq_1⟩
theorem isNum_ok (n : Int) : ACallsF Try.prog 103 [.i n] [] (.b (decide (-999999999 ≤ n) && decide (n ≤ 999999999))) := by
  refine ACallsF.intro ok103 follows fun X c0 => ?_
  simp only [RUN, core, T.c, T.s, T.b, T.i, sBin, sInt, sUn, isShift, asInt, P1.cells, loadT, ptrC, storeT, putC, fillP, Nat.reduceAdd, reduceIte, Nat.reduceEqDiff, Nat.reduceLT, Nat.reduceLeDiff, reduceCtorEq, eq_self, FIT, lendCs_map, verC_map, FinC, resPs, resP, lendPl, lendCs, lendC, sealC, partsT, finHs, tupT, verT, verP, verC, verB, verAt, Blk.ver, handsAre, forall_const, ULe_1]
  refine callC (inRange_ok n (-999999999) 999999999) rfl rfl rfl rfl ?_
  simp only [RUN, core, T.c, T.s, T.b, T.i, sBin, sInt, sUn, isShift, asInt, P1.cells, loadT, ptrC, storeT, putC, fillP, Nat.reduceAdd, reduceIte, Nat.reduceEqDiff, Nat.reduceLT, Nat.reduceLeDiff, reduceCtorEq, eq_self, FIT, lendCs_map, verC_map, FinC, resPs, resP, lendPl, lendCs, lendC, sealC, partsT, finHs, tupT, verT, verP, verC, verB, verAt, Blk.ver, handsAre, forall_const, ULe_1]
def printB (b : UInt8) : Prop := ¬ (b.toNat : Int) < 32 ∧ ¬ (b.toNat : Int) > 126 ∧ (b.toNat : Int) ≠ 34
def printP (s : ByteArray) : Prop := ∀ (j : Nat) b, s.data[j]? = some b → printB b
noncomputable def textOk (s : ByteArray) : Bool := @decide (printP s ∧ s.size ≤ 60) (Classical.propDecidable _)
theorem textOk_true {s : ByteArray} : textOk s = true ↔ printP s ∧ s.size ≤ 60 := by simp [textOk]
theorem textOk_false {s : ByteArray} : textOk s = false ↔ ¬ (printP s ∧ s.size ≤ 60) := by simp [textOk]
/- loop.example/teagle/impl.isText -/
def r104_0 : List AOper := [ao 0 2 (.mv (.k (.b false)))]
def r104_1 : List AOper := [ao 0 4 (.mv (.t 0)),
  ao 1 5 (.lenS (.t 4)),
  ao 2 6 (.mv (.k (.i 0)))]
def r104_2 : List AOper := [ao 0 7 (.bin .lss (.t 6) (.t 5))]
def c104_3 : ACode := .cond (.t 7) .skip (.exit 0)
def r104_4 : List AOper := [ao 0 8 (.mv (.t 6)),
  ao 1 3 (.mv (.t 8))]
def r104_5 : List AOper := [ao 0 9 (.mv (.t 0)),
  ao 1 10 (.mv (.t 3)),
  ao 2 11 (.ix (.t 9) (.t 10)),
  ao 3 12 (.bin .lss (.t 11) (.k (.s (.int .u8 32)))),
  ao 4 13 (.mv (.t 12)),
  ag 5 14 13 false [] (.mv (.t 0)),
  ag 6 15 13 false [] (.mv (.t 3)),
  ag 7 16 13 false [] (.ix (.t 14) (.t 15)),
  ag 8 17 13 false [] (.bin .gtr (.t 16) (.k (.s (.int .u8 126)))),
  ao 9 18 (.pick (.t 13) (.k (.b true)) (.t 17)),
  ao 10 19 (.mv (.t 18)),
  ag 11 20 19 false [] (.mv (.t 0)),
  ag 12 21 19 false [] (.mv (.t 3)),
  ag 13 22 19 false [] (.ix (.t 20) (.t 21)),
  ag 14 23 19 false [] (.bin .eql (.t 22) (.k (.s (.int .u8 34)))),
  ao 15 24 (.pick (.t 19) (.k (.b true)) (.t 23))]
def r104_6 : List AOper := [ao 0 2 (.mv (.k (.b false)))]
def c104_7 : ACode := .seq (.reg r104_6) .ret
def c104_8 : ACode := .cond (.t 24) c104_7 .skip
def c104_9 : ACode := .seq (.reg r104_4) (.seq (.reg r104_5) c104_8)
def c104_10 : ACode := .block 1 c104_9
def r104_11 : List AOper := [ao 0 25 (.bin .add (.t 6) (.k (.i 1))),
  ao 1 6 (.mv (.t 25))]
def c104_12 : ACode := .seq (.reg r104_2) (.seq c104_3 (.seq c104_10 (.reg r104_11)))
def c104_13 : ACode := .loop c104_12
def c104_14 : ACode := .block 0 c104_13
def c104_15 : ACode := .seq (.reg r104_1) c104_14
def r104_16 : List AOper := [ao 0 26 (.mv (.t 0)),
  ao 1 27 (.lenS (.t 26)),
  ao 2 28 (.bin .leq (.t 27) (.k (.i 60))),
  ao 3 2 (.mv (.t 28))]
def c104 : ACode := .seq (.reg r104_0) (.seq c104_15 (.seq (.reg r104_16) .ret))
def s104 : List ARes := [.tmp 2]
theorem ok104 : okF Try.prog 104 29 c104 s104 := ⟨Try.f104, Try.func104, Try.ntmps104, by kernel_rfl, by kernel_rfl, by kernel_rfl⟩
def inv104 (s : ByteArray) (i : Nat) (σ : St) : Prop := (∀ (j : Nat) b, j < i → s.data[j]? = some b → printB b) ∧ σ.t 0 = .s (.string s) ∧ σ.t 5 = .i s.size ∧ σ.t 6 = .i i
theorem ULe_2 : (type_of% (uA c104.eq_1)) ∧ (type_of% (uR r104_0.eq_1)) ∧ (type_of% (uA c104_15.eq_1)) ∧ (type_of% (uR r104_1.eq_1)) ∧ (type_of% (uA c104_14.eq_1)) ∧ (type_of% (uA c104_13.eq_1)) ∧ (type_of% (uR r104_16.eq_1)) ∧ (type_of% s104.eq_1) :=
  ⟨uA c104.eq_1, uR r104_0.eq_1, uA c104_15.eq_1, uR r104_1.eq_1, uA c104_14.eq_1, uA c104_13.eq_1, uR r104_16.eq_1, s104.eq_1⟩
theorem ULe_4 : (type_of% (uA c104_12.eq_1)) ∧ (type_of% (uR r104_2.eq_1)) ∧ (type_of% (uA c104_3.eq_1)) ∧ (type_of% (uA c104_10.eq_1)) ∧ (type_of% (uA c104_9.eq_1)) ∧ (type_of% (uR r104_4.eq_1)) ∧ (type_of% (uR r104_5.eq_1)) ∧ (type_of% (uA c104_8.eq_1)) ∧ (type_of% (uA c104_7.eq_1)) ∧ (type_of% (uR r104_6.eq_1)) ∧ (type_of% (uR r104_11.eq_1)) ∧ (type_of% (uA c104.eq_1)) ∧ (type_of% (uR r104_0.eq_1)) ∧ (type_of% (uA c104_15.eq_1)) ∧ (type_of% (uR r104_1.eq_1)) ∧ (type_of% (uA c104_14.eq_1)) ∧ (type_of% (uA c104_13.eq_1)) ∧ (type_of% (uR r104_16.eq_1)) ∧ (type_of% s104.eq_1) :=
  ⟨uA c104_12.eq_1, uR r104_2.eq_1, uA c104_3.eq_1, uA c104_10.eq_1, uA c104_9.eq_1, uR r104_4.eq_1, uR r104_5.eq_1, uA c104_8.eq_1, uA c104_7.eq_1, uR r104_6.eq_1, uR r104_11.eq_1, uA c104.eq_1, uR r104_0.eq_1, uA c104_15.eq_1, uR r104_1.eq_1, uA c104_14.eq_1, uA c104_13.eq_1, uR r104_16.eq_1, s104.eq_1⟩
theorem isText_ok (s : ByteArray) (hs : s.size ≤ 4611686018427387904) : ACallsF Try.prog 104 [.s (.string s)] [] (.b (textOk s)) := by
  refine ACallsF.intro ok104 follows fun X c0 => ?_
  simp only [RUN, core, T.c, T.s, T.b, T.i, sBin, sInt, sUn, isShift, asInt, P1.cells, loadT, ptrC, storeT, putC, fillP, Nat.reduceAdd, reduceIte, Nat.reduceEqDiff, Nat.reduceLT, Nat.reduceLeDiff, reduceCtorEq, eq_self, FIT, lendCs_map, verC_map, FinC, resPs, resP, lendPl, lendCs, lendC, sealC, partsT, finHs, tupT, verT, verP, verC, verB, verAt, Blk.ver, handsAre, forall_const, ULe_2]
  refine AW.upto s.size (inv104 s) ⟨fun j _ hj => absurd hj (Nat.not_lt_zero j), rfl, rfl, rfl⟩ fun i t H c hi h => ?_
  obtain ⟨g0, e0, e5, e6⟩ := h
  simp only [T.c, T.i, T.s] at e0 e5 e6
  by_cases hlt : i < s.size
  · have g1 : (i : Int) < s.size := by omega
    have gz : (0 : Int) ≤ i := by omega
    have gw : IntKind.i64.wrap ((i : Int) + 1) = ((i + 1 : Nat) : Int) := wrap64 (x := (i : Int) + 1) ⟨by omega, by omega⟩
    obtain ⟨b, hb⟩ : ∃ b, s.data[i]? = some b := ⟨_, Array.getElem?_eq_getElem (by rw [← size_data]; omega)⟩
    have hbad : ¬ printB b → textOk s = false := fun h => textOk_false.2 fun h2 => h (h2.1 i b hb)
    by_cases k1 : (b.toNat : Int) < 32
    · have hm := hbad fun h => h.1 k1
      simp only [RUN, core, T.c, T.s, T.b, T.i, sBin, sInt, sUn, isShift, asInt, P1.cells, loadT, ptrC, storeT, putC, fillP, Nat.reduceAdd, reduceIte, Nat.reduceEqDiff, Nat.reduceLT, Nat.reduceLeDiff, reduceCtorEq, eq_self, FIT, lendCs_map, verC_map, FinC, resPs, resP, lendPl, lendCs, lendC, sealC, partsT, finHs, tupT, verT, verP, verC, verB, verAt, Blk.ver, handsAre, forall_const, ULe_4, e0, e5, e6, g1, gz, hb, Int.toNat_natCast, k1, hm]
    by_cases k2 : (b.toNat : Int) > 126
    · have hm := hbad fun h => h.2.1 k2
      simp only [RUN, core, T.c, T.s, T.b, T.i, sBin, sInt, sUn, isShift, asInt, P1.cells, loadT, ptrC, storeT, putC, fillP, Nat.reduceAdd, reduceIte, Nat.reduceEqDiff, Nat.reduceLT, Nat.reduceLeDiff, reduceCtorEq, eq_self, FIT, lendCs_map, verC_map, FinC, resPs, resP, lendPl, lendCs, lendC, sealC, partsT, finHs, tupT, verT, verP, verC, verB, verAt, Blk.ver, handsAre, forall_const, ULe_4, e0, e5, e6, g1, gz, hb, Int.toNat_natCast, k1, k2, hm]
    by_cases k3 : (b.toNat : Int) = 34
    · have hm := hbad fun h => h.2.2 k3
      have k3b : ((b.toNat : Int) == 34) = true := beq_iff_eq.2 k3
      simp only [RUN, core, T.c, T.s, T.b, T.i, sBin, sInt, sUn, isShift, asInt, P1.cells, loadT, ptrC, storeT, putC, fillP, Nat.reduceAdd, reduceIte, Nat.reduceEqDiff, Nat.reduceLT, Nat.reduceLeDiff, reduceCtorEq, eq_self, FIT, lendCs_map, verC_map, FinC, resPs, resP, lendPl, lendCs, lendC, sealC, partsT, finHs, tupT, verT, verP, verC, verB, verAt, Blk.ver, handsAre, forall_const, ULe_4, e0, e5, e6, g1, gz, hb, Int.toNat_natCast, k1, k2, k3b, hm]
    · have k3b : ((b.toNat : Int) == 34) = false := beq_eq_false_iff_ne.2 k3
      simp only [RUN, core, T.c, T.s, T.b, T.i, sBin, sInt, sUn, isShift, asInt, P1.cells, loadT, ptrC, storeT, putC, fillP, Nat.reduceAdd, reduceIte, Nat.reduceEqDiff, Nat.reduceLT, Nat.reduceLeDiff, reduceCtorEq, eq_self, FIT, lendCs_map, verC_map, FinC, resPs, resP, lendPl, lendCs, lendC, sealC, partsT, finHs, tupT, verT, verP, verC, verB, verAt, Blk.ver, handsAre, forall_const, ULe_4, e0, e5, e6, g1, gz, hb, Int.toNat_natCast, k1, k2, k3b, gw]
      refine ⟨hlt, fun j b' hj hj2 => ?_, e0, e5, rfl⟩
      rcases Nat.lt_succ_iff_lt_or_eq.1 hj with hj | rfl
      · exact g0 j b' hj hj2
      · rw [hb] at hj2; cases hj2; exact ⟨k1, k2, k3⟩
  · have g1 : ¬ (i : Int) < s.size := by omega
    have hp : printP s := fun j b hj => g0 j b (by have := (Array.getElem?_eq_some_iff.1 hj).1; rw [size_data] at hlt; omega) hj
    have hm : textOk s = decide ((s.size : Int) ≤ 60) := by
      by_cases h : s.size ≤ 60
      · rw [textOk_true.2 ⟨hp, h⟩]; exact (decide_eq_true (by omega)).symm
      · rw [textOk_false.2 fun h2 => h h2.2]; exact (decide_eq_false (by omega)).symm
    simp only [RUN, core, T.c, T.s, T.b, T.i, sBin, sInt, sUn, isShift, asInt, P1.cells, loadT, ptrC, storeT, putC, fillP, Nat.reduceAdd, reduceIte, Nat.reduceEqDiff, Nat.reduceLT, Nat.reduceLeDiff, reduceCtorEq, eq_self, FIT, lendCs_map, verC_map, FinC, resPs, resP, lendPl, lendCs, lendC, sealC, partsT, finHs, tupT, verT, verP, verC, verB, verAt, Blk.ver, handsAre, forall_const, ULe_4, ULe_2, e0, e5, e6, g1, hm]
/- (loop.example/teagle/impl.Tree).shapeOk -/
def r87_0 : List AOper := [ao 0 1 (.box 29 (.t 0)),
  ao 1 2 (.mv (.k (.b false)))]
def r87_1 : List AOper := [ao 0 3 (.fa 0 (.t 1)),
  ao 1 4 (.ld 1 false (.t 3))]
def r87_2 : List AOper := [ao 0 6 (.bin .eql (.t 4) (.k (.i 1))),
  ao 1 5 (.mv (.t 6))]
def r87_3 : List AOper := [ao 0 7 (.fa 1 (.t 1)),
  ao 1 8 (.ld 1 false (.t 7)),
  ao 2 9 (.call (.k (.c (.fn 103 []))) [(.t 8)]),
  ao 3 10 (.mv (.t 9)),
  ag 4 11 10 true [] (.fa 2 (.t 1)),
  ag 5 12 10 true [] (.ld 1 false (.t 11)),
  ag 6 13 10 true [] (.bin .eql (.t 12) (.k (.s (.string ⟨#[]⟩)))),
  ao 7 14 (.pick (.t 10) (.t 13) (.k (.b false))),
  ao 8 15 (.mv (.t 14)),
  ag 9 16 15 true [] (.fa 3 (.t 1)),
  ag 10 17 15 true [] (.ld 1 false (.t 16)),
  ag 11 18 15 true [] (.len (.t 17)),
  ag 12 19 15 true [] (.fa 4 (.t 1)),
  ag 13 20 15 true [] (.ld 1 false (.t 19)),
  ag 14 21 15 true [] (.len (.t 20)),
  ag 15 22 15 true [] (.bin .add (.t 18) (.t 21)),
  ag 16 23 15 true [] (.bin .eql (.t 22) (.k (.i 0))),
  ao 17 24 (.pick (.t 15) (.t 23) (.k (.b false))),
  ao 18 2 (.mv (.t 24))]
def c87_4 : ACode := .seq (.reg r87_3) .ret
def r87_5 : List AOper := [ao 0 26 (.bin .eql (.t 4) (.k (.i 2))),
  ao 1 25 (.mv (.t 26))]
def r87_6 : List AOper := [ao 0 27 (.fa 1 (.t 1)),
  ao 1 28 (.ld 1 false (.t 27)),
  ao 2 29 (.bin .eql (.t 28) (.k (.i 0))),
  ao 3 30 (.mv (.t 29)),
  ag 4 31 30 true [] (.fa 2 (.t 1)),
  ag 5 32 30 true [] (.ld 1 false (.t 31)),
  ag 6 33 30 true [] (.call (.k (.c (.fn 104 []))) [(.t 32)]),
  ao 7 34 (.pick (.t 30) (.t 33) (.k (.b false))),
  ao 8 35 (.mv (.t 34)),
  ag 9 36 35 true [] (.fa 3 (.t 1)),
  ag 10 37 35 true [] (.ld 1 false (.t 36)),
  ag 11 38 35 true [] (.len (.t 37)),
  ag 12 39 35 true [] (.fa 4 (.t 1)),
  ag 13 40 35 true [] (.ld 1 false (.t 39)),
  ag 14 41 35 true [] (.len (.t 40)),
  ag 15 42 35 true [] (.bin .add (.t 38) (.t 41)),
  ag 16 43 35 true [] (.bin .eql (.t 42) (.k (.i 0))),
  ao 17 44 (.pick (.t 35) (.t 43) (.k (.b false))),
  ao 18 2 (.mv (.t 44))]
def c87_7 : ACode := .seq (.reg r87_6) .ret
def r87_8 : List AOper := [ao 0 46 (.bin .eql (.t 4) (.k (.i 3))),
  ao 1 45 (.mv (.t 46))]
def r87_9 : List AOper := [ao 0 47 (.fa 1 (.t 1)),
  ao 1 48 (.ld 1 false (.t 47)),
  ao 2 49 (.call (.k (.c (.fn 105 []))) [(.t 48), (.k (.i 0)), (.k (.i 1))]),
  ao 3 50 (.mv (.t 49)),
  ag 4 51 50 true [] (.fa 2 (.t 1)),
  ag 5 52 50 true [] (.ld 1 false (.t 51)),
  ag 6 53 50 true [] (.bin .eql (.t 52) (.k (.s (.string ⟨#[]⟩)))),
  ao 7 54 (.pick (.t 50) (.t 53) (.k (.b false))),
  ao 8 55 (.mv (.t 54)),
  ag 9 56 55 true [] (.fa 3 (.t 1)),
  ag 10 57 55 true [] (.ld 1 false (.t 56)),
  ag 11 58 55 true [] (.len (.t 57)),
  ag 12 59 55 true [] (.fa 4 (.t 1)),
  ag 13 60 55 true [] (.ld 1 false (.t 59)),
  ag 14 61 55 true [] (.len (.t 60)),
  ag 15 62 55 true [] (.bin .add (.t 58) (.t 61)),
  ag 16 63 55 true [] (.bin .eql (.t 62) (.k (.i 0))),
  ao 17 64 (.pick (.t 55) (.t 63) (.k (.b false))),
  ao 18 2 (.mv (.t 64))]
def c87_10 : ACode := .seq (.reg r87_9) .ret
def r87_11 : List AOper := [ao 0 66 (.bin .eql (.t 4) (.k (.i 4))),
  ao 1 65 (.mv (.t 66))]
def r87_12 : List AOper := [ao 0 67 (.fa 1 (.t 1)),
  ao 1 68 (.ld 1 false (.t 67)),
  ao 2 69 (.bin .eql (.t 68) (.k (.i 0))),
  ao 3 70 (.mv (.t 69)),
  ag 4 71 70 true [] (.fa 2 (.t 1)),
  ag 5 72 70 true [] (.ld 1 false (.t 71)),
  ag 6 73 70 true [] (.bin .eql (.t 72) (.k (.s (.string ⟨#[]⟩)))),
  ao 7 74 (.pick (.t 70) (.t 73) (.k (.b false))),
  ao 8 75 (.mv (.t 74)),
  ag 9 76 75 true [] (.fa 3 (.t 1)),
  ag 10 77 75 true [] (.ld 1 false (.t 76)),
  ag 11 78 75 true [] (.len (.t 77)),
  ag 12 79 75 true [] (.bin .eql (.t 78) (.k (.i 0))),
  ao 13 80 (.pick (.t 75) (.t 79) (.k (.b false))),
  ao 14 81 (.mv (.t 80)),
  ag 15 82 81 true [] (.fa 4 (.t 1)),
  ag 16 83 81 true [] (.ld 1 false (.t 82)),
  ag 17 84 81 true [] (.len (.t 83)),
  ag 18 85 81 true [] (.bin .leq (.t 84) (.k (.i 20))),
  ao 19 86 (.pick (.t 81) (.t 85) (.k (.b false))),
  ao 20 2 (.mv (.t 86))]
def c87_13 : ACode := .seq (.reg r87_12) .ret
def r87_14 : List AOper := [ao 0 88 (.bin .eql (.t 4) (.k (.i 5))),
  ao 1 87 (.mv (.t 88))]
def r87_15 : List AOper := [ao 0 89 (.fa 1 (.t 1)),
  ao 1 90 (.ld 1 false (.t 89)),
  ao 2 91 (.bin .eql (.t 90) (.k (.i 0))),
  ao 3 92 (.mv (.t 91)),
  ag 4 93 92 true [] (.fa 2 (.t 1)),
  ag 5 94 92 true [] (.ld 1 false (.t 93)),
  ag 6 95 92 true [] (.bin .eql (.t 94) (.k (.s (.string ⟨#[]⟩)))),
  ao 7 96 (.pick (.t 92) (.t 95) (.k (.b false))),
  ao 8 97 (.mv (.t 96)),
  ag 9 98 97 true [] (.fa 3 (.t 1)),
  ag 10 99 97 true [] (.ld 1 false (.t 98)),
  ag 11 100 97 true [] (.call (.k (.c (.fn 106 []))) [(.t 99)]),
  ao 12 101 (.pick (.t 97) (.t 100) (.k (.b false))),
  ao 13 102 (.mv (.t 101)),
  ag 14 103 102 true [] (.fa 3 (.t 1)),
  ag 15 104 102 true [] (.ld 1 false (.t 103)),
  ag 16 105 102 true [] (.len (.t 104)),
  ag 17 106 102 true [] (.fa 4 (.t 1)),
  ag 18 107 102 true [] (.ld 1 false (.t 106)),
  ag 19 108 102 true [] (.len (.t 107)),
  ag 20 109 102 true [] (.bin .eql (.t 105) (.t 108)),
  ao 21 110 (.pick (.t 102) (.t 109) (.k (.b false))),
  ao 22 2 (.mv (.t 110))]
def c87_16 : ACode := .seq (.reg r87_15) .ret
def r87_17 : List AOper := [ao 0 112 (.bin .eql (.t 4) (.k (.i 6))),
  ao 1 111 (.mv (.t 112))]
def r87_18 : List AOper := [ao 0 113 (.fa 1 (.t 1)),
  ao 1 114 (.ld 1 false (.t 113)),
  ao 2 115 (.bin .eql (.t 114) (.k (.i 0))),
  ao 3 116 (.mv (.t 115)),
  ag 4 117 116 true [] (.fa 2 (.t 1)),
  ag 5 118 116 true [] (.ld 1 false (.t 117)),
  ag 6 119 116 true [] (.bin .eql (.t 118) (.k (.s (.string ⟨#[]⟩)))),
  ao 7 120 (.pick (.t 116) (.t 119) (.k (.b false))),
  ao 8 121 (.mv (.t 120)),
  ag 9 122 121 true [] (.fa 3 (.t 1)),
  ag 10 123 121 true [] (.ld 1 false (.t 122)),
  ag 11 124 121 true [] (.len (.t 123)),
  ag 12 125 121 true [] (.bin .eql (.t 124) (.k (.i 0))),
  ao 13 126 (.pick (.t 121) (.t 125) (.k (.b false))),
  ao 14 127 (.mv (.t 126)),
  ag 15 128 127 true [] (.fa 4 (.t 1)),
  ag 16 129 127 true [] (.ld 1 false (.t 128)),
  ag 17 130 127 true [] (.len (.t 129)),
  ag 18 131 127 true [] (.bin .leq (.t 130) (.k (.i 1))),
  ao 19 132 (.pick (.t 127) (.t 131) (.k (.b false))),
  ao 20 2 (.mv (.t 132))]
def c87_19 : ACode := .seq (.reg r87_18) .ret
def c87_20 : ACode := .cond (.t 111) c87_19 .skip
def c87_21 : ACode := .seq (.reg r87_17) c87_20
def c87_22 : ACode := .cond (.t 87) c87_16 c87_21
def c87_23 : ACode := .seq (.reg r87_14) c87_22
def c87_24 : ACode := .cond (.t 65) c87_13 c87_23
def c87_25 : ACode := .seq (.reg r87_11) c87_24
def c87_26 : ACode := .cond (.t 45) c87_10 c87_25
def c87_27 : ACode := .seq (.reg r87_8) c87_26
def c87_28 : ACode := .cond (.t 25) c87_7 c87_27
def c87_29 : ACode := .seq (.reg r87_5) c87_28
def c87_30 : ACode := .cond (.t 5) c87_4 c87_29
def c87_31 : ACode := .seq (.reg r87_2) c87_30
def c87_32 : ACode := .block 0 c87_31
def c87_33 : ACode := .seq (.reg r87_1) c87_32
def r87_34 : List AOper := [ao 0 2 (.mv (.k (.b false)))]
def c87 : ACode := .seq (.reg r87_0) (.seq c87_33 (.seq (.reg r87_34) .ret))
def s87 : List ARes := [.tmp 2]
theorem ok87 : okF Try.prog 87 133 c87 s87 := ⟨Try.f87, Try.func87, Try.ntmps87, by kernel_rfl, by kernel_rfl, by kernel_rfl⟩
abbrev emptyB : ByteArray := ⟨#[]⟩
noncomputable def tshape (s n : Int) (x : ByteArray) (ns : List ByteArray) (m : Nat) : Bool :=
  if s = 1 then (decide (-999999999 ≤ n) && decide (n ≤ 999999999)) && (decide (x = ⟨#[]⟩) && ((ns.length : Int) + (m : Int) == 0))
  else if s = 2 then (n == 0) && (textOk x && ((ns.length : Int) + (m : Int) == 0))
  else if s = 3 then (decide (0 ≤ n) && decide (n ≤ 1)) && (decide (x = ⟨#[]⟩) && ((ns.length : Int) + (m : Int) == 0))
  else if s = 4 then (n == 0) && (decide (x = ⟨#[]⟩) && (((ns.length : Int) == 0) && decide ((m : Int) ≤ 20)))
  else if s = 5 then (n == 0) && (decide (x = ⟨#[]⟩) && (rise ns && ((ns.length : Int) == (m : Int))))
  else if s = 6 then (n == 0) && (decide (x = ⟨#[]⟩) && (((ns.length : Int) == 0) && decide ((m : Int) ≤ 1)))
  else false
theorem ULe_3 : (type_of% (uA c87.eq_1)) ∧ (type_of% (uR r87_0.eq_1)) ∧ (type_of% (uA c87_33.eq_1)) ∧ (type_of% (uR r87_1.eq_1)) ∧ (type_of% (uA c87_32.eq_1)) ∧ (type_of% (uA c87_31.eq_1)) ∧ (type_of% (uR r87_2.eq_1)) ∧ (type_of% (uA c87_30.eq_1)) ∧ (type_of% (uA c87_4.eq_1)) ∧ (type_of% (uR r87_3.eq_1)) ∧ (type_of% (uA c87_29.eq_1)) ∧ (type_of% (uR r87_5.eq_1)) ∧ (type_of% (uA c87_28.eq_1)) ∧ (type_of% (uA c87_7.eq_1)) ∧ (type_of% (uR r87_6.eq_1)) ∧ (type_of% (uA c87_27.eq_1)) ∧ (type_of% (uR r87_8.eq_1)) ∧ (type_of% (uA c87_26.eq_1)) ∧ (type_of% (uA c87_10.eq_1)) ∧ (type_of% (uR r87_9.eq_1)) ∧ (type_of% (uA c87_25.eq_1)) ∧ (type_of% (uR r87_11.eq_1)) ∧ (type_of% (uA c87_24.eq_1)) ∧ (type_of% (uA c87_13.eq_1)) ∧ (type_of% (uR r87_12.eq_1)) ∧ (type_of% (uA c87_23.eq_1)) ∧ (type_of% (uR r87_14.eq_1)) ∧ (type_of% (uA c87_22.eq_1)) ∧ (type_of% (uA c87_16.eq_1)) ∧ (type_of% (uR r87_15.eq_1)) ∧ (type_of% (uA c87_21.eq_1)) ∧ (type_of% (uR r87_17.eq_1)) ∧ (type_of% (uA c87_20.eq_1)) ∧ (type_of% (uA c87_19.eq_1)) ∧ (type_of% (uR r87_18.eq_1)) ∧ (type_of% (uR r87_34.eq_1)) ∧ (type_of% s87.eq_1) :=
  ⟨uA c87.eq_1, uR r87_0.eq_1, uA c87_33.eq_1, uR r87_1.eq_1, uA c87_32.eq_1, uA c87_31.eq_1, uR r87_2.eq_1, uA c87_30.eq_1, uA c87_4.eq_1, uR r87_3.eq_1, uA c87_29.eq_1, uR r87_5.eq_1, uA c87_28.eq_1, uA c87_7.eq_1, uR r87_6.eq_1, uA c87_27.eq_1, uR r87_8.eq_1, uA c87_26.eq_1, uA c87_10.eq_1, uR r87_9.eq_1, uA c87_25.eq_1, uR r87_11.eq_1, uA c87_24.eq_1, uA c87_13.eq_1, uR r87_12.eq_1, uA c87_23.eq_1, uR r87_14.eq_1, uA c87_22.eq_1, uA c87_16.eq_1, uR r87_15.eq_1, uA c87_21.eq_1, uR r87_17.eq_1, uA c87_20.eq_1, uA c87_19.eq_1, uR r87_18.eq_1, uR r87_34.eq_1, s87.eq_1⟩
theorem tshape_ok (s n : Int) (x : ByteArray) (ns : List ByteArray) (ks : List Tr) (hx : x.size ≤ 1000000) (hl : ns.length ≤ 1000000 ∧ ks.length ≤ 1000000) (hs : ∀ s ∈ ns, s.size ≤ 1000000) : ACallsF Try.prog 87 [tT (.mk s n x ns ks)] [] (.b (tshape s n x ns ks.length)) := by
  have w1 : IntKind.i64.wrap ((ns.length : Int) + (ks.length : Int)) = (ns.length : Int) + (ks.length : Int) := wrap64 ⟨by omega, by omega⟩
  refine ACallsF.intro ok87 follows fun X c0 => ?_
  by_cases h1 : s = 1
  · subst h1
    have hm : tshape 1 n x ns ks.length = ((decide (-999999999 ≤ n) && decide (n ≤ 999999999)) && (decide (x = ⟨#[]⟩) && ((ns.length : Int) + (ks.length : Int) == 0))) := if_pos rfl
    simp only [RUN, core, T.c, T.s, T.b, T.i, sBin, sInt, sUn, isShift, asInt, P1.cells, loadT, ptrC, storeT, putC, fillP, Nat.reduceAdd, reduceIte, Nat.reduceEqDiff, Nat.reduceLT, Nat.reduceLeDiff, reduceCtorEq, eq_self, FIT, lendCs_map, verC_map, FinC, resPs, resP, lendPl, lendCs, lendC, sealC, partsT, finHs, tupT, verT, verP, verC, verB, verAt, Blk.ver, handsAre, forall_const, CHT, disj, Nat.reduceBEq, beq_self_eq_true, APT, srcOf, sealPs, sealCs, sealC, List.mem_singleton, forall_eq, ALT, ULe_3, encT_mk, encTs_len, encS_len, Int.reduceBEq]
    refine callC (isNum_ok n) rfl rfl rfl rfl ?_
    rw [hm]
    generalize (decide (-999999999 ≤ n) && decide (n ≤ 999999999)) = A
    cases A
    · simp only [RUN, core, T.c, T.s, T.b, T.i, sBin, sInt, sUn, isShift, asInt, P1.cells, loadT, ptrC, storeT, putC, fillP, Nat.reduceAdd, reduceIte, Nat.reduceEqDiff, Nat.reduceLT, Nat.reduceLeDiff, reduceCtorEq, eq_self, FIT, lendCs_map, verC_map, FinC, resPs, resP, lendPl, lendCs, lendC, sealC, partsT, finHs, tupT, verT, verP, verC, verB, verAt, Blk.ver, handsAre, forall_const, CHT, disj, Nat.reduceBEq, beq_self_eq_true, APT, srcOf, sealPs, sealCs, sealC, List.mem_singleton, forall_eq, ALT, ULe_3, encT_mk, encTs_len, encS_len]
    by_cases hx0 : x = ⟨#[]⟩
    · simp only [RUN, core, T.c, T.s, T.b, T.i, sBin, sInt, sUn, isShift, asInt, P1.cells, loadT, ptrC, storeT, putC, fillP, Nat.reduceAdd, reduceIte, Nat.reduceEqDiff, Nat.reduceLT, Nat.reduceLeDiff, reduceCtorEq, eq_self, FIT, lendCs_map, verC_map, FinC, resPs, resP, lendPl, lendCs, lendC, sealC, partsT, finHs, tupT, verT, verP, verC, verB, verAt, Blk.ver, handsAre, forall_const, CHT, disj, Nat.reduceBEq, beq_self_eq_true, APT, srcOf, sealPs, sealCs, sealC, List.mem_singleton, forall_eq, ALT, ULe_3, encT_mk, encTs_len, encS_len, sStr, str_beq, hx0, w1]
    · simp only [RUN, core, T.c, T.s, T.b, T.i, sBin, sInt, sUn, isShift, asInt, P1.cells, loadT, ptrC, storeT, putC, fillP, Nat.reduceAdd, reduceIte, Nat.reduceEqDiff, Nat.reduceLT, Nat.reduceLeDiff, reduceCtorEq, eq_self, FIT, lendCs_map, verC_map, FinC, resPs, resP, lendPl, lendCs, lendC, sealC, partsT, finHs, tupT, verT, verP, verC, verB, verAt, Blk.ver, handsAre, forall_const, CHT, disj, Nat.reduceBEq, beq_self_eq_true, APT, srcOf, sealPs, sealCs, sealC, List.mem_singleton, forall_eq, ALT, ULe_3, encT_mk, encTs_len, encS_len, sStr, str_beq, hx0, w1]
  have b1 : (s == 1) = false := beq_eq_false_iff_ne.2 h1
  by_cases h2 : s = 2
  · subst h2
    have hm : tshape 2 n x ns ks.length = ((n == 0) && (textOk x && ((ns.length : Int) + (ks.length : Int) == 0))) := rfl
    rw [hm]
    cases hn : (n == 0) with
    | false => simp only [RUN, core, T.c, T.s, T.b, T.i, sBin, sInt, sUn, isShift, asInt, P1.cells, loadT, ptrC, storeT, putC, fillP, Nat.reduceAdd, reduceIte, Nat.reduceEqDiff, Nat.reduceLT, Nat.reduceLeDiff, reduceCtorEq, eq_self, FIT, lendCs_map, verC_map, FinC, resPs, resP, lendPl, lendCs, lendC, sealC, partsT, finHs, tupT, verT, verP, verC, verB, verAt, Blk.ver, handsAre, forall_const, CHT, disj, Nat.reduceBEq, beq_self_eq_true, APT, srcOf, sealPs, sealCs, sealC, List.mem_singleton, forall_eq, ALT, ULe_3, encT_mk, encTs_len, encS_len, Int.reduceBEq, hn]
    | true =>
      simp only [RUN, core, T.c, T.s, T.b, T.i, sBin, sInt, sUn, isShift, asInt, P1.cells, loadT, ptrC, storeT, putC, fillP, Nat.reduceAdd, reduceIte, Nat.reduceEqDiff, Nat.reduceLT, Nat.reduceLeDiff, reduceCtorEq, eq_self, FIT, lendCs_map, verC_map, FinC, resPs, resP, lendPl, lendCs, lendC, sealC, partsT, finHs, tupT, verT, verP, verC, verB, verAt, Blk.ver, handsAre, forall_const, CHT, disj, Nat.reduceBEq, beq_self_eq_true, APT, srcOf, sealPs, sealCs, sealC, List.mem_singleton, forall_eq, ALT, ULe_3, encT_mk, encTs_len, encS_len, Int.reduceBEq, hn]
      refine callC (isText_ok x (by omega)) rfl rfl rfl rfl ?_
      cases ht : textOk x with
      | false => simp only [RUN, core, T.c, T.s, T.b, T.i, sBin, sInt, sUn, isShift, asInt, P1.cells, loadT, ptrC, storeT, putC, fillP, Nat.reduceAdd, reduceIte, Nat.reduceEqDiff, Nat.reduceLT, Nat.reduceLeDiff, reduceCtorEq, eq_self, FIT, lendCs_map, verC_map, FinC, resPs, resP, lendPl, lendCs, lendC, sealC, partsT, finHs, tupT, verT, verP, verC, verB, verAt, Blk.ver, handsAre, forall_const, CHT, disj, Nat.reduceBEq, beq_self_eq_true, APT, srcOf, sealPs, sealCs, sealC, List.mem_singleton, forall_eq, ALT, ULe_3, encT_mk, encTs_len, encS_len]
      | true => simp only [RUN, core, T.c, T.s, T.b, T.i, sBin, sInt, sUn, isShift, asInt, P1.cells, loadT, ptrC, storeT, putC, fillP, Nat.reduceAdd, reduceIte, Nat.reduceEqDiff, Nat.reduceLT, Nat.reduceLeDiff, reduceCtorEq, eq_self, FIT, lendCs_map, verC_map, FinC, resPs, resP, lendPl, lendCs, lendC, sealC, partsT, finHs, tupT, verT, verP, verC, verB, verAt, Blk.ver, handsAre, forall_const, CHT, disj, Nat.reduceBEq, beq_self_eq_true, APT, srcOf, sealPs, sealCs, sealC, List.mem_singleton, forall_eq, ALT, ULe_3, encT_mk, encTs_len, encS_len, w1]
  have b2 : (s == 2) = false := beq_eq_false_iff_ne.2 h2
  by_cases h3 : s = 3
  · subst h3
    have hm : tshape 3 n x ns ks.length = ((decide (0 ≤ n) && decide (n ≤ 1)) && (decide (x = ⟨#[]⟩) && ((ns.length : Int) + (ks.length : Int) == 0))) := rfl
    simp only [RUN, core, T.c, T.s, T.b, T.i, sBin, sInt, sUn, isShift, asInt, P1.cells, loadT, ptrC, storeT, putC, fillP, Nat.reduceAdd, reduceIte, Nat.reduceEqDiff, Nat.reduceLT, Nat.reduceLeDiff, reduceCtorEq, eq_self, FIT, lendCs_map, verC_map, FinC, resPs, resP, lendPl, lendCs, lendC, sealC, partsT, finHs, tupT, verT, verP, verC, verB, verAt, Blk.ver, handsAre, forall_const, CHT, disj, Nat.reduceBEq, beq_self_eq_true, APT, srcOf, sealPs, sealCs, sealC, List.mem_singleton, forall_eq, ALT, ULe_3, encT_mk, encTs_len, encS_len, Int.reduceBEq]
    refine callC (inRange_ok n 0 1) rfl rfl rfl rfl ?_
    rw [hm]
    generalize (decide (0 ≤ n) && decide (n ≤ 1)) = A
    cases A
    · simp only [RUN, core, T.c, T.s, T.b, T.i, sBin, sInt, sUn, isShift, asInt, P1.cells, loadT, ptrC, storeT, putC, fillP, Nat.reduceAdd, reduceIte, Nat.reduceEqDiff, Nat.reduceLT, Nat.reduceLeDiff, reduceCtorEq, eq_self, FIT, lendCs_map, verC_map, FinC, resPs, resP, lendPl, lendCs, lendC, sealC, partsT, finHs, tupT, verT, verP, verC, verB, verAt, Blk.ver, handsAre, forall_const, CHT, disj, Nat.reduceBEq, beq_self_eq_true, APT, srcOf, sealPs, sealCs, sealC, List.mem_singleton, forall_eq, ALT, ULe_3, encT_mk, encTs_len, encS_len]
    by_cases hx0 : x = ⟨#[]⟩
    · simp only [RUN, core, T.c, T.s, T.b, T.i, sBin, sInt, sUn, isShift, asInt, P1.cells, loadT, ptrC, storeT, putC, fillP, Nat.reduceAdd, reduceIte, Nat.reduceEqDiff, Nat.reduceLT, Nat.reduceLeDiff, reduceCtorEq, eq_self, FIT, lendCs_map, verC_map, FinC, resPs, resP, lendPl, lendCs, lendC, sealC, partsT, finHs, tupT, verT, verP, verC, verB, verAt, Blk.ver, handsAre, forall_const, CHT, disj, Nat.reduceBEq, beq_self_eq_true, APT, srcOf, sealPs, sealCs, sealC, List.mem_singleton, forall_eq, ALT, ULe_3, encT_mk, encTs_len, encS_len, sStr, str_beq, hx0, w1]
    · simp only [RUN, core, T.c, T.s, T.b, T.i, sBin, sInt, sUn, isShift, asInt, P1.cells, loadT, ptrC, storeT, putC, fillP, Nat.reduceAdd, reduceIte, Nat.reduceEqDiff, Nat.reduceLT, Nat.reduceLeDiff, reduceCtorEq, eq_self, FIT, lendCs_map, verC_map, FinC, resPs, resP, lendPl, lendCs, lendC, sealC, partsT, finHs, tupT, verT, verP, verC, verB, verAt, Blk.ver, handsAre, forall_const, CHT, disj, Nat.reduceBEq, beq_self_eq_true, APT, srcOf, sealPs, sealCs, sealC, List.mem_singleton, forall_eq, ALT, ULe_3, encT_mk, encTs_len, encS_len, sStr, str_beq, hx0, w1]
  have b3 : (s == 3) = false := beq_eq_false_iff_ne.2 h3
  by_cases h4 : s = 4
  · subst h4
    have hm : tshape 4 n x ns ks.length = ((n == 0) && (decide (x = ⟨#[]⟩) && (((ns.length : Int) == 0) && decide ((ks.length : Int) ≤ 20)))) := rfl
    rw [hm]
    cases hn : (n == 0) with
    | false => simp only [RUN, core, T.c, T.s, T.b, T.i, sBin, sInt, sUn, isShift, asInt, P1.cells, loadT, ptrC, storeT, putC, fillP, Nat.reduceAdd, reduceIte, Nat.reduceEqDiff, Nat.reduceLT, Nat.reduceLeDiff, reduceCtorEq, eq_self, FIT, lendCs_map, verC_map, FinC, resPs, resP, lendPl, lendCs, lendC, sealC, partsT, finHs, tupT, verT, verP, verC, verB, verAt, Blk.ver, handsAre, forall_const, CHT, disj, Nat.reduceBEq, beq_self_eq_true, APT, srcOf, sealPs, sealCs, sealC, List.mem_singleton, forall_eq, ALT, ULe_3, encT_mk, encTs_len, encS_len, Int.reduceBEq, hn]
    | true =>
      by_cases hx0 : x = ⟨#[]⟩
      · cases hl0 : ((ns.length : Int) == 0) with
        | false => simp only [RUN, core, T.c, T.s, T.b, T.i, sBin, sInt, sUn, isShift, asInt, P1.cells, loadT, ptrC, storeT, putC, fillP, Nat.reduceAdd, reduceIte, Nat.reduceEqDiff, Nat.reduceLT, Nat.reduceLeDiff, reduceCtorEq, eq_self, FIT, lendCs_map, verC_map, FinC, resPs, resP, lendPl, lendCs, lendC, sealC, partsT, finHs, tupT, verT, verP, verC, verB, verAt, Blk.ver, handsAre, forall_const, CHT, disj, Nat.reduceBEq, beq_self_eq_true, APT, srcOf, sealPs, sealCs, sealC, List.mem_singleton, forall_eq, ALT, ULe_3, encT_mk, encTs_len, encS_len, Int.reduceBEq, hn, sStr, str_beq, hx0, hl0]
        | true => simp only [RUN, core, T.c, T.s, T.b, T.i, sBin, sInt, sUn, isShift, asInt, P1.cells, loadT, ptrC, storeT, putC, fillP, Nat.reduceAdd, reduceIte, Nat.reduceEqDiff, Nat.reduceLT, Nat.reduceLeDiff, reduceCtorEq, eq_self, FIT, lendCs_map, verC_map, FinC, resPs, resP, lendPl, lendCs, lendC, sealC, partsT, finHs, tupT, verT, verP, verC, verB, verAt, Blk.ver, handsAre, forall_const, CHT, disj, Nat.reduceBEq, beq_self_eq_true, APT, srcOf, sealPs, sealCs, sealC, List.mem_singleton, forall_eq, ALT, ULe_3, encT_mk, encTs_len, encS_len, Int.reduceBEq, hn, sStr, str_beq, hx0, hl0]
      · simp only [RUN, core, T.c, T.s, T.b, T.i, sBin, sInt, sUn, isShift, asInt, P1.cells, loadT, ptrC, storeT, putC, fillP, Nat.reduceAdd, reduceIte, Nat.reduceEqDiff, Nat.reduceLT, Nat.reduceLeDiff, reduceCtorEq, eq_self, FIT, lendCs_map, verC_map, FinC, resPs, resP, lendPl, lendCs, lendC, sealC, partsT, finHs, tupT, verT, verP, verC, verB, verAt, Blk.ver, handsAre, forall_const, CHT, disj, Nat.reduceBEq, beq_self_eq_true, APT, srcOf, sealPs, sealCs, sealC, List.mem_singleton, forall_eq, ALT, ULe_3, encT_mk, encTs_len, encS_len, Int.reduceBEq, hn, sStr, str_beq, hx0]
  have b4 : (s == 4) = false := beq_eq_false_iff_ne.2 h4
  by_cases h5 : s = 5
  · subst h5
    have hm : tshape 5 n x ns ks.length = ((n == 0) && (decide (x = ⟨#[]⟩) && (rise ns && ((ns.length : Int) == (ks.length : Int))))) := rfl
    rw [hm]
    cases hn : (n == 0) with
    | false => simp only [RUN, core, T.c, T.s, T.b, T.i, sBin, sInt, sUn, isShift, asInt, P1.cells, loadT, ptrC, storeT, putC, fillP, Nat.reduceAdd, reduceIte, Nat.reduceEqDiff, Nat.reduceLT, Nat.reduceLeDiff, reduceCtorEq, eq_self, FIT, lendCs_map, verC_map, FinC, resPs, resP, lendPl, lendCs, lendC, sealC, partsT, finHs, tupT, verT, verP, verC, verB, verAt, Blk.ver, handsAre, forall_const, CHT, disj, Nat.reduceBEq, beq_self_eq_true, APT, srcOf, sealPs, sealCs, sealC, List.mem_singleton, forall_eq, ALT, ULe_3, encT_mk, encTs_len, encS_len, Int.reduceBEq, hn]
    | true =>
      by_cases hx0 : x = ⟨#[]⟩
      · simp only [RUN, core, T.c, T.s, T.b, T.i, sBin, sInt, sUn, isShift, asInt, P1.cells, loadT, ptrC, storeT, putC, fillP, Nat.reduceAdd, reduceIte, Nat.reduceEqDiff, Nat.reduceLT, Nat.reduceLeDiff, reduceCtorEq, eq_self, FIT, lendCs_map, verC_map, FinC, resPs, resP, lendPl, lendCs, lendC, sealC, partsT, finHs, tupT, verT, verP, verC, verB, verAt, Blk.ver, handsAre, forall_const, CHT, disj, Nat.reduceBEq, beq_self_eq_true, APT, srcOf, sealPs, sealCs, sealC, List.mem_singleton, forall_eq, ALT, ULe_3, encT_mk, encTs_len, encS_len, Int.reduceBEq, hn, sStr, str_beq, hx0]
        refine callC (areNames_ok ns (by omega) (fun s h => by have := hs s h; omega)) rfl rfl rfl rfl ?_
        cases hr : rise ns with
        | false => simp only [RUN, core, T.c, T.s, T.b, T.i, sBin, sInt, sUn, isShift, asInt, P1.cells, loadT, ptrC, storeT, putC, fillP, Nat.reduceAdd, reduceIte, Nat.reduceEqDiff, Nat.reduceLT, Nat.reduceLeDiff, reduceCtorEq, eq_self, FIT, lendCs_map, verC_map, FinC, resPs, resP, lendPl, lendCs, lendC, sealC, partsT, finHs, tupT, verT, verP, verC, verB, verAt, Blk.ver, handsAre, forall_const, CHT, disj, Nat.reduceBEq, beq_self_eq_true, APT, srcOf, sealPs, sealCs, sealC, List.mem_singleton, forall_eq, ALT, ULe_3, encT_mk, encTs_len, encS_len]
        | true => simp only [RUN, core, T.c, T.s, T.b, T.i, sBin, sInt, sUn, isShift, asInt, P1.cells, loadT, ptrC, storeT, putC, fillP, Nat.reduceAdd, reduceIte, Nat.reduceEqDiff, Nat.reduceLT, Nat.reduceLeDiff, reduceCtorEq, eq_self, FIT, lendCs_map, verC_map, FinC, resPs, resP, lendPl, lendCs, lendC, sealC, partsT, finHs, tupT, verT, verP, verC, verB, verAt, Blk.ver, handsAre, forall_const, CHT, disj, Nat.reduceBEq, beq_self_eq_true, APT, srcOf, sealPs, sealCs, sealC, List.mem_singleton, forall_eq, ALT, ULe_3, encT_mk, encTs_len, encS_len]
      · simp only [RUN, core, T.c, T.s, T.b, T.i, sBin, sInt, sUn, isShift, asInt, P1.cells, loadT, ptrC, storeT, putC, fillP, Nat.reduceAdd, reduceIte, Nat.reduceEqDiff, Nat.reduceLT, Nat.reduceLeDiff, reduceCtorEq, eq_self, FIT, lendCs_map, verC_map, FinC, resPs, resP, lendPl, lendCs, lendC, sealC, partsT, finHs, tupT, verT, verP, verC, verB, verAt, Blk.ver, handsAre, forall_const, CHT, disj, Nat.reduceBEq, beq_self_eq_true, APT, srcOf, sealPs, sealCs, sealC, List.mem_singleton, forall_eq, ALT, ULe_3, encT_mk, encTs_len, encS_len, Int.reduceBEq, hn, sStr, str_beq, hx0]
  have b5 : (s == 5) = false := beq_eq_false_iff_ne.2 h5
  by_cases h6 : s = 6
  · subst h6
    have hm : tshape 6 n x ns ks.length = ((n == 0) && (decide (x = ⟨#[]⟩) && (((ns.length : Int) == 0) && decide ((ks.length : Int) ≤ 1)))) := rfl
    rw [hm]
    cases hn : (n == 0) with
    | false => simp only [RUN, core, T.c, T.s, T.b, T.i, sBin, sInt, sUn, isShift, asInt, P1.cells, loadT, ptrC, storeT, putC, fillP, Nat.reduceAdd, reduceIte, Nat.reduceEqDiff, Nat.reduceLT, Nat.reduceLeDiff, reduceCtorEq, eq_self, FIT, lendCs_map, verC_map, FinC, resPs, resP, lendPl, lendCs, lendC, sealC, partsT, finHs, tupT, verT, verP, verC, verB, verAt, Blk.ver, handsAre, forall_const, CHT, disj, Nat.reduceBEq, beq_self_eq_true, APT, srcOf, sealPs, sealCs, sealC, List.mem_singleton, forall_eq, ALT, ULe_3, encT_mk, encTs_len, encS_len, Int.reduceBEq, hn]
    | true =>
      by_cases hx0 : x = ⟨#[]⟩
      · cases hl0 : ((ns.length : Int) == 0) with
        | false => simp only [RUN, core, T.c, T.s, T.b, T.i, sBin, sInt, sUn, isShift, asInt, P1.cells, loadT, ptrC, storeT, putC, fillP, Nat.reduceAdd, reduceIte, Nat.reduceEqDiff, Nat.reduceLT, Nat.reduceLeDiff, reduceCtorEq, eq_self, FIT, lendCs_map, verC_map, FinC, resPs, resP, lendPl, lendCs, lendC, sealC, partsT, finHs, tupT, verT, verP, verC, verB, verAt, Blk.ver, handsAre, forall_const, CHT, disj, Nat.reduceBEq, beq_self_eq_true, APT, srcOf, sealPs, sealCs, sealC, List.mem_singleton, forall_eq, ALT, ULe_3, encT_mk, encTs_len, encS_len, Int.reduceBEq, hn, sStr, str_beq, hx0, hl0]
        | true => simp only [RUN, core, T.c, T.s, T.b, T.i, sBin, sInt, sUn, isShift, asInt, P1.cells, loadT, ptrC, storeT, putC, fillP, Nat.reduceAdd, reduceIte, Nat.reduceEqDiff, Nat.reduceLT, Nat.reduceLeDiff, reduceCtorEq, eq_self, FIT, lendCs_map, verC_map, FinC, resPs, resP, lendPl, lendCs, lendC, sealC, partsT, finHs, tupT, verT, verP, verC, verB, verAt, Blk.ver, handsAre, forall_const, CHT, disj, Nat.reduceBEq, beq_self_eq_true, APT, srcOf, sealPs, sealCs, sealC, List.mem_singleton, forall_eq, ALT, ULe_3, encT_mk, encTs_len, encS_len, Int.reduceBEq, hn, sStr, str_beq, hx0, hl0]
      · simp only [RUN, core, T.c, T.s, T.b, T.i, sBin, sInt, sUn, isShift, asInt, P1.cells, loadT, ptrC, storeT, putC, fillP, Nat.reduceAdd, reduceIte, Nat.reduceEqDiff, Nat.reduceLT, Nat.reduceLeDiff, reduceCtorEq, eq_self, FIT, lendCs_map, verC_map, FinC, resPs, resP, lendPl, lendCs, lendC, sealC, partsT, finHs, tupT, verT, verP, verC, verB, verAt, Blk.ver, handsAre, forall_const, CHT, disj, Nat.reduceBEq, beq_self_eq_true, APT, srcOf, sealPs, sealCs, sealC, List.mem_singleton, forall_eq, ALT, ULe_3, encT_mk, encTs_len, encS_len, Int.reduceBEq, hn, sStr, str_beq, hx0]
  have b6 : (s == 6) = false := beq_eq_false_iff_ne.2 h6
  have hm : tshape s n x ns ks.length = false := by simp [tshape, h1, h2, h3, h4, h5, h6]
  simp only [RUN, core, T.c, T.s, T.b, T.i, sBin, sInt, sUn, isShift, asInt, P1.cells, loadT, ptrC, storeT, putC, fillP, Nat.reduceAdd, reduceIte, Nat.reduceEqDiff, Nat.reduceLT, Nat.reduceLeDiff, reduceCtorEq, eq_self, FIT, lendCs_map, verC_map, FinC, resPs, resP, lendPl, lendCs, lendC, sealC, partsT, finHs, tupT, verT, verP, verC, verB, verAt, Blk.ver, handsAre, forall_const, CHT, disj, Nat.reduceBEq, beq_self_eq_true, APT, srcOf, sealPs, sealCs, sealC, List.mem_singleton, forall_eq, ALT, ULe_3, encT_mk, encTs_len, encS_len, b1, b2, b3, b4, b5, b6, hm]
end Go.V
set_option linter.unusedSimpArgs false
namespace Go.V
open Go.Proofs
mutual
def tparts : Tr → Nat
  | .mk _ _ _ _ ks => 1 + tpartsL ks
def tpartsL : List Tr → Nat
  | [] => 0
  | k :: ks => tparts k + tpartsL ks
end
theorem tpartsL_snoc (ks : List Tr) (k : Tr) : tpartsL (ks ++ [k]) = tpartsL ks + tparts k := by
  induction ks with
  | nil => simp [tpartsL]
  | cons x xs ih => simp [tpartsL, ih]; omega
theorem tparts_pos (k : Tr) : 1 ≤ tparts k := by cases k; simp [tparts]
theorem tpartsL_take_le (ks : List Tr) (i : Nat) : tpartsL (ks.take i) ≤ tpartsL ks := by
  induction ks generalizing i with
  | nil => simp
  | cons k ks ih => cases i with
    | zero => simp [tpartsL]
    | succ i => simp only [List.take_succ_cons, tpartsL]; have := ih i; omega
/-- A tree's shapes and depth. -/
inductive TOk : Nat → Tr → Prop
  | mk (d : Nat) (s n : Int) (x : ByteArray) (ns : List ByteArray) (ks : List Tr) (h1 : d ≤ 6) (h2 : tshape s n x ns ks.length = true) (h3 : ∀ k ∈ ks, TOk (d + 1) k) : TOk d (.mk s n x ns ks)
theorem TOk.inv {d : Nat} {s n : Int} {x : ByteArray} {ns : List ByteArray} {ks : List Tr} (h : TOk d (.mk s n x ns ks)) : d ≤ 6 ∧ tshape s n x ns ks.length = true ∧ ∀ k ∈ ks, TOk (d + 1) k := by
  cases h with
  | mk _ _ _ _ _ _ h1 h2 h3 => exact ⟨h1, h2, h3⟩
theorem encTs_at' {ks : List Tr} {i : Nat} {k : Tr} (h : ks[i]? = some k) : (encTs ks)[i]? = some (encT k) := encTs_at h
/- (loop.example/teagle/impl.Tree).look -/
def r65_0 : List AOper := [ao 0 3 (.box 29 (.t 0)),
  ao 1 6 (.mv (.k (.b false)))]
def r65_1 : List AOper := [ao 0 9 (.mv (.t 2)),
  ao 1 10 (.nck (.t 9)),
  ao 2 11 (.ld 1 false (.t 10)),
  ao 3 12 (.bin .add (.t 11) (.k (.i 1))),
  ao 4 13 (.nck (.t 9)),
  an 5 (.st 1 (.t 13) (.t 12))]
def r65_2 : List AOper := [ao 0 14 (.mv (.t 1)),
  ao 1 15 (.bin .gtr (.t 14) (.k (.i 6))),
  ao 2 16 (.mv (.t 15)),
  ag 3 17 16 false [] (.mv (.t 2)),
  ag 4 18 16 false [] (.nck (.t 17)),
  ag 5 19 16 false [] (.ld 1 false (.t 18)),
  ag 6 20 16 false [] (.bin .gtr (.t 19) (.k (.i 120))),
  ao 7 21 (.pick (.t 16) (.k (.b true)) (.t 20)),
  ao 8 22 (.mv (.t 21)),
  ag 9 23 22 false [] (.ld 5 true (.t 3)),
  ag 10 24 22 false [] (.call (.k (.c (.fn 87 []))) [(.t 23)]),
  ag 11 25 22 false [] (.un .not (.t 24)),
  ao 12 26 (.pick (.t 22) (.k (.b true)) (.t 25))]
def r65_3 : List AOper := [ao 0 6 (.mv (.k (.b false)))]
def c65_4 : ACode := .seq (.reg r65_3) .ret
def c65_5 : ACode := .cond (.t 26) c65_4 .skip
def c65_6 : ACode := .seq (.reg r65_2) c65_5
def r65_7 : List AOper := [ao 0 27 (.fa 4 (.t 3)),
  ao 1 28 (.ld 1 false (.t 27)),
  ao 2 29 (.len (.t 28)),
  ao 3 30 (.mv (.k (.i 0)))]
def r65_8 : List AOper := [ao 0 31 (.bin .lss (.t 30) (.t 29))]
def c65_9 : ACode := .cond (.t 31) .skip (.exit 0)
def r65_10 : List AOper := [ao 0 32 (.ia 5 (.t 28) (.t 30)),
  ao 1 33 (.ld 5 true (.t 32)),
  ao 2 8 (.alloc 29 [(.v (.s (.int .i64 0))), (.v (.s (.int .i64 0))), (.v (.s (.string ⟨#[]⟩))), .nil0, .nil0]),
  an 3 (.st 5 (.t 8) (.t 33))]
def r65_11 : List AOper := [ao 0 34 (.ld 5 true (.t 8)),
  ao 1 35 (.mv (.t 1)),
  ao 2 36 (.bin .add (.t 35) (.k (.i 1))),
  ao 3 37 (.mv (.t 2)),
  ao 4 38 (.call (.k (.c (.fn 65 []))) [(.t 34), (.t 36), (.t 37)]),
  ao 5 39 (.un .not (.t 38))]
def r65_12 : List AOper := [ao 0 6 (.mv (.k (.b false)))]
def c65_13 : ACode := .seq (.reg r65_12) .ret
def c65_14 : ACode := .cond (.t 39) c65_13 .skip
def c65_15 : ACode := .seq (.reg r65_10) (.seq (.reg r65_11) c65_14)
def c65_16 : ACode := .block 1 c65_15
def r65_17 : List AOper := [ao 0 40 (.bin .add (.t 30) (.k (.i 1))),
  ao 1 30 (.mv (.t 40))]
def c65_18 : ACode := .seq (.reg r65_8) (.seq c65_9 (.seq c65_16 (.reg r65_17)))
def c65_19 : ACode := .loop c65_18
def c65_20 : ACode := .block 0 c65_19
def c65_21 : ACode := .seq (.reg r65_7) c65_20
def r65_22 : List AOper := [ao 0 6 (.mv (.k (.b true)))]
def c65 : ACode := .seq (.reg r65_0) (.seq (.reg r65_1) (.seq c65_6 (.seq c65_21 (.seq (.reg r65_22) .ret))))
def s65 : List ARes := [.tmp 6]
theorem ok65 : okF Try.prog 65 41 c65 s65 := ⟨Try.f65, Try.func65, Try.ntmps65, by kernel_rfl, by kernel_rfl, by kernel_rfl⟩
def LookT (d : Nat) (k : Tr) (p : Nat) (p' : Int) (b : Bool) : Prop := (TOk d k ∧ p + tparts k ≤ 120 ∧ b = true ∧ p' = (p + tparts k : Nat)) ∨ (¬ (TOk d k ∧ p + tparts k ≤ 120) ∧ b = false)
def inv65 (v d : Nat) (p : Nat) (ks : List Tr) (i : Nat) (σ : St) : Prop :=
  σ.t 1 = .i d ∧ σ.t 2 = .c (.ptr 1001 v 0) ∧ σ.t 28 = .c (.v (.sl (encTs ks))) ∧ σ.t 29 = .i ks.length ∧ σ.t 30 = .i i ∧ σ.H 1001 = some (.var v 3 [.v (.s (.int .i64 ((p + 1 + tpartsL (ks.take i) : Nat) : Int)))])
theorem ULf_1 : (type_of% (uA c65.eq_1)) ∧ (type_of% (uR r65_0.eq_1)) ∧ (type_of% (uR r65_1.eq_1)) ∧ (type_of% (uA c65_6.eq_1)) ∧ (type_of% (uR r65_2.eq_1)) ∧ (type_of% (uA c65_5.eq_1)) ∧ (type_of% (uA c65_4.eq_1)) ∧ (type_of% (uR r65_3.eq_1)) ∧ (type_of% (uA c65_21.eq_1)) ∧ (type_of% (uR r65_7.eq_1)) ∧ (type_of% (uA c65_20.eq_1)) ∧ (type_of% (uA c65_19.eq_1)) ∧ (type_of% (uR r65_22.eq_1)) ∧ (type_of% s65.eq_1) :=
  ⟨uA c65.eq_1, uR r65_0.eq_1, uR r65_1.eq_1, uA c65_6.eq_1, uR r65_2.eq_1, uA c65_5.eq_1, uA c65_4.eq_1, uR r65_3.eq_1, uA c65_21.eq_1, uR r65_7.eq_1, uA c65_20.eq_1, uA c65_19.eq_1, uR r65_22.eq_1, s65.eq_1⟩
theorem ULf_4 : (type_of% (uA c65_18.eq_1)) ∧ (type_of% (uR r65_8.eq_1)) ∧ (type_of% (uA c65_9.eq_1)) ∧ (type_of% (uA c65_16.eq_1)) ∧ (type_of% (uA c65_15.eq_1)) ∧ (type_of% (uR r65_10.eq_1)) ∧ (type_of% (uR r65_11.eq_1)) ∧ (type_of% (uA c65_14.eq_1)) ∧ (type_of% (uA c65_13.eq_1)) ∧ (type_of% (uR r65_12.eq_1)) ∧ (type_of% (uR r65_17.eq_1)) ∧ (type_of% (uA c65.eq_1)) ∧ (type_of% (uR r65_0.eq_1)) ∧ (type_of% (uR r65_1.eq_1)) ∧ (type_of% (uA c65_6.eq_1)) ∧ (type_of% (uR r65_2.eq_1)) ∧ (type_of% (uA c65_5.eq_1)) ∧ (type_of% (uA c65_4.eq_1)) ∧ (type_of% (uR r65_3.eq_1)) ∧ (type_of% (uA c65_21.eq_1)) ∧ (type_of% (uR r65_7.eq_1)) ∧ (type_of% (uA c65_20.eq_1)) ∧ (type_of% (uA c65_19.eq_1)) ∧ (type_of% (uR r65_22.eq_1)) ∧ (type_of% s65.eq_1) :=
  ⟨uA c65_18.eq_1, uR r65_8.eq_1, uA c65_9.eq_1, uA c65_16.eq_1, uA c65_15.eq_1, uR r65_10.eq_1, uR r65_11.eq_1, uA c65_14.eq_1, uA c65_13.eq_1, uR r65_12.eq_1, uR r65_17.eq_1, uA c65.eq_1, uR r65_0.eq_1, uR r65_1.eq_1, uA c65_6.eq_1, uR r65_2.eq_1, uA c65_5.eq_1, uA c65_4.eq_1, uR r65_3.eq_1, uA c65_21.eq_1, uR r65_7.eq_1, uA c65_20.eq_1, uA c65_19.eq_1, uR r65_22.eq_1, s65.eq_1⟩
theorem lookT_ok : ∀ k : Tr, TB 1000000 k → ∀ d p : Nat, d ≤ 100 → p ≤ 1000000 → ∃ (p' : Int) (b : Bool), LookT d k p p' b ∧ ∀ m v, ACallsF Try.prog 65 [tT k, .i d, .c (.ptr 1001 v 0)] [lH m v p p'] (.b b) := by
  intro k
  induction k using Tr.ind with
  | _ s nn x ns ks ih =>
    intro hB d p hd hp
    obtain ⟨hB0, hB1, hB2, hB3, hB4⟩ := hB.inv
    have gw : IntKind.i64.wrap ((p : Int) + 1) = ((p + 1 : Nat) : Int) := (wrap64 ⟨by omega, by omega⟩).trans (by omega)
    have hCs := tshape_ok s nn x ns ks hB0 ⟨hB1, hB2⟩ hB3
    simp only [tT, encT_mk, List.map_cons, List.map_nil] at hCs
    have htake : ∀ i k, ks[i]? = some k → tpartsL (ks.take (i + 1)) = tpartsL (ks.take i) + tparts k := fun i k hk => by
      rw [List.take_add_one, hk]; exact tpartsL_snoc _ _
    by_cases hgood : d ≤ 6 ∧ p + 1 ≤ 120 ∧ tshape s nn x ns ks.length = true
    · obtain ⟨hd6, hp120, hS⟩ := hgood
      have k1 : ¬ (d : Int) > 6 := by omega
      have k2 : ¬ ((p + 1 : Nat) : Int) > 120 := by omega
      have hsb := hS
      obtain ⟨N, p', b, hN, hok, hR, hend⟩ : ∃ (N : Nat) (p' : Int) (b : Bool), N ≤ ks.length ∧ (∀ i k, i < N → ks[i]? = some k → TOk (d + 1) k ∧ p + 1 + tpartsL (ks.take (i + 1)) ≤ 120) ∧ LookT d (.mk s nn x ns ks) p p' b ∧
          ((N = ks.length ∧ b = true ∧ p' = ((p + 1 + tpartsL (ks.take N) : Nat) : Int)) ∨ ∃ k, ks[N]? = some k ∧ b = false ∧ ∀ m v, ACallsF Try.prog 65 [tT k, .i (d + 1 : Nat), .c (.ptr 1001 v 0)] [lH m v ((p + 1 + tpartsL (ks.take N) : Nat) : Int) p'] (.b false)) := by
        by_cases hbad : ∃ i, ∃ k, ks[i]? = some k ∧ ¬ (TOk (d + 1) k ∧ p + 1 + tpartsL (ks.take (i + 1)) ≤ 120)
        · obtain ⟨N, ⟨k, hk, hno⟩, hmin⟩ := least hbad
          have hlt := (List.getElem?_eq_some_iff.1 hk).1
          have hmem := List.mem_of_getElem? hk
          have hpre : ∀ i k, i < N → ks[i]? = some k → TOk (d + 1) k ∧ p + 1 + tpartsL (ks.take (i + 1)) ≤ 120 := fun i k2 hi hk2 => by
            by_cases h : TOk (d + 1) k2 ∧ p + 1 + tpartsL (ks.take (i + 1)) ≤ 120
            · exact h
            · have := hmin i ⟨k2, hk2, h⟩; omega
          have hq : p + 1 + tpartsL (ks.take N) ≤ 120 := by
            cases N with
            | zero => simp [tpartsL]; omega
            | succ n => exact (hpre n _ (by omega) (List.getElem?_eq_getElem (by omega))).2
          obtain ⟨p2, b2, hR2, hC2⟩ := ih k hmem (hB4 k hmem) (d + 1) (p + 1 + tpartsL (ks.take N)) (by omega) (by omega)
          rcases hR2 with ⟨r1, r2, _⟩ | ⟨_, rfl⟩
          · exact absurd ⟨r1, by rw [htake N k hk]; omega⟩ hno
          · refine ⟨N, p2, false, by omega, hpre, .inr ⟨fun h => hno ?_, rfl⟩, .inr ⟨k, hk, rfl, hC2⟩⟩
            obtain ⟨h1, h2⟩ := h
            refine ⟨h1.inv.2.2 k hmem, ?_⟩
            have := tpartsL_take_le ks (N + 1)
            simp only [tparts] at h2
            omega
        · have hall : ∀ i k, ks[i]? = some k → TOk (d + 1) k ∧ p + 1 + tpartsL (ks.take (i + 1)) ≤ 120 := fun i k hk => by
            by_cases h : TOk (d + 1) k ∧ p + 1 + tpartsL (ks.take (i + 1)) ≤ 120
            · exact h
            · exact absurd ⟨i, k, hk, h⟩ hbad
          refine ⟨ks.length, ((p + 1 + tpartsL (ks.take ks.length) : Nat) : Int), true, Nat.le_refl _, fun i k _ hk => hall i k hk, .inl ⟨.mk _ _ _ _ _ _ hd6 hS fun k hk => ?_, ?_, rfl, ?_⟩, .inl ⟨rfl, rfl, rfl⟩⟩
          · obtain ⟨i, hi⟩ := List.mem_iff_getElem?.1 hk
            exact (hall i k hi).1
          · simp only [tparts]
            cases hk0 : ks.length with
            | zero => rw [List.length_eq_zero_iff] at hk0; subst hk0; simp [tpartsL]; omega
            | succ n =>
              have := (hall n _ (List.getElem?_eq_getElem (by omega))).2
              rw [← hk0, List.take_length] at this
              omega
          · rw [List.take_length]; simp only [tparts]; omega
      refine ⟨p', b, hR, fun m v => ACallsF.intro ok65 follows fun X c0 => ?_⟩
      simp only [RUN, core, T.c, T.s, T.b, T.i, sBin, sInt, sUn, isShift, asInt, P1.cells, loadT, ptrC, storeT, putC, fillP, Nat.reduceAdd, reduceIte, Nat.reduceEqDiff, Nat.reduceLT, Nat.reduceLeDiff, reduceCtorEq, eq_self, FIT, lendCs_map, verC_map, FinC, resPs, resP, lendPl, lendCs, lendC, sealC, partsT, finHs, tupT, verT, verP, verC, verB, verAt, Blk.ver, handsAre, forall_const, CHT, disj, Nat.reduceBEq, beq_self_eq_true, APT, srcOf, sealPs, sealCs, sealC, List.mem_singleton, forall_eq, ALT, ULf_1, encT_mk, encTs_len, gw, k1, k2]
      refine callC hCs rfl rfl (by simp [closedA, closedP, closedC]) rfl ?_
      simp only [RUN, core, T.c, T.s, T.b, T.i, sBin, sInt, sUn, isShift, asInt, P1.cells, loadT, ptrC, storeT, putC, fillP, Nat.reduceAdd, reduceIte, Nat.reduceEqDiff, Nat.reduceLT, Nat.reduceLeDiff, reduceCtorEq, eq_self, FIT, lendCs_map, verC_map, FinC, resPs, resP, lendPl, lendCs, lendC, sealC, partsT, finHs, tupT, verT, verP, verC, verB, verAt, Blk.ver, handsAre, forall_const, CHT, disj, Nat.reduceBEq, beq_self_eq_true, APT, srcOf, sealPs, sealCs, sealC, List.mem_singleton, forall_eq, ALT, ULf_1, encT_mk, encTs_len, hsb]
      refine AW.upto N (inv65 v d p ks) ⟨rfl, rfl, rfl, rfl, rfl, by simp [tpartsL]⟩ fun i t H c hi h => ?_
      obtain ⟨e1, e2, e28, e29, e30, eH⟩ := h
      simp only [T.c, T.i] at e1 e2 e28 e29 e30 eH
      have gz : (0 : Int) ≤ i := by omega
      have gw2 : IntKind.i64.wrap ((i : Int) + 1) = ((i + 1 : Nat) : Int) := wrap64 (x := (i : Int) + 1) ⟨by omega, by omega⟩
      have gd : IntKind.i64.wrap ((d : Int) + 1) = ((d + 1 : Nat) : Int) := wrap64 (x := (d : Int) + 1) ⟨by omega, by omega⟩
      by_cases hlt : i < N
      · have k3 : (i : Int) < ks.length := by omega
        obtain ⟨k, hk⟩ : ∃ k, ks[i]? = some k := ⟨_, List.getElem?_eq_getElem (by omega)⟩
        have hmem := List.mem_of_getElem? hk
        have ek := encTs_at hk
        obtain ⟨o1, o2⟩ := hok i k hlt hk
        have ht := htake i k hk
        obtain ⟨p2, b2, hR2, hC2⟩ := ih k hmem (hB4 k hmem) (d + 1) (p + 1 + tpartsL (ks.take i)) (by omega) (by omega)
        rcases hR2 with ⟨_, _, rfl, rfl⟩ | ⟨r1, _⟩
        · simp only [RUN, core, T.c, T.s, T.b, T.i, sBin, sInt, sUn, isShift, asInt, P1.cells, loadT, ptrC, storeT, putC, fillP, Nat.reduceAdd, reduceIte, Nat.reduceEqDiff, Nat.reduceLT, Nat.reduceLeDiff, reduceCtorEq, eq_self, FIT, lendCs_map, verC_map, FinC, resPs, resP, lendPl, lendCs, lendC, sealC, partsT, finHs, tupT, verT, verP, verC, verB, verAt, Blk.ver, handsAre, forall_const, CHT, disj, Nat.reduceBEq, beq_self_eq_true, APT, srcOf, sealPs, sealCs, sealC, List.mem_singleton, forall_eq, ALT, ULf_4, e1, e2, e28, e29, e30, k3, gz, ek, Int.toNat_natCast, gd, List.length_map, encT_len, takeT, Nat.le_refl]
          refine callP (argsC := [tT k, .i (d + 1 : Nat)]) (hC2 1001 v) rfl rfl (by simp [closedA, closedP, closedC]) rfl eH ⟨rfl, ?_⟩
          simp only [RUN, core, T.c, T.s, T.b, T.i, sBin, sInt, sUn, isShift, asInt, P1.cells, loadT, ptrC, storeT, putC, fillP, Nat.reduceAdd, reduceIte, Nat.reduceEqDiff, Nat.reduceLT, Nat.reduceLeDiff, reduceCtorEq, eq_self, FIT, lendCs_map, verC_map, FinC, resPs, resP, lendPl, lendCs, lendC, sealC, partsT, finHs, tupT, verT, verP, verC, verB, verAt, Blk.ver, handsAre, forall_const, CHT, disj, Nat.reduceBEq, beq_self_eq_true, APT, srcOf, sealPs, sealCs, sealC, List.mem_singleton, forall_eq, ALT, ULf_4, e30, gw2]
          exact ⟨hlt, e1, e2, e28, e29, rfl, by rw [ht, ← Nat.add_assoc]; rfl⟩
        · exact absurd ⟨o1, by rw [ht] at o2; omega⟩ r1
      · have hiN : i = N := by omega
        subst hiN
        rcases hend with ⟨rfl, rfl, rfl⟩ | ⟨k, hk, rfl, hC2⟩
        · have k3 : ¬ ((ks.length : Nat) : Int) < ks.length := by omega
          simp only [RUN, core, T.c, T.s, T.b, T.i, sBin, sInt, sUn, isShift, asInt, P1.cells, loadT, ptrC, storeT, putC, fillP, Nat.reduceAdd, reduceIte, Nat.reduceEqDiff, Nat.reduceLT, Nat.reduceLeDiff, reduceCtorEq, eq_self, FIT, lendCs_map, verC_map, FinC, resPs, resP, lendPl, lendCs, lendC, sealC, partsT, finHs, tupT, verT, verP, verC, verB, verAt, Blk.ver, handsAre, forall_const, CHT, disj, Nat.reduceBEq, beq_self_eq_true, APT, srcOf, sealPs, sealCs, sealC, List.mem_singleton, forall_eq, ALT, ULf_4, ULf_1, e29, e30, k3, eH]
        · have hlt2 := (List.getElem?_eq_some_iff.1 hk).1
          have k3 : (i : Int) < ks.length := by omega
          have ek := encTs_at hk
          simp only [RUN, core, T.c, T.s, T.b, T.i, sBin, sInt, sUn, isShift, asInt, P1.cells, loadT, ptrC, storeT, putC, fillP, Nat.reduceAdd, reduceIte, Nat.reduceEqDiff, Nat.reduceLT, Nat.reduceLeDiff, reduceCtorEq, eq_self, FIT, lendCs_map, verC_map, FinC, resPs, resP, lendPl, lendCs, lendC, sealC, partsT, finHs, tupT, verT, verP, verC, verB, verAt, Blk.ver, handsAre, forall_const, CHT, disj, Nat.reduceBEq, beq_self_eq_true, APT, srcOf, sealPs, sealCs, sealC, List.mem_singleton, forall_eq, ALT, ULf_4, e1, e2, e28, e29, e30, k3, gz, ek, Int.toNat_natCast, gd, List.length_map, encT_len, takeT, Nat.le_refl]
          refine callP (argsC := [tT k, .i (d + 1 : Nat)]) (hC2 1001 v) rfl rfl (by simp [closedA, closedP, closedC]) rfl eH ⟨rfl, ?_⟩
          simp only [RUN, core, T.c, T.s, T.b, T.i, sBin, sInt, sUn, isShift, asInt, P1.cells, loadT, ptrC, storeT, putC, fillP, Nat.reduceAdd, reduceIte, Nat.reduceEqDiff, Nat.reduceLT, Nat.reduceLeDiff, reduceCtorEq, eq_self, FIT, lendCs_map, verC_map, FinC, resPs, resP, lendPl, lendCs, lendC, sealC, partsT, finHs, tupT, verT, verP, verC, verB, verAt, Blk.ver, handsAre, forall_const, CHT, disj, Nat.reduceBEq, beq_self_eq_true, APT, srcOf, sealPs, sealCs, sealC, List.mem_singleton, forall_eq, ALT, ULf_4]
    · refine ⟨((p + 1 : Nat) : Int), false, .inr ⟨fun h => hgood ⟨h.1.inv.1, by have := tparts_pos (.mk s nn x ns ks); omega, h.1.inv.2.1⟩, rfl⟩, fun m v => ACallsF.intro ok65 follows fun X c0 => ?_⟩
      by_cases h1 : (d : Int) > 6
      · simp only [RUN, core, T.c, T.s, T.b, T.i, sBin, sInt, sUn, isShift, asInt, P1.cells, loadT, ptrC, storeT, putC, fillP, Nat.reduceAdd, reduceIte, Nat.reduceEqDiff, Nat.reduceLT, Nat.reduceLeDiff, reduceCtorEq, eq_self, FIT, lendCs_map, verC_map, FinC, resPs, resP, lendPl, lendCs, lendC, sealC, partsT, finHs, tupT, verT, verP, verC, verB, verAt, Blk.ver, handsAre, forall_const, CHT, disj, Nat.reduceBEq, beq_self_eq_true, APT, srcOf, sealPs, sealCs, sealC, List.mem_singleton, forall_eq, ALT, ULf_1, encT_mk, encTs_len, gw, h1]
      · by_cases h2 : ((p + 1 : Nat) : Int) > 120
        · simp only [RUN, core, T.c, T.s, T.b, T.i, sBin, sInt, sUn, isShift, asInt, P1.cells, loadT, ptrC, storeT, putC, fillP, Nat.reduceAdd, reduceIte, Nat.reduceEqDiff, Nat.reduceLT, Nat.reduceLeDiff, reduceCtorEq, eq_self, FIT, lendCs_map, verC_map, FinC, resPs, resP, lendPl, lendCs, lendC, sealC, partsT, finHs, tupT, verT, verP, verC, verB, verAt, Blk.ver, handsAre, forall_const, CHT, disj, Nat.reduceBEq, beq_self_eq_true, APT, srcOf, sealPs, sealCs, sealC, List.mem_singleton, forall_eq, ALT, ULf_1, encT_mk, encTs_len, gw, h1, h2]
        · have hsb : tshape s nn x ns ks.length = false := by
            cases h : tshape s nn x ns ks.length with
            | false => rfl
            | true => exact absurd ⟨by omega, by omega, h⟩ hgood
          simp only [RUN, core, T.c, T.s, T.b, T.i, sBin, sInt, sUn, isShift, asInt, P1.cells, loadT, ptrC, storeT, putC, fillP, Nat.reduceAdd, reduceIte, Nat.reduceEqDiff, Nat.reduceLT, Nat.reduceLeDiff, reduceCtorEq, eq_self, FIT, lendCs_map, verC_map, FinC, resPs, resP, lendPl, lendCs, lendC, sealC, partsT, finHs, tupT, verT, verP, verC, verB, verAt, Blk.ver, handsAre, forall_const, CHT, disj, Nat.reduceBEq, beq_self_eq_true, APT, srcOf, sealPs, sealCs, sealC, List.mem_singleton, forall_eq, ALT, ULf_1, encT_mk, encTs_len, gw, h1, h2]
          refine callC hCs rfl rfl (by simp [closedA, closedP, closedC]) rfl ?_
          simp only [RUN, core, T.c, T.s, T.b, T.i, sBin, sInt, sUn, isShift, asInt, P1.cells, loadT, ptrC, storeT, putC, fillP, Nat.reduceAdd, reduceIte, Nat.reduceEqDiff, Nat.reduceLT, Nat.reduceLeDiff, reduceCtorEq, eq_self, FIT, lendCs_map, verC_map, FinC, resPs, resP, lendPl, lendCs, lendC, sealC, partsT, finHs, tupT, verT, verP, verC, verB, verAt, Blk.ver, handsAre, forall_const, CHT, disj, Nat.reduceBEq, beq_self_eq_true, APT, srcOf, sealPs, sealCs, sealC, List.mem_singleton, forall_eq, ALT, ULf_1, encT_mk, encTs_len, hsb]
/- loop.example/teagle/impl.TreeParts -/
def r27_0 : List AOper := [ao 0 1 (.box 29 (.t 0)),
  ao 1 2 (.mv (.k (.i 0)))]
def r27_1 : List AOper := [ao 0 3 (.alloc 3 [(.v (.s (.int .i64 0)))]),
  an 1 (.st 1 (.t 3) (.k (.i 0)))]
def r27_2 : List AOper := [ao 0 4 (.ld 5 true (.t 1)),
  ao 1 5 (.call (.k (.c (.fn 65 []))) [(.t 4), (.k (.i 1)), (.t 3)]),
  ao 2 6 (.un .not (.t 5))]
def r27_3 : List AOper := [ao 0 2 (.mv (.k (.i 0)))]
def c27_4 : ACode := .seq (.reg r27_3) .ret
def c27_5 : ACode := .cond (.t 6) c27_4 .skip
def c27_6 : ACode := .seq (.reg r27_2) c27_5
def r27_7 : List AOper := [ao 0 7 (.ld 1 false (.t 3)),
  ao 1 2 (.mv (.t 7))]
def c27 : ACode := .seq (.reg r27_0) (.seq (.reg r27_1) (.seq c27_6 (.seq (.reg r27_7) .ret)))
def s27 : List ARes := [.tmp 2]
theorem ok27 : okF Try.prog 27 8 c27 s27 := ⟨Try.f27, Try.func27, Try.ntmps27, by kernel_rfl, by kernel_rfl, by kernel_rfl⟩
/-- What TreeParts tells. -/
def PartsT (t : Tr) (q : Int) : Prop := (TOk 1 t ∧ tparts t ≤ 120 ∧ q = tparts t) ∨ (¬ (TOk 1 t ∧ tparts t ≤ 120) ∧ q = 0)
theorem ULf_2 : (type_of% (uA c27.eq_1)) ∧ (type_of% (uR r27_0.eq_1)) ∧ (type_of% (uR r27_1.eq_1)) ∧ (type_of% (uA c27_6.eq_1)) ∧ (type_of% (uR r27_2.eq_1)) ∧ (type_of% (uA c27_5.eq_1)) ∧ (type_of% (uA c27_4.eq_1)) ∧ (type_of% (uR r27_3.eq_1)) ∧ (type_of% (uR r27_7.eq_1)) ∧ (type_of% s27.eq_1) :=
  ⟨uA c27.eq_1, uR r27_0.eq_1, uR r27_1.eq_1, uA c27_6.eq_1, uR r27_2.eq_1, uA c27_5.eq_1, uA c27_4.eq_1, uR r27_3.eq_1, uR r27_7.eq_1, s27.eq_1⟩
theorem treeParts_ok (t : Tr) (hB : TB 1000000 t) : ∃ q, PartsT t q ∧ ACallsF Try.prog 27 [tT t] [] (.i q) := by
  obtain ⟨p', b, hR, hC⟩ := lookT_ok t hB 1 0 (by omega) (by omega)
  rcases hR with ⟨h1, h2, rfl, rfl⟩ | ⟨h1, rfl⟩
  · refine ⟨_, .inl ⟨h1, by omega, rfl⟩, ACallsF.intro ok27 follows fun X c0 => ?_⟩
    simp only [RUN, core, T.c, T.s, T.b, T.i, sBin, sInt, sUn, isShift, asInt, P1.cells, loadT, ptrC, storeT, putC, fillP, Nat.reduceAdd, reduceIte, Nat.reduceEqDiff, Nat.reduceLT, Nat.reduceLeDiff, reduceCtorEq, eq_self, FIT, lendCs_map, verC_map, FinC, resPs, resP, lendPl, lendCs, lendC, sealC, partsT, finHs, tupT, verT, verP, verC, verB, verAt, Blk.ver, handsAre, forall_const, CHT, disj, Nat.reduceBEq, beq_self_eq_true, APT, srcOf, sealPs, sealCs, sealC, List.mem_singleton, forall_eq, ALT, ULf_2, List.length_map, encT_len, takeT, Nat.le_refl]
    refine callP (argsC := [tT t, .i (1 : Nat)]) (hC 3 _) rfl rfl (by simp [closedA, closedP, closedC]) rfl rfl ⟨rfl, ?_⟩
    simp only [RUN, core, T.c, T.s, T.b, T.i, sBin, sInt, sUn, isShift, asInt, P1.cells, loadT, ptrC, storeT, putC, fillP, Nat.reduceAdd, reduceIte, Nat.reduceEqDiff, Nat.reduceLT, Nat.reduceLeDiff, reduceCtorEq, eq_self, FIT, lendCs_map, verC_map, FinC, resPs, resP, lendPl, lendCs, lendC, sealC, partsT, finHs, tupT, verT, verP, verC, verB, verAt, Blk.ver, handsAre, forall_const, CHT, disj, Nat.reduceBEq, beq_self_eq_true, APT, srcOf, sealPs, sealCs, sealC, List.mem_singleton, forall_eq, ALT, ULf_2]
  · refine ⟨_, .inr ⟨fun h => h1 ⟨h.1, by omega⟩, rfl⟩, ACallsF.intro ok27 follows fun X c0 => ?_⟩
    simp only [RUN, core, T.c, T.s, T.b, T.i, sBin, sInt, sUn, isShift, asInt, P1.cells, loadT, ptrC, storeT, putC, fillP, Nat.reduceAdd, reduceIte, Nat.reduceEqDiff, Nat.reduceLT, Nat.reduceLeDiff, reduceCtorEq, eq_self, FIT, lendCs_map, verC_map, FinC, resPs, resP, lendPl, lendCs, lendC, sealC, partsT, finHs, tupT, verT, verP, verC, verB, verAt, Blk.ver, handsAre, forall_const, CHT, disj, Nat.reduceBEq, beq_self_eq_true, APT, srcOf, sealPs, sealCs, sealC, List.mem_singleton, forall_eq, ALT, ULf_2, List.length_map, encT_len, takeT, Nat.le_refl]
    refine callP (argsC := [tT t, .i (1 : Nat)]) (hC 3 _) rfl rfl (by simp [closedA, closedP, closedC]) rfl rfl ⟨rfl, ?_⟩
    simp only [RUN, core, T.c, T.s, T.b, T.i, sBin, sInt, sUn, isShift, asInt, P1.cells, loadT, ptrC, storeT, putC, fillP, Nat.reduceAdd, reduceIte, Nat.reduceEqDiff, Nat.reduceLT, Nat.reduceLeDiff, reduceCtorEq, eq_self, FIT, lendCs_map, verC_map, FinC, resPs, resP, lendPl, lendCs, lendC, sealC, partsT, finHs, tupT, verT, verP, verC, verB, verAt, Blk.ver, handsAre, forall_const, CHT, disj, Nat.reduceBEq, beq_self_eq_true, APT, srcOf, sealPs, sealCs, sealC, List.mem_singleton, forall_eq, ALT, ULf_2]
noncomputable def okT (t : Tr) : Bool := @decide (TOk 1 t ∧ tparts t ≤ 120) (Classical.propDecidable _)
theorem okT_true {t : Tr} : okT t = true ↔ TOk 1 t ∧ tparts t ≤ 120 := by simp [okT]
theorem okT_false {t : Tr} : okT t = false ↔ ¬ (TOk 1 t ∧ tparts t ≤ 120) := by simp [okT]
/- loop.example/teagle/impl.TreeOk -/
def r45_0 : List AOper := [ao 0 1 (.box 29 (.t 0)),
  ao 1 2 (.mv (.k (.b false)))]
def r45_1 : List AOper := [ao 0 3 (.ld 5 true (.t 1)),
  ao 1 4 (.call (.k (.c (.fn 27 []))) [(.t 3)]),
  ao 2 5 (.bin .gtr (.t 4) (.k (.i 0))),
  ao 3 2 (.mv (.t 5))]
def c45 : ACode := .seq (.reg r45_0) (.seq (.reg r45_1) .ret)
def s45 : List ARes := [.tmp 2]
theorem ok45 : okF Try.prog 45 6 c45 s45 := ⟨Try.f45, Try.func45, Try.ntmps45, by kernel_rfl, by kernel_rfl, by kernel_rfl⟩
theorem ULf_3 : (type_of% (uA c45.eq_1)) ∧ (type_of% (uR r45_0.eq_1)) ∧ (type_of% (uR r45_1.eq_1)) ∧ (type_of% s45.eq_1) :=
  ⟨uA c45.eq_1, uR r45_0.eq_1, uR r45_1.eq_1, s45.eq_1⟩
theorem treeOk_ok (t : Tr) (hB : TB 1000000 t) : ACallsF Try.prog 45 [tT t] [] (.b (okT t)) := by
  obtain ⟨q, hq, hC⟩ := treeParts_ok t hB
  refine ACallsF.intro ok45 follows fun X c0 => ?_
  simp only [RUN, core, T.c, T.s, T.b, T.i, sBin, sInt, sUn, isShift, asInt, P1.cells, loadT, ptrC, storeT, putC, fillP, Nat.reduceAdd, reduceIte, Nat.reduceEqDiff, Nat.reduceLT, Nat.reduceLeDiff, reduceCtorEq, eq_self, FIT, lendCs_map, verC_map, FinC, resPs, resP, lendPl, lendCs, lendC, sealC, partsT, finHs, tupT, verT, verP, verC, verB, verAt, Blk.ver, handsAre, forall_const, CHT, disj, Nat.reduceBEq, beq_self_eq_true, APT, srcOf, sealPs, sealCs, sealC, List.mem_singleton, forall_eq, ALT, ULf_3, List.length_map, encT_len, takeT, Nat.le_refl]
  refine callC hC rfl rfl (by simp [closedA, closedP, closedC]) rfl ?_
  rcases hq with ⟨h1, h2, rfl⟩ | ⟨h1, rfl⟩
  · have hm : okT t = true := okT_true.2 ⟨h1, h2⟩
    have k1 : (tparts t : Int) > 0 := by have := tparts_pos t; omega
    simp only [RUN, core, T.c, T.s, T.b, T.i, sBin, sInt, sUn, isShift, asInt, P1.cells, loadT, ptrC, storeT, putC, fillP, Nat.reduceAdd, reduceIte, Nat.reduceEqDiff, Nat.reduceLT, Nat.reduceLeDiff, reduceCtorEq, eq_self, FIT, lendCs_map, verC_map, FinC, resPs, resP, lendPl, lendCs, lendC, sealC, partsT, finHs, tupT, verT, verP, verC, verB, verAt, Blk.ver, handsAre, forall_const, CHT, disj, Nat.reduceBEq, beq_self_eq_true, APT, srcOf, sealPs, sealCs, sealC, List.mem_singleton, forall_eq, ALT, ULf_3, hm, k1]
  · have hm : okT t = false := okT_false.2 h1
    have k1 : ¬ (0 : Int) > 0 := by omega
    simp only [RUN, core, T.c, T.s, T.b, T.i, sBin, sInt, sUn, isShift, asInt, P1.cells, loadT, ptrC, storeT, putC, fillP, Nat.reduceAdd, reduceIte, Nat.reduceEqDiff, Nat.reduceLT, Nat.reduceLeDiff, reduceCtorEq, eq_self, FIT, lendCs_map, verC_map, FinC, resPs, resP, lendPl, lendCs, lendC, sealC, partsT, finHs, tupT, verT, verP, verC, verB, verAt, Blk.ver, handsAre, forall_const, CHT, disj, Nat.reduceBEq, beq_self_eq_true, APT, srcOf, sealPs, sealCs, sealC, List.mem_singleton, forall_eq, ALT, ULf_3, hm, k1]
end Go.V

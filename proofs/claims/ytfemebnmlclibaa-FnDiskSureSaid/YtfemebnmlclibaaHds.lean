/- It is proved that the law FnDiskSure returns true for every input and leaves its input as it was; no condition. -/
import Derived.Test.YtfemebnmlclibaaHR2
import Derived.Test.YtfemebnmlclibaaRows
import Derived.WalkKit
import Derived.ProofKit
import Derived.OpenShut
import Derived.ChangeSlices
set_option linter.unusedSimpArgs false
namespace Go.V
open Go.Proofs
theorem fileOf_cut {d : Dk} (hD : DOk d) (keep : List Int) {x : ByteArray} (hx : x ∈ made d) : ∃ (j : Nat), fnd d.files x = j ∧ d.files[j]? = some (fileOf d.files x) ∧ (fileOf d.files x).name = x ∧ fileOf (cutA keep d).files x = cutF (keepAt keep j) (fileOf d.files x) := by
  obtain ⟨j, h1, h2, h3⟩ := hD.find hx
  obtain ⟨j', g1, g2, g3⟩ := (hD.cutA keep).find (x := x) hx
  refine ⟨j, h1, h2, h3, ?_⟩
  have hj : j' = j := by
    have hl := (List.getElem?_eq_some_iff.1 g2).1
    have hl' : j' < d.files.length := by simpa only [cutA, cutP_len] using hl
    obtain ⟨f', hf'⟩ : ∃ f', d.files[j']? = some f' := ⟨_, List.getElem?_eq_getElem hl'⟩
    have e : (cutA keep d).files[j']? = _ := cutP_at keep hf' d.files.length
    rw [g2, if_pos hl'] at e
    have e := Option.some.inj e
    have hn : f'.name = x := by rw [← g3, e]; rfl
    have := (hD.files j' f' hf').one
    rw [hn, h1] at this
    omega
  subst hj
  have e : (cutA keep d).files[j']? = _ := cutP_at keep h2 d.files.length
  rw [g2, if_pos (List.getElem?_eq_some_iff.1 h2).1] at e
  exact Option.some.inj e
theorem cutM_impl (k : Int) {f : DF} (h1 : f.kept ≤ f.data.size) : min (max k 0) ((f.data.size : Int) - f.kept) = cutM k f := by unfold cutM; split <;> omega
theorem cutM_none {f : DF} (h1 : f.kept ≤ f.data.size) : min 0 ((f.data.size : Int) - f.kept) = cutM 0 f := by unfold cutM; split <;> omega
/- (loop.example/teagle/impl.Disk).cut -/
def r46_0 : List AOper := [ao 0 3 (.box 27 (.t 0)),
  ao 1 6 (.alloc 27 [.nil0, .nil0, .nil0])]
def r46_1 : List AOper := [ao 0 14 (.ld 3 true (.t 3)),
  ao 1 15 (.mv (.t 1)),
  ao 2 16 (.mmx true (.t 15) (.k (.i 0))),
  ao 3 17 (.fa 2 (.t 3)),
  ao 4 18 (.ld 1 false (.t 17)),
  ao 5 19 (.len (.t 18)),
  ao 6 20 (.mmx false (.t 16) (.t 19)),
  ao 7 21 (.call (.k (.c (.fn 38 []))) [(.t 14), (.t 20)]),
  ao 8 22 (.build [.nil0, .nil0, .nil0] [(1, 1, (.t 21))]),
  ao 9 7 (.alloc 27 [.nil0, .nil0, .nil0]),
  an 10 (.st 3 (.t 7) (.t 22))]
def r46_2 : List AOper := [ao 0 23 (.fa 1 (.t 7)),
  ao 1 24 (.ld 1 false (.t 23)),
  ao 2 25 (.len (.t 24)),
  ao 3 26 (.mv (.k (.i 0)))]
def r46_3 : List AOper := [ao 0 27 (.bin .lss (.t 26) (.t 25))]
def c46_4 : ACode := .cond (.t 27) .skip (.exit 0)
def r46_5 : List AOper := [ao 0 28 (.ia 1 (.t 24) (.t 26)),
  ao 1 29 (.ld 1 false (.t 28)),
  ao 2 9 (.mv (.t 29))]
def r46_6 : List AOper := [ao 0 30 (.ld 3 true (.t 3)),
  ao 1 31 (.mv (.t 9)),
  ao 2 32 (.call (.k (.c (.fn 40 []))) [(.t 30), (.t 31)]),
  ao 3 10 (.mv (.t 32))]
def r46_7 : List AOper := [ao 0 33 (.fa 0 (.t 3)),
  ao 1 34 (.ld 1 false (.t 33)),
  ao 2 35 (.mv (.t 10)),
  ao 3 36 (.ia 3 (.t 34) (.t 35)),
  ao 4 37 (.ld 3 true (.t 36)),
  ao 5 11 (.alloc 58 [(.v (.s (.string ⟨#[]⟩))), (.v (.s (.string ⟨#[]⟩))), (.v (.s (.int .i64 0)))]),
  an 6 (.st 3 (.t 11) (.t 37)),
  ao 7 12 (.mv (.k (.i 0)))]
def r46_8 : List AOper := [ao 0 38 (.mv (.t 10)),
  ao 1 39 (.mv (.t 2)),
  ao 2 40 (.len (.t 39)),
  ao 3 41 (.bin .lss (.t 38) (.t 40))]
def r46_9 : List AOper := [ao 0 42 (.mv (.t 2)),
  ao 1 43 (.mv (.t 10)),
  ao 2 44 (.ia 1 (.t 42) (.t 43)),
  ao 3 45 (.ld 1 false (.t 44)),
  ao 4 46 (.mmx true (.t 45) (.k (.i 0))),
  ao 5 12 (.mv (.t 46))]
def c46_10 : ACode := .cond (.t 41) (.reg r46_9) .skip
def c46_11 : ACode := .seq (.reg r46_8) c46_10
def r46_12 : List AOper := [ao 0 47 (.fa 1 (.t 11)),
  ao 1 48 (.ld 1 false (.t 47)),
  ao 2 49 (.fa 2 (.t 11)),
  ao 3 50 (.ld 1 false (.t 49)),
  ao 4 51 (.mv (.t 12)),
  ao 5 52 (.fa 1 (.t 11)),
  ao 6 53 (.ld 1 false (.t 52)),
  ao 7 54 (.lenS (.t 53)),
  ao 8 55 (.fa 2 (.t 11)),
  ao 9 56 (.ld 1 false (.t 55)),
  ao 10 57 (.bin .sub (.t 54) (.t 56)),
  ao 11 58 (.mmx false (.t 51) (.t 57)),
  ao 12 59 (.bin .add (.t 50) (.t 58)),
  ao 13 60 (.slcS (.t 48) none (some (.t 59))),
  ao 14 13 (.mv (.t 60))]
def r46_13 : List AOper := [ao 0 61 (.fa 0 (.t 7)),
  ao 1 62 (.ld 1 false (.t 61)),
  ao 2 63 (.mv (.t 9)),
  ao 3 64 (.mv (.t 13)),
  ao 4 65 (.mv (.t 13)),
  ao 5 66 (.lenS (.t 65)),
  ao 6 67 (.build [(.v (.s (.string ⟨#[]⟩))), (.v (.s (.string ⟨#[]⟩))), (.v (.s (.int .i64 0)))] [(0, 1, (.t 63)), (1, 1, (.t 64)), (2, 1, (.t 66))]),
  ao 7 68 (.bsl 3 58 [(.t 67)]),
  ao 8 69 (.app 3 58 40 (.t 62) (.t 68)),
  ao 9 70 (.fa 0 (.t 7)),
  an 10 (.st 1 (.t 70) (.t 69))]
def c46_14 : ACode := .seq (.reg r46_5) (.seq (.reg r46_6) (.seq (.reg r46_7) (.seq c46_11 (.seq (.reg r46_12) (.reg r46_13)))))
def c46_15 : ACode := .block 1 c46_14
def r46_16 : List AOper := [ao 0 71 (.bin .add (.t 26) (.k (.i 1))),
  ao 1 26 (.mv (.t 71))]
def c46_17 : ACode := .seq (.reg r46_3) (.seq c46_4 (.seq c46_15 (.reg r46_16)))
def c46_18 : ACode := .loop c46_17
def c46_19 : ACode := .block 0 c46_18
def c46_20 : ACode := .seq (.reg r46_2) c46_19
def r46_21 : List AOper := [ao 0 72 (.ld 3 true (.t 7)),
  an 1 (.st 3 (.t 6) (.t 72))]
def c46 : ACode := .seq (.reg r46_0) (.seq (.reg r46_1) (.seq c46_20 (.seq (.reg r46_21) .ret)))
def s46 : List ARes := [.cell 6 3 true]
theorem ok46 : okF Try.prog 46 73 c46 s46 := ⟨Try.f46, Try.func46, Try.ntmps46, by kernel_rfl, by kernel_rfl, by kernel_rfl⟩
def inv46 (d : Dk) (keep : List Int) (ns rest : List ByteArray) (i : Nat) (σ : St) : Prop := (∃ u, σ.t 3 = .c (.ptr 3 u 0) ∧ σ.H 3 = some (.var u 27 [.v (.sl (en eF d.files)), .v (.sl (en eS d.names)), .v (.sl (en eM d.moves))])) ∧ σ.t 2 = tL (en eI keep) ∧ (∃ u, σ.t 6 = .c (.ptr 6 u 0) ∧ σ.H 6 = some (.var u 27 [.nil0, .nil0, .nil0])) ∧
  (∃ u v w, σ.t 7 = .c (.ptr 7 u 0) ∧ σ.H 7 = some (.var u 27 [.own 2005 v ((ns.take i).map (fileOf (cutA keep d).files)).length, .own 2001 w ns.length, .nil0]) ∧ σ.H 2005 = some (.arr v true 3 58 (en eF ((ns.take i).map (fileOf (cutA keep d).files)))) ∧ σ.H 2001 = some (.arr w true 1 9 (en eS (ns ++ rest))) ∧ σ.t 24 = .c (.own 2001 w ns.length)) ∧ σ.t 25 = .i ns.length ∧ σ.t 26 = .i i
def UQf_1 := Bx.mk <|
  aN (uA c46.eq_1) <| aN (uR r46_0.eq_1) <| aN (uR r46_1.eq_1) <| aN (uA c46_20.eq_1) <| aN (uR r46_2.eq_1) <| aN (uA c46_19.eq_1) <| aN (uA c46_18.eq_1) <| aN (uR r46_21.eq_1) <| s46.eq_1
def UQf_2 := Bx.mk <|
  aN (uA c46_17.eq_1) <| aN (uR r46_3.eq_1) <| aN (uA c46_4.eq_1) <| aN (uA c46_15.eq_1) <| aN (uA c46_14.eq_1) <| aN (uR r46_5.eq_1) <| aN (uR r46_6.eq_1) <| aN (uR r46_7.eq_1) <| aN (uA c46_11.eq_1) <| aN (uR r46_8.eq_1) <| aN (uA c46_10.eq_1) <| aN (uR r46_9.eq_1) <| aN (uR r46_12.eq_1) <| aN (uR r46_13.eq_1) <| aN (uR r46_16.eq_1) <| aN (uA c46.eq_1) <| aN (uR r46_0.eq_1) <| aN (uR r46_1.eq_1) <| aN (uA c46_20.eq_1) <| aN (uR r46_2.eq_1) <| aN (uA c46_19.eq_1) <| aN (uA c46_18.eq_1) <| aN (uR r46_21.eq_1) <| s46.eq_1
set_option maxRecDepth 20000 in
set_option maxHeartbeats 1000000 in
theorem cutI_ok (d : Dk) (hD : DOk d) (m : Int) (keep : List Int) : ACallsF Try.prog 46 [tDk d, .i m, tL (en eI keep)] [] (tDk (cutD d m keep)) := by
  have hd := hD.fine
  have l1 := hD.f
  have l2 := hD.n
  have l3 := hD.m
  have hn : min (max m 0) (d.moves.length : Int) = ((cutN m d : Nat) : Int) := by rw [cutN]; omega
  have hcd : cutD d m keep = keepD (cutA keep d) (aft d.names (d.moves.take (cutN m d))) := rfl
  have hnl : cutN m d ≤ d.moves.length := by rw [cutN]; omega
  have hN := namesI_ok d hd.s (cutN m d) hnl
  rw [hD.nmI (cutN m d) hnl] at hN
  have hal := aft_len (d.moves.take (cutN m d)) d.names
  rw [List.length_take] at hal
  have hmade : ∀ x ∈ aft d.names (d.moves.take (cutN m d)), x ∈ made d := fun x hx => DOk.aft_made hx
  rw [hcd]
  generalize hns : aft d.names (d.moves.take (cutN m d)) = ns at *
  generalize hrest : (runI d.names (d.moves.take (cutN m d))).2 = rest at *
  refine ACallsF.intro ok46 follows fun X c0 => ?_
  simp only [RUX, Nat.reduceAdd, reduceIte, Nat.reduceEqDiff, Nat.reduceLT, Nat.reduceLeDiff, reduceCtorEq, eq_self, FIX, forall_const, endE_n, endE_r, CHT, disj, Nat.reduceBEq, beq_self_eq_true, APT, APX, forall_eq, ALT, UQf_1.d, hn]
  refine callA1 (m := 2001) (ws := []) (ns := []) (hN 2001) rfl rfl rfl (en_flat eS eS_flat _) ⟨rfl, ?_⟩
  simp only [RUX, Nat.reduceAdd, reduceIte, Nat.reduceEqDiff, Nat.reduceLT, Nat.reduceLeDiff, reduceCtorEq, eq_self, FIX, forall_const, endE_n, endE_r, CHT, disj, Nat.reduceBEq, beq_self_eq_true, APT, APX, forall_eq, ALT, UQf_1.d]
  refine AW.reify 7 0 2005 3 58 rfl rfl rfl (by decide) ?_
  refine AW.upto ns.length (inv46 d keep ns rest) ⟨⟨_, rfl, rfl⟩, rfl, ⟨_, rfl, rfl⟩, ⟨_, _, _, rfl, rfl, rfl, rfl, rfl⟩, rfl, rfl⟩ fun i t H c hi h => ?_
  obtain ⟨⟨u3, e3, eH3⟩, e2, ⟨u6, e6, eH6⟩, ⟨u7, v, w, e7, eH7, eHf, eHn, e24⟩, e25, e26⟩ := h
  simp only [T.c, T.i, T.s, tL] at e3 eH3 e2 e6 eH6 e7 eH7 eHf eHn e24 e25 e26
  by_cases hlt : i < ns.length
  · obtain ⟨x, hx⟩ : ∃ x, ns[i]? = some x := ⟨_, List.getElem?_eq_getElem hlt⟩
    have hxm := hmade x (List.mem_of_getElem? hx)
    obtain ⟨j, hj1, hj2, hj3, hj4⟩ := fileOf_cut hD keep hxm
    have hxr : (ns ++ rest)[i]? = some x := by rw [List.getElem?_append_left hlt]; exact hx
    have ex := en_at eS hxr
    have k1 : (i : Int) < ns.length := by omega
    have gz : (0 : Int) ≤ i := by omega
    have gj : (0 : Int) ≤ j := by omega
    have gl : ns.length ≤ ns.length + rest.length := Nat.le_add_right _ _
    have gw : IntKind.i64.wrap ((i : Int) + 1) = ((i + 1 : Nat) : Int) := wrap64 (x := (i : Int) + 1) ⟨by omega, by omega⟩
    have ht : (ns.take (i + 1)).map (fileOf (cutA keep d).files) = (ns.take i).map (fileOf (cutA keep d).files) ++ [fileOf (cutA keep d).files x] := by rw [List.take_add_one, hx]; simp
    have hl : ((ns.take i).map (fileOf (cutA keep d).files)).length ≤ 3000000 := by rw [List.length_map, List.length_take]; omega
    rw [hj4] at ht
    generalize hq : (ns.take i).map (fileOf (cutA keep d).files) = q at *
    have q3 : (q.length + 1) * 40 ≤ 140737488355328 := by omega
    have q4 : q.length + 1 ≤ 9223372036854775807 := by omega
    have hfo := fileAt_ok d x (by omega)
    rw [hj1] at hfo
    have hF := hD.files j _ hj2
    generalize hf : fileOf d.files x = f at *
    have g3 := hF.lo
    have g4 := hF.hi
    have g5 := hF.data
    have hM := cutM_le (k := keepAt keep j) g3 g4
    have hS := cut_size (k := keepAt keep j) g3 g4
    have ef := en_at eF hj2
    have gs : IntKind.i64.wrap ((f.data.size : Int) - f.kept) = (f.data.size : Int) - f.kept := wrap64 ⟨by omega, by omega⟩
    have gm : IntKind.i64.wrap (f.kept + cutM (keepAt keep j) f) = f.kept + cutM (keepAt keep j) f := wrap64 ⟨by omega, by omega⟩
    have gh : (0 : Int) ≤ f.kept + cutM (keepAt keep j) f := by omega
    have gh2 : f.kept + cutM (keepAt keep j) f ≤ f.data.size := hM.2
    have hsn : en eF q ++ [[.s (.string x), .s (.string (f.data.extract 0 (f.kept + cutM (keepAt keep j) f).toNat)), .s (.int .i64 (f.kept + cutM (keepAt keep j) f))]] = en eF (q ++ [cutF (keepAt keep j) f]) := by
      rw [en_snoc, ← hj3]; rfl
    by_cases hk : j < keep.length
    · obtain ⟨z, hz⟩ : ∃ z, keep[j]? = some z := ⟨_, List.getElem?_eq_getElem hk⟩
      have ez := en_at eI hz
      have hka : keepAt keep j = z := by rw [keepAt, hz]; rfl
      have k2 : (j : Int) < keep.length := by omega
      have hmi := cutM_impl z g4
      rw [hka] at gm gh gh2 hsn hS
      simp only [RUX, Nat.reduceAdd, reduceIte, Nat.reduceEqDiff, Nat.reduceLT, Nat.reduceLeDiff, reduceCtorEq, eq_self, FIX, forall_const, endE_n, endE_r, CHT, disj, Nat.reduceBEq, beq_self_eq_true, APT, APX, forall_eq, ALT, UQf_2.d, e3, eH3, e2, e6, eH6, e7, eH7, eHf, eHn, e24, e25, e26, en_len, k1, gz, hlt, gl, ex, eS]
      refine callC hfo rfl rfl rfl rfl ?_
      simp only [RUX, Nat.reduceAdd, reduceIte, Nat.reduceEqDiff, Nat.reduceLT, Nat.reduceLeDiff, reduceCtorEq, eq_self, FIX, forall_const, endE_n, endE_r, CHT, disj, Nat.reduceBEq, beq_self_eq_true, APT, APX, forall_eq, ALT, UQf_2.d, e3, eH3, e2, e6, eH6, e7, eH7, eHf, eHn, e24, e25, e26, en_len, k1, k2, gj, ef, eF, ez, eI, lohi, gs, hmi, gm, gh, gh2, hS, Int.le_refl, Int.toNat_zero, gw, q3, q4]
      unfold inv46
      rw [ht, hka, ← hsn, List.length_append]
      exact ⟨⟨u3, e3, eH3⟩, e2, ⟨u6, e6, eH6⟩, ⟨u7, _, w, e7, rfl, rfl, eHn, e24⟩, e25, rfl⟩
    · have hka : keepAt keep j = 0 := by rw [keepAt, List.getElem?_eq_none (by omega)]; rfl
      have k2 : ¬ (j : Int) < keep.length := by omega
      have hmi := cutM_none g4
      rw [hka] at gm gh gh2 hsn hS
      simp only [RUX, Nat.reduceAdd, reduceIte, Nat.reduceEqDiff, Nat.reduceLT, Nat.reduceLeDiff, reduceCtorEq, eq_self, FIX, forall_const, endE_n, endE_r, CHT, disj, Nat.reduceBEq, beq_self_eq_true, APT, APX, forall_eq, ALT, UQf_2.d, e3, eH3, e2, e6, eH6, e7, eH7, eHf, eHn, e24, e25, e26, en_len, k1, gz, hlt, gl, ex, eS]
      refine callC hfo rfl rfl rfl rfl ?_
      simp only [RUX, Nat.reduceAdd, reduceIte, Nat.reduceEqDiff, Nat.reduceLT, Nat.reduceLeDiff, reduceCtorEq, eq_self, FIX, forall_const, endE_n, endE_r, CHT, disj, Nat.reduceBEq, beq_self_eq_true, APT, APX, forall_eq, ALT, UQf_2.d, e3, eH3, e2, e6, eH6, e7, eH7, eHf, eHn, e24, e25, e26, en_len, k1, k2, gj, ef, eF, lohi, gs, hmi, gm, gh, gh2, hS, Int.le_refl, Int.toNat_zero, gw, q3, q4]
      unfold inv46
      rw [ht, hka, ← hsn, List.length_append]
      exact ⟨⟨u3, e3, eH3⟩, e2, ⟨u6, e6, eH6⟩, ⟨u7, _, w, e7, rfl, rfl, eHn, e24⟩, e25, rfl⟩
  · have k1 : ¬ (i : Int) < ns.length := by omega
    have hi2 : i = ns.length := by omega
    subst hi2
    rw [List.take_length] at eH7 eHf
    have ht2 := en_take2 eS ns rest
    have gl : ns.length ≤ ns.length + rest.length := Nat.le_add_right _ _
    simp only [RUX, Nat.reduceAdd, reduceIte, Nat.reduceEqDiff, Nat.reduceLT, Nat.reduceLeDiff, reduceCtorEq, eq_self, FIX, forall_const, endE_n, endE_r, CHT, disj, Nat.reduceBEq, beq_self_eq_true, APT, APX, forall_eq, ALT, UQf_2.d, UQf_1.d, e3, eH3, e2, e6, eH6, e7, eH7, eHf, eHn, e24, e25, e26, en_len, k1, keepD, ht2, gl]
end Go.V
set_option linter.unusedSimpArgs false
namespace Go.V
open Go.Proofs
theorem QN48_r {X : Ctx} {bs : List UInt8} {p : Int} {σ : St} : QN48 X bs p .ret σ = EN48 bs p .ret σ := rfl
section
variable {X : Ctx} {bs : List UInt8} (hb : bs.length ≤ 2000) {p q : Int} (hq : 0 ≤ p ∧ p ≤ 900000000000 ∧ p ≤ q ∧ q ≤ p + 100) {F : List DF} {N : List ByteArray} {M : List DM} (hfd : fineDk ⟨F, N, M⟩) {i : Nat} {f : DF} (hx : F[i]? = some f) (hd2 : f.data.size ≤ 20000) {t : Nat → T} {H : HMap} {c : Nat} (hst : St48 bs q F N M i t H)
include hb hq hfd hx hd2 hst
theorem sp7 : wpa Try.prog X c48_30 (QN48 X bs p) ⟨t, H, c⟩ := by
  have hst0 := hst
  obtain ⟨u, v1, v2, v3, u4, e0, e3, eH3, eF1, eN1, eM1, e4, eH4, e5, eR⟩ := hst
  simp only [T.c, T.i] at e0 e3 e4 e5
  have ex := en_at eF hx
  have gi := (List.getElem?_eq_some_iff.1 hx).1
  have gi2 : (i : Int) < F.length := by omega
  have gi3 : i < (en eF F).length := by rw [en_len]; exact gi
  have gz : (0 : Int) ≤ i := by omega
  have hs1 : F.length ≤ 1048576 := hfd.s.f
  have hs2 : N.length ≤ 1048576 := hfd.s.n
  have hs3 : M.length ≤ 1048576 := hfd.s.m
  have hfn := (hfd.f f (List.mem_of_getElem? hx)).1
  by_cases g1 : (f.data.size : Int) > 0
  rotate_left
  · simp only [RUX, Nat.reduceAdd, reduceIte, Nat.reduceEqDiff, Nat.reduceLT, Nat.reduceLeDiff, reduceCtorEq, eq_self, FIX, forall_const, endE_n, endE_r, CHT, disj, Nat.reduceBEq, beq_self_eq_true, APT, APX, forall_eq, ALT, ALU, rH, rV, rdC, rdr, e0, e3, eH3, eF1, eN1, eM1, e4, eH4, e5, eR, en_len, ex, gi, gi2, gz, Int.toNat_natCast, eF, eS, eM, (uA c48_30.eq_1), (uR r48_24.eq_1), (uA c48_29.eq_1), (uA c48_28.eq_1), (uR r48_25.eq_1), (uR r48_26.eq_1), (uR r48_27.eq_1), g1]
    exact sp74 hst0 ⟨by omega, by omega⟩ hfd
  obtain ⟨j, j0, j1, C1⟩ := pick_ok bs hb q f.data.size (by omega) (by omega)
  have y0 : (0 : Int) ≤ 0 := Int.le_refl _
  have y1 : j ≤ (f.data.size : Int) := by omega
  simp only [RUX, Nat.reduceAdd, reduceIte, Nat.reduceEqDiff, Nat.reduceLT, Nat.reduceLeDiff, reduceCtorEq, eq_self, FIX, forall_const, endE_n, endE_r, CHT, disj, Nat.reduceBEq, beq_self_eq_true, APT, APX, forall_eq, ALT, ALU, rH, rV, rdC, rdr, e0, e3, eH3, eF1, eN1, eM1, e4, eH4, e5, eR, en_len, ex, gi, gi2, gz, Int.toNat_natCast, eF, eS, eM, (uA c48_30.eq_1), (uR r48_24.eq_1), (uA c48_29.eq_1), (uA c48_28.eq_1), (uR r48_25.eq_1), (uR r48_26.eq_1), (uR r48_27.eq_1), g1]
  refine callRc (C1 0) rfl rfl rfl rfl (by simp only [RUX, Nat.reduceAdd, reduceIte, Nat.reduceEqDiff, Nat.reduceLT, Nat.reduceLeDiff, reduceCtorEq, eq_self, FIX, forall_const, endE_n, endE_r, CHT, disj, Nat.reduceBEq, beq_self_eq_true, APT, APX, forall_eq, ALT, ALU, rH, rV, rdC, rdr, s48, eR]) ⟨?_, ?_⟩
  · simp only [RUX, Nat.reduceAdd, reduceIte, Nat.reduceEqDiff, Nat.reduceLT, Nat.reduceLeDiff, reduceCtorEq, eq_self, FIX, forall_const, endE_n, endE_r, CHT, disj, Nat.reduceBEq, beq_self_eq_true, APT, APX, forall_eq, ALT, ALU, rH, rV, rdC, rdr, s48]
  simp only [RUX, Nat.reduceAdd, reduceIte, Nat.reduceEqDiff, Nat.reduceLT, Nat.reduceLeDiff, reduceCtorEq, eq_self, FIX, forall_const, endE_n, endE_r, CHT, disj, Nat.reduceBEq, beq_self_eq_true, APT, APX, forall_eq, ALT, ALU, rH, rV, rdC, rdr, e0, e3, eH3, eF1, eN1, eM1, e4, eH4, e5, eR, en_len, ex, gi, gi2, gz, Int.toNat_natCast, eF, eS, eM, (uA c48_30.eq_1), (uR r48_24.eq_1), (uA c48_29.eq_1), (uA c48_28.eq_1), (uR r48_25.eq_1), (uR r48_26.eq_1), (uR r48_27.eq_1), lohi, j0, y0, y1, Int.toNat_zero, SET, List.getElem?_set_self, gi3, List.length_set]
  refine sp74 (F := F.set i ⟨f.name, f.data.extract 0 j.toNat, 0⟩) (q := q + 1) ⟨u, v1, v2, v3, u4, e0, e3, (by rw [List.length_set]; exact eH3), (by rw [← en_set]; rfl), eN1, eM1, e4, eH4, e5, rfl⟩ ⟨by omega, by omega⟩ (fine_set hfd i hfn (by simp only [ByteArray.size_extract]; omega))
theorem sp8 : wpa Try.prog X c48_37 (QN48 X bs p) ⟨t, H, c⟩ := by
  have hst0 := hst
  obtain ⟨u, v1, v2, v3, u4, e0, e3, eH3, eF1, eN1, eM1, e4, eH4, e5, eR⟩ := hst
  simp only [T.c, T.i] at e0 e3 e4 e5
  have ex := en_at eF hx
  have gi := (List.getElem?_eq_some_iff.1 hx).1
  have gi2 : (i : Int) < F.length := by omega
  have gi3 : i < (en eF F).length := by rw [en_len]; exact gi
  have gz : (0 : Int) ≤ i := by omega
  have hs1 : F.length ≤ 1048576 := hfd.s.f
  have hs2 : N.length ≤ 1048576 := hfd.s.n
  have hs3 : M.length ≤ 1048576 := hfd.s.m
  have hfn := (hfd.f f (List.mem_of_getElem? hx)).1
  by_cases g1 : (f.data.size : Int) > 0
  rotate_left
  · simp only [RUX, Nat.reduceAdd, reduceIte, Nat.reduceEqDiff, Nat.reduceLT, Nat.reduceLeDiff, reduceCtorEq, eq_self, FIX, forall_const, endE_n, endE_r, CHT, disj, Nat.reduceBEq, beq_self_eq_true, APT, APX, forall_eq, ALT, ALU, rH, rV, rdC, rdr, e0, e3, eH3, eF1, eN1, eM1, e4, eH4, e5, eR, en_len, ex, gi, gi2, gz, Int.toNat_natCast, eF, eS, eM, (uA c48_37.eq_1), (uR r48_32.eq_1), (uA c48_36.eq_1), (uA c48_35.eq_1), (uR r48_33.eq_1), (uR r48_34.eq_1), g1]
    exact sp74 hst0 ⟨by omega, by omega⟩ hfd
  obtain ⟨j, j0, j1, C1⟩ := pick_ok bs hb q f.data.size (by omega) (by omega)
  obtain ⟨q2, s, a0, a1, hs, C2⟩ := of_ok bs hb (q + 1) (by omega) [⟨#[0]⟩, ⟨#[49]⟩, ⟨#[57]⟩, ⟨#[32]⟩] (by decide)
  have hsz : s.size ≤ 100 := by
    simp only [List.mem_cons, List.not_mem_nil, or_false] at hs
    rcases hs with rfl | rfl | rfl | rfl <;> decide
  have y0 : (0 : Int) ≤ 0 := Int.le_refl _
  have y1 : j ≤ (f.data.size : Int) := by omega
  have y2 : (0 : Int) ≤ j + 1 := by omega
  have y3 : j + 1 ≤ (f.data.size : Int) := by omega
  have y4 : (f.data.size : Int) ≤ f.data.size := Int.le_refl _
  have w1 : IntKind.i64.wrap (j + 1) = j + 1 := wrap64 ⟨by omega, by omega⟩
  have l1 : (f.data.extract 0 j.toNat).size + s.size ≤ 9223372036854775807 := by simp only [ByteArray.size_extract]; omega
  have l2 : (f.data.extract 0 j.toNat ++ s).size + (f.data.extract (j + 1).toNat f.data.size).size ≤ 9223372036854775807 := by simp only [ByteArray.size_append, ByteArray.size_extract]; omega
  simp only [RUX, Nat.reduceAdd, reduceIte, Nat.reduceEqDiff, Nat.reduceLT, Nat.reduceLeDiff, reduceCtorEq, eq_self, FIX, forall_const, endE_n, endE_r, CHT, disj, Nat.reduceBEq, beq_self_eq_true, APT, APX, forall_eq, ALT, ALU, rH, rV, rdC, rdr, e0, e3, eH3, eF1, eN1, eM1, e4, eH4, e5, eR, en_len, ex, gi, gi2, gz, Int.toNat_natCast, eF, eS, eM, (uA c48_37.eq_1), (uR r48_32.eq_1), (uA c48_36.eq_1), (uA c48_35.eq_1), (uR r48_33.eq_1), (uR r48_34.eq_1), g1]
  refine callRc (C1 0) rfl rfl rfl rfl (by simp only [RUX, Nat.reduceAdd, reduceIte, Nat.reduceEqDiff, Nat.reduceLT, Nat.reduceLeDiff, reduceCtorEq, eq_self, FIX, forall_const, endE_n, endE_r, CHT, disj, Nat.reduceBEq, beq_self_eq_true, APT, APX, forall_eq, ALT, ALU, rH, rV, rdC, rdr, s48, eR]) ⟨?_, ?_⟩
  · simp only [RUX, Nat.reduceAdd, reduceIte, Nat.reduceEqDiff, Nat.reduceLT, Nat.reduceLeDiff, reduceCtorEq, eq_self, FIX, forall_const, endE_n, endE_r, CHT, disj, Nat.reduceBEq, beq_self_eq_true, APT, APX, forall_eq, ALT, ALU, rH, rV, rdC, rdr, s48]
  simp only [RUX, Nat.reduceAdd, reduceIte, Nat.reduceEqDiff, Nat.reduceLT, Nat.reduceLeDiff, reduceCtorEq, eq_self, FIX, forall_const, endE_n, endE_r, CHT, disj, Nat.reduceBEq, beq_self_eq_true, APT, APX, forall_eq, ALT, ALU, rH, rV, rdC, rdr, e0, e3, eH3, eF1, eN1, eM1, e4, eH4, e5, eR, en_len, ex, gi, gi2, gz, Int.toNat_natCast, eF, eS, eM, (uA c48_37.eq_1), (uR r48_32.eq_1), (uA c48_36.eq_1), (uA c48_35.eq_1), (uR r48_33.eq_1), (uR r48_34.eq_1), lohi, j0, y0, y1, Int.toNat_zero]
  refine callOf (C2 0) rfl rfl rfl rfl (by decide) (by simp only [RUX, Nat.reduceAdd, reduceIte, Nat.reduceEqDiff, Nat.reduceLT, Nat.reduceLeDiff, reduceCtorEq, eq_self, FIX, forall_const, endE_n, endE_r, CHT, disj, Nat.reduceBEq, beq_self_eq_true, APT, APX, forall_eq, ALT, ALU, rH, rV, rdC, rdr, s48, eR]) ⟨?_, ?_⟩
  · simp only [RUX, Nat.reduceAdd, reduceIte, Nat.reduceEqDiff, Nat.reduceLT, Nat.reduceLeDiff, reduceCtorEq, eq_self, FIX, forall_const, endE_n, endE_r, CHT, disj, Nat.reduceBEq, beq_self_eq_true, APT, APX, forall_eq, ALT, ALU, rH, rV, rdC, rdr, s48]
  simp only [RUX, Nat.reduceAdd, reduceIte, Nat.reduceEqDiff, Nat.reduceLT, Nat.reduceLeDiff, reduceCtorEq, eq_self, FIX, forall_const, endE_n, endE_r, CHT, disj, Nat.reduceBEq, beq_self_eq_true, APT, APX, forall_eq, ALT, ALU, rH, rV, rdC, rdr, e0, e3, eH3, eF1, eN1, eM1, e4, eH4, e5, eR, en_len, ex, gi, gi2, gz, Int.toNat_natCast, eF, eS, eM, (uA c48_37.eq_1), (uR r48_32.eq_1), (uA c48_36.eq_1), (uA c48_35.eq_1), (uR r48_33.eq_1), (uR r48_34.eq_1), lohi, j0, y0, y1, y2, y3, y4, Int.toNat_zero, Int.toNat_natCast, sStr, w1, l1, l2]
  refine sp74 (F := F.set i ⟨f.name, f.data.extract 0 j.toNat ++ s ++ f.data.extract (j + 1).toNat f.data.size, f.kept⟩) (q := q2) ⟨u, v1, v2, v3, u4, e0, e3, (by rw [List.length_set]; exact eH3), (by rw [← en_set]; rfl), eN1, eM1, e4, eH4, e5, rfl⟩ ⟨by omega, by omega⟩ (fine_set hfd i hfn (by simp only [ByteArray.size_append, ByteArray.size_extract]; omega))
end
def inv48 (bs : List UInt8) (q : Int) (i : Nat) (σ : St) : Prop := ∃ (F : List DF) (N : List ByteArray) (v1 v2 : Nat), F.length = i ∧ N.length = i ∧ (∀ f ∈ F, f.name.size ≤ 1048576 ∧ f.data.size ≤ 1048576) ∧ (∀ x ∈ N, x.size ≤ 1048576) ∧ σ.t 0 = rP 0 ∧ σ.t 9 = .i i ∧ (∃ u, σ.t 8 = .c (.ptr 8 u 0) ∧ σ.H 8 = some (.var u 27 [.own 3001 v1 F.length, .own 3002 v2 N.length, .nil0])) ∧ σ.H 3001 = some (.arr v1 true 3 58 (en eF F)) ∧ σ.H 3002 = some (.arr v2 true 1 9 (en eS N)) ∧ (∃ u, σ.t 4 = .c (.ptr 4 u 0) ∧ σ.H 4 = some (.var u 27 [.nil0, .nil0, .nil0])) ∧ σ.H 1000 = some (rdr 0 bs (q + i))
theorem sp9 {X : Ctx} {bs : List UInt8} (hb : bs.length ≤ 2000) {p q : Int} (hq : 0 ≤ p ∧ p ≤ 900000000000 ∧ p ≤ q ∧ q ≤ p + 100) {F : List DF} {N : List ByteArray} {M : List DM} {i : Nat} {t : Nat → T} {H : HMap} {c : Nat} (hst : St48 bs q F N M i t H) (h1 : H 3001 = none) (h2 : H 3002 = none) : wpa Try.prog X c48_53 (QN48 X bs p) ⟨t, H, c⟩ := by
  obtain ⟨u, v1, v2, v3, u4, e0, e3, eH3, eF1, eN1, eM1, e4, eH4, e5, eR⟩ := hst
  simp only [T.c, T.i] at e0 e3 e4 e5
  simp only [RUX, Nat.reduceAdd, reduceIte, Nat.reduceEqDiff, Nat.reduceLT, Nat.reduceLeDiff, reduceCtorEq, eq_self, FIX, forall_const, endE_n, endE_r, CHT, disj, Nat.reduceBEq, beq_self_eq_true, APT, APX, forall_eq, ALT, ALU, rH, rV, rdC, rdr, (uA c48_53.eq_1), (uR r48_38.eq_1), (uA c48_51.eq_1), (uR r48_39.eq_1), (uA c48_50.eq_1), (uA c48_49.eq_1), (uR r48_52.eq_1), s48, e0, e4, eH4]
  refine AW.reify 8 0 3001 3 58 rfl rfl h1 (by decide) ?_
  refine AW.reify 8 1 3002 1 9 rfl rfl h2 (by decide) ?_
  refine AW.upto 65 (inv48 bs q) ⟨[], [], _, _, rfl, rfl, (fun x h => by cases h), (fun x h => by cases h), e0, rfl, ⟨_, rfl, rfl⟩, rfl, rfl, ⟨u4, e4, eH4⟩, (by show _ = some (rdr 0 bs (q + ((0 : Nat) : Int))); rw [show ((0 : Nat) : Int) = 0 from rfl, Int.add_zero]; exact eR)⟩ fun k t H c hk h => ?_
  clear e0 e3 eH3 eF1 eN1 eM1 e4 eH4 e5 eR
  obtain ⟨F, N, v1, v2, l1, l2, hF, hN, e0, e9, ⟨u8, e8, eH8⟩, eF1, eN1, ⟨u4, e4, eH4⟩, eR⟩ := h
  simp only [T.c, T.i, rdr, rdC] at e0 e9 e8 eH8 eF1 eN1 e4 eH4 eR
  obtain ⟨j, j0, j1, C1⟩ := pick_ok bs hb (q + k) 3 (by omega) (by omega)
  have w1 : IntKind.i64.wrap (64 - j) = 64 - j := wrap64 ⟨by omega, by omega⟩
  have w2 : IntKind.i64.wrap (64 - j + 1) = 64 - j + 1 := wrap64 ⟨by omega, by omega⟩
  have ht1 : (en eF F).take F.length = en eF F := en_take eF F
  have ht2 : (en eS N).take N.length = en eS N := en_take eS N
  simp only [RUX, Nat.reduceAdd, reduceIte, Nat.reduceEqDiff, Nat.reduceLT, Nat.reduceLeDiff, reduceCtorEq, eq_self, FIX, forall_const, endE_n, endE_r, CHT, disj, Nat.reduceBEq, beq_self_eq_true, APT, APX, forall_eq, ALT, ALU, rH, rV, rdC, rdr, (uA c48_48.eq_1), (uA c48_42.eq_1), (uR r48_40.eq_1), (uA c48_41.eq_1), (uA c48_46.eq_1), (uA c48_45.eq_1), (uR r48_43.eq_1), (uR r48_44.eq_1), (uR r48_47.eq_1), e0, e9, e8, eH8, eF1, eN1, e4, eH4, en_len]
  refine callRc (C1 0) rfl rfl rfl rfl (by simp only [RUX, Nat.reduceAdd, reduceIte, Nat.reduceEqDiff, Nat.reduceLT, Nat.reduceLeDiff, reduceCtorEq, eq_self, FIX, forall_const, endE_n, endE_r, CHT, disj, Nat.reduceBEq, beq_self_eq_true, APT, APX, forall_eq, ALT, ALU, rH, rV, rdC, rdr, s48, eR]) ⟨?_, ?_⟩
  · simp only [RUX, Nat.reduceAdd, reduceIte, Nat.reduceEqDiff, Nat.reduceLT, Nat.reduceLeDiff, reduceCtorEq, eq_self, FIX, forall_const, endE_n, endE_r, CHT, disj, Nat.reduceBEq, beq_self_eq_true, APT, APX, forall_eq, ALT, ALU, rH, rV, rdC, rdr, s48]
  by_cases g1 : (k : Int) < 64 - j + 1
  rotate_left
  · simp only [RUX, Nat.reduceAdd, reduceIte, Nat.reduceEqDiff, Nat.reduceLT, Nat.reduceLeDiff, reduceCtorEq, eq_self, FIX, forall_const, endE_n, endE_r, CHT, disj, Nat.reduceBEq, beq_self_eq_true, APT, APX, forall_eq, ALT, ALU, rH, rV, rdC, rdr, (uA c48_48.eq_1), (uA c48_42.eq_1), (uR r48_40.eq_1), (uA c48_41.eq_1), (uA c48_46.eq_1), (uA c48_45.eq_1), (uR r48_43.eq_1), (uR r48_44.eq_1), (uR r48_47.eq_1), e0, e9, e8, eH8, eF1, eN1, e4, eH4, en_len, (uA c48_53.eq_1), (uR r48_38.eq_1), (uA c48_51.eq_1), (uR r48_39.eq_1), (uA c48_50.eq_1), (uA c48_49.eq_1), (uR r48_52.eq_1), s48, QN48_r, w1, w2, g1]
    refine ES.mk (q + k + 1, ⟨F, N, []⟩) ⟨by simp only; omega, by simp only; omega, ⟨⟨by simp only; omega, by simp only; omega, Nat.zero_le _⟩, hF, hN, fun m h => (by cases h)⟩⟩ ?_
    simp only [RUX, Nat.reduceAdd, reduceIte, Nat.reduceEqDiff, Nat.reduceLT, Nat.reduceLeDiff, reduceCtorEq, eq_self, FIX, forall_const, endE_n, endE_r, CHT, disj, Nat.reduceBEq, beq_self_eq_true, APT, APX, forall_eq, ALT, ALU, rH, rV, rdC, rdr, s48, e4, eF1, eN1, ht1, ht2, en_len, en_nil]
  obtain ⟨s, hs, C2⟩ := decB (n := (k : Int)) ⟨by omega, by omega⟩
  have z1 : (⟨#[102]⟩ : ByteArray).size = 1 := rfl
  have y1 : (⟨#[102]⟩ : ByteArray).size + s.size ≤ 9223372036854775807 := by omega
  have hl : F.length ≤ 1000 := by omega
  have hl2 : N.length ≤ 1000 := by omega
  have a1 : (F.length + 1) * 40 ≤ 140737488355328 := by clear w1 w2 g1 l1 l2; omega
  have a2 : F.length ≤ 9223372036854775806 := by clear w1 w2 g1 l1 l2; omega
  have a3 : (N.length + 1) * 16 ≤ 140737488355328 := by clear w1 w2 g1 l1 l2 a1; omega
  have a4 : N.length ≤ 9223372036854775806 := by clear w1 w2 g1 l1 l2 a1 a3; omega
  have w3 : IntKind.i64.wrap ((k : Int) + 1) = ((k + 1 : Nat) : Int) := wrap64 (x := (k : Int) + 1) ⟨by omega, by omega⟩
  have hb1 : ((⟨#[102]⟩ : ByteArray) ++ s).size ≤ 1048576 := by rw [ByteArray.size_append]; omega
  simp only [RUX, Nat.reduceAdd, reduceIte, Nat.reduceEqDiff, Nat.reduceLT, Nat.reduceLeDiff, reduceCtorEq, eq_self, FIX, forall_const, endE_n, endE_r, CHT, disj, Nat.reduceBEq, beq_self_eq_true, APT, APX, forall_eq, ALT, ALU, rH, rV, rdC, rdr, (uA c48_48.eq_1), (uA c48_42.eq_1), (uR r48_40.eq_1), (uA c48_41.eq_1), (uA c48_46.eq_1), (uA c48_45.eq_1), (uR r48_43.eq_1), (uR r48_44.eq_1), (uR r48_47.eq_1), e0, e9, e8, eH8, eF1, eN1, e4, eH4, en_len, w1, w2, g1]
  refine callC C2 rfl rfl rfl rfl ?_
  simp only [RUX, Nat.reduceAdd, reduceIte, Nat.reduceEqDiff, Nat.reduceLT, Nat.reduceLeDiff, reduceCtorEq, eq_self, FIX, forall_const, endE_n, endE_r, CHT, disj, Nat.reduceBEq, beq_self_eq_true, APT, APX, forall_eq, ALT, ALU, rH, rV, rdC, rdr, (uA c48_48.eq_1), (uA c48_42.eq_1), (uR r48_40.eq_1), (uA c48_41.eq_1), (uA c48_46.eq_1), (uA c48_45.eq_1), (uR r48_43.eq_1), (uR r48_44.eq_1), (uR r48_47.eq_1), e0, e9, e8, eH8, eF1, eN1, e4, eH4, en_len, sStr, y1, ht1, a1, a2]
  refine callC C2 rfl rfl rfl rfl ?_
  simp only [RUX, Nat.reduceAdd, reduceIte, Nat.reduceEqDiff, Nat.reduceLT, Nat.reduceLeDiff, reduceCtorEq, eq_self, FIX, forall_const, endE_n, endE_r, CHT, disj, Nat.reduceBEq, beq_self_eq_true, APT, APX, forall_eq, ALT, ALU, rH, rV, rdC, rdr, (uA c48_48.eq_1), (uA c48_42.eq_1), (uR r48_40.eq_1), (uA c48_41.eq_1), (uA c48_46.eq_1), (uA c48_45.eq_1), (uR r48_43.eq_1), (uR r48_44.eq_1), (uR r48_47.eq_1), e0, e9, e8, eH8, eF1, eN1, e4, eH4, en_len, sStr, y1, ht2, a3, a4, w3]
  refine ⟨by omega, F ++ [⟨⟨#[102]⟩ ++ s, ⟨#[]⟩, 0⟩], N ++ [⟨#[102]⟩ ++ s], c + 6 + 7, c + 6 + 10 + 6, by rw [List.length_append, l1]; rfl, by rw [List.length_append, l2]; rfl, fun g hg => ?_, fun x hx => ?_, e0, rfl, ⟨u8, e8, (by rw [List.length_append, List.length_append]; rfl)⟩, (by rw [en_snoc]; rfl), (by rw [en_snoc]; rfl), ⟨u4, e4, eH4⟩, ?_⟩
  · rcases List.mem_append.1 hg with h | h
    · exact hF g h
    · rw [List.mem_singleton.1 h]; exact ⟨hb1, Nat.zero_le _⟩
  · rcases List.mem_append.1 hx with h | h
    · exact hN x h
    · rw [List.mem_singleton.1 h]; exact hb1
  · show _ = some (rdr 0 bs (q + ((k + 1 : Nat) : Int)))
    rw [show q + ((k + 1 : Nat) : Int) = q + k + 1 from by omega]
    rfl
def USa_1 := Bx.mk <|
  aN (uA c48.eq_1) <| aN (uR r48_0.eq_1) <| aN (uR r48_1.eq_1) <| aN (uA c48_6.eq_1) <| aN (uR r48_2.eq_1) <| aN (uA c48_5.eq_1) <| aN (uA c48_4.eq_1) <| aN (uR r48_3.eq_1) <| aN (uR r48_7.eq_1) <| aN (uA c48_73.eq_1) <| aN (uR r48_8.eq_1) <| aN (uA c48_72.eq_1) <| aN (uA c48_71.eq_1) <| aN (uR r48_9.eq_1) <| aN (uA c48_70.eq_1) <| aN (uA c48_69.eq_1) <| aN (uR r48_11.eq_1) <| aN (uA c48_68.eq_1) <| aN (uA c48_67.eq_1) <| aN (uR r48_13.eq_1) <| aN (uA c48_66.eq_1) <| aN (uA c48_65.eq_1) <| aN (uR r48_15.eq_1) <| aN (uA c48_64.eq_1) <| aN (uA c48_63.eq_1) <| aN (uR r48_17.eq_1) <| aN (uA c48_62.eq_1) <| aN (uA c48_61.eq_1) <| aN (uR r48_19.eq_1) <| aN (uA c48_60.eq_1) <| aN (uA c48_59.eq_1) <| aN (uR r48_21.eq_1) <| aN (uA c48_58.eq_1) <| aN (uA c48_57.eq_1) <| aN (uR r48_23.eq_1) <| aN (uA c48_56.eq_1) <| aN (uA c48_55.eq_1) <| aN (uR r48_31.eq_1) <| aN (uA c48_54.eq_1) <| s48.eq_1
set_option maxHeartbeats 2000000 in
theorem spoil_ok (bs : List UInt8) (hb : bs.length ≤ 2000) (p : Int) (hp : 0 ≤ p ∧ p ≤ 900000000000) (d : Dk) (hD : DOk d) : RC 48 [tDk d] bs p 300 fineDk tDk := by
  have hd := hD.fine
  have hcp := copyDk_ok d hd.s 1001 1002 1003
  refine RC.intro ok48 rfl (fun _ => rfl) fun X => ?_
  simp only [RUX, Nat.reduceAdd, reduceIte, Nat.reduceEqDiff, Nat.reduceLT, Nat.reduceLeDiff, reduceCtorEq, eq_self, FIX, forall_const, endE_n, endE_r, CHT, disj, Nat.reduceBEq, beq_self_eq_true, APT, APX, forall_eq, ALT, ALU, rH, rV, rdC, rdr, USa_1.d]
  refine callDk (ws := []) (ns := []) hcp rfl rfl rfl (by decide) ⟨rfl, ?_⟩
  by_cases g0 : ((d.files.length : Int) == 0) = true
  · simp only [RUX, Nat.reduceAdd, reduceIte, Nat.reduceEqDiff, Nat.reduceLT, Nat.reduceLeDiff, reduceCtorEq, eq_self, FIX, forall_const, endE_n, endE_r, CHT, disj, Nat.reduceBEq, beq_self_eq_true, APT, APX, forall_eq, ALT, ALU, rH, rV, rdC, rdr, USa_1.d, en_len, g0]
    refine ES.mk (p, ⟨[], [⟨#[97]⟩], []⟩) ⟨by simp only; omega, by simp only; omega, ⟨⟨Nat.zero_le _, by simp, Nat.zero_le _⟩, fun f h => (by cases h), fun x h => (by rw [List.mem_singleton.1 h]; decide), fun m h => (by cases h)⟩⟩ ?_
    simp only [RUX, Nat.reduceAdd, reduceIte, Nat.reduceEqDiff, Nat.reduceLT, Nat.reduceLeDiff, reduceCtorEq, eq_self, FIX, forall_const, endE_n, endE_r, CHT, disj, Nat.reduceBEq, beq_self_eq_true, APT, APX, forall_eq, ALT, ALU, rH, rV, rdC, rdr, s48, en_nil]
    rfl
  rw [Bool.not_eq_true] at g0
  have hpos : 0 < (d.files.length : Int) := by
    have : ¬ ((d.files.length : Int) = 0) := by simpa using g0
    omega
  have hf64 := hD.f
  obtain ⟨i, i0, i1, C1⟩ := pick_ok bs hb p d.files.length (by omega) (by omega)
  obtain ⟨i, rfl⟩ : ∃ m : Nat, i = m := ⟨i.toNat, (Int.toNat_of_nonneg i0).symm⟩
  obtain ⟨f, hx⟩ : ∃ x, d.files[i]? = some x := ⟨_, List.getElem?_eq_getElem (by omega)⟩
  have hd2 := (hD.files i f hx).data
  obtain ⟨k, k0, k1, C2⟩ := pick_ok bs hb (p + 1) 10 (by omega) (by omega)
  simp only [RUX, Nat.reduceAdd, reduceIte, Nat.reduceEqDiff, Nat.reduceLT, Nat.reduceLeDiff, reduceCtorEq, eq_self, FIX, forall_const, endE_n, endE_r, CHT, disj, Nat.reduceBEq, beq_self_eq_true, APT, APX, forall_eq, ALT, ALU, rH, rV, rdC, rdr, USa_1.d, en_len, g0]
  refine callRc (C1 0) rfl rfl rfl rfl rfl ⟨?_, ?_⟩
  · simp only [RUX, Nat.reduceAdd, reduceIte, Nat.reduceEqDiff, Nat.reduceLT, Nat.reduceLeDiff, reduceCtorEq, eq_self, FIX, forall_const, endE_n, endE_r, CHT, disj, Nat.reduceBEq, beq_self_eq_true, APT, APX, forall_eq, ALT, ALU, rH, rV, rdC, rdr, s48]
  simp only [RUX, Nat.reduceAdd, reduceIte, Nat.reduceEqDiff, Nat.reduceLT, Nat.reduceLeDiff, reduceCtorEq, eq_self, FIX, forall_const, endE_n, endE_r, CHT, disj, Nat.reduceBEq, beq_self_eq_true, APT, APX, forall_eq, ALT, ALU, rH, rV, rdC, rdr, USa_1.d]
  refine callRc (C2 0) rfl rfl rfl rfl rfl ⟨?_, ?_⟩
  · simp only [RUX, Nat.reduceAdd, reduceIte, Nat.reduceEqDiff, Nat.reduceLT, Nat.reduceLeDiff, reduceCtorEq, eq_self, FIX, forall_const, endE_n, endE_r, CHT, disj, Nat.reduceBEq, beq_self_eq_true, APT, APX, forall_eq, ALT, ALU, rH, rV, rdC, rdr, s48]
  have hq : 0 ≤ p ∧ p ≤ 900000000000 ∧ p ≤ p + 1 + 1 ∧ p + 1 + 1 ≤ p + 100 := by omega
  have hn := hD.n
  have hm := hD.m
  simp only [RUX, Nat.reduceAdd, reduceIte, Nat.reduceEqDiff, Nat.reduceLT, Nat.reduceLeDiff, reduceCtorEq, eq_self, FIX, forall_const, endE_n, endE_r, CHT, disj, Nat.reduceBEq, beq_self_eq_true, APT, APX, forall_eq, ALT, ALU, rH, rV, rdC, rdr, USa_1.d]
  by_cases b0 : (k == 0) = true
  · simp only [RUX, Nat.reduceAdd, reduceIte, Nat.reduceEqDiff, Nat.reduceLT, Nat.reduceLeDiff, reduceCtorEq, eq_self, FIX, forall_const, endE_n, endE_r, CHT, disj, Nat.reduceBEq, beq_self_eq_true, APT, APX, forall_eq, ALT, ALU, rH, rV, rdC, rdr, USa_1.d, b0]
    exact sp0 hb hq hd hx hd2 (by omega) (by omega) ⟨_, _, _, _, _, rfl, rfl, rfl, rfl, rfl, rfl, rfl, rfl, rfl, rfl⟩
  rw [Bool.not_eq_true] at b0
  by_cases b1 : (k == 1) = true
  · simp only [RUX, Nat.reduceAdd, reduceIte, Nat.reduceEqDiff, Nat.reduceLT, Nat.reduceLeDiff, reduceCtorEq, eq_self, FIX, forall_const, endE_n, endE_r, CHT, disj, Nat.reduceBEq, beq_self_eq_true, APT, APX, forall_eq, ALT, ALU, rH, rV, rdC, rdr, USa_1.d, b0, b1]
    exact sp1 hb hq hd hx hd2 (by omega) (by omega) ⟨_, _, _, _, _, rfl, rfl, rfl, rfl, rfl, rfl, rfl, rfl, rfl, rfl⟩
  rw [Bool.not_eq_true] at b1
  by_cases b2 : (k == 2) = true
  · simp only [RUX, Nat.reduceAdd, reduceIte, Nat.reduceEqDiff, Nat.reduceLT, Nat.reduceLeDiff, reduceCtorEq, eq_self, FIX, forall_const, endE_n, endE_r, CHT, disj, Nat.reduceBEq, beq_self_eq_true, APT, APX, forall_eq, ALT, ALU, rH, rV, rdC, rdr, USa_1.d, b0, b1, b2]
    exact sp2 hb hq hd hx hd2 (by omega) (by omega) ⟨_, _, _, _, _, rfl, rfl, rfl, rfl, rfl, rfl, rfl, rfl, rfl, rfl⟩
  rw [Bool.not_eq_true] at b2
  by_cases b3 : (k == 3) = true
  · simp only [RUX, Nat.reduceAdd, reduceIte, Nat.reduceEqDiff, Nat.reduceLT, Nat.reduceLeDiff, reduceCtorEq, eq_self, FIX, forall_const, endE_n, endE_r, CHT, disj, Nat.reduceBEq, beq_self_eq_true, APT, APX, forall_eq, ALT, ALU, rH, rV, rdC, rdr, USa_1.d, b0, b1, b2, b3]
    exact sp3 hb hq hd hx hd2 (by omega) (by omega) ⟨_, _, _, _, _, rfl, rfl, rfl, rfl, rfl, rfl, rfl, rfl, rfl, rfl⟩
  rw [Bool.not_eq_true] at b3
  by_cases b4 : (k == 4) = true
  · simp only [RUX, Nat.reduceAdd, reduceIte, Nat.reduceEqDiff, Nat.reduceLT, Nat.reduceLeDiff, reduceCtorEq, eq_self, FIX, forall_const, endE_n, endE_r, CHT, disj, Nat.reduceBEq, beq_self_eq_true, APT, APX, forall_eq, ALT, ALU, rH, rV, rdC, rdr, USa_1.d, b0, b1, b2, b3, b4]
    exact sp4 hb hq hd hx hd2 (by omega) (by omega) ⟨_, _, _, _, _, rfl, rfl, rfl, rfl, rfl, rfl, rfl, rfl, rfl, rfl⟩
  rw [Bool.not_eq_true] at b4
  by_cases b5 : (k == 5) = true
  · simp only [RUX, Nat.reduceAdd, reduceIte, Nat.reduceEqDiff, Nat.reduceLT, Nat.reduceLeDiff, reduceCtorEq, eq_self, FIX, forall_const, endE_n, endE_r, CHT, disj, Nat.reduceBEq, beq_self_eq_true, APT, APX, forall_eq, ALT, ALU, rH, rV, rdC, rdr, USa_1.d, b0, b1, b2, b3, b4, b5]
    exact sp5 hb hq hd hx hd2 (by omega) (by omega) ⟨_, _, _, _, _, rfl, rfl, rfl, rfl, rfl, rfl, rfl, rfl, rfl, rfl⟩
  rw [Bool.not_eq_true] at b5
  by_cases b6 : (k == 6) = true
  · simp only [RUX, Nat.reduceAdd, reduceIte, Nat.reduceEqDiff, Nat.reduceLT, Nat.reduceLeDiff, reduceCtorEq, eq_self, FIX, forall_const, endE_n, endE_r, CHT, disj, Nat.reduceBEq, beq_self_eq_true, APT, APX, forall_eq, ALT, ALU, rH, rV, rdC, rdr, USa_1.d, b0, b1, b2, b3, b4, b5, b6]
    exact sp6 hb hq hd hx hd2 (by omega) (by omega) ⟨_, _, _, _, _, rfl, rfl, rfl, rfl, rfl, rfl, rfl, rfl, rfl, rfl⟩
  rw [Bool.not_eq_true] at b6
  by_cases b7 : (k == 7) = true
  · simp only [RUX, Nat.reduceAdd, reduceIte, Nat.reduceEqDiff, Nat.reduceLT, Nat.reduceLeDiff, reduceCtorEq, eq_self, FIX, forall_const, endE_n, endE_r, CHT, disj, Nat.reduceBEq, beq_self_eq_true, APT, APX, forall_eq, ALT, ALU, rH, rV, rdC, rdr, USa_1.d, b0, b1, b2, b3, b4, b5, b6, b7]
    exact sp7 hb hq hd hx hd2 ⟨_, _, _, _, _, rfl, rfl, rfl, rfl, rfl, rfl, rfl, rfl, rfl, rfl⟩
  rw [Bool.not_eq_true] at b7
  by_cases b8 : (k == 8) = true
  · simp only [RUX, Nat.reduceAdd, reduceIte, Nat.reduceEqDiff, Nat.reduceLT, Nat.reduceLeDiff, reduceCtorEq, eq_self, FIX, forall_const, endE_n, endE_r, CHT, disj, Nat.reduceBEq, beq_self_eq_true, APT, APX, forall_eq, ALT, ALU, rH, rV, rdC, rdr, USa_1.d, b0, b1, b2, b3, b4, b5, b6, b7, b8]
    exact sp8 hb hq hd hx hd2 ⟨_, _, _, _, _, rfl, rfl, rfl, rfl, rfl, rfl, rfl, rfl, rfl, rfl⟩
  rw [Bool.not_eq_true] at b8
  simp only [RUX, Nat.reduceAdd, reduceIte, Nat.reduceEqDiff, Nat.reduceLT, Nat.reduceLeDiff, reduceCtorEq, eq_self, FIX, forall_const, endE_n, endE_r, CHT, disj, Nat.reduceBEq, beq_self_eq_true, APT, APX, forall_eq, ALT, ALU, rH, rV, rdC, rdr, USa_1.d, b0, b1, b2, b3, b4, b5, b6, b7, b8]
  exact sp9 hb hq ⟨_, _, _, _, _, rfl, rfl, rfl, rfl, rfl, rfl, rfl, rfl, rfl, rfl⟩ rfl rfl
end Go.V
set_option linter.unusedSimpArgs false
namespace Go.V
open Go.Proofs
/- loop.example/teagle/spec.l45Any -/
def r19_0 : List AOper := [ao 0 2 (.alloc 27 [.nil0, .nil0, .nil0])]
def r19_1 : List AOper := [ao 0 4 (.mv (.t 0)),
  ao 1 5 (.call (.k (.c (.fn 47 []))) [(.t 4)]),
  ao 2 3 (.alloc 27 [.nil0, .nil0, .nil0]),
  an 3 (.st 3 (.t 3) (.t 5))]
def r19_2 : List AOper := [ao 0 6 (.mv (.t 0)),
  ao 1 7 (.call (.k (.c (.fn 22 []))) [(.t 6), (.k (.i 8))]),
  ao 2 8 (.bin .eql (.t 7) (.k (.i 0)))]
def r19_3 : List AOper := [ao 0 9 (.mv (.t 0)),
  ao 1 10 (.ld 3 true (.t 3)),
  ao 2 11 (.call (.k (.c (.fn 48 []))) [(.t 9), (.t 10)]),
  an 3 (.st 3 (.t 2) (.t 11))]
def c19_4 : ACode := .seq (.reg r19_3) .ret
def c19_5 : ACode := .cond (.t 8) c19_4 .skip
def c19_6 : ACode := .seq (.reg r19_2) c19_5
def r19_7 : List AOper := [ao 0 12 (.ld 3 true (.t 3)),
  an 1 (.st 3 (.t 2) (.t 12))]
def c19 : ACode := .seq (.reg r19_0) (.seq (.reg r19_1) (.seq c19_6 (.seq (.reg r19_7) .ret)))
def s19 : List ARes := [.cell 2 3 true]
theorem ok19 : okF Try.prog 19 13 c19 s19 := ⟨Try.f19, Try.func19, Try.ntmps19, by kernel_rfl, by kernel_rfl, by kernel_rfl⟩
def USb_1 := Bx.mk <|
  aN (uA c19.eq_1) <| aN (uR r19_0.eq_1) <| aN (uR r19_1.eq_1) <| aN (uA c19_6.eq_1) <| aN (uR r19_2.eq_1) <| aN (uA c19_5.eq_1) <| aN (uA c19_4.eq_1) <| aN (uR r19_3.eq_1) <| aN (uR r19_7.eq_1) <| s19.eq_1
theorem any_ok (bs : List UInt8) (hb : bs.length ≤ 2000) (p : Int) (hp : 0 ≤ p ∧ p ≤ 600000000000) : RC 19 [] bs p 10000000 fineDk tDk := by
  obtain ⟨q, d, q0, q1, hD, C1⟩ := disk_ok bs hb p (by omega)
  obtain ⟨k, k0, k1, C2⟩ := pick_ok bs hb q 8 (by omega) (by omega)
  refine RC.intro ok19 rfl (fun _ => rfl) fun X => ?_
  simp only [RUX, Nat.reduceAdd, reduceIte, Nat.reduceEqDiff, Nat.reduceLT, Nat.reduceLeDiff, reduceCtorEq, eq_self, FIX, forall_const, endE_n, endE_r, CHT, disj, Nat.reduceBEq, beq_self_eq_true, APT, APX, forall_eq, ALT, ALU, rH, rV, rdC, rdr, USb_1.d]
  refine callRc (C1 0) rfl rfl rfl rfl rfl ⟨?_, ?_⟩
  · simp only [RUX, Nat.reduceAdd, reduceIte, Nat.reduceEqDiff, Nat.reduceLT, Nat.reduceLeDiff, reduceCtorEq, eq_self, FIX, forall_const, endE_n, endE_r, CHT, disj, Nat.reduceBEq, beq_self_eq_true, APT, APX, forall_eq, ALT, ALU, rH, rV, rdC, rdr, s19]
  simp only [RUX, Nat.reduceAdd, reduceIte, Nat.reduceEqDiff, Nat.reduceLT, Nat.reduceLeDiff, reduceCtorEq, eq_self, FIX, forall_const, endE_n, endE_r, CHT, disj, Nat.reduceBEq, beq_self_eq_true, APT, APX, forall_eq, ALT, ALU, rH, rV, rdC, rdr, USb_1.d]
  refine callRc (C2 0) rfl rfl rfl rfl rfl ⟨?_, ?_⟩
  · simp only [RUX, Nat.reduceAdd, reduceIte, Nat.reduceEqDiff, Nat.reduceLT, Nat.reduceLeDiff, reduceCtorEq, eq_self, FIX, forall_const, endE_n, endE_r, CHT, disj, Nat.reduceBEq, beq_self_eq_true, APT, APX, forall_eq, ALT, ALU, rH, rV, rdC, rdr, s19]
  by_cases g : (k == 0) = true
  · obtain ⟨q2, d', q20, q21, hd', C3⟩ := spoil_ok bs hb (q + 1) (by omega) d hD
    simp only [RUX, Nat.reduceAdd, reduceIte, Nat.reduceEqDiff, Nat.reduceLT, Nat.reduceLeDiff, reduceCtorEq, eq_self, FIX, forall_const, endE_n, endE_r, CHT, disj, Nat.reduceBEq, beq_self_eq_true, APT, APX, forall_eq, ALT, ALU, rH, rV, rdC, rdr, USb_1.d, g]
    refine callRc (C3 0) rfl rfl rfl rfl rfl ⟨?_, ?_⟩
    · simp only [RUX, Nat.reduceAdd, reduceIte, Nat.reduceEqDiff, Nat.reduceLT, Nat.reduceLeDiff, reduceCtorEq, eq_self, FIX, forall_const, endE_n, endE_r, CHT, disj, Nat.reduceBEq, beq_self_eq_true, APT, APX, forall_eq, ALT, ALU, rH, rV, rdC, rdr, s19]
    simp only [RUX, Nat.reduceAdd, reduceIte, Nat.reduceEqDiff, Nat.reduceLT, Nat.reduceLeDiff, reduceCtorEq, eq_self, FIX, forall_const, endE_n, endE_r, CHT, disj, Nat.reduceBEq, beq_self_eq_true, APT, APX, forall_eq, ALT, ALU, rH, rV, rdC, rdr, USb_1.d]
    refine ES.mk (q2, d') ⟨by simp only; omega, by simp only; omega, hd'⟩ ?_
    simp only [RUX, Nat.reduceAdd, reduceIte, Nat.reduceEqDiff, Nat.reduceLT, Nat.reduceLeDiff, reduceCtorEq, eq_self, FIX, forall_const, endE_n, endE_r, CHT, disj, Nat.reduceBEq, beq_self_eq_true, APT, APX, forall_eq, ALT, ALU, rH, rV, rdC, rdr, USb_1.d]
  · rw [Bool.not_eq_true] at g
    simp only [RUX, Nat.reduceAdd, reduceIte, Nat.reduceEqDiff, Nat.reduceLT, Nat.reduceLeDiff, reduceCtorEq, eq_self, FIX, forall_const, endE_n, endE_r, CHT, disj, Nat.reduceBEq, beq_self_eq_true, APT, APX, forall_eq, ALT, ALU, rH, rV, rdC, rdr, USb_1.d, g]
    refine ES.mk (q + 1, d) ⟨by simp only; omega, by simp only; omega, hD.fine⟩ ?_
    simp only [RUX, Nat.reduceAdd, reduceIte, Nat.reduceEqDiff, Nat.reduceLT, Nat.reduceLeDiff, reduceCtorEq, eq_self, FIX, forall_const, endE_n, endE_r, CHT, disj, Nat.reduceBEq, beq_self_eq_true, APT, APX, forall_eq, ALT, ALU, rH, rV, rdC, rdr, USb_1.d]
abbrev tDkW (x : Dk × DW) : T := .tup [.agg (cDk x.1), .agg [.v (.s (.int .i64 x.2.kind)), .v (.s (.string x.2.name)), .v (.s (.string x.2.data))]]
/- loop.example/teagle/spec.DrawDiskDo -/
def r5_0 : List AOper := [ao 0 2 (.alloc 27 [.nil0, .nil0, .nil0]),
  ao 1 3 (.alloc 29 [(.v (.s (.int .i64 0))), (.v (.s (.string ⟨#[]⟩))), (.v (.s (.string ⟨#[]⟩)))])]
def r5_1 : List AOper := [ao 0 7 (.mv (.t 0)),
  ao 1 8 (.call (.k (.c (.fn 18 []))) [(.t 7)]),
  ao 2 4 (.mv (.t 8))]
def r5_2 : List AOper := [ao 0 9 (.mv (.t 4)),
  ao 1 10 (.call (.k (.c (.fn 19 []))) [(.t 9)]),
  ao 2 5 (.alloc 27 [.nil0, .nil0, .nil0]),
  an 3 (.st 3 (.t 5) (.t 10))]
def r5_3 : List AOper := [ao 0 11 (.mv (.t 4)),
  au 1 12 [0] (.ld 3 true (.t 5)),
  au 2 13 [0, 1] (.mv (.t 4)),
  au 3 14 [0, 1] (.call (.k (.c (.fn 22 []))) [(.t 13), (.k (.i 3))]),
  au 4 15 [0, 1] (.bin .sub (.k (.i 20000)) (.t 14)),
  au 5 16 [0, 1] (.call (.k (.c (.fn 21 []))) [(.k (.s (.string ⟨#[119]⟩))), (.t 15)]),
  ao 6 17 (.call (.k (.c (.fn 20 []))) [(.t 11), (.t 12), (.t 16)]),
  au 7 6 (ru 7) (.alloc 29 [(.v (.s (.int .i64 0))), (.v (.s (.string ⟨#[]⟩))), (.v (.s (.string ⟨#[]⟩)))]),
  an 8 (.st 3 (.t 6) (.t 17))]
def r5_4 : List AOper := [ao 0 18 (.ld 3 true (.t 5)),
  au 1 19 [0] (.ld 3 true (.t 6)),
  ax 2 none none [1] (.st 3 (.t 2) (.t 18)),
  an 3 (.st 3 (.t 3) (.t 19))]
def c5 : ACode := .seq (.reg r5_0) (.seq (.reg r5_1) (.seq (.reg r5_2) (.seq (.reg r5_3) (.seq (.reg r5_4) .ret))))
def s5 : List ARes := [.cell 2 3 true, .cell 3 3 true]
theorem ok5 : okF Try.prog 5 20 c5 s5 := ⟨Try.f5, Try.func5, Try.ntmps5, by kernel_rfl, by kernel_rfl, by kernel_rfl⟩
def USb_2 := Bx.mk <|
  aN (uA c5.eq_1) <| aN (uR r5_0.eq_1) <| aN (uR r5_1.eq_1) <| aN (uR r5_2.eq_1) <| aN (uR r5_3.eq_1) <| aN (uR r5_4.eq_1) <| s5.eq_1
theorem drawDo_ok (bs : List UInt8) : PC 5 [.c (.v (.sl (encB bs)))] (fun x : Dk × DW => fineDk x.1 ∧ fineDW x.2) tDkW := by
  have hb : (bs.take 2000).length ≤ 2000 := by rw [List.length_take]; omega
  obtain ⟨q, d, q0, q1, hd, C1⟩ := any_ok (bs.take 2000) hb 0 (by omega)
  obtain ⟨k, k0, k1, C2⟩ := pick_ok (bs.take 2000) hb q 3 (by omega) (by omega)
  have w1 : IntKind.i64.wrap (20000 - k) = ((20000 - k).toNat : Int) := (wrap64 ⟨by omega, by omega⟩).trans (by omega)
  obtain ⟨s, hs, C3⟩ := many_ok ⟨#[119]⟩ (20000 - k).toNat (by omega) (by decide)
  have hz : (⟨#[119]⟩ : ByteArray).size = 1 := rfl
  obtain ⟨q2, w, q20, q21, hw, C4⟩ := write20_ok (bs.take 2000) hb (q + 1) (by omega) d hd s (by rw [hs, hz]; omega)
  refine PC.intro ok5 rfl (fun _ => rfl) fun X => ?_
  simp only [RUX, Nat.reduceAdd, reduceIte, Nat.reduceEqDiff, Nat.reduceLT, Nat.reduceLeDiff, reduceCtorEq, eq_self, FIX, forall_const, endE_n, endE_r, CHT, disj, Nat.reduceBEq, beq_self_eq_true, APT, APX, forall_eq, ALT, ALU, rH, rV, rdC, rdr, USb_2.d]
  refine callOpen rfl rfl ⟨?_, ?_⟩
  · simp only [RUX, Nat.reduceAdd, reduceIte, Nat.reduceEqDiff, Nat.reduceLT, Nat.reduceLeDiff, reduceCtorEq, eq_self, FIX, forall_const, endE_n, endE_r, CHT, disj, Nat.reduceBEq, beq_self_eq_true, APT, APX, forall_eq, ALT, ALU, rH, rV, rdC, rdr, s5]
  simp only [RUX, Nat.reduceAdd, reduceIte, Nat.reduceEqDiff, Nat.reduceLT, Nat.reduceLeDiff, reduceCtorEq, eq_self, FIX, forall_const, endE_n, endE_r, CHT, disj, Nat.reduceBEq, beq_self_eq_true, APT, APX, forall_eq, ALT, ALU, rH, rV, rdC, rdr, USb_2.d]
  refine callRc (C1 _) rfl rfl rfl rfl rfl ⟨?_, ?_⟩
  · simp only [RUX, Nat.reduceAdd, reduceIte, Nat.reduceEqDiff, Nat.reduceLT, Nat.reduceLeDiff, reduceCtorEq, eq_self, FIX, forall_const, endE_n, endE_r, CHT, disj, Nat.reduceBEq, beq_self_eq_true, APT, APX, forall_eq, ALT, ALU, rH, rV, rdC, rdr, s5]
  simp only [RUX, Nat.reduceAdd, reduceIte, Nat.reduceEqDiff, Nat.reduceLT, Nat.reduceLeDiff, reduceCtorEq, eq_self, FIX, forall_const, endE_n, endE_r, CHT, disj, Nat.reduceBEq, beq_self_eq_true, APT, APX, forall_eq, ALT, ALU, rH, rV, rdC, rdr, USb_2.d]
  refine callRc (C2 _) rfl rfl rfl rfl rfl ⟨?_, ?_⟩
  · simp only [RUX, Nat.reduceAdd, reduceIte, Nat.reduceEqDiff, Nat.reduceLT, Nat.reduceLeDiff, reduceCtorEq, eq_self, FIX, forall_const, endE_n, endE_r, CHT, disj, Nat.reduceBEq, beq_self_eq_true, APT, APX, forall_eq, ALT, ALU, rH, rV, rdC, rdr, s5]
  simp only [RUX, Nat.reduceAdd, reduceIte, Nat.reduceEqDiff, Nat.reduceLT, Nat.reduceLeDiff, reduceCtorEq, eq_self, FIX, forall_const, endE_n, endE_r, CHT, disj, Nat.reduceBEq, beq_self_eq_true, APT, APX, forall_eq, ALT, ALU, rH, rV, rdC, rdr, USb_2.d, w1]
  refine callC C3 rfl rfl rfl rfl ?_
  simp only [RUX, Nat.reduceAdd, reduceIte, Nat.reduceEqDiff, Nat.reduceLT, Nat.reduceLeDiff, reduceCtorEq, eq_self, FIX, forall_const, endE_n, endE_r, CHT, disj, Nat.reduceBEq, beq_self_eq_true, APT, APX, forall_eq, ALT, ALU, rH, rV, rdC, rdr, USb_2.d]
  refine callRc (C4 _) rfl rfl rfl rfl rfl ⟨?_, ?_⟩
  · simp only [RUX, Nat.reduceAdd, reduceIte, Nat.reduceEqDiff, Nat.reduceLT, Nat.reduceLeDiff, reduceCtorEq, eq_self, FIX, forall_const, endE_n, endE_r, CHT, disj, Nat.reduceBEq, beq_self_eq_true, APT, APX, forall_eq, ALT, ALU, rH, rV, rdC, rdr, s5]
  simp only [RUX, Nat.reduceAdd, reduceIte, Nat.reduceEqDiff, Nat.reduceLT, Nat.reduceLeDiff, reduceCtorEq, eq_self, FIX, forall_const, endE_n, endE_r, CHT, disj, Nat.reduceBEq, beq_self_eq_true, APT, APX, forall_eq, ALT, ALU, rH, rV, rdC, rdr, USb_2.d]
  refine ES.mk (d, w) ⟨hd, hw⟩ ?_
  simp only [RUX, Nat.reduceAdd, reduceIte, Nat.reduceEqDiff, Nat.reduceLT, Nat.reduceLeDiff, reduceCtorEq, eq_self, FIX, forall_const, endE_n, endE_r, CHT, disj, Nat.reduceBEq, beq_self_eq_true, APT, APX, forall_eq, ALT, ALU, rH, rV, rdC, rdr, USb_2.d]
end Go.V
set_option linter.unusedSimpArgs false
namespace Go.V
open Go.Proofs
theorem doS_code {d : Dk} {w : DW} (h : (doS d w).2 ≠ 0) : (doS d w).1 = d := by
  revert h
  unfold doS
  repeat' split
  all_goals simp
theorem DOk.fileAt {d : Dk} (hD : DOk d) {i : Nat} {f : DF} (hi : d.files[i]? = some f) : fileOf d.files f.name = f := by
  have h := hD.files i f hi
  obtain ⟨j, k1, k2, k3⟩ := hD.find (List.mem_of_getElem? h.made)
  rw [h.one] at k1
  have : j = i := by omega
  subst this
  rw [hi] at k2
  exact (Option.some.inj k2).symm
theorem lk_in {d : Dk} {nm : ByteArray} {x : ByteArray × Bool} (h : LkR d nm x) (hD : DOk d) (hm : nm ∈ aft d.names d.moves) : x = ((fileOf d.files nm).data, true) := by
  rcases h with ⟨_, h⟩ | ⟨h, _⟩
  · exact h
  · exact absurd ⟨hD, hm⟩ h
theorem lk_out {d : Dk} {nm : ByteArray} {x : ByteArray × Bool} (h : LkR d nm x) (hm : ¬ (DOk d ∧ nm ∈ aft d.names d.moves)) : x = (⟨#[]⟩, false) := by
  rcases h with ⟨h, _⟩ | ⟨_, h⟩
  · exact absurd h hm
  · exact h
theorem DOk.aftFind {d : Dk} (hD : DOk d) {nm : ByteArray} (hm : nm ∈ aft d.names d.moves) : ∃ i : Nat, fnd d.files nm = i ∧ d.files[i]? = some (fileOf d.files nm) ∧ (fileOf d.files nm).name = nm :=
  hD.find (DOk.aft_made (n := d.moves.length) (by rw [List.take_length]; exact hm))
theorem wo_not (nm : ByteArray) (ns : List ByteArray) : nm ∉ wo nm ns := by
  intro h
  have := (List.mem_filter.1 h).2
  simp at this
/-- What a write that is done does to its file. -/
structure Done (d : Dk) (w : DW) (x y : ByteArray × Bool) : Prop where
  make : w.kind = 1 → x.2 = false ∧ y = (⟨#[]⟩, true)
  add : w.kind = 2 → x.2 = true ∧ y = (x.1 ++ w.data, true)
  gone : w.kind = 4 → x.2 = true ∧ y = (⟨#[]⟩, false)
  rest : w.kind ≠ 1 → w.kind ≠ 2 → w.kind ≠ 4 → y = x
theorem fileOf_new {d : Dk} {nm : ByteArray} (h : DOk d) (hm : nm ∈ aft d.names d.moves) {i : Nat} (hf : fnd d.files nm = i) {g : DF} (hg : g.name = nm) {d' : Dk} (hd' : d' = ⟨d.files.set i g, d.names, d.moves⟩) (hD' : DOk d') : fileOf d'.files nm = g := by
  obtain ⟨j, k1, k2, k3⟩ := h.aftFind hm
  have : j = i := by rw [hf] at k1; omega
  subst this
  have hi : d'.files[j]? = some g := by rw [hd']; exact List.getElem?_set_self (List.getElem?_eq_some_iff.1 k2).1
  have := hD'.fileAt hi
  rwa [hg] at this
theorem do_done {d : Dk} {w : DW} (h : DOk d) (hc : (doS d w).2 = 0) {x y : ByteArray × Bool} (hx : LkR d w.name x) (hy : LkR (doS d w).1 w.name y) : Done d w x y := by
  have hS := h.step w
  revert hc hy hS
  unfold doS
  split
  · rename_i hk
    split
    · intro hc; simp at hc
    · rename_i hN
      split
      · intro hc; simp at hc
      · intro _ hy hS
        have hfn : ¬ 0 ≤ fnd d.files w.name := fun e => hN (.inr e)
        have hnm : w.name ∉ aft d.names d.moves := fun hm => by
          obtain ⟨i, k1, _⟩ := h.aftFind hm
          omega
        have hin : w.name ∈ aft d.names (d.moves ++ [⟨false, w.name⟩]) := by rw [aft_snoc]; simp
        have e1 := lk_out hx fun e => hnm e.2
        have e2 := lk_in hy hS hin
        have hi : (d.files ++ [(⟨w.name, ⟨#[]⟩, 0⟩ : DF)])[d.files.length]? = some ⟨w.name, ⟨#[]⟩, 0⟩ := by simp
        have e3 := hS.fileAt hi
        simp only at e3
        rw [e3] at e2
        refine ⟨fun _ => ⟨by rw [e1], e2⟩, fun e => ?_, fun e => ?_, fun e => absurd hk e⟩
        · rw [hk] at e; cases e
        · rw [hk] at e; cases e
  · rename_i hk1
    split
    · rename_i hk
      intro _ hy hS
      refine ⟨fun e => absurd e hk1, fun e => ?_, fun e => ?_, fun _ _ _ => ?_⟩
      · rw [hk] at e; cases e
      · rw [hk] at e; cases e
      · by_cases hm : w.name ∈ aft d.names d.moves
        · have e1 := lk_in hx h hm
          have e2 := lk_in hy hS hm
          obtain ⟨j, hj⟩ := List.mem_iff_getElem?.1 hm
          obtain ⟨_, _, _, k3⟩ := h.aftFind hm
          have hi : (keepD d (aft d.names d.moves)).files[j]? = some (fileOf d.files w.name) := by
            show ((aft d.names d.moves).map (fileOf d.files))[j]? = _
            rw [List.getElem?_map, hj]; rfl
          have e3 := hS.fileAt hi
          rw [k3] at e3
          rw [e1, e2, e3]
        · rw [lk_out hx fun e => hm e.2, lk_out hy fun e => hm e.2]
    · rename_i hk5
      split
      · intro hc; simp at hc
      · rename_i hr
        split
        · intro hc; simp at hc
        · rename_i hh
          have hm : w.name ∈ aft d.names d.moves := has_true.1 (by cases hq : has (aft d.names d.moves) w.name with | true => rfl | false => exact absurd hq hh)
          have e1 := lk_in hx h hm
          obtain ⟨i, h3, h4, h5⟩ := h.aftFind hm
          rw [h3, Int.toNat_natCast]
          split
          · rename_i hk
            split
            · intro hc; simp at hc
            · intro _ hy hS
              have e2 := lk_in hy hS hm
              have e3 := fileOf_new h hm h3 (g := ⟨(fileOf d.files w.name).name, (fileOf d.files w.name).data ++ w.data, (fileOf d.files w.name).kept⟩) h5 rfl hS
              simp only at e2 e3
              rw [e3] at e2
              refine ⟨fun e => absurd e hk1, fun _ => ⟨by rw [e1], by rw [e2, e1]⟩, fun e => ?_, fun _ e => absurd hk e⟩
              rw [hk] at e; cases e
          · rename_i hk2
            split
            · rename_i hk
              intro _ hy hS
              have e2 := lk_in hy hS hm
              have e3 := fileOf_new h hm h3 (g := ⟨(fileOf d.files w.name).name, (fileOf d.files w.name).data, (fileOf d.files w.name).data.size⟩) h5 rfl hS
              simp only at e2 e3
              rw [e3] at e2
              refine ⟨fun e => absurd e hk1, fun e => absurd e hk2, fun e => ?_, fun _ _ _ => by rw [e2, e1]⟩
              rw [hk] at e; cases e
            · rename_i hk3
              split
              · intro hc; simp at hc
              · intro _ hy hS
                have hno : w.name ∉ aft d.names (d.moves ++ [⟨true, w.name⟩]) := by rw [aft_snoc]; exact wo_not _ _
                have e2 := lk_out hy fun e => hno e.2
                refine ⟨fun e => absurd e hk1, fun e => absurd e hk2, fun _ => ⟨by rw [e1], e2⟩, fun _ _ e => ?_⟩
                have : w.kind = 4 := by omega
                exact absurd this e
end Go.V
set_option linter.unusedSimpArgs false
namespace Go.V
open Go.Proofs
/- loop.example/teagle/laws.loHas -/
def r14_0 : List AOper := [ao 0 4 (.mv (.k (.b false)))]
def r14_1 : List AOper := [ao 0 5 (.mv (.k (.i 0)))]
def r14_2 : List AOper := [ao 0 6 (.mv (.t 5)),
  ao 1 7 (.mv (.t 0)),
  ao 2 8 (.len (.t 7)),
  ao 3 9 (.bin .lss (.t 6) (.t 8))]
def c14_3 : ACode := .cond (.t 9) .skip (.exit 0)
def c14_4 : ACode := .seq (.reg r14_2) c14_3
def r14_5 : List AOper := [ao 0 12 (.mv (.t 0)),
  ao 1 13 (.mv (.t 5)),
  ao 2 14 (.ia 1 (.t 12) (.t 13)),
  ao 3 15 (.ld 1 false (.t 14)),
  ao 4 16 (.mv (.t 1)),
  ao 5 17 (.bin .eql (.t 15) (.t 16))]
def r14_6 : List AOper := [ao 0 4 (.mv (.k (.b true)))]
def c14_7 : ACode := .seq (.reg r14_6) .ret
def c14_8 : ACode := .cond (.t 17) c14_7 .skip
def c14_9 : ACode := .seq (.reg r14_5) c14_8
def c14_10 : ACode := .block 1 c14_9
def r14_11 : List AOper := [ao 0 10 (.mv (.t 5)),
  ao 1 11 (.bin .add (.t 10) (.k (.i 1))),
  ao 2 5 (.mv (.t 11))]
def c14_12 : ACode := .seq c14_4 (.seq c14_10 (.reg r14_11))
def c14_13 : ACode := .loop c14_12
def c14_14 : ACode := .block 0 c14_13
def c14_15 : ACode := .seq (.reg r14_1) c14_14
def r14_16 : List AOper := [ao 0 4 (.mv (.k (.b false)))]
def c14 : ACode := .seq (.reg r14_0) (.seq c14_15 (.seq (.reg r14_16) .ret))
def s14 : List ARes := [.tmp 4]
theorem ok14 : okF Try.prog 14 18 c14 s14 := ⟨Try.f14, Try.func14, Try.ntmps14, by kernel_rfl, by kernel_rfl, by kernel_rfl⟩
def inv14 (ns : List ByteArray) (nm : ByteArray) (i : Nat) (σ : St) : Prop := (∀ (j : Nat), j < i → ns[j]? ≠ some nm) ∧ σ.t 0 = tL (en eS ns) ∧ σ.t 1 = tS nm ∧ σ.t 5 = .i i
def UTa_1 := Bx.mk <|
  aN (uA c14.eq_1) <| aN (uR r14_0.eq_1) <| aN (uA c14_15.eq_1) <| aN (uR r14_1.eq_1) <| aN (uA c14_14.eq_1) <| aN (uA c14_13.eq_1) <| aN (uR r14_16.eq_1) <| s14.eq_1
def UTa_7 := Bx.mk <|
  aN (uA c14_12.eq_1) <| aN (uA c14_4.eq_1) <| aN (uR r14_2.eq_1) <| aN (uA c14_3.eq_1) <| aN (uA c14_10.eq_1) <| aN (uA c14_9.eq_1) <| aN (uR r14_5.eq_1) <| aN (uA c14_8.eq_1) <| aN (uA c14_7.eq_1) <| aN (uR r14_6.eq_1) <| aN (uR r14_11.eq_1) <| aN (uA c14.eq_1) <| aN (uR r14_0.eq_1) <| aN (uA c14_15.eq_1) <| aN (uR r14_1.eq_1) <| aN (uA c14_14.eq_1) <| aN (uA c14_13.eq_1) <| aN (uR r14_16.eq_1) <| s14.eq_1
theorem loHas_ok (ns : List ByteArray) (nm : ByteArray) (hl : ns.length ≤ 9000000000000000000) : ACallsF Try.prog 14 [tL (en eS ns), tS nm] [] (.b (has ns nm)) := by
  refine ACallsF.intro ok14 follows fun X c0 => ?_
  simp only [RUX, Nat.reduceAdd, reduceIte, Nat.reduceEqDiff, Nat.reduceLT, Nat.reduceLeDiff, reduceCtorEq, eq_self, FIX, forall_const, endE_n, endE_r, CHT, disj, Nat.reduceBEq, beq_self_eq_true, APT, APX, forall_eq, ALT, UTa_1.d]
  refine AW.upto ns.length (inv14 ns nm) ⟨fun j hj => absurd hj (Nat.not_lt_zero j), rfl, rfl, rfl⟩ fun i t H c hi h => ?_
  obtain ⟨g, e0, e1, e5⟩ := h
  simp only [T.c, T.i, T.s, tL] at e0 e1 e5
  by_cases hlt : i < ns.length
  · obtain ⟨x, hx⟩ : ∃ x, ns[i]? = some x := ⟨_, List.getElem?_eq_getElem hlt⟩
    have ex := en_at eS hx
    have k1 : (i : Int) < ns.length := by omega
    have gz : (0 : Int) ≤ i := by omega
    have gw : IntKind.i64.wrap ((i : Int) + 1) = ((i + 1 : Nat) : Int) := wrap64 (x := (i : Int) + 1) ⟨by omega, by omega⟩
    by_cases hn : x = nm
    · have hr : has ns nm = true := has_true.2 (hn ▸ List.mem_of_getElem? hx)
      simp only [RUX, Nat.reduceAdd, reduceIte, Nat.reduceEqDiff, Nat.reduceLT, Nat.reduceLeDiff, reduceCtorEq, eq_self, FIX, forall_const, endE_n, endE_r, CHT, disj, Nat.reduceBEq, beq_self_eq_true, APT, APX, forall_eq, ALT, UTa_7.d, UTa_1.d, e0, e1, e5, en_len, k1, gz, ex, eS, sStr, str_beq, hn, hr, decide_true]
    · simp only [RUX, Nat.reduceAdd, reduceIte, Nat.reduceEqDiff, Nat.reduceLT, Nat.reduceLeDiff, reduceCtorEq, eq_self, FIX, forall_const, endE_n, endE_r, CHT, disj, Nat.reduceBEq, beq_self_eq_true, APT, APX, forall_eq, ALT, UTa_7.d, e0, e1, e5, en_len, k1, gz, ex, eS, sStr, str_beq, hn, gw]
      exact ⟨hlt, fun j hj => (by rcases Nat.lt_succ_iff_lt_or_eq.1 hj with hj | rfl; exact g j hj; rw [hx]; exact fun e => hn (Option.some.inj e)), e0, e1, rfl⟩
  · have k1 : ¬ (i : Int) < ns.length := by omega
    have hr : has ns nm = false := has_false.2 fun hm => by
      obtain ⟨j, hj⟩ := List.mem_iff_getElem?.1 hm
      exact g j (by have := (List.getElem?_eq_some_iff.1 hj).1; omega) hj
    simp only [RUX, Nat.reduceAdd, reduceIte, Nat.reduceEqDiff, Nat.reduceLT, Nat.reduceLeDiff, reduceCtorEq, eq_self, FIX, forall_const, endE_n, endE_r, CHT, disj, Nat.reduceBEq, beq_self_eq_true, APT, APX, forall_eq, ALT, UTa_7.d, UTa_1.d, e0, e1, e5, en_len, k1, hr]

/- loop.example/teagle/impl.DiskNames -/
def r15_0 : List AOper := [ao 0 1 (.box 27 (.t 0)),
  ao 1 2 (.mv (.k (.c .nil0)))]
def r15_1 : List AOper := [ao 0 3 (.ld 3 true (.t 1)),
  ao 1 4 (.call (.k (.c (.fn 12 []))) [(.t 3)]),
  ao 2 5 (.un .not (.t 4))]
def r15_2 : List AOper := [ao 0 2 (.mv (.k (.c .nil0)))]
def c15_3 : ACode := .seq (.reg r15_2) .ret
def c15_4 : ACode := .cond (.t 5) c15_3 .skip
def c15_5 : ACode := .seq (.reg r15_1) c15_4
def r15_6 : List AOper := [ao 0 6 (.ld 3 true (.t 1)),
  ao 1 7 (.call (.k (.c (.fn 44 []))) [(.t 6)]),
  ao 2 2 (.mv (.t 7))]
def c15 : ACode := .seq (.reg r15_0) (.seq c15_5 (.seq (.reg r15_6) .ret))
def s15 : List ARes := [.tmp 2]
theorem ok15 : okF Try.prog 15 8 c15 s15 := ⟨Try.f15, Try.func15, Try.ntmps15, by kernel_rfl, by kernel_rfl, by kernel_rfl⟩
def UTa_2 := Bx.mk <|
  aN (uA c15.eq_1) <| aN (uR r15_0.eq_1) <| aN (uA c15_5.eq_1) <| aN (uR r15_1.eq_1) <| aN (uA c15_4.eq_1) <| aN (uA c15_3.eq_1) <| aN (uR r15_2.eq_1) <| aN (uR r15_6.eq_1) <| s15.eq_1
theorem namesI15_ok (d : Dk) (hd : fineDk d) : ∃ ns, NmR d ns ∧ ACallsF Try.prog 15 [tDk d] [] (tL (en eS ns)) := by
  obtain ⟨b, hb, hC⟩ := okI_ok d hd
  by_cases hD : DOk d
  · rw [hb.2 hD] at hC
    have hT := thereC_ok d hd hD
    refine ⟨_, .inl ⟨hD, rfl⟩, ACallsF.intro ok15 follows fun X c0 => ?_⟩
    simp only [RUX, Nat.reduceAdd, reduceIte, Nat.reduceEqDiff, Nat.reduceLT, Nat.reduceLeDiff, reduceCtorEq, eq_self, FIX, forall_const, endE_n, endE_r, CHT, disj, Nat.reduceBEq, beq_self_eq_true, APT, APX, forall_eq, ALT, ALU, UTa_2.d]
    refine callC hC rfl rfl rfl rfl ?_
    simp only [RUX, Nat.reduceAdd, reduceIte, Nat.reduceEqDiff, Nat.reduceLT, Nat.reduceLeDiff, reduceCtorEq, eq_self, FIX, forall_const, endE_n, endE_r, CHT, disj, Nat.reduceBEq, beq_self_eq_true, APT, APX, forall_eq, ALT, ALU, UTa_2.d]
    refine callC hT rfl rfl rfl rfl ?_
    simp only [RUX, Nat.reduceAdd, reduceIte, Nat.reduceEqDiff, Nat.reduceLT, Nat.reduceLeDiff, reduceCtorEq, eq_self, FIX, forall_const, endE_n, endE_r, CHT, disj, Nat.reduceBEq, beq_self_eq_true, APT, APX, forall_eq, ALT, ALU, UTa_2.d]
  · have hbf : b = false := by cases hq : b with | false => rfl | true => exact absurd (hb.1 hq) hD
    rw [hbf] at hC
    refine ⟨[], .inr ⟨hD, rfl⟩, ACallsF.intro ok15 follows fun X c0 => ?_⟩
    simp only [RUX, Nat.reduceAdd, reduceIte, Nat.reduceEqDiff, Nat.reduceLT, Nat.reduceLeDiff, reduceCtorEq, eq_self, FIX, forall_const, endE_n, endE_r, CHT, disj, Nat.reduceBEq, beq_self_eq_true, APT, APX, forall_eq, ALT, ALU, UTa_2.d]
    refine callC hC rfl rfl rfl rfl ?_
    simp only [RUX, Nat.reduceAdd, reduceIte, Nat.reduceEqDiff, Nat.reduceLT, Nat.reduceLeDiff, reduceCtorEq, eq_self, FIX, forall_const, endE_n, endE_r, CHT, disj, Nat.reduceBEq, beq_self_eq_true, APT, APX, forall_eq, ALT, ALU, UTa_2.d, en_nil]
/- loop.example/teagle/impl.DiskCut -/
def r17_0 : List AOper := [ao 0 3 (.box 27 (.t 0)),
  ao 1 6 (.alloc 27 [.nil0, .nil0, .nil0])]
def r17_1 : List AOper := [ao 0 7 (.ld 3 true (.t 3)),
  ao 1 8 (.call (.k (.c (.fn 12 []))) [(.t 7)]),
  ao 2 9 (.un .not (.t 8))]
def r17_2 : List AOper := [ao 0 10 (.build [.nil0, .nil0, .nil0] []),
  an 1 (.st 3 (.t 6) (.t 10))]
def c17_3 : ACode := .seq (.reg r17_2) .ret
def c17_4 : ACode := .cond (.t 9) c17_3 .skip
def c17_5 : ACode := .seq (.reg r17_1) c17_4
def r17_6 : List AOper := [ao 0 11 (.ld 3 true (.t 3)),
  ao 1 12 (.mv (.t 1)),
  ao 2 13 (.mv (.t 2)),
  ao 3 14 (.call (.k (.c (.fn 46 []))) [(.t 11), (.t 12), (.t 13)]),
  an 4 (.st 3 (.t 6) (.t 14))]
def c17 : ACode := .seq (.reg r17_0) (.seq c17_5 (.seq (.reg r17_6) .ret))
def s17 : List ARes := [.cell 6 3 true]
theorem ok17 : okF Try.prog 17 15 c17 s17 := ⟨Try.f17, Try.func17, Try.ntmps17, by kernel_rfl, by kernel_rfl, by kernel_rfl⟩
def UTa_3 := Bx.mk <|
  aN (uA c17.eq_1) <| aN (uR r17_0.eq_1) <| aN (uA c17_5.eq_1) <| aN (uR r17_1.eq_1) <| aN (uA c17_4.eq_1) <| aN (uA c17_3.eq_1) <| aN (uR r17_2.eq_1) <| aN (uR r17_6.eq_1) <| s17.eq_1
theorem cutI17_ok (d : Dk) (hD : DOk d) (m : Int) (keep : List Int) : ACallsF Try.prog 17 [tDk d, .i m, tL (en eI keep)] [] (tDk (cutD d m keep)) := by
  obtain ⟨b, hb, hC⟩ := okI_ok d hD.fine
  rw [hb.2 hD] at hC
  refine ACallsF.intro ok17 follows fun X c0 => ?_
  simp only [RUX, Nat.reduceAdd, reduceIte, Nat.reduceEqDiff, Nat.reduceLT, Nat.reduceLeDiff, reduceCtorEq, eq_self, FIX, forall_const, endE_n, endE_r, CHT, disj, Nat.reduceBEq, beq_self_eq_true, APT, APX, forall_eq, ALT, ALU, UTa_3.d]
  refine callC hC rfl rfl rfl rfl ?_
  simp only [RUX, Nat.reduceAdd, reduceIte, Nat.reduceEqDiff, Nat.reduceLT, Nat.reduceLeDiff, reduceCtorEq, eq_self, FIX, forall_const, endE_n, endE_r, CHT, disj, Nat.reduceBEq, beq_self_eq_true, APT, APX, forall_eq, ALT, ALU, UTa_3.d]
  refine callC (cutI_ok d hD m keep) rfl rfl rfl rfl ?_
  simp only [RUX, Nat.reduceAdd, reduceIte, Nat.reduceEqDiff, Nat.reduceLT, Nat.reduceLeDiff, reduceCtorEq, eq_self, FIX, forall_const, endE_n, endE_r, CHT, disj, Nat.reduceBEq, beq_self_eq_true, APT, APX, forall_eq, ALT, ALU, UTa_3.d]
abbrev tDkS (x : Dk × ByteArray) : T := .tup [.agg (cDk x.1), .one (.v (.s (.string x.2)))]
def lnames : List ByteArray := [⟨#[115, 49]⟩, ⟨#[109, 49]⟩, ⟨#[120]⟩]
theorem lnames_size : ∀ s ∈ lnames, s.size ≤ 100 := by
  intro s hs
  simp only [lnames, List.mem_cons, List.not_mem_nil, or_false] at hs
  rcases hs with rfl | rfl | rfl <;> decide
/- loop.example/teagle/spec.DrawDiskLook -/
def r13_0 : List AOper := [ao 0 2 (.alloc 27 [.nil0, .nil0, .nil0]),
  ao 1 3 (.mv (.k (.s (.string ⟨#[]⟩))))]
def r13_1 : List AOper := [ao 0 7 (.mv (.t 0)),
  ao 1 8 (.call (.k (.c (.fn 18 []))) [(.t 7)]),
  ao 2 4 (.mv (.t 8))]
def r13_2 : List AOper := [ao 0 9 (.mv (.t 4)),
  ao 1 10 (.call (.k (.c (.fn 19 []))) [(.t 9)]),
  ao 2 5 (.alloc 27 [.nil0, .nil0, .nil0]),
  an 3 (.st 3 (.t 5) (.t 10))]
def r13_3 : List AOper := [ao 0 11 (.ld 3 true (.t 5)),
  ao 1 12 (.call (.k (.c (.fn 27 []))) [(.t 11)]),
  ao 2 13 (.bsl 1 9 [(.k (.s (.string ⟨#[115, 49]⟩))), (.k (.s (.string ⟨#[109, 49]⟩))), (.k (.s (.string ⟨#[120]⟩)))]),
  ao 3 14 (.app 1 9 16 (.t 12) (.t 13)),
  ao 4 6 (.mv (.t 14))]
def r13_4 : List AOper := [ao 0 15 (.ld 3 true (.t 5)),
  au 1 16 [0] (.mv (.t 6)),
  au 2 17 [0, 1] (.mv (.t 4)),
  au 3 18 (ru 3) (.mv (.t 6)),
  au 4 19 (ru 3) (.len (.t 18)),
  au 5 20 [0, 1] (.call (.k (.c (.fn 22 []))) [(.t 17), (.t 19)]),
  au 6 21 [0] (.ia 1 (.t 16) (.t 20)),
  au 7 22 [0] (.ld 1 false (.t 21)),
  ax 8 none none [1, 6, 7] (.st 3 (.t 2) (.t 15)),
  ao 9 3 (.mv (.t 22))]
def c13 : ACode := .seq (.reg r13_0) (.seq (.reg r13_1) (.seq (.reg r13_2) (.seq (.reg r13_3) (.seq (.reg r13_4) .ret))))
def s13 : List ARes := [.cell 2 3 true, .tmp 3]
theorem ok13 : okF Try.prog 13 23 c13 s13 := ⟨Try.f13, Try.func13, Try.ntmps13, by kernel_rfl, by kernel_rfl, by kernel_rfl⟩
def UTa_4 := Bx.mk <|
  aN (uA c13.eq_1) <| aN (uR r13_0.eq_1) <| aN (uR r13_1.eq_1) <| aN (uR r13_2.eq_1) <| aN (uR r13_3.eq_1) <| aN (uR r13_4.eq_1) <| s13.eq_1
set_option maxHeartbeats 1000000 in
theorem drawLook_ok (bs : List UInt8) : PC 13 [.c (.v (.sl (encB bs)))] (fun x : Dk × ByteArray => fineDk x.1 ∧ x.2.size ≤ 1048576) tDkS := by
  have hb : (bs.take 2000).length ≤ 2000 := by rw [List.length_take]; omega
  obtain ⟨q, d, q0, q1, hd, C1⟩ := any_ok (bs.take 2000) hb 0 (by omega)
  obtain ⟨ns, cn, hns, C2⟩ := namesO_ok d hd
  have hl := nm_len hd hns
  have hw3 : lnames.length = 3 := rfl
  obtain ⟨j, j0, j1, C3⟩ := pick_ok (bs.take 2000) hb q ((ns.length + 3 : Nat) : Int) (by omega) (by omega)
  obtain ⟨j, rfl⟩ : ∃ m : Nat, j = m := ⟨j.toNat, (Int.toNat_of_nonneg j0).symm⟩
  obtain ⟨nm, hx⟩ : ∃ x, (ns ++ lnames)[j]? = some x := ⟨_, List.getElem?_eq_getElem (by rw [List.length_append, hw3]; omega)⟩
  have ex := en_at eS hx
  have hnm : nm.size ≤ 1048576 := by
    rcases List.mem_append.1 (List.mem_of_getElem? hx) with h | h
    · exact nm_size hd hns nm h
    · have := lnames_size nm h; omega
  have hlit : en eS lnames = [[V.s (.string ⟨#[115, 49]⟩)], [V.s (.string ⟨#[109, 49]⟩)], [V.s (.string ⟨#[120]⟩)]] := rfl
  rw [en_app, hlit] at ex
  simp only [eS] at ex
  have ht1 : (en eS ns).take ns.length = en eS ns := en_take eS ns
  have l1 : (ns.length + 3) * 16 ≤ 140737488355328 := by omega
  have l2 : ns.length + 3 ≤ 9223372036854775807 := by omega
  refine PC.intro ok13 rfl (fun _ => rfl) fun X => ?_
  simp only [RUX, Nat.reduceAdd, reduceIte, Nat.reduceEqDiff, Nat.reduceLT, Nat.reduceLeDiff, reduceCtorEq, eq_self, FIX, forall_const, endE_n, endE_r, CHT, disj, Nat.reduceBEq, beq_self_eq_true, APT, APX, forall_eq, ALT, ALU, rH, rV, rdC, rdr, UTa_4.d]
  refine callOpen rfl rfl ⟨?_, ?_⟩
  · simp only [RUX, Nat.reduceAdd, reduceIte, Nat.reduceEqDiff, Nat.reduceLT, Nat.reduceLeDiff, reduceCtorEq, eq_self, FIX, forall_const, endE_n, endE_r, CHT, disj, Nat.reduceBEq, beq_self_eq_true, APT, APX, forall_eq, ALT, ALU, rH, rV, rdC, rdr, s13]
  simp only [RUX, Nat.reduceAdd, reduceIte, Nat.reduceEqDiff, Nat.reduceLT, Nat.reduceLeDiff, reduceCtorEq, eq_self, FIX, forall_const, endE_n, endE_r, CHT, disj, Nat.reduceBEq, beq_self_eq_true, APT, APX, forall_eq, ALT, ALU, rH, rV, rdC, rdr, UTa_4.d]
  refine callRc (C1 _) rfl rfl rfl rfl rfl ⟨?_, ?_⟩
  · simp only [RUX, Nat.reduceAdd, reduceIte, Nat.reduceEqDiff, Nat.reduceLT, Nat.reduceLeDiff, reduceCtorEq, eq_self, FIX, forall_const, endE_n, endE_r, CHT, disj, Nat.reduceBEq, beq_self_eq_true, APT, APX, forall_eq, ALT, ALU, rH, rV, rdC, rdr, s13]
  simp only [RUX, Nat.reduceAdd, reduceIte, Nat.reduceEqDiff, Nat.reduceLT, Nat.reduceLeDiff, reduceCtorEq, eq_self, FIX, forall_const, endE_n, endE_r, CHT, disj, Nat.reduceBEq, beq_self_eq_true, APT, APX, forall_eq, ALT, ALU, rH, rV, rdC, rdr, UTa_4.d]
  refine callA1 (m := 2001) (ws := []) (ns := []) (C2 2001) rfl rfl rfl (en_flat eS eS_flat _) ⟨rfl, ?_⟩
  simp only [RUX, Nat.reduceAdd, reduceIte, Nat.reduceEqDiff, Nat.reduceLT, Nat.reduceLeDiff, reduceCtorEq, eq_self, FIX, forall_const, endE_n, endE_r, CHT, disj, Nat.reduceBEq, beq_self_eq_true, APT, APX, forall_eq, ALT, ALU, rH, rV, rdC, rdr, UTa_4.d, en_len, ht1, l1, l2, List.forall_mem_cons, List.not_mem_nil, false_implies, implies_true, and_self]
  refine callRc (C3 _) rfl rfl rfl rfl rfl ⟨?_, ?_⟩
  · simp only [RUX, Nat.reduceAdd, reduceIte, Nat.reduceEqDiff, Nat.reduceLT, Nat.reduceLeDiff, reduceCtorEq, eq_self, FIX, forall_const, endE_n, endE_r, CHT, disj, Nat.reduceBEq, beq_self_eq_true, APT, APX, forall_eq, ALT, ALU, rH, rV, rdC, rdr, s13]
  simp only [RUX, Nat.reduceAdd, reduceIte, Nat.reduceEqDiff, Nat.reduceLT, Nat.reduceLeDiff, reduceCtorEq, eq_self, FIX, forall_const, endE_n, endE_r, CHT, disj, Nat.reduceBEq, beq_self_eq_true, APT, APX, forall_eq, ALT, ALU, rH, rV, rdC, rdr, UTa_4.d, ex, j0, j1, Int.toNat_natCast]
  refine ES.mk (d, nm) ⟨hd, hnm⟩ ?_
  simp only [RUX, Nat.reduceAdd, reduceIte, Nat.reduceEqDiff, Nat.reduceLT, Nat.reduceLeDiff, reduceCtorEq, eq_self, FIX, forall_const, endE_n, endE_r, CHT, disj, Nat.reduceBEq, beq_self_eq_true, APT, APX, forall_eq, ALT, ALU, rH, rV, rdC, rdr, UTa_4.d]
def kvals : List Int := [0, 1, 5, -3, 9999, 40]
/- loop.example/teagle/spec.l45Keep -/
def r45_0 : List AOper := [ao 0 2 (.mv (.k (.c .nil0)))]
def r45_1 : List AOper := [ao 0 5 (.bsl 1 3 []),
  ao 1 3 (.mv (.t 5))]
def r45_2 : List AOper := [ao 0 6 (.mv (.t 0)),
  ao 1 7 (.call (.k (.c (.fn 22 []))) [(.t 6), (.k (.i 8))]),
  ao 2 4 (.mv (.t 7))]
def r45_3 : List AOper := [ao 0 8 (.mv (.t 4)),
  ao 1 9 (.bin .gtr (.t 8) (.k (.i 0)))]
def c45_4 : ACode := .cond (.t 9) .skip (.exit 0)
def c45_5 : ACode := .seq (.reg r45_3) c45_4
def r45_6 : List AOper := [ao 0 12 (.mv (.t 3)),
  ao 1 13 (.bsl 1 3 [(.k (.i 0)), (.k (.i 1)), (.k (.i 5)), (.k (.i (-3))), (.k (.i 9999)), (.k (.i 40))]),
  ao 2 14 (.mv (.t 0)),
  ao 3 15 (.call (.k (.c (.fn 22 []))) [(.t 14), (.k (.i 6))]),
  ao 4 16 (.ia 1 (.t 13) (.t 15)),
  ao 5 17 (.ld 1 false (.t 16)),
  ao 6 18 (.bsl 1 3 [(.t 17)]),
  ao 7 19 (.app 1 3 8 (.t 12) (.t 18)),
  ao 8 3 (.mv (.t 19))]
def c45_7 : ACode := .block 1 (.reg r45_6)
def r45_8 : List AOper := [ao 0 10 (.mv (.t 4)),
  ao 1 11 (.bin .sub (.t 10) (.k (.i 1))),
  ao 2 4 (.mv (.t 11))]
def c45_9 : ACode := .seq c45_5 (.seq c45_7 (.reg r45_8))
def c45_10 : ACode := .loop c45_9
def c45_11 : ACode := .block 0 c45_10
def c45_12 : ACode := .seq (.reg r45_2) c45_11
def r45_13 : List AOper := [ao 0 20 (.mv (.t 3)),
  ao 1 2 (.mv (.t 20))]
def c45 : ACode := .seq (.reg r45_0) (.seq (.reg r45_1) (.seq c45_12 (.seq (.reg r45_13) .ret)))
def s45 : List ARes := [.tmp 2]
theorem ok45 : okF Try.prog 45 21 c45 s45 := ⟨Try.f45, Try.func45, Try.ntmps45, by kernel_rfl, by kernel_rfl, by kernel_rfl⟩
def inv45 (bs : List UInt8) (p : Int) (n : Nat) (i : Nat) (σ : St) : Prop := ∃ (ke : List Int) (v : Nat), i ≤ n ∧ ke.length = i ∧ σ.t 0 = rP 0 ∧ σ.t 4 = .i ((n - i : Nat) : Int) ∧ σ.t 3 = .c (.own 5 v ke.length) ∧ σ.H 5 = some (.arr v true 1 3 (en eI ke)) ∧ σ.H 1000 = some (rdr 0 bs (p + i))
def UTa_5 := Bx.mk <|
  aN (uA c45.eq_1) <| aN (uR r45_0.eq_1) <| aN (uR r45_1.eq_1) <| aN (uA c45_12.eq_1) <| aN (uR r45_2.eq_1) <| aN (uA c45_11.eq_1) <| aN (uA c45_10.eq_1) <| aN (uR r45_13.eq_1) <| s45.eq_1
def UTa_8 := Bx.mk <|
  aN (uA c45_9.eq_1) <| aN (uA c45_5.eq_1) <| aN (uR r45_3.eq_1) <| aN (uA c45_4.eq_1) <| aN (uA c45_7.eq_1) <| aN (uR r45_6.eq_1) <| aN (uR r45_8.eq_1) <| aN (uA c45.eq_1) <| aN (uR r45_0.eq_1) <| aN (uR r45_1.eq_1) <| aN (uA c45_12.eq_1) <| aN (uR r45_2.eq_1) <| aN (uA c45_11.eq_1) <| aN (uA c45_10.eq_1) <| aN (uR r45_13.eq_1) <| s45.eq_1
theorem keep45_ok (bs : List UInt8) (hb : bs.length ≤ 2000) (p : Int) (hp : 0 ≤ p ∧ p ≤ 900000000000) : RC 45 [] bs p 20 (fun ke : List Int => ke.length ≤ 10) (fun ke => tL (en eI ke)) := by
  obtain ⟨n, n0, n1, C1⟩ := pick_ok bs hb p 8 (by omega) (by omega)
  obtain ⟨n, rfl⟩ : ∃ m : Nat, n = m := ⟨n.toNat, (Int.toNat_of_nonneg n0).symm⟩
  refine RC.intro ok45 rfl (fun _ => rfl) fun X => ?_
  simp only [RUX, Nat.reduceAdd, reduceIte, Nat.reduceEqDiff, Nat.reduceLT, Nat.reduceLeDiff, reduceCtorEq, eq_self, FIX, forall_const, endE_n, endE_r, CHT, disj, Nat.reduceBEq, beq_self_eq_true, APT, APX, forall_eq, ALT, ALU, rH, rV, rdC, rdr, UTa_5.d]
  refine callRc (C1 0) rfl rfl rfl rfl rfl ⟨?_, ?_⟩
  · simp only [RUX, Nat.reduceAdd, reduceIte, Nat.reduceEqDiff, Nat.reduceLT, Nat.reduceLeDiff, reduceCtorEq, eq_self, FIX, forall_const, endE_n, endE_r, CHT, disj, Nat.reduceBEq, beq_self_eq_true, APT, APX, forall_eq, ALT, ALU, rH, rV, rdC, rdr, s45]
  simp only [RUX, Nat.reduceAdd, reduceIte, Nat.reduceEqDiff, Nat.reduceLT, Nat.reduceLeDiff, reduceCtorEq, eq_self, FIX, forall_const, endE_n, endE_r, CHT, disj, Nat.reduceBEq, beq_self_eq_true, APT, APX, forall_eq, ALT, ALU, rH, rV, rdC, rdr, UTa_5.d]
  refine AW.upto n (inv45 bs (p + 1) n) ⟨[], _, Nat.zero_le _, rfl, rfl, rfl, rfl, rfl, (by show _ = some (rdr 0 bs (p + 1 + ((0 : Nat) : Int))); rw [show ((0 : Nat) : Int) = 0 from rfl, Int.add_zero]; rfl)⟩ fun i t H c hi h => ?_
  obtain ⟨ke, v, hin, hl, e0, e4, e3, eH, eR⟩ := h
  simp only [T.c, T.i, rdr, rdC] at e0 e4 e3 eH eR
  have ht1 : (en eI ke).take ke.length = en eI ke := en_take eI ke
  by_cases k1 : ((n - i : Nat) : Int) > 0
  rotate_left
  · simp only [RUX, Nat.reduceAdd, reduceIte, Nat.reduceEqDiff, Nat.reduceLT, Nat.reduceLeDiff, reduceCtorEq, eq_self, FIX, forall_const, endE_n, endE_r, CHT, disj, Nat.reduceBEq, beq_self_eq_true, APT, APX, forall_eq, ALT, ALU, rH, rV, rdC, rdr, UTa_8.d, UTa_5.d, e0, e4, e3, eH, eR, k1]
    refine ES.mk (p + 1 + i, ke) ⟨by simp only; omega, by simp only; omega, by simp only; omega⟩ ?_
    simp only [RUX, Nat.reduceAdd, reduceIte, Nat.reduceEqDiff, Nat.reduceLT, Nat.reduceLeDiff, reduceCtorEq, eq_self, FIX, forall_const, endE_n, endE_r, CHT, disj, Nat.reduceBEq, beq_self_eq_true, APT, APX, forall_eq, ALT, ALU, rH, rV, rdC, rdr, UTa_5.d, e3, eH, eR, ht1, en_len]
  obtain ⟨j, j0, j1, C7⟩ := pick_ok bs hb (p + 1 + i) 6 (by omega) (by omega)
  obtain ⟨j, rfl⟩ : ∃ m : Nat, j = m := ⟨j.toNat, (Int.toNat_of_nonneg j0).symm⟩
  have hj6 : (j : Int) < ((6 : Nat) : Int) := j1
  obtain ⟨x, hx⟩ : ∃ x, ([0, 1, 5, -3, 9999, 40] : List Int)[j]? = some x := ⟨_, List.getElem?_eq_getElem (by simp only [List.length_cons, List.length_nil]; omega)⟩
  have ex := en_at eI hx
  simp only [en, List.map_cons, List.map_nil, eI] at ex
  have w2 : IntKind.i64.wrap (((n - i : Nat) : Int) - 1) = ((n - (i + 1) : Nat) : Int) := (wrap64 ⟨by omega, by omega⟩).trans (by omega)
  have hkl : ke.length ≤ 1000 := by omega
  have q1 : (ke.length + 1) * 8 ≤ 140737488355328 := by clear w2 hl; omega
  have q2 : ke.length ≤ 9223372036854775806 := by clear w2 hl q1; omega
  simp only [RUX, Nat.reduceAdd, reduceIte, Nat.reduceEqDiff, Nat.reduceLT, Nat.reduceLeDiff, reduceCtorEq, eq_self, FIX, forall_const, endE_n, endE_r, CHT, disj, Nat.reduceBEq, beq_self_eq_true, APT, APX, forall_eq, ALT, ALU, rH, rV, rdC, rdr, UTa_8.d, e0, e4, e3, eH, eR, k1]
  refine callRc (C7 0) rfl rfl rfl rfl (by simp only [RUX, Nat.reduceAdd, reduceIte, Nat.reduceEqDiff, Nat.reduceLT, Nat.reduceLeDiff, reduceCtorEq, eq_self, FIX, forall_const, endE_n, endE_r, CHT, disj, Nat.reduceBEq, beq_self_eq_true, APT, APX, forall_eq, ALT, ALU, rH, rV, rdC, rdr, s45, eR]) ⟨?_, ?_⟩
  · simp only [RUX, Nat.reduceAdd, reduceIte, Nat.reduceEqDiff, Nat.reduceLT, Nat.reduceLeDiff, reduceCtorEq, eq_self, FIX, forall_const, endE_n, endE_r, CHT, disj, Nat.reduceBEq, beq_self_eq_true, APT, APX, forall_eq, ALT, ALU, rH, rV, rdC, rdr, s45]
  simp only [RUX, Nat.reduceAdd, reduceIte, Nat.reduceEqDiff, Nat.reduceLT, Nat.reduceLeDiff, reduceCtorEq, eq_self, FIX, forall_const, endE_n, endE_r, CHT, disj, Nat.reduceBEq, beq_self_eq_true, APT, APX, forall_eq, ALT, ALU, rH, rV, rdC, rdr, UTa_8.d, e0, e4, e3, eH, eR, k1, j0, Int.toNat_natCast, ex, w2, ht1, q1, q2, en_len, hj6]
  refine ⟨by omega, ke ++ [x], c + 2 + 7, by omega, by rw [List.length_append, hl]; rfl, e0, rfl, ?_, ?_, ?_⟩
  · rw [List.length_append]; rfl
  · rw [en_snoc]; rfl
  · show _ = some (rdr 0 bs (p + 1 + ((i + 1 : Nat) : Int)))
    rw [show p + 1 + ((i + 1 : Nat) : Int) = p + 1 + i + 1 from by omega]
    rfl
abbrev tDkIs (x : Dk × Int × List Int) : T := .tup [.agg (cDk x.1), .one (.v (.s (.int .i64 x.2.1))), .one (.v (.sl (en eI x.2.2)))]
/- loop.example/teagle/spec.DrawDiskCut -/
def r16_0 : List AOper := [ao 0 2 (.alloc 27 [.nil0, .nil0, .nil0]),
  ao 1 3 (.mv (.k (.i 0))),
  ao 2 4 (.mv (.k (.c .nil0)))]
def r16_1 : List AOper := [ao 0 6 (.mv (.t 0)),
  ao 1 7 (.call (.k (.c (.fn 18 []))) [(.t 6)]),
  ao 2 5 (.mv (.t 7))]
def r16_2 : List AOper := [ao 0 8 (.mv (.t 5)),
  ao 1 9 (.call (.k (.c (.fn 19 []))) [(.t 8)]),
  ao 2 10 (.mv (.t 5)),
  ao 3 11 (.call (.k (.c (.fn 22 []))) [(.t 10), (.k (.i 8))]),
  ao 4 12 (.bin .sub (.t 11) (.k (.i 1))),
  ao 5 13 (.mv (.t 5)),
  ao 6 14 (.call (.k (.c (.fn 45 []))) [(.t 13)]),
  an 7 (.st 3 (.t 2) (.t 9)),
  ao 8 3 (.mv (.t 12)),
  ao 9 4 (.mv (.t 14))]
def c16 : ACode := .seq (.reg r16_0) (.seq (.reg r16_1) (.seq (.reg r16_2) .ret))
def s16 : List ARes := [.cell 2 3 true, .tmp 3, .tmp 4]
theorem ok16 : okF Try.prog 16 15 c16 s16 := ⟨Try.f16, Try.func16, Try.ntmps16, by kernel_rfl, by kernel_rfl, by kernel_rfl⟩
def UTa_6 := Bx.mk <|
  aN (uA c16.eq_1) <| aN (uR r16_0.eq_1) <| aN (uR r16_1.eq_1) <| aN (uR r16_2.eq_1) <| s16.eq_1
theorem drawCut_ok (bs : List UInt8) : PC 16 [.c (.v (.sl (encB bs)))] (fun _ : Dk × Int × List Int => True) tDkIs := by
  have hb : (bs.take 2000).length ≤ 2000 := by rw [List.length_take]; omega
  obtain ⟨q, d, q0, q1, hd, C1⟩ := any_ok (bs.take 2000) hb 0 (by omega)
  obtain ⟨k, k0, k1, C2⟩ := pick_ok (bs.take 2000) hb q 8 (by omega) (by omega)
  obtain ⟨q2, ke, q20, q21, hke, C3⟩ := keep45_ok (bs.take 2000) hb (q + 1) (by omega)
  have w1 : IntKind.i64.wrap (k - 1) = k - 1 := wrap64 ⟨by omega, by omega⟩
  refine PC.intro ok16 rfl (fun _ => rfl) fun X => ?_
  simp only [RUX, Nat.reduceAdd, reduceIte, Nat.reduceEqDiff, Nat.reduceLT, Nat.reduceLeDiff, reduceCtorEq, eq_self, FIX, forall_const, endE_n, endE_r, CHT, disj, Nat.reduceBEq, beq_self_eq_true, APT, APX, forall_eq, ALT, ALU, rH, rV, rdC, rdr, UTa_6.d]
  refine callOpen rfl rfl ⟨?_, ?_⟩
  · simp only [RUX, Nat.reduceAdd, reduceIte, Nat.reduceEqDiff, Nat.reduceLT, Nat.reduceLeDiff, reduceCtorEq, eq_self, FIX, forall_const, endE_n, endE_r, CHT, disj, Nat.reduceBEq, beq_self_eq_true, APT, APX, forall_eq, ALT, ALU, rH, rV, rdC, rdr, s16]
  simp only [RUX, Nat.reduceAdd, reduceIte, Nat.reduceEqDiff, Nat.reduceLT, Nat.reduceLeDiff, reduceCtorEq, eq_self, FIX, forall_const, endE_n, endE_r, CHT, disj, Nat.reduceBEq, beq_self_eq_true, APT, APX, forall_eq, ALT, ALU, rH, rV, rdC, rdr, UTa_6.d]
  refine callRc (C1 _) rfl rfl rfl rfl rfl ⟨?_, ?_⟩
  · simp only [RUX, Nat.reduceAdd, reduceIte, Nat.reduceEqDiff, Nat.reduceLT, Nat.reduceLeDiff, reduceCtorEq, eq_self, FIX, forall_const, endE_n, endE_r, CHT, disj, Nat.reduceBEq, beq_self_eq_true, APT, APX, forall_eq, ALT, ALU, rH, rV, rdC, rdr, s16]
  simp only [RUX, Nat.reduceAdd, reduceIte, Nat.reduceEqDiff, Nat.reduceLT, Nat.reduceLeDiff, reduceCtorEq, eq_self, FIX, forall_const, endE_n, endE_r, CHT, disj, Nat.reduceBEq, beq_self_eq_true, APT, APX, forall_eq, ALT, ALU, rH, rV, rdC, rdr, UTa_6.d]
  refine callRc (C2 _) rfl rfl rfl rfl rfl ⟨?_, ?_⟩
  · simp only [RUX, Nat.reduceAdd, reduceIte, Nat.reduceEqDiff, Nat.reduceLT, Nat.reduceLeDiff, reduceCtorEq, eq_self, FIX, forall_const, endE_n, endE_r, CHT, disj, Nat.reduceBEq, beq_self_eq_true, APT, APX, forall_eq, ALT, ALU, rH, rV, rdC, rdr, s16]
  simp only [RUX, Nat.reduceAdd, reduceIte, Nat.reduceEqDiff, Nat.reduceLT, Nat.reduceLeDiff, reduceCtorEq, eq_self, FIX, forall_const, endE_n, endE_r, CHT, disj, Nat.reduceBEq, beq_self_eq_true, APT, APX, forall_eq, ALT, ALU, rH, rV, rdC, rdr, UTa_6.d, w1]
  refine callRc (C3 _) rfl rfl rfl rfl rfl ⟨?_, ?_⟩
  · simp only [RUX, Nat.reduceAdd, reduceIte, Nat.reduceEqDiff, Nat.reduceLT, Nat.reduceLeDiff, reduceCtorEq, eq_self, FIX, forall_const, endE_n, endE_r, CHT, disj, Nat.reduceBEq, beq_self_eq_true, APT, APX, forall_eq, ALT, ALU, rH, rV, rdC, rdr, s16]
  simp only [RUX, Nat.reduceAdd, reduceIte, Nat.reduceEqDiff, Nat.reduceLT, Nat.reduceLeDiff, reduceCtorEq, eq_self, FIX, forall_const, endE_n, endE_r, CHT, disj, Nat.reduceBEq, beq_self_eq_true, APT, APX, forall_eq, ALT, ALU, rH, rV, rdC, rdr, UTa_6.d, w1]
  refine ES.mk (d, k - 1, ke) trivial ?_
  simp only [RUX, Nat.reduceAdd, reduceIte, Nat.reduceEqDiff, Nat.reduceLT, Nat.reduceLeDiff, reduceCtorEq, eq_self, FIX, forall_const, endE_n, endE_r, CHT, disj, Nat.reduceBEq, beq_self_eq_true, APT, APX, forall_eq, ALT, ALU, rH, rV, rdC, rdr, UTa_6.d]
end Go.V
set_option linter.unusedSimpArgs false
namespace Go.V
open Go.Proofs
theorem ext_all (b : ByteArray) : b.extract 0 b.size = b := by simp
def wSync (nm : ByteArray) : DW := ⟨3, nm, ⟨#[]⟩⟩
def wDirs : DW := ⟨5, ⟨#[]⟩, ⟨#[]⟩⟩
theorem dirs_is (d : Dk) : doS d wDirs = (keepD d (aft d.names d.moves), 0) := by
  have h1 : ¬ (5 : Int) = 1 := by omega
  simp [doS, wDirs, h1]
/-- What was synced outlives a loss of power. -/
theorem sure {d : Dk} (h : DOk d) {nm : ByteArray} (hm : nm ∈ aft d.names d.moves) (m : Int) (keep : List Int) :
    (doS d (wSync nm)).2 = 0 ∧ ∀ z, LkR (cutD (doS (doS d (wSync nm)).1 wDirs).1 m keep) nm z → z = ((fileOf d.files nm).data, true) := by
  obtain ⟨i, h3, h4, h5⟩ := h.aftFind hm
  have hS1 := h.step (wSync nm)
  have hdo : doS d (wSync nm) = (⟨d.files.set i ⟨(fileOf d.files nm).name, (fileOf d.files nm).data, (fileOf d.files nm).data.size⟩, d.names, d.moves⟩, 0) := by
    have e1 : ¬ (3 : Int) = 1 := by omega
    have e2 : ¬ (3 : Int) = 5 := by omega
    have e3 : ¬ ¬ ((1 : Int) ≤ 3 ∧ (3 : Int) ≤ 5) := by omega
    have e4 : ¬ (3 : Int) = 2 := by omega
    have e5 : ¬ has (aft d.names d.moves) nm = false := by rw [has_true.2 hm]; simp
    simp only [doS, wSync, if_neg e1, if_neg e2, if_neg e3, if_neg e4, if_neg e5, if_true, h3, Int.toNat_natCast]
  rw [hdo] at hS1 ⊢
  simp only at hS1 ⊢
  refine ⟨by simp, fun z hz => ?_⟩
  rw [dirs_is] at hz
  simp only at hz
  have hS2 := hS1.step wDirs
  rw [dirs_is] at hS2
  simp only at hS2
  have hS3 := hS2.cut m keep
  have hA := hS2.cutA keep
  obtain ⟨j, hj⟩ := List.mem_iff_getElem?.1 hm
  have hg := fileOf_new h hm h3 (g := ⟨(fileOf d.files nm).name, (fileOf d.files nm).data, (fileOf d.files nm).data.size⟩) h5 rfl hS1
  simp only at hg
  -- the file in the disk whose directory is sure
  have f2 : (keepD ⟨d.files.set i ⟨(fileOf d.files nm).name, (fileOf d.files nm).data, (fileOf d.files nm).data.size⟩, d.names, d.moves⟩ (aft d.names d.moves)).files[j]? = some ⟨(fileOf d.files nm).name, (fileOf d.files nm).data, (fileOf d.files nm).data.size⟩ := by
    show ((aft d.names d.moves).map (fileOf _))[j]? = _
    rw [List.getElem?_map, hj]
    exact congrArg some hg
  have hjl := (List.getElem?_eq_some_iff.1 f2).1
  have f3 := cutP_at keep f2 (keepD ⟨d.files.set i ⟨(fileOf d.files nm).name, (fileOf d.files nm).data, (fileOf d.files nm).data.size⟩, d.names, d.moves⟩ (aft d.names d.moves)).files.length
  rw [if_pos hjl] at f3
  have hc : cutF (keepAt keep j) ⟨(fileOf d.files nm).name, (fileOf d.files nm).data, (fileOf d.files nm).data.size⟩ = ⟨nm, (fileOf d.files nm).data, (fileOf d.files nm).data.size⟩ := by
    have hk : cutM (keepAt keep j) ⟨(fileOf d.files nm).name, (fileOf d.files nm).data, (fileOf d.files nm).data.size⟩ = 0 := by
      unfold cutM
      split
      · simp only; omega
      · rfl
    unfold cutF
    rw [hk]
    simp only [Int.add_zero, Int.toNat_natCast, ext_all, h5]
  rw [hc] at f3
  have f4 := hA.fileAt f3
  simp only at f4
  -- and in what is left
  have f5 : (cutD (keepD ⟨d.files.set i ⟨(fileOf d.files nm).name, (fileOf d.files nm).data, (fileOf d.files nm).data.size⟩, d.names, d.moves⟩ (aft d.names d.moves)) m keep).files[j]? = some ⟨nm, (fileOf d.files nm).data, (fileOf d.files nm).data.size⟩ := by
    show ((aft (aft d.names d.moves) (([] : List DM).take _)).map (fileOf _))[j]? = _
    rw [List.take_nil]
    show ((aft d.names d.moves).map (fileOf _))[j]? = _
    rw [List.getElem?_map, hj]
    exact congrArg some f4
  have f6 := hS3.fileAt f5
  simp only at f6
  have hin : nm ∈ aft (cutD (keepD ⟨d.files.set i ⟨(fileOf d.files nm).name, (fileOf d.files nm).data, (fileOf d.files nm).data.size⟩, d.names, d.moves⟩ (aft d.names d.moves)) m keep).names (cutD (keepD ⟨d.files.set i ⟨(fileOf d.files nm).name, (fileOf d.files nm).data, (fileOf d.files nm).data.size⟩, d.names, d.moves⟩ (aft d.names d.moves)) m keep).moves := by
    show nm ∈ aft (aft (aft d.names d.moves) (([] : List DM).take _)) []
    rw [List.take_nil]
    exact hm
  have := lk_in hz hS3 hin
  rw [f6] at this
  exact this
/-- .. and what was not there is not there behind it. -/
theorem notSure {d : Dk} {nm : ByteArray} (hm : nm ∉ aft d.names d.moves) (m : Int) (keep : List Int) {z : ByteArray × Bool} (hz : LkR (cutD (keepD d (aft d.names d.moves)) m keep) nm z) : z = (⟨#[]⟩, false) := by
  refine lk_out hz fun e => hm ?_
  have : nm ∈ aft (aft (aft d.names d.moves) (([] : List DM).take (cutN m (keepD d (aft d.names d.moves))))) [] := e.2
  rw [List.take_nil] at this
  exact this
theorem sync_no {d : Dk} {nm : ByteArray} (hm : nm ∉ aft d.names d.moves) : doS d (wSync nm) = (d, 2) := by
  have e1 : ¬ (3 : Int) = 1 := by omega
  have e2 : ¬ (3 : Int) = 5 := by omega
  have e3 : ¬ ¬ ((1 : Int) ≤ 3 ∧ (3 : Int) ≤ 5) := by omega
  have e5 : has (aft d.names d.moves) nm = false := has_false.2 hm
  simp only [doS, wSync, if_neg e1, if_neg e2, if_neg e3, if_pos e5]
end Go.V
set_option linter.unusedSimpArgs false
namespace Go.V
open Go.Proofs
theorem b_ne (b : Bool) : (!(b == b)) = false := by cases b <;> rfl
/- loop.example/teagle/laws.FnDiskSure -/
def r4_0 : List AOper := [ao 0 4 (.mv (.k (.b false)))]
def r4_1 : List AOper := [ao 0 20 (.mv (.t 0)),
  ao 1 21 (.len (.t 20)),
  ao 2 22 (.bin .gtr (.t 21) (.k (.i 1048576))),
  ao 3 23 (.mv (.t 22)),
  ag 4 24 23 false [] (.mv (.t 1)),
  ag 5 25 23 false [] (.len (.t 24)),
  ag 6 26 23 false [] (.bin .gtr (.t 25) (.k (.i 1048576))),
  ao 7 27 (.pick (.t 23) (.k (.b true)) (.t 26))]
def r4_2 : List AOper := [ao 0 4 (.mv (.k (.b true)))]
def c4_3 : ACode := .seq (.reg r4_2) .ret
def c4_4 : ACode := .cond (.t 27) c4_3 .skip
def c4_5 : ACode := .seq (.reg r4_1) c4_4
def r4_6 : List AOper := [ao 0 29 (.mv (.t 0)),
  ao 1 30 (.call (.k (.c (.fn 13 []))) [(.t 29)]),
  ao 2 28 (.mv (.t 30)),
  ao 3 31 (.ext 0 (.t 28)),
  ao 4 32 (.ext 1 (.t 28)),
  ao 5 5 (.alloc 27 [.nil0, .nil0, .nil0]),
  an 6 (.st 3 (.t 5) (.t 31)),
  ao 7 6 (.mv (.t 32))]
def r4_7 : List AOper := [ao 0 34 (.ld 3 true (.t 5)),
  ao 1 35 (.mv (.t 6)),
  ao 2 36 (.call (.k (.c (.fn 8 []))) [(.t 34), (.t 35)]),
  ao 3 33 (.mv (.t 36)),
  ao 4 37 (.ext 0 (.t 33)),
  ao 5 38 (.ext 1 (.t 33)),
  ao 6 7 (.mv (.t 37)),
  ao 7 8 (.mv (.t 38))]
def r4_8 : List AOper := [ao 0 40 (.ld 3 true (.t 5)),
  ao 1 41 (.mv (.t 6)),
  ao 2 42 (.call (.k (.c (.fn 11 []))) [(.t 40), (.t 41)]),
  ao 3 39 (.mv (.t 42)),
  ao 4 43 (.ext 0 (.t 39)),
  ao 5 44 (.ext 1 (.t 39)),
  ao 6 9 (.mv (.t 43)),
  ao 7 10 (.mv (.t 44))]
def r4_9 : List AOper := [ao 0 45 (.mv (.t 9)),
  ao 1 46 (.mv (.t 7)),
  ao 2 47 (.bin .neq (.t 45) (.t 46)),
  ao 3 48 (.mv (.t 47)),
  ag 4 49 48 false [] (.mv (.t 10)),
  ag 5 50 48 false [] (.mv (.t 8)),
  ag 6 51 48 false [] (.binB .neq (.t 49) (.t 50)),
  ao 7 52 (.pick (.t 48) (.k (.b true)) (.t 51)),
  ao 8 53 (.mv (.t 52)),
  ag 9 54 53 false [] (.ld 3 true (.t 5)),
  ag 10 55 53 false [] (.call (.k (.c (.fn 15 []))) [(.t 54)]),
  ag 11 56 53 false [] (.mv (.t 6)),
  ag 12 57 53 false [] (.call (.k (.c (.fn 14 []))) [(.t 55), (.t 56)]),
  ag 13 58 53 false [] (.mv (.t 8)),
  ag 14 59 53 false [] (.binB .neq (.t 57) (.t 58)),
  ao 15 60 (.pick (.t 53) (.k (.b true)) (.t 59))]
def r4_10 : List AOper := [ao 0 4 (.mv (.k (.b false)))]
def c4_11 : ACode := .seq (.reg r4_10) .ret
def c4_12 : ACode := .cond (.t 60) c4_11 .skip
def c4_13 : ACode := .seq (.reg r4_9) c4_12
def r4_14 : List AOper := [ao 0 62 (.ld 3 true (.t 5)),
  ao 1 63 (.mv (.t 6)),
  ao 2 64 (.build [(.v (.s (.int .i64 0))), (.v (.s (.string ⟨#[]⟩))), (.v (.s (.string ⟨#[]⟩)))] [(0, 1, (.k (.i 3))), (1, 1, (.t 63))]),
  ao 3 65 (.call (.k (.c (.fn 9 []))) [(.t 62), (.t 64)]),
  ao 4 61 (.mv (.t 65)),
  ao 5 66 (.ext 0 (.t 61)),
  ao 6 67 (.ext 1 (.t 61)),
  ao 7 11 (.alloc 27 [.nil0, .nil0, .nil0]),
  an 8 (.st 3 (.t 11) (.t 66)),
  ao 9 12 (.mv (.t 67))]
def r4_15 : List AOper := [ao 0 69 (.ld 3 true (.t 11)),
  ao 1 70 (.build [(.v (.s (.int .i64 0))), (.v (.s (.string ⟨#[]⟩))), (.v (.s (.string ⟨#[]⟩)))] [(0, 1, (.k (.i 5)))]),
  ao 2 71 (.call (.k (.c (.fn 9 []))) [(.t 69), (.t 70)]),
  ao 3 68 (.mv (.t 71)),
  ao 4 72 (.ext 0 (.t 68)),
  ao 5 73 (.ext 1 (.t 68)),
  ao 6 13 (.alloc 27 [.nil0, .nil0, .nil0]),
  an 7 (.st 3 (.t 13) (.t 72)),
  ao 8 14 (.mv (.t 73))]
def r4_16 : List AOper := [ao 0 75 (.mv (.t 1)),
  ao 1 76 (.call (.k (.c (.fn 16 []))) [(.t 75)]),
  ao 2 74 (.mv (.t 76)),
  ao 3 77 (.ext 0 (.t 74)),
  ao 4 78 (.ext 1 (.t 74)),
  ao 5 79 (.ext 2 (.t 74)),
  ao 6 15 (.alloc 27 [.nil0, .nil0, .nil0]),
  an 7 (.st 3 (.t 15) (.t 77)),
  ao 8 16 (.mv (.t 78)),
  ao 9 17 (.mv (.t 79))]
def r4_17 : List AOper := [ao 0 81 (.ld 3 true (.t 13)),
  ao 1 82 (.mv (.t 16)),
  ao 2 83 (.mv (.t 17)),
  ao 3 84 (.call (.k (.c (.fn 17 []))) [(.t 81), (.t 82), (.t 83)]),
  ao 4 85 (.mv (.t 6)),
  ao 5 86 (.call (.k (.c (.fn 11 []))) [(.t 84), (.t 85)]),
  ao 6 80 (.mv (.t 86)),
  ao 7 87 (.ext 0 (.t 80)),
  ao 8 88 (.ext 1 (.t 80)),
  ao 9 18 (.mv (.t 87)),
  ao 10 19 (.mv (.t 88))]
def r4_18 : List AOper := [ao 0 89 (.mv (.t 8)),
  ao 1 90 (.un .not (.t 89))]
def r4_19 : List AOper := [ao 0 91 (.mv (.t 12)),
  ao 1 92 (.bin .neq (.t 91) (.k (.i 0))),
  ao 2 93 (.mv (.t 92)),
  ag 3 94 93 true [] (.mv (.t 19)),
  ag 4 95 93 true [] (.un .not (.t 94)),
  ao 5 96 (.pick (.t 93) (.t 95) (.k (.b false))),
  ao 6 4 (.mv (.t 96))]
def c4_20 : ACode := .seq (.reg r4_19) .ret
def c4_21 : ACode := .cond (.t 90) c4_20 .skip
def c4_22 : ACode := .seq (.reg r4_18) c4_21
def r4_23 : List AOper := [ao 0 97 (.mv (.t 12)),
  ao 1 98 (.bin .eql (.t 97) (.k (.i 0))),
  ao 2 99 (.mv (.t 98)),
  ag 3 100 99 true [] (.mv (.t 14)),
  ag 4 101 99 true [] (.bin .eql (.t 100) (.k (.i 0))),
  ao 5 102 (.pick (.t 99) (.t 101) (.k (.b false))),
  ao 6 103 (.mv (.t 102)),
  ag 7 104 103 true [] (.mv (.t 19)),
  ao 8 105 (.pick (.t 103) (.t 104) (.k (.b false))),
  ao 9 106 (.mv (.t 105)),
  ag 10 107 106 true [] (.mv (.t 18)),
  ag 11 108 106 true [] (.mv (.t 7)),
  ag 12 109 106 true [] (.bin .eql (.t 107) (.t 108)),
  ao 13 110 (.pick (.t 106) (.t 109) (.k (.b false))),
  ao 14 4 (.mv (.t 110))]
def c4 : ACode := .seq (.reg r4_0) (.seq c4_5 (.seq (.reg r4_6) (.seq (.reg r4_7) (.seq (.reg r4_8) (.seq c4_13 (.seq (.reg r4_14) (.seq (.reg r4_15) (.seq (.reg r4_16) (.seq (.reg r4_17) (.seq c4_22 (.seq (.reg r4_23) .ret)))))))))))
def s4 : List ARes := [.tmp 4]
theorem ok4 : okF Try.prog 4 111 c4 s4 := ⟨Try.f4, Try.func4, Try.ntmps4, by kernel_rfl, by kernel_rfl, by kernel_rfl⟩
def UTc_1 := Bx.mk <|
  aN (uA c4.eq_1) <| aN (uR r4_0.eq_1) <| aN (uA c4_5.eq_1) <| aN (uR r4_1.eq_1) <| aN (uA c4_4.eq_1) <| aN (uA c4_3.eq_1) <| aN (uR r4_2.eq_1) <| aN (uR r4_6.eq_1) <| aN (uR r4_7.eq_1) <| aN (uR r4_8.eq_1) <| aN (uA c4_13.eq_1) <| aN (uR r4_9.eq_1) <| aN (uA c4_12.eq_1) <| aN (uA c4_11.eq_1) <| aN (uR r4_10.eq_1) <| aN (uR r4_14.eq_1) <| aN (uR r4_15.eq_1) <| aN (uR r4_16.eq_1) <| aN (uR r4_17.eq_1) <| aN (uA c4_22.eq_1) <| aN (uR r4_18.eq_1) <| aN (uA c4_21.eq_1) <| aN (uA c4_20.eq_1) <| aN (uR r4_19.eq_1) <| aN (uR r4_23.eq_1) <| s4.eq_1
set_option maxHeartbeats 2000000 in
theorem lawSure_ok (bs bs2 : List UInt8) : ACallsF Try.prog 4 [.c (.v (.sl (encB bs))), .c (.v (.sl (encB bs2)))] [] (.b true) := by
  obtain ⟨⟨d, nm⟩, ⟨hd, hnm⟩, C1⟩ := drawLook_ok bs
  simp only at hd hnm C1
  obtain ⟨x, hx, C2⟩ := look_ok d hd nm
  obtain ⟨x', hx', C3⟩ := lookI_ok d hd nm
  have e1 := lk_det hx' hx
  subst e1
  clear hx'
  obtain ⟨ns, hns, C4⟩ := namesI15_ok d hd
  have hnl := nm_len hd hns
  have C5 := loHas_ok ns nm (by omega)
  obtain ⟨r1, hr1, C6⟩ := doC_ok d (wSync nm) hd ⟨hnm, Nat.zero_le _⟩
  have hD1 : DOk r1.1 := by
    rcases hr1 with ⟨h, rfl⟩ | ⟨_, rfl⟩
    · exact h.step _
    · exact zDk_ok
  obtain ⟨r2, hr2, C7⟩ := doC_ok r1.1 wDirs hD1.fine ⟨Nat.zero_le _, Nat.zero_le _⟩
  have hr2' : r2 = doS r1.1 wDirs := by
    rcases hr2 with ⟨_, h⟩ | ⟨h, _⟩
    · exact h
    · exact absurd hD1 h
  have hD2 : DOk r2.1 := by rw [hr2']; exact hD1.step _
  obtain ⟨⟨d3, m, keep⟩, -, C8⟩ := drawCut_ok bs2
  have C9 := cutI17_ok r2.1 hD2 m keep
  obtain ⟨z, hz, C10⟩ := lookI_ok (cutD r2.1 m keep) (hD2.cut m keep).fine nm
  have h2 : r2.2 = 0 := by rw [hr2', dirs_is]
  -- what is there
  have key : (x'.2 = true ∧ has ns nm = true ∧ r1.2 = 0 ∧ z = x') ∨ (x'.2 = false ∧ has ns nm = false ∧ r1.2 ≠ 0 ∧ z = (⟨#[]⟩, false)) := by
    by_cases hD : DOk d
    · have hn1 : ns = aft d.names d.moves := by
        rcases hns with ⟨_, h⟩ | ⟨h, _⟩
        · exact h
        · exact absurd hD h
      have hq : r1 = doS d (wSync nm) := by
        rcases hr1 with ⟨_, h⟩ | ⟨h, _⟩
        · exact h
        · exact absurd hD h
      by_cases hm : nm ∈ aft d.names d.moves
      · obtain ⟨s1, s2⟩ := sure hD hm m keep
        have ex := lk_in hx hD hm
        rw [hr2', hq] at hz
        refine .inl ⟨by rw [ex], by rw [hn1]; exact has_true.2 hm, by rw [hq]; exact s1, by rw [ex]; exact s2 z hz⟩
      · have ex := lk_out hx fun e => hm e.2
        rw [hr2', hq, sync_no hm, dirs_is] at hz
        exact .inr ⟨by rw [ex], by rw [hn1]; exact has_false.2 hm, by rw [hq, sync_no hm]; simp, notSure hm m keep hz⟩
    · have hn1 : ns = [] := by
        rcases hns with ⟨h, _⟩ | ⟨_, h⟩
        · exact absurd h hD
        · exact h
      have hq : r1 = (⟨[], [], []⟩, 1) := by
        rcases hr1 with ⟨h, _⟩ | ⟨_, h⟩
        · exact absurd h hD
        · exact h
      have ex := lk_out hx fun e => hD e.1
      rw [hr2', hq, dirs_is] at hz
      exact .inr ⟨by rw [ex], by rw [hn1]; rfl, by rw [hq]; decide, notSure (d := ⟨[], [], []⟩) (fun h => by cases h) m keep hz⟩
  obtain ⟨want, was⟩ := x'
  obtain ⟨left, still⟩ := z
  simp only at key
  refine ACallsF.intro ok4 follows fun X c0 => ?_
  by_cases g0 : (bs.length : Int) > 1048576
  · simp only [RUX, Nat.reduceAdd, reduceIte, Nat.reduceEqDiff, Nat.reduceLT, Nat.reduceLeDiff, reduceCtorEq, eq_self, FIX, forall_const, endE_n, endE_r, CHT, disj, Nat.reduceBEq, beq_self_eq_true, APT, APX, forall_eq, ALT, ALU, UTc_1.d, encB_len, g0]
  by_cases g1 : (bs2.length : Int) > 1048576
  · simp only [RUX, Nat.reduceAdd, reduceIte, Nat.reduceEqDiff, Nat.reduceLT, Nat.reduceLeDiff, reduceCtorEq, eq_self, FIX, forall_const, endE_n, endE_r, CHT, disj, Nat.reduceBEq, beq_self_eq_true, APT, APX, forall_eq, ALT, ALU, UTc_1.d, encB_len, g0, g1]
  simp only [RUX, Nat.reduceAdd, reduceIte, Nat.reduceEqDiff, Nat.reduceLT, Nat.reduceLeDiff, reduceCtorEq, eq_self, FIX, forall_const, endE_n, endE_r, CHT, disj, Nat.reduceBEq, beq_self_eq_true, APT, APX, forall_eq, ALT, ALU, UTc_1.d, encB_len, g0, g1]
  refine callC C1 rfl rfl rfl rfl ?_
  simp only [RUX, Nat.reduceAdd, reduceIte, Nat.reduceEqDiff, Nat.reduceLT, Nat.reduceLeDiff, reduceCtorEq, eq_self, FIX, forall_const, endE_n, endE_r, CHT, disj, Nat.reduceBEq, beq_self_eq_true, APT, APX, forall_eq, ALT, ALU, UTc_1.d]
  refine callC C2 rfl rfl rfl rfl ?_
  simp only [RUX, Nat.reduceAdd, reduceIte, Nat.reduceEqDiff, Nat.reduceLT, Nat.reduceLeDiff, reduceCtorEq, eq_self, FIX, forall_const, endE_n, endE_r, CHT, disj, Nat.reduceBEq, beq_self_eq_true, APT, APX, forall_eq, ALT, ALU, UTc_1.d]
  refine callC C3 rfl rfl rfl rfl ?_
  simp only [RUX, Nat.reduceAdd, reduceIte, Nat.reduceEqDiff, Nat.reduceLT, Nat.reduceLeDiff, reduceCtorEq, eq_self, FIX, forall_const, endE_n, endE_r, CHT, disj, Nat.reduceBEq, beq_self_eq_true, APT, APX, forall_eq, ALT, ALU, UTc_1.d, sStr, b_ne]
  refine callC C4 rfl rfl rfl rfl ?_
  simp only [RUX, Nat.reduceAdd, reduceIte, Nat.reduceEqDiff, Nat.reduceLT, Nat.reduceLeDiff, reduceCtorEq, eq_self, FIX, forall_const, endE_n, endE_r, CHT, disj, Nat.reduceBEq, beq_self_eq_true, APT, APX, forall_eq, ALT, ALU, UTc_1.d]
  refine callC C5 rfl rfl rfl rfl ?_
  rcases key with ⟨k1, k2, k3, k4⟩ | ⟨k1, k2, k3, k4⟩
  · simp only [Prod.mk.injEq] at k4
    obtain ⟨rfl, rfl⟩ := k4
    subst k1
    have q3 : (r1.2 == 0) = true := by simpa using k3
    have q2 : (r2.2 == 0) = true := by simpa using h2
    simp only [RUX, Nat.reduceAdd, reduceIte, Nat.reduceEqDiff, Nat.reduceLT, Nat.reduceLeDiff, reduceCtorEq, eq_self, FIX, forall_const, endE_n, endE_r, CHT, disj, Nat.reduceBEq, beq_self_eq_true, APT, APX, forall_eq, ALT, ALU, UTc_1.d, k2]
    refine callC C6 rfl rfl rfl rfl ?_
    simp only [RUX, Nat.reduceAdd, reduceIte, Nat.reduceEqDiff, Nat.reduceLT, Nat.reduceLeDiff, reduceCtorEq, eq_self, FIX, forall_const, endE_n, endE_r, CHT, disj, Nat.reduceBEq, beq_self_eq_true, APT, APX, forall_eq, ALT, ALU, UTc_1.d]
    refine callC C7 rfl rfl rfl rfl ?_
    simp only [RUX, Nat.reduceAdd, reduceIte, Nat.reduceEqDiff, Nat.reduceLT, Nat.reduceLeDiff, reduceCtorEq, eq_self, FIX, forall_const, endE_n, endE_r, CHT, disj, Nat.reduceBEq, beq_self_eq_true, APT, APX, forall_eq, ALT, ALU, UTc_1.d]
    refine callC C8 rfl rfl rfl rfl ?_
    simp only [RUX, Nat.reduceAdd, reduceIte, Nat.reduceEqDiff, Nat.reduceLT, Nat.reduceLeDiff, reduceCtorEq, eq_self, FIX, forall_const, endE_n, endE_r, CHT, disj, Nat.reduceBEq, beq_self_eq_true, APT, APX, forall_eq, ALT, ALU, UTc_1.d]
    refine callC C9 rfl rfl rfl rfl ?_
    simp only [RUX, Nat.reduceAdd, reduceIte, Nat.reduceEqDiff, Nat.reduceLT, Nat.reduceLeDiff, reduceCtorEq, eq_self, FIX, forall_const, endE_n, endE_r, CHT, disj, Nat.reduceBEq, beq_self_eq_true, APT, APX, forall_eq, ALT, ALU, UTc_1.d]
    refine callC C10 rfl rfl rfl rfl ?_
    simp only [RUX, Nat.reduceAdd, reduceIte, Nat.reduceEqDiff, Nat.reduceLT, Nat.reduceLeDiff, reduceCtorEq, eq_self, FIX, forall_const, endE_n, endE_r, CHT, disj, Nat.reduceBEq, beq_self_eq_true, APT, APX, forall_eq, ALT, ALU, UTc_1.d, q2, q3, sStr]
  · simp only [Prod.mk.injEq] at k4
    obtain ⟨rfl, rfl⟩ := k4
    subst k1
    have q3 : (r1.2 != 0) = true := by simpa using k3
    simp only [RUX, Nat.reduceAdd, reduceIte, Nat.reduceEqDiff, Nat.reduceLT, Nat.reduceLeDiff, reduceCtorEq, eq_self, FIX, forall_const, endE_n, endE_r, CHT, disj, Nat.reduceBEq, beq_self_eq_true, APT, APX, forall_eq, ALT, ALU, UTc_1.d, k2]
    refine callC C6 rfl rfl rfl rfl ?_
    simp only [RUX, Nat.reduceAdd, reduceIte, Nat.reduceEqDiff, Nat.reduceLT, Nat.reduceLeDiff, reduceCtorEq, eq_self, FIX, forall_const, endE_n, endE_r, CHT, disj, Nat.reduceBEq, beq_self_eq_true, APT, APX, forall_eq, ALT, ALU, UTc_1.d]
    refine callC C7 rfl rfl rfl rfl ?_
    simp only [RUX, Nat.reduceAdd, reduceIte, Nat.reduceEqDiff, Nat.reduceLT, Nat.reduceLeDiff, reduceCtorEq, eq_self, FIX, forall_const, endE_n, endE_r, CHT, disj, Nat.reduceBEq, beq_self_eq_true, APT, APX, forall_eq, ALT, ALU, UTc_1.d]
    refine callC C8 rfl rfl rfl rfl ?_
    simp only [RUX, Nat.reduceAdd, reduceIte, Nat.reduceEqDiff, Nat.reduceLT, Nat.reduceLeDiff, reduceCtorEq, eq_self, FIX, forall_const, endE_n, endE_r, CHT, disj, Nat.reduceBEq, beq_self_eq_true, APT, APX, forall_eq, ALT, ALU, UTc_1.d]
    refine callC C9 rfl rfl rfl rfl ?_
    simp only [RUX, Nat.reduceAdd, reduceIte, Nat.reduceEqDiff, Nat.reduceLT, Nat.reduceLeDiff, reduceCtorEq, eq_self, FIX, forall_const, endE_n, endE_r, CHT, disj, Nat.reduceBEq, beq_self_eq_true, APT, APX, forall_eq, ALT, ALU, UTc_1.d]
    refine callC C10 rfl rfl rfl rfl ?_
    simp only [RUX, Nat.reduceAdd, reduceIte, Nat.reduceEqDiff, Nat.reduceLT, Nat.reduceLeDiff, reduceCtorEq, eq_self, FIX, forall_const, endE_n, endE_r, CHT, disj, Nat.reduceBEq, beq_self_eq_true, APT, APX, forall_eq, ALT, ALU, UTc_1.d, q3]
end Go.V
set_option linter.unusedSimpArgs false
set_option linter.unusedVariables false
namespace Go.V
open Go.Proofs Go.ChangeShapes Go.WideShapes Go.ChangeAt Go.RowKit
/-- All that is there at the start stays. -/
def Stays (W W' : World) : Prop := W'.os = W.os ∧ W'.output = W.output ∧ ∀ b, b < W.heap.size → W'.heap[b]? = W.heap[b]?
theorem Stays.kept {W W' : World} (h : Stays W W') (may : MemPlace → Prop) : W.keptBut W' may := by
  refine ⟨h.1, h.2.1, fun i hi => ?_⟩
  rw [h.2.2 i hi]
  cases W.heap[i]? with
  | none => trivial
  | some o => cases o <;> simp
theorem Stays.cell {W W' : World} (h : Stays W W') {a : Addr} {v : Value} (hc : W.cell? a = some v) : W'.cell? a = some v := by
  unfold World.cell? at hc ⊢
  by_cases hb : a.block < W.heap.size
  · rw [h.2.2 _ hb]; exact hc
  · rw [Array.getElem?_eq_none (by omega)] at hc; simp at hc
abbrev oldImm (W : World) : Imm := fun b _ => b < W.heap.size
/-- A law whose arguments are only read. -/
theorem calls_true {P : Program} {f : FuncId} {args : List T} {W : World} {vs : List Value} (hC : ACallsF P f args [] (.b true)) (hT : TsRep W (oldImm W) (hinOf []) (fun _ => none) (· < 0) vs args) :
    Calls P f vs.toArray W fun e W' => e = .returned (.bool true) ∧ Stays W W' := by
  have hH : HOk W (oldImm W) (hinOf []) (fun _ => none) (· < 0) := ⟨fun n B h => by simp [hinOf, renN] at h, fun n m g h => by simp [hinOf, renN] at h, fun b o h => h⟩
  refine (hC.2 W (oldImm W) (fun _ => none) 0 vs hH hT).mono fun e W' ⟨x, r, h, imm', L', c', he, ⟨ν, hr, _⟩, hx, _, hS, _, _⟩ => ?_
  subst hr
  have hx : x = .bool true := rep_s (y := .bool true) hx
  subst hx
  exact ⟨he, hS.os, hS.output, fun b hb => hS.frame b hb fun ⟨n, h1, _⟩ => h1 (by simp [hinOf, renN])⟩
theorem post_same {P : Program} {H : Type} {enc : TypeId × Value → H} {f : Func} {s : ChangeSpec} {apart fresh handsOn : Bool} {W W' : World} {args : Array Value} {v : Value} {ds gs : List (DataW H)} {before pa pv : List MemPlace}
    (hW : DataW.Whole enc P f.params.toList s.vars apart W args.toList ds gs before)
    (hres : ∀ (b : Nat) (sp : Nat → Bool) (hd : Bool), DataW.TrodAll enc P W' b sp hd f.resultTypes.toList (v.resultList f.resultTypes.size) (s.fn H (ds ++ gs)).results [])
    (hargs : ∀ sp : Nat → Bool, (∀ p ∈ before, sp p.block = true) → DataW.TrodAll enc P W' 0 sp true f.params.toList args.toList (s.fn H (ds ++ gs)).args pa)
    (hvars : ∀ sp : Nat → Bool, (∀ p ∈ before, sp p.block = true) → DataW.TrodVars enc P W' sp s.vars (s.fn H (ds ++ gs)).vars pv)
    (hps : before = pa ++ pv) (hk : Stays W W') : s.post enc P f apart fresh handsOn false W args v W' := by
  have hold : ∀ p ∈ before, (fun b => decide (b < W.heap.size)) p.block = true := fun p hp => by simpa using hW.lt p hp
  refine ⟨ds, gs, before, [], pa, pv, hW, hres _ _ _, hargs _ hold, hvars _ hold, World.keptBut_mono (fun p hp => ⟨hp, ?_⟩) (hk.kept (· ∈ before)), fun h => by cases h⟩
  rw [hps, List.mem_append] at hp
  exact Or.inr hp
/-- An argument that is a slice of bytes. -/
theorem open_bytes {P : Program} {H : Type} {enc : TypeId × Value → H} {W : World} {r : Reach} {b0 : Nat} {t e : TypeId} {v : Value} {d : DataW H} {p : List MemPlace} (ht : P.underlying t = some (.slice e)) (he : P.underlying e = some (.int .u8)) (hc : P.cellsOf e = 1)
    (hval : Value.okWide P W r b0 t v) (h : DataW.Trod enc P W 0 (fun _ => true) true t v d p) :
    ∃ bs : List UInt8, VRep W (oldImm W) v (.sl (encB bs)) ∧ ∀ W', Stays W W' → ∀ sp : Nat → Bool, (∀ q ∈ p, sp q.block = true) → DataW.Trod enc P W' 0 sp true t v d p := by
  obtain ⟨a0, len, cap, rfl⟩ := okWide_slice ht hval
  obtain ⟨fuel, hf⟩ := h
  rcases open_ints ht he hc hf with ⟨hcs, hx⟩ | ⟨a, len', cap', zs, hcs, _, hl, hm, hz, hx, hcell, hwz⟩
  · obtain ⟨rfl, rfl, rfl⟩ : a0 = none ∧ len = 0 ∧ cap = 0 := by simpa [Value.cells] using hcs
    cases hx
    exact ⟨[], .nil _ _, fun W' _ sp _ => shut_slice_nil ht⟩
  · obtain ⟨rfl, rfl, rfl⟩ : a0 = some a ∧ len = len' ∧ cap = cap' := by simpa [Value.cells] using hcs
    simp only [if_true] at hz
    cases hx
    have wz : ∀ i, i < zs.length → 0 ≤ zs.getD i 0 ∧ zs.getD i 0 < 256 := by
      intro i hi
      have e1 : zs.getD i 0 = zs[i] := by simp [List.getD, hi]
      have := hwz zs[i] (List.getElem_mem hi)
      rw [e1]
      simp [Lit.wf, IntKind.min, IntKind.max, IntKind.signed, IntKind.bits] at this
      omega
    refine ⟨(List.range len).map fun i => UInt8.ofNat (zs.getD i 0).toNat, ?_, fun W' hS sp hsp => ⟨2, ?_⟩⟩
    · by_cases h0 : len = 0
      · subst h0; exact .nil _ _
      · have hp : a = ⟨a.block, a.off, none⟩ ∧ a.block < W.heap.size := by
          have := hcell 0 (by omega)
          have e0 : a.add 0 = a := by simp [Addr.add]
          rw [e0] at this
          unfold World.cell? at this
          split at this
          · rename_i c ty fr hh
            split at this
            · cases this
            · rename_i hs
              refine ⟨?_, heap_lt hh⟩
              obtain ⟨b, o, s⟩ := a
              simp at hs
              subst hs; rfl
          · cases this
        obtain ⟨hp1, hp2⟩ := hp
        have hlen : (encB ((List.range len).map fun i => UInt8.ofNat (zs.getD i 0).toNat)).length = len := by simp [encB]
        rw [hp1]
        have := VRep.sl (w := W) (imm := oldImm W) (encB ((List.range len).map fun i => UInt8.ofNat (zs.getD i 0).toNat)) 1 a.block a.off cap (fun i _ => .int .u8 (zs.getD i 0)) (by omega) (fun e => h0 (by rw [← hlen, e]; rfl)) (by rw [hlen]; exact hl) (fun e he2 => by simp only [encB, List.mem_map] at he2; obtain ⟨_, _, rfl⟩ := he2; rfl) (fun i j x hx => ?_) (fun i j x hx => ?_)
        · rw [hlen] at this; exact this
        · have hi : i < len := by
            by_cases hi : i < len
            · exact hi
            · rw [at2, List.getElem?_eq_none (by rw [hlen]; omega)] at hx; simp at hx
          have hj : j = 0 := by
            rw [at2] at hx
            cases j with
            | zero => rfl
            | succ j => simp [encB, hi] at hx
          subst hj
          refine ⟨?_, hp2⟩
          have := hcell i (by omega)
          rw [hp1, add_eq] at this
          simpa using this
        · have hi : i < len := by
            by_cases hi : i < len
            · exact hi
            · rw [at2, List.getElem?_eq_none (by rw [hlen]; omega)] at hx; simp at hx
          have hj : j = 0 := by
            rw [at2] at hx
            cases j with
            | zero => rfl
            | succ j => simp [encB, hi] at hx
          subst hj
          obtain ⟨w1, w2⟩ := wz i (by omega)
          have e3 : ((UInt8.ofNat (zs.getD i 0).toNat).toNat : Int) = zs.getD i 0 := by
            rw [UInt8.toNat_ofNat']; omega
          have : x = .s (.int .u8 (zs.getD i 0)) := by
            have h9 : (encB ((List.range len).map fun i => UInt8.ofNat (zs.getD i 0).toNat))[i]? = some [.s (.int .u8 ((UInt8.ofNat (zs.getD i 0).toNat).toNat : Int))] := encB_at (by simp [hi])
            rw [at2, h9, e3] at hx
            simpa using hx.symm
          subst this
          exact .s _ rfl
    · refine shut_ints 0 ht he hc (Nat.zero_le _) hl hm ?_ (fun i hi => hS.cell (hcell i hi)) hwz
      by_cases h0 : cap = 0
      · have : len = 0 := by omega
        subst h0 this
        simp at hz
        simp [hz]
      · have : sp a.block = true := by
          refine hsp (MemPlace.cell a.block a.off) ?_
          simp only [MemPlace.row]
          exact List.mem_map.2 ⟨0, List.mem_range.2 (by omega), by simp⟩
        rw [this]; exact hz
end Go.V
set_option linter.unusedSimpArgs false
set_option linter.unusedVariables false
namespace Go.Proofs.Ytfemebnmlclibaa.fnDiskSure
open Go.ChangeShapes Go.WideShapes Go.ChangeAt Go.RowKit
theorem cells5 : Try.prog.cellsOf 5 = 1 := by kernel_rfl
theorem own : ownKnob Try.prog.godebug = none := by kernel_rfl
set_option maxRecDepth 100000 in
theorem contract (H : Type) (enc : TypeId × Value → H) (W : World) (base : Nat) (args : Array Value) (ds gs : List (DataW H)) (before : List MemPlace)
    (hval : ∀ (j : Nat) t v, Try.f4.params[j]? = some t → args[j]? = some v → Value.okWide Try.prog W .any base t v)
    (hW : DataW.Whole enc Try.prog Try.f4.params.toList Rows.fnDiskSureSpec.vars false W args.toList ds gs before) :
    Calls Try.prog 4 args W fun e W' => ∃ v, e = .returned v ∧ Rows.fnDiskSureSpec.post enc Try.prog Try.f4 false true false false W args v W' := by
  have hW' := hW
  obtain ⟨p, q, hA0, hV, rfl, hfz, hnd⟩ := hW
  have hA : DataW.TrodAll enc Try.prog W 0 (fun _ => true) true Try.f4.params.toList args.toList ds p := hA0
  rw [Try.params4] at hA hval
  obtain ⟨v0, vs0, d0, ds0, p0, q0, hargs, rfl, rfl, h0, r0⟩ := trodAll_cons hA
  obtain ⟨v1, vs1, d1, ds1, p1, q1, rfl, rfl, rfl, h1, r1⟩ := trodAll_cons r0
  obtain ⟨rfl, rfl, rfl⟩ := trodAll_nil r1
  obtain rfl : args = #[v0, v1] := by cases args; simp_all
  obtain ⟨rfl, rfl⟩ := trodVars_none hV
  obtain ⟨bs0, V0, S0⟩ := V.open_bytes Try.underlying22 Try.underlying5 cells5 (hval 0 22 v0 rfl rfl) h0
  obtain ⟨bs1, V1, S1⟩ := V.open_bytes Try.underlying22 Try.underlying5 cells5 (hval 1 22 v1 rfl rfl) h1
  clear hA0
  simp only [List.append_nil] at hW'
  have hT : V.TsRep W (V.oldImm W) (V.hinOf []) (fun _ => none) (· < 0) [v0, v1] [.c (.v (.sl (V.encB bs0))), .c (.v (.sl (V.encB bs1)))] := ⟨rfl, fun k x y hx hy => by
    cases k with
    | zero => simp at hx hy; subst hx hy; exact V0
    | succ k => cases k with
      | zero => simp at hx hy; subst hx hy; exact V1
      | succ k => simp at hx⟩
  refine (V.calls_true (V.lawSure_ok bs0 bs1) hT).mono fun e W' ⟨he, hS⟩ => ?_
  subst he
  refine ⟨_, rfl, V.post_same (pa := p0 ++ p1) (pv := []) hW' (fun _ _ _ => (trodAll_cons_mk (shut_bool Try.underlying4 _) trodAll_mk0)) (fun sp hsp => ?_) (fun _ _ => rfl) (by simp) hS⟩
  have := trodAll_cons_mk (S0 W' hS sp fun q hq => hsp q (by simp [hq])) (trodAll_cons_mk (S1 W' hS sp fun q hq => hsp q (by simp [hq])) trodAll_mk0)
  simp only [List.append_nil] at this
  exact this
set_option maxRecDepth 100000 in
theorem lifted (os : Os) (started : os.Started) (H : Type) (enc : TypeId × Value → H) :
    ReturnsInHanded {} Try.checked os 4 .any (Rows.fnDiskSureSpec.pre6 enc Try.prog Try.f4 Rows.fnDiskSureRow.domain false) (Rows.fnDiskSureSpec.post enc Try.prog Try.f4 false true false false) := by
  refine returnsInHanded_of_change (C := Try.checked) own started (by kernel_rfl) Try.func4
    (ChangeSpec.witness6 (enc := enc) (C := Try.checked) false ⟨#[], #[.slice none 0 0, .slice none 0 0], []⟩ 8 (by kernel_rfl) (by kernel_rfl) (by kernel_rfl) (by kernel_rfl)) ?_
  intro W base args ds gs before hval hW _ _
  exact contract H enc W base args ds gs before hval hW
theorem over : Rows.fnDiskSureRow.holds Try.pinned (OpenSpec.ofChange Rows.fnDiskSureSpec) :=
  OpenClaim.holds_of_wide 4 Try.f4 rfl rfl rfl rfl rfl rfl rfl ⟨rfl, rfl, rfl, rfl, rfl⟩ rfl rfl rfl rfl rfl (by kernel_rfl) Try.func4 (by kernel_rfl)
    (of_decide_eq_true (by kernel_rfl)) (by unfold Func.isWrapper; first | (rw [if_pos (by decide +kernel)]; kernel_rfl) | (rw [if_neg (by decide +kernel)]; exact ⟨rfl, rfl⟩))
    (fun os started H enc _ => lifted os started H enc)
theorem proved : Rows.FnDiskSureSaid := over
#print axioms proved
end Go.Proofs.Ytfemebnmlclibaa.fnDiskSure

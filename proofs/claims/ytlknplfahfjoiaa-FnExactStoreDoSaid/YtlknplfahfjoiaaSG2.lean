/- It is proved that the law FnExactStoreDo returns true for every input and leaves its input as it was; no condition. -/
import Derived.Test.YtlknplfahfjoiaaSG1
set_option linter.unusedSimpArgs false
namespace Go.V
open Go.Proofs
/- loop.example/teagle/impl.doWrites -/
def r116_0 : List AOper := [ao 0 3 (.box 34 (.t 0)),
  ao 1 5 (.box 52 (.t 2)),
  ao 2 6 (.alloc 34 [.nil0, .nil0, .nil0]),
  ao 3 7 (.mv (.k (.i 0)))]
def r116_1 : List AOper := [ao 0 11 (.ld 3 true (.t 3)),
  ao 1 12 (.call (.k (.c (.fn 53 []))) [(.t 11)]),
  ao 2 8 (.alloc 34 [.nil0, .nil0, .nil0]),
  an 3 (.st 3 (.t 8) (.t 12))]
def r116_2 : List AOper := [ao 0 13 (.mv (.t 1)),
  ao 1 14 (.len (.t 13)),
  ao 2 15 (.mv (.k (.i 0)))]
def r116_3 : List AOper := [ao 0 16 (.bin .lss (.t 15) (.t 14))]
def c116_4 : ACode := .cond (.t 16) .skip (.exit 0)
def r116_5 : List AOper := [ao 0 17 (.mv (.t 15)),
  ao 1 18 (.ia 3 (.t 13) (.t 15)),
  ao 2 19 (.ld 3 true (.t 18)),
  ao 3 10 (.alloc 38 [(.v (.s (.int .i64 0))), (.v (.s (.string ⟨#[]⟩))), (.v (.s (.string ⟨#[]⟩)))]),
  ao 4 9 (.mv (.t 17)),
  an 5 (.st 3 (.t 10) (.t 19))]
def r116_6 : List AOper := [ao 0 20 (.fa 2 (.t 5)),
  ao 1 21 (.ld 1 false (.t 20)),
  ao 2 22 (.mv (.t 21)),
  ag 3 23 22 true [] (.mv (.t 9)),
  ag 4 24 22 true [] (.fa 3 (.t 5)),
  ag 5 25 22 true [] (.ld 1 false (.t 24)),
  ag 6 26 22 true [] (.bin .geq (.t 23) (.t 25)),
  ao 7 27 (.pick (.t 22) (.t 26) (.k (.b false)))]
def c116_7 : ACode := .cond (.t 27) (.exit 0) .skip
def c116_8 : ACode := .seq (.reg r116_6) c116_7
def r116_9 : List AOper := [ao 0 28 (.ld 3 true (.t 10)),
  ao 1 29 (.call (.k (.c (.fn 54 []))) [(.t 8), (.t 28)]),
  ao 2 30 (.bin .neq (.t 29) (.k (.i 0)))]
def r116_10 : List AOper := [ao 0 31 (.ld 3 true (.t 8)),
  an 1 (.st 3 (.t 6) (.t 31)),
  ao 2 7 (.mv (.k (.i 4)))]
def c116_11 : ACode := .seq (.reg r116_10) .ret
def c116_12 : ACode := .cond (.t 30) c116_11 .skip
def c116_13 : ACode := .seq (.reg r116_5) (.seq c116_8 (.seq (.reg r116_9) c116_12))
def c116_14 : ACode := .block 1 c116_13
def r116_15 : List AOper := [ao 0 32 (.bin .add (.t 15) (.k (.i 1))),
  ao 1 15 (.mv (.t 32))]
def c116_16 : ACode := .seq (.reg r116_3) (.seq c116_4 (.seq c116_14 (.reg r116_15)))
def c116_17 : ACode := .loop c116_16
def c116_18 : ACode := .block 0 c116_17
def c116_19 : ACode := .seq (.reg r116_2) c116_18
def r116_20 : List AOper := [ao 0 33 (.fa 2 (.t 5)),
  ao 1 34 (.ld 1 false (.t 33))]
def r116_21 : List AOper := [ao 0 35 (.ld 3 true (.t 8)),
  ao 1 36 (.fa 4 (.t 5)),
  ao 2 37 (.ld 1 false (.t 36)),
  ao 3 38 (.fa 5 (.t 5)),
  ao 4 39 (.ld 1 false (.t 38)),
  ao 5 40 (.call (.k (.c (.fn 155 []))) [(.t 35), (.t 37), (.t 39)]),
  an 6 (.st 3 (.t 6) (.t 40)),
  ao 7 7 (.mv (.k (.i 6)))]
def c116_22 : ACode := .seq (.reg r116_21) .ret
def c116_23 : ACode := .cond (.t 34) c116_22 .skip
def c116_24 : ACode := .seq (.reg r116_20) c116_23
def r116_25 : List AOper := [ao 0 41 (.ld 3 true (.t 8)),
  an 1 (.st 3 (.t 6) (.t 41)),
  ao 2 7 (.mv (.k (.i 0)))]
def c116 : ACode := .seq (.reg r116_0) (.seq (.reg r116_1) (.seq c116_19 (.seq c116_24 (.seq (.reg r116_25) .ret))))
def s116 : List ARes := [.cell 6 3 true, .tmp 7]
theorem ok116 : okF Try.prog 116 42 c116 s116 := ⟨Try.f116, Try.func116, Try.ntmps116, by kernel_rfl, by kernel_rfl, by kernel_rfl⟩
def com116 (ws : List DW) (a : LA) (i : Nat) (σ : St) : Prop := σ.t 13 = tL (en eW ws) ∧ σ.t 14 = .i ws.length ∧ σ.t 15 = .i i ∧ (∃ u, σ.t 5 = .c (.ptr 5 u 0) ∧ σ.H 5 = some (.var u 52 [.v (.s (.int .i64 a.kind)), .v (.s (.string a.data)), .v (.s (.bool a.cuts)), .v (.s (.int .i64 a.after)), .v (.s (.int .i64 a.moves)), .v (.sl (en eI a.keep))])) ∧ (∃ u, σ.t 6 = .c (.ptr 6 u 0) ∧ σ.H 6 = some (.var u 34 [.nil0, .nil0, .nil0]))
def invA (r : Dk × Int) (ws : List DW) (a : LA) (mF mN : Nat) (d : Dk) (i : Nat) (σ : St) : Prop := r = goS a i d (ws.drop i) ∧ com116 ws a i σ ∧ ∃ u v1 v2 v3, σ.t 8 = .c (.ptr 8 u 0) ∧ σ.H 8 = some (.var u 34 [.own mF v1 d.files.length, .own mN v2 d.names.length, .own 1003 v3 d.moves.length]) ∧ σ.H mF = some (.arr v1 true 3 88 (en eF d.files)) ∧ σ.H mN = some (.arr v2 true 1 9 (en eS d.names)) ∧ σ.H 1003 = some (.arr v3 true 2 90 (en eM d.moves))
def invB (r : Dk × Int) (ws : List DW) (a : LA) (mF mN : Nat) (d : Dk) (i : Nat) (σ : St) : Prop := r = goS a i d (ws.drop i) ∧ com116 ws a i σ ∧ d.moves = [] ∧ ∃ rest u v1 v2, σ.t 8 = .c (.ptr 8 u 0) ∧ σ.H 8 = some (.var u 34 [.own mF v1 d.files.length, .own mN v2 d.names.length, .nil0]) ∧ σ.H mF = some (.arr v1 true 3 88 (en eF d.files)) ∧ σ.H mN = some (.arr v2 true 1 9 (en eS (d.names ++ rest)))
def inv116 (r : Dk × Int) (ws : List DW) (a : LA) (i : Nat) (σ : St) : Prop := ∃ d, DOk d ∧ ∃ mF mN, (mF = 1001 ∧ mN = 1002 ∨ mF = 1010 ∧ mN = 1011) ∧ (invA r ws a mF mN d i σ ∨ invB r ws a mF mN d i σ)
theorem UGh_1 : (type_of% (uA c116.eq_1)) ∧ (type_of% (uR r116_0.eq_1)) ∧ (type_of% (uR r116_1.eq_1)) ∧ (type_of% (uA c116_19.eq_1)) ∧ (type_of% (uR r116_2.eq_1)) ∧ (type_of% (uA c116_18.eq_1)) ∧ (type_of% (uA c116_17.eq_1)) ∧ (type_of% (uA c116_24.eq_1)) ∧ (type_of% (uR r116_20.eq_1)) ∧ (type_of% (uA c116_23.eq_1)) ∧ (type_of% (uA c116_22.eq_1)) ∧ (type_of% (uR r116_21.eq_1)) ∧ (type_of% (uR r116_25.eq_1)) ∧ (type_of% s116.eq_1) :=
  ⟨uA c116.eq_1, uR r116_0.eq_1, uR r116_1.eq_1, uA c116_19.eq_1, uR r116_2.eq_1, uA c116_18.eq_1, uA c116_17.eq_1, uA c116_24.eq_1, uR r116_20.eq_1, uA c116_23.eq_1, uA c116_22.eq_1, uR r116_21.eq_1, uR r116_25.eq_1, s116.eq_1⟩
theorem UGh_3 : (type_of% (uA c116_16.eq_1)) ∧ (type_of% (uR r116_3.eq_1)) ∧ (type_of% (uA c116_4.eq_1)) ∧ (type_of% (uA c116_14.eq_1)) ∧ (type_of% (uA c116_13.eq_1)) ∧ (type_of% (uR r116_5.eq_1)) ∧ (type_of% (uA c116_8.eq_1)) ∧ (type_of% (uR r116_6.eq_1)) ∧ (type_of% (uA c116_7.eq_1)) ∧ (type_of% (uR r116_9.eq_1)) ∧ (type_of% (uA c116_12.eq_1)) ∧ (type_of% (uA c116_11.eq_1)) ∧ (type_of% (uR r116_10.eq_1)) ∧ (type_of% (uR r116_15.eq_1)) ∧ (type_of% (uA c116.eq_1)) ∧ (type_of% (uR r116_0.eq_1)) ∧ (type_of% (uR r116_1.eq_1)) ∧ (type_of% (uA c116_19.eq_1)) ∧ (type_of% (uR r116_2.eq_1)) ∧ (type_of% (uA c116_18.eq_1)) ∧ (type_of% (uA c116_17.eq_1)) ∧ (type_of% (uA c116_24.eq_1)) ∧ (type_of% (uR r116_20.eq_1)) ∧ (type_of% (uA c116_23.eq_1)) ∧ (type_of% (uA c116_22.eq_1)) ∧ (type_of% (uR r116_21.eq_1)) ∧ (type_of% (uR r116_25.eq_1)) ∧ (type_of% s116.eq_1) :=
  ⟨uA c116_16.eq_1, uR r116_3.eq_1, uA c116_4.eq_1, uA c116_14.eq_1, uA c116_13.eq_1, uR r116_5.eq_1, uA c116_8.eq_1, uR r116_6.eq_1, uA c116_7.eq_1, uR r116_9.eq_1, uA c116_12.eq_1, uA c116_11.eq_1, uR r116_10.eq_1, uR r116_15.eq_1, uA c116.eq_1, uR r116_0.eq_1, uR r116_1.eq_1, uA c116_19.eq_1, uR r116_2.eq_1, uA c116_18.eq_1, uA c116_17.eq_1, uA c116_24.eq_1, uR r116_20.eq_1, uA c116_23.eq_1, uA c116_22.eq_1, uR r116_21.eq_1, uR r116_25.eq_1, s116.eq_1⟩
set_option maxRecDepth 20000 in
set_option maxHeartbeats 2000000 in
theorem body116a (r : Dk × Int) (ws : List DW) (a : LA) (d : Dk) (hD : DOk d) (hw : ∀ w ∈ ws, fineDW w) (hl : ws.length ≤ 9000000000000000000) (X : Ctx) (i : Nat) (t : Nat → T) (H : HMap) (c : Nat) (hi : i ≤ ws.length) (h : invA r ws a 1001 1002 d i ⟨t, H, c⟩) :
    wpa Try.prog X c116_16 (thenA (fun σ => i < ws.length ∧ inv116 r ws a (i + 1) σ) (inW 0 (thenW Try.prog X (.seq c116_24 (.seq (.reg r116_25) .ret)) (endA (FinC s116 (tDkI r) []))))) ⟨t, H, c⟩ := by
  obtain ⟨hg, ⟨e13, e14, e15, ⟨u5, e5, eH5⟩, u6, e6, eH6⟩, u8, v1, v2, v3, e8, eH8, eF1, eN1, eM1⟩ := h
  simp only [T.c, T.i, tL] at e13 e14 e15 e5 eH5 e6 eH6 e8 eH8 eF1 eN1 eM1
  have hd := hD.fine
  have eH5o := eH5
  by_cases hlt : i < ws.length
  · obtain ⟨w, hw1⟩ : ∃ w, ws[i]? = some w := ⟨_, List.getElem?_eq_getElem hlt⟩
    have ew := en_at eW hw1
    have hww := hw w (List.mem_of_getElem? hw1)
    have k1 : (i : Int) < ws.length := by omega
    have gz : (0 : Int) ≤ i := by omega
    have gw : IntKind.i64.wrap ((i : Int) + 1) = ((i + 1 : Nat) : Int) := wrap64 (x := (i : Int) + 1) ⟨by omega, by omega⟩
    rw [drop_at hw1] at hg
    by_cases hcut : a.cuts = true ∧ (i : Int) ≥ a.after
    · have p1 := hcut.1
      have p2 := hcut.2
      have hg' : r = (cutD d a.moves a.keep, 6) := by rw [hg, goS, if_pos hcut]
      rw [hg']
      rw [p1] at eH5
      simp only [RUN, core, T.c, T.s, T.b, T.i, sBin, sInt, sUn, isShift, asInt, P1.cells, loadT, ptrC, storeT, putC, fillP, Nat.reduceAdd, reduceIte, Nat.reduceEqDiff, Nat.reduceLT, Nat.reduceLeDiff, reduceCtorEq, eq_self, FIT, lendCs_map, verC_map, FinC, resPs, resP, lendPl, lendCs, lendC, sealC, partsT, finHs, tupT, verT, verP, verC, verB, verAt, Blk.ver, handsAre, forall_const, CHT, disj, Nat.reduceBEq, beq_self_eq_true, APT, srcOf, sealPs, sealCs, sealC, toVs, Option.map_some, List.mem_singleton, forall_eq, ALT, UGh_3, UGh_1, e13, e14, e15, e5, eH5, e6, eH6, e8, eH8, eF1, eN1, eM1, en_len, k1, gz, ew, eW, p2]
      refine callL (ws := dkL 1001 _ 1002 _ 1003 _ d) (ns := [1001, 1002, 1003]) (cutI_ok d hD a.moves a.keep) rfl (lendK (by exact eF1) (by exact eN1) (by exact eM1) rfl rfl rfl rfl) rfl rfl ⟨?_, ?_⟩
      · simp only [RUN, core, T.c, T.s, T.b, T.i, sBin, sInt, sUn, isShift, asInt, P1.cells, loadT, ptrC, storeT, putC, fillP, Nat.reduceAdd, reduceIte, Nat.reduceEqDiff, Nat.reduceLT, Nat.reduceLeDiff, reduceCtorEq, eq_self, FIT, lendCs_map, verC_map, FinC, resPs, resP, lendPl, lendCs, lendC, sealC, partsT, finHs, tupT, verT, verP, verC, verB, verAt, Blk.ver, handsAre, forall_const, CHT, disj, Nat.reduceBEq, beq_self_eq_true, APT, srcOf, sealPs, sealCs, sealC, toVs, Option.map_some, List.mem_singleton, forall_eq, ALT, UGh_1]
      simp only [RUN, core, T.c, T.s, T.b, T.i, sBin, sInt, sUn, isShift, asInt, P1.cells, loadT, ptrC, storeT, putC, fillP, Nat.reduceAdd, reduceIte, Nat.reduceEqDiff, Nat.reduceLT, Nat.reduceLeDiff, reduceCtorEq, eq_self, FIT, lendCs_map, verC_map, FinC, resPs, resP, lendPl, lendCs, lendC, sealC, partsT, finHs, tupT, verT, verP, verC, verB, verAt, Blk.ver, handsAre, forall_const, CHT, disj, Nat.reduceBEq, beq_self_eq_true, APT, srcOf, sealPs, sealCs, sealC, toVs, Option.map_some, List.mem_singleton, forall_eq, ALT, UGh_3, UGh_1, scalarT, scalarP, scalarC, List.all_cons, Bool.false_and, e6, eH6]
    · have hg' : r = if (doS d w).2 = 0 then goS a (i + 1) (doS d w).1 (ws.drop (i + 1)) else ((doS d w).1, 4) := by rw [hg, goS, if_neg hcut]
      have hDq : DOk (doS d w).1 := hD.step w
      by_cases k5 : w.kind = 5
      · have hdo : doS d w = (keepD d (aft d.names d.moves), 0) := by
          have h51 : ¬ (5 : Int) = 1 := by omega
          simp only [doS, k5, h51, if_true, if_false]
        rw [hdo] at hg' hDq
        have hg' : r = goS a (i + 1) (keepD d (aft d.names d.moves)) (ws.drop (i + 1)) := hg'
        have n0 : ((0 : Int) != 0) = false := rfl
        have eF5 : (keepD d (aft d.names d.moves)).files.length = ((aft d.names d.moves).map (fileOf d.files)).length := rfl
        cases p1 : a.cuts with
        | false =>
          rw [p1] at eH5
          simp only [RUN, core, T.c, T.s, T.b, T.i, sBin, sInt, sUn, isShift, asInt, P1.cells, loadT, ptrC, storeT, putC, fillP, Nat.reduceAdd, reduceIte, Nat.reduceEqDiff, Nat.reduceLT, Nat.reduceLeDiff, reduceCtorEq, eq_self, FIT, lendCs_map, verC_map, FinC, resPs, resP, lendPl, lendCs, lendC, sealC, partsT, finHs, tupT, verT, verP, verC, verB, verAt, Blk.ver, handsAre, forall_const, CHT, disj, Nat.reduceBEq, beq_self_eq_true, APT, srcOf, sealPs, sealCs, sealC, toVs, Option.map_some, List.mem_singleton, forall_eq, ALT, UGh_3, e13, e14, e15, e5, eH5, e6, eH6, e8, eH8, eF1, eN1, eM1, en_len, k1, gz, ew, eW]
          refine callDd (m0 := 8) (m1 := 1001) (m2 := 1002) (m3 := 1003) (m4 := 1010) (m5 := 1011) (writeD_ok d w hd hww hD k5 8 1001 1002 1003 1010 1011 _ _ _ _) rfl (by simp only [RUN, core, T.c, T.s, T.b, T.i, sBin, sInt, sUn, isShift, asInt, P1.cells, loadT, ptrC, storeT, putC, fillP, Nat.reduceAdd, reduceIte, Nat.reduceEqDiff, Nat.reduceLT, Nat.reduceLeDiff, reduceCtorEq, eq_self, e8]; rfl) rfl rfl (by decide) (by exact eH8) (by exact eF1) (by exact eN1) (by exact eM1) ⟨?_, ?_⟩
          · simp only [RUN, core, T.c, T.s, T.b, T.i, sBin, sInt, sUn, isShift, asInt, P1.cells, loadT, ptrC, storeT, putC, fillP, Nat.reduceAdd, reduceIte, Nat.reduceEqDiff, Nat.reduceLT, Nat.reduceLeDiff, reduceCtorEq, eq_self, FIT, lendCs_map, verC_map, FinC, resPs, resP, lendPl, lendCs, lendC, sealC, partsT, finHs, tupT, verT, verP, verC, verB, verAt, Blk.ver, handsAre, forall_const, CHT, disj, Nat.reduceBEq, beq_self_eq_true, APT, srcOf, sealPs, sealCs, sealC, toVs, Option.map_some, List.mem_singleton, forall_eq, ALT, UGh_1]
          simp only [RUN, core, T.c, T.s, T.b, T.i, sBin, sInt, sUn, isShift, asInt, P1.cells, loadT, ptrC, storeT, putC, fillP, Nat.reduceAdd, reduceIte, Nat.reduceEqDiff, Nat.reduceLT, Nat.reduceLeDiff, reduceCtorEq, eq_self, FIT, lendCs_map, verC_map, FinC, resPs, resP, lendPl, lendCs, lendC, sealC, partsT, finHs, tupT, verT, verP, verC, verB, verAt, Blk.ver, handsAre, forall_const, CHT, disj, Nat.reduceBEq, beq_self_eq_true, APT, srcOf, sealPs, sealCs, sealC, toVs, Option.map_some, List.mem_singleton, forall_eq, ALT, UGh_3, e13, e14, e15, e5, eH5, e6, eH6, e8, eH8, eF1, eN1, eM1, gw, n0]
          exact ⟨hlt, keepD d (aft d.names d.moves), hDq, 1010, 1011, .inr ⟨rfl, rfl⟩, .inr ⟨hg', ⟨e13, e14, rfl, ⟨u5, e5, eH5o⟩, u6, e6, eH6⟩, rfl, (runI d.names d.moves).2, u8, _, _, e8, rfl, rfl, rfl⟩⟩
        | true =>
          have p2 : ¬ (i : Int) ≥ a.after := fun h => hcut ⟨p1, h⟩
          rw [p1] at eH5
          simp only [RUN, core, T.c, T.s, T.b, T.i, sBin, sInt, sUn, isShift, asInt, P1.cells, loadT, ptrC, storeT, putC, fillP, Nat.reduceAdd, reduceIte, Nat.reduceEqDiff, Nat.reduceLT, Nat.reduceLeDiff, reduceCtorEq, eq_self, FIT, lendCs_map, verC_map, FinC, resPs, resP, lendPl, lendCs, lendC, sealC, partsT, finHs, tupT, verT, verP, verC, verB, verAt, Blk.ver, handsAre, forall_const, CHT, disj, Nat.reduceBEq, beq_self_eq_true, APT, srcOf, sealPs, sealCs, sealC, toVs, Option.map_some, List.mem_singleton, forall_eq, ALT, UGh_3, e13, e14, e15, e5, eH5, e6, eH6, e8, eH8, eF1, eN1, eM1, en_len, k1, gz, ew, eW, p2]
          refine callDd (m0 := 8) (m1 := 1001) (m2 := 1002) (m3 := 1003) (m4 := 1010) (m5 := 1011) (writeD_ok d w hd hww hD k5 8 1001 1002 1003 1010 1011 _ _ _ _) rfl (by simp only [RUN, core, T.c, T.s, T.b, T.i, sBin, sInt, sUn, isShift, asInt, P1.cells, loadT, ptrC, storeT, putC, fillP, Nat.reduceAdd, reduceIte, Nat.reduceEqDiff, Nat.reduceLT, Nat.reduceLeDiff, reduceCtorEq, eq_self, e8]; rfl) rfl rfl (by decide) (by exact eH8) (by exact eF1) (by exact eN1) (by exact eM1) ⟨?_, ?_⟩
          · simp only [RUN, core, T.c, T.s, T.b, T.i, sBin, sInt, sUn, isShift, asInt, P1.cells, loadT, ptrC, storeT, putC, fillP, Nat.reduceAdd, reduceIte, Nat.reduceEqDiff, Nat.reduceLT, Nat.reduceLeDiff, reduceCtorEq, eq_self, FIT, lendCs_map, verC_map, FinC, resPs, resP, lendPl, lendCs, lendC, sealC, partsT, finHs, tupT, verT, verP, verC, verB, verAt, Blk.ver, handsAre, forall_const, CHT, disj, Nat.reduceBEq, beq_self_eq_true, APT, srcOf, sealPs, sealCs, sealC, toVs, Option.map_some, List.mem_singleton, forall_eq, ALT, UGh_1]
          simp only [RUN, core, T.c, T.s, T.b, T.i, sBin, sInt, sUn, isShift, asInt, P1.cells, loadT, ptrC, storeT, putC, fillP, Nat.reduceAdd, reduceIte, Nat.reduceEqDiff, Nat.reduceLT, Nat.reduceLeDiff, reduceCtorEq, eq_self, FIT, lendCs_map, verC_map, FinC, resPs, resP, lendPl, lendCs, lendC, sealC, partsT, finHs, tupT, verT, verP, verC, verB, verAt, Blk.ver, handsAre, forall_const, CHT, disj, Nat.reduceBEq, beq_self_eq_true, APT, srcOf, sealPs, sealCs, sealC, toVs, Option.map_some, List.mem_singleton, forall_eq, ALT, UGh_3, e13, e14, e15, e5, eH5, e6, eH6, e8, eH8, eF1, eN1, eM1, gw, n0]
          exact ⟨hlt, keepD d (aft d.names d.moves), hDq, 1010, 1011, .inr ⟨rfl, rfl⟩, .inr ⟨hg', ⟨e13, e14, rfl, ⟨u5, e5, eH5o⟩, u6, e6, eH6⟩, rfl, (runI d.names d.moves).2, u8, _, _, e8, rfl, rfl, rfl⟩⟩
      · have hqq : doS d w = ((doS d w).1, (doS d w).2) := rfl
        have hWr := write_ok d w hd hww hD k5 8 1001 1002 1003
        generalize hq1 : (doS d w).1 = qd at *
        generalize hq2 : (doS d w).2 = qc at *
        by_cases h0 : qc = 0
        · subst h0
          rw [if_pos rfl] at hg'
          have n0 : ((0 : Int) != 0) = false := rfl
          cases p1 : a.cuts with
          | false =>
            rw [p1] at eH5
            simp only [RUN, core, T.c, T.s, T.b, T.i, sBin, sInt, sUn, isShift, asInt, P1.cells, loadT, ptrC, storeT, putC, fillP, Nat.reduceAdd, reduceIte, Nat.reduceEqDiff, Nat.reduceLT, Nat.reduceLeDiff, reduceCtorEq, eq_self, FIT, lendCs_map, verC_map, FinC, resPs, resP, lendPl, lendCs, lendC, sealC, partsT, finHs, tupT, verT, verP, verC, verB, verAt, Blk.ver, handsAre, forall_const, CHT, disj, Nat.reduceBEq, beq_self_eq_true, APT, srcOf, sealPs, sealCs, sealC, toVs, Option.map_some, List.mem_singleton, forall_eq, ALT, UGh_3, e13, e14, e15, e5, eH5, e6, eH6, e8, eH8, eF1, eN1, eM1, en_len, k1, gz, ew, eW]
            refine callDw (m0 := 8) (m1 := 1001) (m2 := 1002) (m3 := 1003) (hWr _ _ _ _) rfl (by simp only [RUN, core, T.c, T.s, T.b, T.i, sBin, sInt, sUn, isShift, asInt, P1.cells, loadT, ptrC, storeT, putC, fillP, Nat.reduceAdd, reduceIte, Nat.reduceEqDiff, Nat.reduceLT, Nat.reduceLeDiff, reduceCtorEq, eq_self, e8]; rfl) rfl rfl (by decide) (by exact eH8) (by exact eF1) (by exact eN1) (by exact eM1) ⟨?_, ?_⟩
            · simp only [RUN, core, T.c, T.s, T.b, T.i, sBin, sInt, sUn, isShift, asInt, P1.cells, loadT, ptrC, storeT, putC, fillP, Nat.reduceAdd, reduceIte, Nat.reduceEqDiff, Nat.reduceLT, Nat.reduceLeDiff, reduceCtorEq, eq_self, FIT, lendCs_map, verC_map, FinC, resPs, resP, lendPl, lendCs, lendC, sealC, partsT, finHs, tupT, verT, verP, verC, verB, verAt, Blk.ver, handsAre, forall_const, CHT, disj, Nat.reduceBEq, beq_self_eq_true, APT, srcOf, sealPs, sealCs, sealC, toVs, Option.map_some, List.mem_singleton, forall_eq, ALT, UGh_1]
            simp only [RUN, core, T.c, T.s, T.b, T.i, sBin, sInt, sUn, isShift, asInt, P1.cells, loadT, ptrC, storeT, putC, fillP, Nat.reduceAdd, reduceIte, Nat.reduceEqDiff, Nat.reduceLT, Nat.reduceLeDiff, reduceCtorEq, eq_self, FIT, lendCs_map, verC_map, FinC, resPs, resP, lendPl, lendCs, lendC, sealC, partsT, finHs, tupT, verT, verP, verC, verB, verAt, Blk.ver, handsAre, forall_const, CHT, disj, Nat.reduceBEq, beq_self_eq_true, APT, srcOf, sealPs, sealCs, sealC, toVs, Option.map_some, List.mem_singleton, forall_eq, ALT, UGh_3, e13, e14, e15, e5, eH5, e6, eH6, e8, eH8, eF1, eN1, eM1, gw, n0]
            exact ⟨hlt, qd, hDq, 1001, 1002, .inl ⟨rfl, rfl⟩, .inl ⟨hg', ⟨e13, e14, rfl, ⟨u5, e5, eH5o⟩, u6, e6, eH6⟩, u8, _, _, _, e8, rfl, rfl, rfl, rfl⟩⟩
          | true =>
            have p2 : ¬ (i : Int) ≥ a.after := fun h => hcut ⟨p1, h⟩
            rw [p1] at eH5
            simp only [RUN, core, T.c, T.s, T.b, T.i, sBin, sInt, sUn, isShift, asInt, P1.cells, loadT, ptrC, storeT, putC, fillP, Nat.reduceAdd, reduceIte, Nat.reduceEqDiff, Nat.reduceLT, Nat.reduceLeDiff, reduceCtorEq, eq_self, FIT, lendCs_map, verC_map, FinC, resPs, resP, lendPl, lendCs, lendC, sealC, partsT, finHs, tupT, verT, verP, verC, verB, verAt, Blk.ver, handsAre, forall_const, CHT, disj, Nat.reduceBEq, beq_self_eq_true, APT, srcOf, sealPs, sealCs, sealC, toVs, Option.map_some, List.mem_singleton, forall_eq, ALT, UGh_3, e13, e14, e15, e5, eH5, e6, eH6, e8, eH8, eF1, eN1, eM1, en_len, k1, gz, ew, eW, p2]
            refine callDw (m0 := 8) (m1 := 1001) (m2 := 1002) (m3 := 1003) (hWr _ _ _ _) rfl (by simp only [RUN, core, T.c, T.s, T.b, T.i, sBin, sInt, sUn, isShift, asInt, P1.cells, loadT, ptrC, storeT, putC, fillP, Nat.reduceAdd, reduceIte, Nat.reduceEqDiff, Nat.reduceLT, Nat.reduceLeDiff, reduceCtorEq, eq_self, e8]; rfl) rfl rfl (by decide) (by exact eH8) (by exact eF1) (by exact eN1) (by exact eM1) ⟨?_, ?_⟩
            · simp only [RUN, core, T.c, T.s, T.b, T.i, sBin, sInt, sUn, isShift, asInt, P1.cells, loadT, ptrC, storeT, putC, fillP, Nat.reduceAdd, reduceIte, Nat.reduceEqDiff, Nat.reduceLT, Nat.reduceLeDiff, reduceCtorEq, eq_self, FIT, lendCs_map, verC_map, FinC, resPs, resP, lendPl, lendCs, lendC, sealC, partsT, finHs, tupT, verT, verP, verC, verB, verAt, Blk.ver, handsAre, forall_const, CHT, disj, Nat.reduceBEq, beq_self_eq_true, APT, srcOf, sealPs, sealCs, sealC, toVs, Option.map_some, List.mem_singleton, forall_eq, ALT, UGh_1]
            simp only [RUN, core, T.c, T.s, T.b, T.i, sBin, sInt, sUn, isShift, asInt, P1.cells, loadT, ptrC, storeT, putC, fillP, Nat.reduceAdd, reduceIte, Nat.reduceEqDiff, Nat.reduceLT, Nat.reduceLeDiff, reduceCtorEq, eq_self, FIT, lendCs_map, verC_map, FinC, resPs, resP, lendPl, lendCs, lendC, sealC, partsT, finHs, tupT, verT, verP, verC, verB, verAt, Blk.ver, handsAre, forall_const, CHT, disj, Nat.reduceBEq, beq_self_eq_true, APT, srcOf, sealPs, sealCs, sealC, toVs, Option.map_some, List.mem_singleton, forall_eq, ALT, UGh_3, e13, e14, e15, e5, eH5, e6, eH6, e8, eH8, eF1, eN1, eM1, gw, n0]
            exact ⟨hlt, qd, hDq, 1001, 1002, .inl ⟨rfl, rfl⟩, .inl ⟨hg', ⟨e13, e14, rfl, ⟨u5, e5, eH5o⟩, u6, e6, eH6⟩, u8, _, _, _, e8, rfl, rfl, rfl, rfl⟩⟩
        · rw [if_neg h0] at hg'
          have n0 : (qc != 0) = true := by simpa using h0
          rw [hg']
          cases p1 : a.cuts with
          | false =>
            rw [p1] at eH5
            simp only [RUN, core, T.c, T.s, T.b, T.i, sBin, sInt, sUn, isShift, asInt, P1.cells, loadT, ptrC, storeT, putC, fillP, Nat.reduceAdd, reduceIte, Nat.reduceEqDiff, Nat.reduceLT, Nat.reduceLeDiff, reduceCtorEq, eq_self, FIT, lendCs_map, verC_map, FinC, resPs, resP, lendPl, lendCs, lendC, sealC, partsT, finHs, tupT, verT, verP, verC, verB, verAt, Blk.ver, handsAre, forall_const, CHT, disj, Nat.reduceBEq, beq_self_eq_true, APT, srcOf, sealPs, sealCs, sealC, toVs, Option.map_some, List.mem_singleton, forall_eq, ALT, UGh_3, e13, e14, e15, e5, eH5, e6, eH6, e8, eH8, eF1, eN1, eM1, en_len, k1, gz, ew, eW]
            refine callDw (m0 := 8) (m1 := 1001) (m2 := 1002) (m3 := 1003) (hWr _ _ _ _) rfl (by simp only [RUN, core, T.c, T.s, T.b, T.i, sBin, sInt, sUn, isShift, asInt, P1.cells, loadT, ptrC, storeT, putC, fillP, Nat.reduceAdd, reduceIte, Nat.reduceEqDiff, Nat.reduceLT, Nat.reduceLeDiff, reduceCtorEq, eq_self, e8]; rfl) rfl rfl (by decide) (by exact eH8) (by exact eF1) (by exact eN1) (by exact eM1) ⟨?_, ?_⟩
            · simp only [RUN, core, T.c, T.s, T.b, T.i, sBin, sInt, sUn, isShift, asInt, P1.cells, loadT, ptrC, storeT, putC, fillP, Nat.reduceAdd, reduceIte, Nat.reduceEqDiff, Nat.reduceLT, Nat.reduceLeDiff, reduceCtorEq, eq_self, FIT, lendCs_map, verC_map, FinC, resPs, resP, lendPl, lendCs, lendC, sealC, partsT, finHs, tupT, verT, verP, verC, verB, verAt, Blk.ver, handsAre, forall_const, CHT, disj, Nat.reduceBEq, beq_self_eq_true, APT, srcOf, sealPs, sealCs, sealC, toVs, Option.map_some, List.mem_singleton, forall_eq, ALT, UGh_1]
            simp only [RUN, core, T.c, T.s, T.b, T.i, sBin, sInt, sUn, isShift, asInt, P1.cells, loadT, ptrC, storeT, putC, fillP, Nat.reduceAdd, reduceIte, Nat.reduceEqDiff, Nat.reduceLT, Nat.reduceLeDiff, reduceCtorEq, eq_self, FIT, lendCs_map, verC_map, FinC, resPs, resP, lendPl, lendCs, lendC, sealC, partsT, finHs, tupT, verT, verP, verC, verB, verAt, Blk.ver, handsAre, forall_const, CHT, disj, Nat.reduceBEq, beq_self_eq_true, APT, srcOf, sealPs, sealCs, sealC, toVs, Option.map_some, List.mem_singleton, forall_eq, ALT, UGh_3, UGh_1, e13, e14, e15, e5, eH5, e6, eH6, e8, eH8, eF1, eN1, eM1, n0]
          | true =>
            have p2 : ¬ (i : Int) ≥ a.after := fun h => hcut ⟨p1, h⟩
            rw [p1] at eH5
            simp only [RUN, core, T.c, T.s, T.b, T.i, sBin, sInt, sUn, isShift, asInt, P1.cells, loadT, ptrC, storeT, putC, fillP, Nat.reduceAdd, reduceIte, Nat.reduceEqDiff, Nat.reduceLT, Nat.reduceLeDiff, reduceCtorEq, eq_self, FIT, lendCs_map, verC_map, FinC, resPs, resP, lendPl, lendCs, lendC, sealC, partsT, finHs, tupT, verT, verP, verC, verB, verAt, Blk.ver, handsAre, forall_const, CHT, disj, Nat.reduceBEq, beq_self_eq_true, APT, srcOf, sealPs, sealCs, sealC, toVs, Option.map_some, List.mem_singleton, forall_eq, ALT, UGh_3, e13, e14, e15, e5, eH5, e6, eH6, e8, eH8, eF1, eN1, eM1, en_len, k1, gz, ew, eW, p2]
            refine callDw (m0 := 8) (m1 := 1001) (m2 := 1002) (m3 := 1003) (hWr _ _ _ _) rfl (by simp only [RUN, core, T.c, T.s, T.b, T.i, sBin, sInt, sUn, isShift, asInt, P1.cells, loadT, ptrC, storeT, putC, fillP, Nat.reduceAdd, reduceIte, Nat.reduceEqDiff, Nat.reduceLT, Nat.reduceLeDiff, reduceCtorEq, eq_self, e8]; rfl) rfl rfl (by decide) (by exact eH8) (by exact eF1) (by exact eN1) (by exact eM1) ⟨?_, ?_⟩
            · simp only [RUN, core, T.c, T.s, T.b, T.i, sBin, sInt, sUn, isShift, asInt, P1.cells, loadT, ptrC, storeT, putC, fillP, Nat.reduceAdd, reduceIte, Nat.reduceEqDiff, Nat.reduceLT, Nat.reduceLeDiff, reduceCtorEq, eq_self, FIT, lendCs_map, verC_map, FinC, resPs, resP, lendPl, lendCs, lendC, sealC, partsT, finHs, tupT, verT, verP, verC, verB, verAt, Blk.ver, handsAre, forall_const, CHT, disj, Nat.reduceBEq, beq_self_eq_true, APT, srcOf, sealPs, sealCs, sealC, toVs, Option.map_some, List.mem_singleton, forall_eq, ALT, UGh_1]
            simp only [RUN, core, T.c, T.s, T.b, T.i, sBin, sInt, sUn, isShift, asInt, P1.cells, loadT, ptrC, storeT, putC, fillP, Nat.reduceAdd, reduceIte, Nat.reduceEqDiff, Nat.reduceLT, Nat.reduceLeDiff, reduceCtorEq, eq_self, FIT, lendCs_map, verC_map, FinC, resPs, resP, lendPl, lendCs, lendC, sealC, partsT, finHs, tupT, verT, verP, verC, verB, verAt, Blk.ver, handsAre, forall_const, CHT, disj, Nat.reduceBEq, beq_self_eq_true, APT, srcOf, sealPs, sealCs, sealC, toVs, Option.map_some, List.mem_singleton, forall_eq, ALT, UGh_3, UGh_1, e13, e14, e15, e5, eH5, e6, eH6, e8, eH8, eF1, eN1, eM1, n0]
  · have hi2 : i = ws.length := by omega
    subst hi2
    have k1 : ¬ (ws.length : Int) < ws.length := by omega
    rw [List.drop_length] at hg
    cases p1 : a.cuts with
    | true =>
      have hg' : r = (cutD d a.moves a.keep, 6) := by rw [hg, goS, if_pos p1]
      rw [hg']
      rw [p1] at eH5
      simp only [RUN, core, T.c, T.s, T.b, T.i, sBin, sInt, sUn, isShift, asInt, P1.cells, loadT, ptrC, storeT, putC, fillP, Nat.reduceAdd, reduceIte, Nat.reduceEqDiff, Nat.reduceLT, Nat.reduceLeDiff, reduceCtorEq, eq_self, FIT, lendCs_map, verC_map, FinC, resPs, resP, lendPl, lendCs, lendC, sealC, partsT, finHs, tupT, verT, verP, verC, verB, verAt, Blk.ver, handsAre, forall_const, CHT, disj, Nat.reduceBEq, beq_self_eq_true, APT, srcOf, sealPs, sealCs, sealC, toVs, Option.map_some, List.mem_singleton, forall_eq, ALT, UGh_3, UGh_1, e13, e14, e15, e5, eH5, e6, eH6, e8, eH8, eF1, eN1, eM1, en_len, k1]
      refine callL (ws := dkL 1001 _ 1002 _ 1003 _ d) (ns := [1001, 1002, 1003]) (cutI_ok d hD a.moves a.keep) rfl (lendK (by exact eF1) (by exact eN1) (by exact eM1) rfl rfl rfl rfl) rfl rfl ⟨?_, ?_⟩
      · simp only [RUN, core, T.c, T.s, T.b, T.i, sBin, sInt, sUn, isShift, asInt, P1.cells, loadT, ptrC, storeT, putC, fillP, Nat.reduceAdd, reduceIte, Nat.reduceEqDiff, Nat.reduceLT, Nat.reduceLeDiff, reduceCtorEq, eq_self, FIT, lendCs_map, verC_map, FinC, resPs, resP, lendPl, lendCs, lendC, sealC, partsT, finHs, tupT, verT, verP, verC, verB, verAt, Blk.ver, handsAre, forall_const, CHT, disj, Nat.reduceBEq, beq_self_eq_true, APT, srcOf, sealPs, sealCs, sealC, toVs, Option.map_some, List.mem_singleton, forall_eq, ALT, UGh_1]
      simp only [RUN, core, T.c, T.s, T.b, T.i, sBin, sInt, sUn, isShift, asInt, P1.cells, loadT, ptrC, storeT, putC, fillP, Nat.reduceAdd, reduceIte, Nat.reduceEqDiff, Nat.reduceLT, Nat.reduceLeDiff, reduceCtorEq, eq_self, FIT, lendCs_map, verC_map, FinC, resPs, resP, lendPl, lendCs, lendC, sealC, partsT, finHs, tupT, verT, verP, verC, verB, verAt, Blk.ver, handsAre, forall_const, CHT, disj, Nat.reduceBEq, beq_self_eq_true, APT, srcOf, sealPs, sealCs, sealC, toVs, Option.map_some, List.mem_singleton, forall_eq, ALT, UGh_3, UGh_1, scalarT, scalarP, scalarC, List.all_cons, Bool.false_and, e6, eH6]
    | false =>
      have hg' : r = (d, 0) := by rw [hg, goS, if_neg (by rw [p1]; decide)]
      rw [hg']
      rw [p1] at eH5
      simp only [RUN, core, T.c, T.s, T.b, T.i, sBin, sInt, sUn, isShift, asInt, P1.cells, loadT, ptrC, storeT, putC, fillP, Nat.reduceAdd, reduceIte, Nat.reduceEqDiff, Nat.reduceLT, Nat.reduceLeDiff, reduceCtorEq, eq_self, FIT, lendCs_map, verC_map, FinC, resPs, resP, lendPl, lendCs, lendC, sealC, partsT, finHs, tupT, verT, verP, verC, verB, verAt, Blk.ver, handsAre, forall_const, CHT, disj, Nat.reduceBEq, beq_self_eq_true, APT, srcOf, sealPs, sealCs, sealC, toVs, Option.map_some, List.mem_singleton, forall_eq, ALT, UGh_3, UGh_1, e13, e14, e15, e5, eH5, e6, eH6, e8, eH8, eF1, eN1, eM1, en_len, k1]
set_option maxRecDepth 20000 in
set_option maxHeartbeats 2000000 in
theorem body116b (r : Dk × Int) (ws : List DW) (a : LA) (d : Dk) (hD : DOk d) (hw : ∀ w ∈ ws, fineDW w) (hl : ws.length ≤ 9000000000000000000) (X : Ctx) (i : Nat) (t : Nat → T) (H : HMap) (c : Nat) (hi : i ≤ ws.length) (h : invA r ws a 1010 1011 d i ⟨t, H, c⟩) :
    wpa Try.prog X c116_16 (thenA (fun σ => i < ws.length ∧ inv116 r ws a (i + 1) σ) (inW 0 (thenW Try.prog X (.seq c116_24 (.seq (.reg r116_25) .ret)) (endA (FinC s116 (tDkI r) []))))) ⟨t, H, c⟩ := by
  obtain ⟨hg, ⟨e13, e14, e15, ⟨u5, e5, eH5⟩, u6, e6, eH6⟩, u8, v1, v2, v3, e8, eH8, eF1, eN1, eM1⟩ := h
  simp only [T.c, T.i, tL] at e13 e14 e15 e5 eH5 e6 eH6 e8 eH8 eF1 eN1 eM1
  have hd := hD.fine
  have eH5o := eH5
  by_cases hlt : i < ws.length
  · obtain ⟨w, hw1⟩ : ∃ w, ws[i]? = some w := ⟨_, List.getElem?_eq_getElem hlt⟩
    have ew := en_at eW hw1
    have hww := hw w (List.mem_of_getElem? hw1)
    have k1 : (i : Int) < ws.length := by omega
    have gz : (0 : Int) ≤ i := by omega
    have gw : IntKind.i64.wrap ((i : Int) + 1) = ((i + 1 : Nat) : Int) := wrap64 (x := (i : Int) + 1) ⟨by omega, by omega⟩
    rw [drop_at hw1] at hg
    by_cases hcut : a.cuts = true ∧ (i : Int) ≥ a.after
    · have p1 := hcut.1
      have p2 := hcut.2
      have hg' : r = (cutD d a.moves a.keep, 6) := by rw [hg, goS, if_pos hcut]
      rw [hg']
      rw [p1] at eH5
      simp only [RUN, core, T.c, T.s, T.b, T.i, sBin, sInt, sUn, isShift, asInt, P1.cells, loadT, ptrC, storeT, putC, fillP, Nat.reduceAdd, reduceIte, Nat.reduceEqDiff, Nat.reduceLT, Nat.reduceLeDiff, reduceCtorEq, eq_self, FIT, lendCs_map, verC_map, FinC, resPs, resP, lendPl, lendCs, lendC, sealC, partsT, finHs, tupT, verT, verP, verC, verB, verAt, Blk.ver, handsAre, forall_const, CHT, disj, Nat.reduceBEq, beq_self_eq_true, APT, srcOf, sealPs, sealCs, sealC, toVs, Option.map_some, List.mem_singleton, forall_eq, ALT, UGh_3, UGh_1, e13, e14, e15, e5, eH5, e6, eH6, e8, eH8, eF1, eN1, eM1, en_len, k1, gz, ew, eW, p2]
      refine callL (ws := dkL 1010 _ 1011 _ 1003 _ d) (ns := [1010, 1011, 1003]) (cutI_ok d hD a.moves a.keep) rfl (lendK (by exact eF1) (by exact eN1) (by exact eM1) rfl rfl rfl rfl) rfl rfl ⟨?_, ?_⟩
      · simp only [RUN, core, T.c, T.s, T.b, T.i, sBin, sInt, sUn, isShift, asInt, P1.cells, loadT, ptrC, storeT, putC, fillP, Nat.reduceAdd, reduceIte, Nat.reduceEqDiff, Nat.reduceLT, Nat.reduceLeDiff, reduceCtorEq, eq_self, FIT, lendCs_map, verC_map, FinC, resPs, resP, lendPl, lendCs, lendC, sealC, partsT, finHs, tupT, verT, verP, verC, verB, verAt, Blk.ver, handsAre, forall_const, CHT, disj, Nat.reduceBEq, beq_self_eq_true, APT, srcOf, sealPs, sealCs, sealC, toVs, Option.map_some, List.mem_singleton, forall_eq, ALT, UGh_1]
      simp only [RUN, core, T.c, T.s, T.b, T.i, sBin, sInt, sUn, isShift, asInt, P1.cells, loadT, ptrC, storeT, putC, fillP, Nat.reduceAdd, reduceIte, Nat.reduceEqDiff, Nat.reduceLT, Nat.reduceLeDiff, reduceCtorEq, eq_self, FIT, lendCs_map, verC_map, FinC, resPs, resP, lendPl, lendCs, lendC, sealC, partsT, finHs, tupT, verT, verP, verC, verB, verAt, Blk.ver, handsAre, forall_const, CHT, disj, Nat.reduceBEq, beq_self_eq_true, APT, srcOf, sealPs, sealCs, sealC, toVs, Option.map_some, List.mem_singleton, forall_eq, ALT, UGh_3, UGh_1, scalarT, scalarP, scalarC, List.all_cons, Bool.false_and, e6, eH6]
    · have hg' : r = if (doS d w).2 = 0 then goS a (i + 1) (doS d w).1 (ws.drop (i + 1)) else ((doS d w).1, 4) := by rw [hg, goS, if_neg hcut]
      have hDq : DOk (doS d w).1 := hD.step w
      by_cases k5 : w.kind = 5
      · have hdo : doS d w = (keepD d (aft d.names d.moves), 0) := by
          have h51 : ¬ (5 : Int) = 1 := by omega
          simp only [doS, k5, h51, if_true, if_false]
        rw [hdo] at hg' hDq
        have hg' : r = goS a (i + 1) (keepD d (aft d.names d.moves)) (ws.drop (i + 1)) := hg'
        have n0 : ((0 : Int) != 0) = false := rfl
        have eF5 : (keepD d (aft d.names d.moves)).files.length = ((aft d.names d.moves).map (fileOf d.files)).length := rfl
        cases p1 : a.cuts with
        | false =>
          rw [p1] at eH5
          simp only [RUN, core, T.c, T.s, T.b, T.i, sBin, sInt, sUn, isShift, asInt, P1.cells, loadT, ptrC, storeT, putC, fillP, Nat.reduceAdd, reduceIte, Nat.reduceEqDiff, Nat.reduceLT, Nat.reduceLeDiff, reduceCtorEq, eq_self, FIT, lendCs_map, verC_map, FinC, resPs, resP, lendPl, lendCs, lendC, sealC, partsT, finHs, tupT, verT, verP, verC, verB, verAt, Blk.ver, handsAre, forall_const, CHT, disj, Nat.reduceBEq, beq_self_eq_true, APT, srcOf, sealPs, sealCs, sealC, toVs, Option.map_some, List.mem_singleton, forall_eq, ALT, UGh_3, e13, e14, e15, e5, eH5, e6, eH6, e8, eH8, eF1, eN1, eM1, en_len, k1, gz, ew, eW]
          refine callDd (m0 := 8) (m1 := 1010) (m2 := 1011) (m3 := 1003) (m4 := 1001) (m5 := 1002) (writeD_ok d w hd hww hD k5 8 1010 1011 1003 1001 1002 _ _ _ _) rfl (by simp only [RUN, core, T.c, T.s, T.b, T.i, sBin, sInt, sUn, isShift, asInt, P1.cells, loadT, ptrC, storeT, putC, fillP, Nat.reduceAdd, reduceIte, Nat.reduceEqDiff, Nat.reduceLT, Nat.reduceLeDiff, reduceCtorEq, eq_self, e8]; rfl) rfl rfl (by decide) (by exact eH8) (by exact eF1) (by exact eN1) (by exact eM1) ⟨?_, ?_⟩
          · simp only [RUN, core, T.c, T.s, T.b, T.i, sBin, sInt, sUn, isShift, asInt, P1.cells, loadT, ptrC, storeT, putC, fillP, Nat.reduceAdd, reduceIte, Nat.reduceEqDiff, Nat.reduceLT, Nat.reduceLeDiff, reduceCtorEq, eq_self, FIT, lendCs_map, verC_map, FinC, resPs, resP, lendPl, lendCs, lendC, sealC, partsT, finHs, tupT, verT, verP, verC, verB, verAt, Blk.ver, handsAre, forall_const, CHT, disj, Nat.reduceBEq, beq_self_eq_true, APT, srcOf, sealPs, sealCs, sealC, toVs, Option.map_some, List.mem_singleton, forall_eq, ALT, UGh_1]
          simp only [RUN, core, T.c, T.s, T.b, T.i, sBin, sInt, sUn, isShift, asInt, P1.cells, loadT, ptrC, storeT, putC, fillP, Nat.reduceAdd, reduceIte, Nat.reduceEqDiff, Nat.reduceLT, Nat.reduceLeDiff, reduceCtorEq, eq_self, FIT, lendCs_map, verC_map, FinC, resPs, resP, lendPl, lendCs, lendC, sealC, partsT, finHs, tupT, verT, verP, verC, verB, verAt, Blk.ver, handsAre, forall_const, CHT, disj, Nat.reduceBEq, beq_self_eq_true, APT, srcOf, sealPs, sealCs, sealC, toVs, Option.map_some, List.mem_singleton, forall_eq, ALT, UGh_3, e13, e14, e15, e5, eH5, e6, eH6, e8, eH8, eF1, eN1, eM1, gw, n0]
          exact ⟨hlt, keepD d (aft d.names d.moves), hDq, 1001, 1002, .inl ⟨rfl, rfl⟩, .inr ⟨hg', ⟨e13, e14, rfl, ⟨u5, e5, eH5o⟩, u6, e6, eH6⟩, rfl, (runI d.names d.moves).2, u8, _, _, e8, rfl, rfl, rfl⟩⟩
        | true =>
          have p2 : ¬ (i : Int) ≥ a.after := fun h => hcut ⟨p1, h⟩
          rw [p1] at eH5
          simp only [RUN, core, T.c, T.s, T.b, T.i, sBin, sInt, sUn, isShift, asInt, P1.cells, loadT, ptrC, storeT, putC, fillP, Nat.reduceAdd, reduceIte, Nat.reduceEqDiff, Nat.reduceLT, Nat.reduceLeDiff, reduceCtorEq, eq_self, FIT, lendCs_map, verC_map, FinC, resPs, resP, lendPl, lendCs, lendC, sealC, partsT, finHs, tupT, verT, verP, verC, verB, verAt, Blk.ver, handsAre, forall_const, CHT, disj, Nat.reduceBEq, beq_self_eq_true, APT, srcOf, sealPs, sealCs, sealC, toVs, Option.map_some, List.mem_singleton, forall_eq, ALT, UGh_3, e13, e14, e15, e5, eH5, e6, eH6, e8, eH8, eF1, eN1, eM1, en_len, k1, gz, ew, eW, p2]
          refine callDd (m0 := 8) (m1 := 1010) (m2 := 1011) (m3 := 1003) (m4 := 1001) (m5 := 1002) (writeD_ok d w hd hww hD k5 8 1010 1011 1003 1001 1002 _ _ _ _) rfl (by simp only [RUN, core, T.c, T.s, T.b, T.i, sBin, sInt, sUn, isShift, asInt, P1.cells, loadT, ptrC, storeT, putC, fillP, Nat.reduceAdd, reduceIte, Nat.reduceEqDiff, Nat.reduceLT, Nat.reduceLeDiff, reduceCtorEq, eq_self, e8]; rfl) rfl rfl (by decide) (by exact eH8) (by exact eF1) (by exact eN1) (by exact eM1) ⟨?_, ?_⟩
          · simp only [RUN, core, T.c, T.s, T.b, T.i, sBin, sInt, sUn, isShift, asInt, P1.cells, loadT, ptrC, storeT, putC, fillP, Nat.reduceAdd, reduceIte, Nat.reduceEqDiff, Nat.reduceLT, Nat.reduceLeDiff, reduceCtorEq, eq_self, FIT, lendCs_map, verC_map, FinC, resPs, resP, lendPl, lendCs, lendC, sealC, partsT, finHs, tupT, verT, verP, verC, verB, verAt, Blk.ver, handsAre, forall_const, CHT, disj, Nat.reduceBEq, beq_self_eq_true, APT, srcOf, sealPs, sealCs, sealC, toVs, Option.map_some, List.mem_singleton, forall_eq, ALT, UGh_1]
          simp only [RUN, core, T.c, T.s, T.b, T.i, sBin, sInt, sUn, isShift, asInt, P1.cells, loadT, ptrC, storeT, putC, fillP, Nat.reduceAdd, reduceIte, Nat.reduceEqDiff, Nat.reduceLT, Nat.reduceLeDiff, reduceCtorEq, eq_self, FIT, lendCs_map, verC_map, FinC, resPs, resP, lendPl, lendCs, lendC, sealC, partsT, finHs, tupT, verT, verP, verC, verB, verAt, Blk.ver, handsAre, forall_const, CHT, disj, Nat.reduceBEq, beq_self_eq_true, APT, srcOf, sealPs, sealCs, sealC, toVs, Option.map_some, List.mem_singleton, forall_eq, ALT, UGh_3, e13, e14, e15, e5, eH5, e6, eH6, e8, eH8, eF1, eN1, eM1, gw, n0]
          exact ⟨hlt, keepD d (aft d.names d.moves), hDq, 1001, 1002, .inl ⟨rfl, rfl⟩, .inr ⟨hg', ⟨e13, e14, rfl, ⟨u5, e5, eH5o⟩, u6, e6, eH6⟩, rfl, (runI d.names d.moves).2, u8, _, _, e8, rfl, rfl, rfl⟩⟩
      · have hqq : doS d w = ((doS d w).1, (doS d w).2) := rfl
        have hWr := write_ok d w hd hww hD k5 8 1010 1011 1003
        generalize hq1 : (doS d w).1 = qd at *
        generalize hq2 : (doS d w).2 = qc at *
        by_cases h0 : qc = 0
        · subst h0
          rw [if_pos rfl] at hg'
          have n0 : ((0 : Int) != 0) = false := rfl
          cases p1 : a.cuts with
          | false =>
            rw [p1] at eH5
            simp only [RUN, core, T.c, T.s, T.b, T.i, sBin, sInt, sUn, isShift, asInt, P1.cells, loadT, ptrC, storeT, putC, fillP, Nat.reduceAdd, reduceIte, Nat.reduceEqDiff, Nat.reduceLT, Nat.reduceLeDiff, reduceCtorEq, eq_self, FIT, lendCs_map, verC_map, FinC, resPs, resP, lendPl, lendCs, lendC, sealC, partsT, finHs, tupT, verT, verP, verC, verB, verAt, Blk.ver, handsAre, forall_const, CHT, disj, Nat.reduceBEq, beq_self_eq_true, APT, srcOf, sealPs, sealCs, sealC, toVs, Option.map_some, List.mem_singleton, forall_eq, ALT, UGh_3, e13, e14, e15, e5, eH5, e6, eH6, e8, eH8, eF1, eN1, eM1, en_len, k1, gz, ew, eW]
            refine callDw (m0 := 8) (m1 := 1010) (m2 := 1011) (m3 := 1003) (hWr _ _ _ _) rfl (by simp only [RUN, core, T.c, T.s, T.b, T.i, sBin, sInt, sUn, isShift, asInt, P1.cells, loadT, ptrC, storeT, putC, fillP, Nat.reduceAdd, reduceIte, Nat.reduceEqDiff, Nat.reduceLT, Nat.reduceLeDiff, reduceCtorEq, eq_self, e8]; rfl) rfl rfl (by decide) (by exact eH8) (by exact eF1) (by exact eN1) (by exact eM1) ⟨?_, ?_⟩
            · simp only [RUN, core, T.c, T.s, T.b, T.i, sBin, sInt, sUn, isShift, asInt, P1.cells, loadT, ptrC, storeT, putC, fillP, Nat.reduceAdd, reduceIte, Nat.reduceEqDiff, Nat.reduceLT, Nat.reduceLeDiff, reduceCtorEq, eq_self, FIT, lendCs_map, verC_map, FinC, resPs, resP, lendPl, lendCs, lendC, sealC, partsT, finHs, tupT, verT, verP, verC, verB, verAt, Blk.ver, handsAre, forall_const, CHT, disj, Nat.reduceBEq, beq_self_eq_true, APT, srcOf, sealPs, sealCs, sealC, toVs, Option.map_some, List.mem_singleton, forall_eq, ALT, UGh_1]
            simp only [RUN, core, T.c, T.s, T.b, T.i, sBin, sInt, sUn, isShift, asInt, P1.cells, loadT, ptrC, storeT, putC, fillP, Nat.reduceAdd, reduceIte, Nat.reduceEqDiff, Nat.reduceLT, Nat.reduceLeDiff, reduceCtorEq, eq_self, FIT, lendCs_map, verC_map, FinC, resPs, resP, lendPl, lendCs, lendC, sealC, partsT, finHs, tupT, verT, verP, verC, verB, verAt, Blk.ver, handsAre, forall_const, CHT, disj, Nat.reduceBEq, beq_self_eq_true, APT, srcOf, sealPs, sealCs, sealC, toVs, Option.map_some, List.mem_singleton, forall_eq, ALT, UGh_3, e13, e14, e15, e5, eH5, e6, eH6, e8, eH8, eF1, eN1, eM1, gw, n0]
            exact ⟨hlt, qd, hDq, 1010, 1011, .inr ⟨rfl, rfl⟩, .inl ⟨hg', ⟨e13, e14, rfl, ⟨u5, e5, eH5o⟩, u6, e6, eH6⟩, u8, _, _, _, e8, rfl, rfl, rfl, rfl⟩⟩
          | true =>
            have p2 : ¬ (i : Int) ≥ a.after := fun h => hcut ⟨p1, h⟩
            rw [p1] at eH5
            simp only [RUN, core, T.c, T.s, T.b, T.i, sBin, sInt, sUn, isShift, asInt, P1.cells, loadT, ptrC, storeT, putC, fillP, Nat.reduceAdd, reduceIte, Nat.reduceEqDiff, Nat.reduceLT, Nat.reduceLeDiff, reduceCtorEq, eq_self, FIT, lendCs_map, verC_map, FinC, resPs, resP, lendPl, lendCs, lendC, sealC, partsT, finHs, tupT, verT, verP, verC, verB, verAt, Blk.ver, handsAre, forall_const, CHT, disj, Nat.reduceBEq, beq_self_eq_true, APT, srcOf, sealPs, sealCs, sealC, toVs, Option.map_some, List.mem_singleton, forall_eq, ALT, UGh_3, e13, e14, e15, e5, eH5, e6, eH6, e8, eH8, eF1, eN1, eM1, en_len, k1, gz, ew, eW, p2]
            refine callDw (m0 := 8) (m1 := 1010) (m2 := 1011) (m3 := 1003) (hWr _ _ _ _) rfl (by simp only [RUN, core, T.c, T.s, T.b, T.i, sBin, sInt, sUn, isShift, asInt, P1.cells, loadT, ptrC, storeT, putC, fillP, Nat.reduceAdd, reduceIte, Nat.reduceEqDiff, Nat.reduceLT, Nat.reduceLeDiff, reduceCtorEq, eq_self, e8]; rfl) rfl rfl (by decide) (by exact eH8) (by exact eF1) (by exact eN1) (by exact eM1) ⟨?_, ?_⟩
            · simp only [RUN, core, T.c, T.s, T.b, T.i, sBin, sInt, sUn, isShift, asInt, P1.cells, loadT, ptrC, storeT, putC, fillP, Nat.reduceAdd, reduceIte, Nat.reduceEqDiff, Nat.reduceLT, Nat.reduceLeDiff, reduceCtorEq, eq_self, FIT, lendCs_map, verC_map, FinC, resPs, resP, lendPl, lendCs, lendC, sealC, partsT, finHs, tupT, verT, verP, verC, verB, verAt, Blk.ver, handsAre, forall_const, CHT, disj, Nat.reduceBEq, beq_self_eq_true, APT, srcOf, sealPs, sealCs, sealC, toVs, Option.map_some, List.mem_singleton, forall_eq, ALT, UGh_1]
            simp only [RUN, core, T.c, T.s, T.b, T.i, sBin, sInt, sUn, isShift, asInt, P1.cells, loadT, ptrC, storeT, putC, fillP, Nat.reduceAdd, reduceIte, Nat.reduceEqDiff, Nat.reduceLT, Nat.reduceLeDiff, reduceCtorEq, eq_self, FIT, lendCs_map, verC_map, FinC, resPs, resP, lendPl, lendCs, lendC, sealC, partsT, finHs, tupT, verT, verP, verC, verB, verAt, Blk.ver, handsAre, forall_const, CHT, disj, Nat.reduceBEq, beq_self_eq_true, APT, srcOf, sealPs, sealCs, sealC, toVs, Option.map_some, List.mem_singleton, forall_eq, ALT, UGh_3, e13, e14, e15, e5, eH5, e6, eH6, e8, eH8, eF1, eN1, eM1, gw, n0]
            exact ⟨hlt, qd, hDq, 1010, 1011, .inr ⟨rfl, rfl⟩, .inl ⟨hg', ⟨e13, e14, rfl, ⟨u5, e5, eH5o⟩, u6, e6, eH6⟩, u8, _, _, _, e8, rfl, rfl, rfl, rfl⟩⟩
        · rw [if_neg h0] at hg'
          have n0 : (qc != 0) = true := by simpa using h0
          rw [hg']
          cases p1 : a.cuts with
          | false =>
            rw [p1] at eH5
            simp only [RUN, core, T.c, T.s, T.b, T.i, sBin, sInt, sUn, isShift, asInt, P1.cells, loadT, ptrC, storeT, putC, fillP, Nat.reduceAdd, reduceIte, Nat.reduceEqDiff, Nat.reduceLT, Nat.reduceLeDiff, reduceCtorEq, eq_self, FIT, lendCs_map, verC_map, FinC, resPs, resP, lendPl, lendCs, lendC, sealC, partsT, finHs, tupT, verT, verP, verC, verB, verAt, Blk.ver, handsAre, forall_const, CHT, disj, Nat.reduceBEq, beq_self_eq_true, APT, srcOf, sealPs, sealCs, sealC, toVs, Option.map_some, List.mem_singleton, forall_eq, ALT, UGh_3, e13, e14, e15, e5, eH5, e6, eH6, e8, eH8, eF1, eN1, eM1, en_len, k1, gz, ew, eW]
            refine callDw (m0 := 8) (m1 := 1010) (m2 := 1011) (m3 := 1003) (hWr _ _ _ _) rfl (by simp only [RUN, core, T.c, T.s, T.b, T.i, sBin, sInt, sUn, isShift, asInt, P1.cells, loadT, ptrC, storeT, putC, fillP, Nat.reduceAdd, reduceIte, Nat.reduceEqDiff, Nat.reduceLT, Nat.reduceLeDiff, reduceCtorEq, eq_self, e8]; rfl) rfl rfl (by decide) (by exact eH8) (by exact eF1) (by exact eN1) (by exact eM1) ⟨?_, ?_⟩
            · simp only [RUN, core, T.c, T.s, T.b, T.i, sBin, sInt, sUn, isShift, asInt, P1.cells, loadT, ptrC, storeT, putC, fillP, Nat.reduceAdd, reduceIte, Nat.reduceEqDiff, Nat.reduceLT, Nat.reduceLeDiff, reduceCtorEq, eq_self, FIT, lendCs_map, verC_map, FinC, resPs, resP, lendPl, lendCs, lendC, sealC, partsT, finHs, tupT, verT, verP, verC, verB, verAt, Blk.ver, handsAre, forall_const, CHT, disj, Nat.reduceBEq, beq_self_eq_true, APT, srcOf, sealPs, sealCs, sealC, toVs, Option.map_some, List.mem_singleton, forall_eq, ALT, UGh_1]
            simp only [RUN, core, T.c, T.s, T.b, T.i, sBin, sInt, sUn, isShift, asInt, P1.cells, loadT, ptrC, storeT, putC, fillP, Nat.reduceAdd, reduceIte, Nat.reduceEqDiff, Nat.reduceLT, Nat.reduceLeDiff, reduceCtorEq, eq_self, FIT, lendCs_map, verC_map, FinC, resPs, resP, lendPl, lendCs, lendC, sealC, partsT, finHs, tupT, verT, verP, verC, verB, verAt, Blk.ver, handsAre, forall_const, CHT, disj, Nat.reduceBEq, beq_self_eq_true, APT, srcOf, sealPs, sealCs, sealC, toVs, Option.map_some, List.mem_singleton, forall_eq, ALT, UGh_3, UGh_1, e13, e14, e15, e5, eH5, e6, eH6, e8, eH8, eF1, eN1, eM1, n0]
          | true =>
            have p2 : ¬ (i : Int) ≥ a.after := fun h => hcut ⟨p1, h⟩
            rw [p1] at eH5
            simp only [RUN, core, T.c, T.s, T.b, T.i, sBin, sInt, sUn, isShift, asInt, P1.cells, loadT, ptrC, storeT, putC, fillP, Nat.reduceAdd, reduceIte, Nat.reduceEqDiff, Nat.reduceLT, Nat.reduceLeDiff, reduceCtorEq, eq_self, FIT, lendCs_map, verC_map, FinC, resPs, resP, lendPl, lendCs, lendC, sealC, partsT, finHs, tupT, verT, verP, verC, verB, verAt, Blk.ver, handsAre, forall_const, CHT, disj, Nat.reduceBEq, beq_self_eq_true, APT, srcOf, sealPs, sealCs, sealC, toVs, Option.map_some, List.mem_singleton, forall_eq, ALT, UGh_3, e13, e14, e15, e5, eH5, e6, eH6, e8, eH8, eF1, eN1, eM1, en_len, k1, gz, ew, eW, p2]
            refine callDw (m0 := 8) (m1 := 1010) (m2 := 1011) (m3 := 1003) (hWr _ _ _ _) rfl (by simp only [RUN, core, T.c, T.s, T.b, T.i, sBin, sInt, sUn, isShift, asInt, P1.cells, loadT, ptrC, storeT, putC, fillP, Nat.reduceAdd, reduceIte, Nat.reduceEqDiff, Nat.reduceLT, Nat.reduceLeDiff, reduceCtorEq, eq_self, e8]; rfl) rfl rfl (by decide) (by exact eH8) (by exact eF1) (by exact eN1) (by exact eM1) ⟨?_, ?_⟩
            · simp only [RUN, core, T.c, T.s, T.b, T.i, sBin, sInt, sUn, isShift, asInt, P1.cells, loadT, ptrC, storeT, putC, fillP, Nat.reduceAdd, reduceIte, Nat.reduceEqDiff, Nat.reduceLT, Nat.reduceLeDiff, reduceCtorEq, eq_self, FIT, lendCs_map, verC_map, FinC, resPs, resP, lendPl, lendCs, lendC, sealC, partsT, finHs, tupT, verT, verP, verC, verB, verAt, Blk.ver, handsAre, forall_const, CHT, disj, Nat.reduceBEq, beq_self_eq_true, APT, srcOf, sealPs, sealCs, sealC, toVs, Option.map_some, List.mem_singleton, forall_eq, ALT, UGh_1]
            simp only [RUN, core, T.c, T.s, T.b, T.i, sBin, sInt, sUn, isShift, asInt, P1.cells, loadT, ptrC, storeT, putC, fillP, Nat.reduceAdd, reduceIte, Nat.reduceEqDiff, Nat.reduceLT, Nat.reduceLeDiff, reduceCtorEq, eq_self, FIT, lendCs_map, verC_map, FinC, resPs, resP, lendPl, lendCs, lendC, sealC, partsT, finHs, tupT, verT, verP, verC, verB, verAt, Blk.ver, handsAre, forall_const, CHT, disj, Nat.reduceBEq, beq_self_eq_true, APT, srcOf, sealPs, sealCs, sealC, toVs, Option.map_some, List.mem_singleton, forall_eq, ALT, UGh_3, UGh_1, e13, e14, e15, e5, eH5, e6, eH6, e8, eH8, eF1, eN1, eM1, n0]
  · have hi2 : i = ws.length := by omega
    subst hi2
    have k1 : ¬ (ws.length : Int) < ws.length := by omega
    rw [List.drop_length] at hg
    cases p1 : a.cuts with
    | true =>
      have hg' : r = (cutD d a.moves a.keep, 6) := by rw [hg, goS, if_pos p1]
      rw [hg']
      rw [p1] at eH5
      simp only [RUN, core, T.c, T.s, T.b, T.i, sBin, sInt, sUn, isShift, asInt, P1.cells, loadT, ptrC, storeT, putC, fillP, Nat.reduceAdd, reduceIte, Nat.reduceEqDiff, Nat.reduceLT, Nat.reduceLeDiff, reduceCtorEq, eq_self, FIT, lendCs_map, verC_map, FinC, resPs, resP, lendPl, lendCs, lendC, sealC, partsT, finHs, tupT, verT, verP, verC, verB, verAt, Blk.ver, handsAre, forall_const, CHT, disj, Nat.reduceBEq, beq_self_eq_true, APT, srcOf, sealPs, sealCs, sealC, toVs, Option.map_some, List.mem_singleton, forall_eq, ALT, UGh_3, UGh_1, e13, e14, e15, e5, eH5, e6, eH6, e8, eH8, eF1, eN1, eM1, en_len, k1]
      refine callL (ws := dkL 1010 _ 1011 _ 1003 _ d) (ns := [1010, 1011, 1003]) (cutI_ok d hD a.moves a.keep) rfl (lendK (by exact eF1) (by exact eN1) (by exact eM1) rfl rfl rfl rfl) rfl rfl ⟨?_, ?_⟩
      · simp only [RUN, core, T.c, T.s, T.b, T.i, sBin, sInt, sUn, isShift, asInt, P1.cells, loadT, ptrC, storeT, putC, fillP, Nat.reduceAdd, reduceIte, Nat.reduceEqDiff, Nat.reduceLT, Nat.reduceLeDiff, reduceCtorEq, eq_self, FIT, lendCs_map, verC_map, FinC, resPs, resP, lendPl, lendCs, lendC, sealC, partsT, finHs, tupT, verT, verP, verC, verB, verAt, Blk.ver, handsAre, forall_const, CHT, disj, Nat.reduceBEq, beq_self_eq_true, APT, srcOf, sealPs, sealCs, sealC, toVs, Option.map_some, List.mem_singleton, forall_eq, ALT, UGh_1]
      simp only [RUN, core, T.c, T.s, T.b, T.i, sBin, sInt, sUn, isShift, asInt, P1.cells, loadT, ptrC, storeT, putC, fillP, Nat.reduceAdd, reduceIte, Nat.reduceEqDiff, Nat.reduceLT, Nat.reduceLeDiff, reduceCtorEq, eq_self, FIT, lendCs_map, verC_map, FinC, resPs, resP, lendPl, lendCs, lendC, sealC, partsT, finHs, tupT, verT, verP, verC, verB, verAt, Blk.ver, handsAre, forall_const, CHT, disj, Nat.reduceBEq, beq_self_eq_true, APT, srcOf, sealPs, sealCs, sealC, toVs, Option.map_some, List.mem_singleton, forall_eq, ALT, UGh_3, UGh_1, scalarT, scalarP, scalarC, List.all_cons, Bool.false_and, e6, eH6]
    | false =>
      have hg' : r = (d, 0) := by rw [hg, goS, if_neg (by rw [p1]; decide)]
      rw [hg']
      rw [p1] at eH5
      simp only [RUN, core, T.c, T.s, T.b, T.i, sBin, sInt, sUn, isShift, asInt, P1.cells, loadT, ptrC, storeT, putC, fillP, Nat.reduceAdd, reduceIte, Nat.reduceEqDiff, Nat.reduceLT, Nat.reduceLeDiff, reduceCtorEq, eq_self, FIT, lendCs_map, verC_map, FinC, resPs, resP, lendPl, lendCs, lendC, sealC, partsT, finHs, tupT, verT, verP, verC, verB, verAt, Blk.ver, handsAre, forall_const, CHT, disj, Nat.reduceBEq, beq_self_eq_true, APT, srcOf, sealPs, sealCs, sealC, toVs, Option.map_some, List.mem_singleton, forall_eq, ALT, UGh_3, UGh_1, e13, e14, e15, e5, eH5, e6, eH6, e8, eH8, eF1, eN1, eM1, en_len, k1]
theorem UGh_2 : (type_of% (uA c116.eq_1)) ∧ (type_of% (uR r116_0.eq_1)) ∧ (type_of% (uR r116_1.eq_1)) ∧ (type_of% (uA c116_19.eq_1)) ∧ (type_of% (uR r116_2.eq_1)) ∧ (type_of% (uA c116_18.eq_1)) ∧ (type_of% (uA c116_17.eq_1)) ∧ (type_of% s116.eq_1) :=
  ⟨uA c116.eq_1, uR r116_0.eq_1, uR r116_1.eq_1, uA c116_19.eq_1, uR r116_2.eq_1, uA c116_18.eq_1, uA c116_17.eq_1, s116.eq_1⟩
set_option maxRecDepth 20000 in
set_option maxHeartbeats 2000000 in
theorem writes_ok (d : Dk) (ws : List DW) (a : LA) (hD : DOk d) (hl : ws.length ≤ 9000000000000000000) (hw : ∀ w ∈ ws, fineDW w) : ACallsF Try.prog 116 [tDk d, tL (en eW ws), tLA a] [] (tDkI (goS a 0 d ws)) := by
  have hd := hD.fine
  generalize hr : goS a 0 d ws = r
  refine ACallsF.intro ok116 follows fun X c0 => ?_
  simp only [RUN, core, T.c, T.s, T.b, T.i, sBin, sInt, sUn, isShift, asInt, P1.cells, loadT, ptrC, storeT, putC, fillP, Nat.reduceAdd, reduceIte, Nat.reduceEqDiff, Nat.reduceLT, Nat.reduceLeDiff, reduceCtorEq, eq_self, FIT, lendCs_map, verC_map, FinC, resPs, resP, lendPl, lendCs, lendC, sealC, partsT, finHs, tupT, verT, verP, verC, verB, verAt, Blk.ver, handsAre, forall_const, CHT, disj, Nat.reduceBEq, beq_self_eq_true, APT, srcOf, sealPs, sealCs, sealC, toVs, Option.map_some, List.mem_singleton, forall_eq, ALT, UGh_1]
  refine callDk (ws := []) (ns := []) (cloneDk_ok d hd.s 1001 1002 1003) rfl rfl rfl (by decide) ⟨rfl, ?_⟩
  simp only [RUN, core, T.c, T.s, T.b, T.i, sBin, sInt, sUn, isShift, asInt, P1.cells, loadT, ptrC, storeT, putC, fillP, Nat.reduceAdd, reduceIte, Nat.reduceEqDiff, Nat.reduceLT, Nat.reduceLeDiff, reduceCtorEq, eq_self, FIT, lendCs_map, verC_map, FinC, resPs, resP, lendPl, lendCs, lendC, sealC, partsT, finHs, tupT, verT, verP, verC, verB, verAt, Blk.ver, handsAre, forall_const, CHT, disj, Nat.reduceBEq, beq_self_eq_true, APT, srcOf, sealPs, sealCs, sealC, toVs, Option.map_some, List.mem_singleton, forall_eq, ALT, UGh_2]
  refine AW.uptoA ws.length (inv116 r ws a) ⟨d, hD, 1001, 1002, .inl ⟨rfl, rfl⟩, .inl ⟨hr.symm, ⟨rfl, rfl, rfl, ⟨_, rfl, rfl⟩, _, rfl, rfl⟩, _, _, _, _, rfl, rfl, rfl, rfl, rfl⟩⟩ fun i t H c hi h => ?_
  obtain ⟨d, hD, mF, mN, hm, h | h⟩ := h
  · rcases hm with ⟨rfl, rfl⟩ | ⟨rfl, rfl⟩
    · exact AW.of (body116a r ws a d hD hw hl X i t H c hi h)
    · exact AW.of (body116b r ws a d hD hw hl X i t H c hi h)
  · obtain ⟨hg, ⟨e13, e14, e15, ⟨u5, e5, eH5⟩, u6, e6, eH6⟩, hmv, rest, u8, v1, v2, e8, eH8, eF1, eN1⟩ := h
    have hle : d.names.length ≤ (en eS (d.names ++ rest)).length := by rw [en_len, List.length_append]; omega
    have ht := en_take2 eS d.names rest
    rcases hm with ⟨rfl, rfl⟩ | ⟨rfl, rfl⟩
    · refine AW.trim 8 1 1002 eH8 rfl eN1 hle ?_
      refine AW.reify2 8 2 1003 2 90 rfl rfl (by decide) (by decide) ?_
      refine AW.of (body116a r ws a d hD hw hl X i t _ _ hi ?_)
      refine ⟨hg, ⟨e13, e14, e15, ⟨u5, e5, eH5⟩, u6, e6, eH6⟩, u8, v1, c, c + 1, e8, ?_, eF1, ?_, ?_⟩
      · rw [hmv]; rfl
      · rw [← ht]; rfl
      · rw [hmv]; rfl
    · refine AW.trim 8 1 1011 eH8 rfl eN1 hle ?_
      refine AW.reify2 8 2 1003 2 90 rfl rfl (by decide) (by decide) ?_
      refine AW.of (body116b r ws a d hD hw hl X i t _ _ hi ?_)
      refine ⟨hg, ⟨e13, e14, e15, ⟨u5, e5, eH5⟩, u6, e6, eH6⟩, u8, v1, c, c + 1, e8, ?_, eF1, ?_, ?_⟩
      · rw [hmv]; rfl
      · rw [← ht]; rfl
      · rw [hmv]; rfl
end Go.V
set_option linter.unusedSimpArgs false
namespace Go.V
open Go.Proofs
theorem cutD_len {d : Dk} (hD : DOk d) (m : Int) (keep : List Int) : (cutD d m keep).files.length ≤ 1000 ∧ (cutD d m keep).names.length ≤ 1000 ∧ (cutD d m keep).moves.length ≤ 1000 := by
  have l2 := hD.n
  have l3 := hD.m
  have h := aft_len (d.moves.take (cutN m d)) d.names
  rw [List.length_take] at h
  simp only [cutD, keepD, List.length_map, List.length_nil]
  omega
theorem goS_len (a : LA) : ∀ (ws : List DW) (i : Nat) (d : Dk), DOk d → (goS a i d ws).1.files.length ≤ 1000 ∧ (goS a i d ws).1.names.length ≤ 1000 ∧ (goS a i d ws).1.moves.length ≤ 1000
  | [], i, d, hD => by
    have l1 := hD.f
    have l2 := hD.n
    have l3 := hD.m
    unfold goS
    split
    · exact cutD_len hD _ _
    · exact ⟨by simp only; omega, by simp only; omega, by simp only; omega⟩
  | w :: ws, i, d, hD => by
    have h1 := (small_do d w hD).2
    unfold goS
    split
    · exact cutD_len hD _ _
    · split
      · exact goS_len a ws (i + 1) _ (hD.step w)
      · exact h1
theorem stS_len {d : Dk} (hD : DOk d) (ws : List DW) (a : LA) : (stS d ws a).1.files.length ≤ 1000 ∧ (stS d ws a).1.names.length ≤ 1000 ∧ (stS d ws a).1.moves.length ≤ 1000 := by
  have l1 := hD.f
  have l2 := hD.n
  have l3 := hD.m
  unfold stS
  split
  · exact ⟨by simp only; omega, by simp only; omega, by simp only; omega⟩
  · exact goS_len a ws 0 d hD
/- loop.example/teagle/impl.doStore -/
def r67_0 : List AOper := [ao 0 3 (.box 34 (.t 0)),
  ao 1 5 (.box 52 (.t 2)),
  ao 2 6 (.alloc 34 [.nil0, .nil0, .nil0]),
  ao 3 7 (.mv (.k (.i 0)))]
def r67_1 : List AOper := [ao 0 10 (.mv (.t 1)),
  ao 1 11 (.len (.t 10)),
  ao 2 12 (.bin .gtr (.t 11) (.k (.i 2000)))]
def r67_2 : List AOper := [ao 0 13 (.ld 3 true (.t 3)),
  ao 1 14 (.call (.k (.c (.fn 53 []))) [(.t 13)]),
  an 2 (.st 3 (.t 6) (.t 14)),
  ao 3 7 (.mv (.k (.i 5)))]
def c67_3 : ACode := .seq (.reg r67_2) .ret
def c67_4 : ACode := .cond (.t 12) c67_3 .skip
def c67_5 : ACode := .seq (.reg r67_1) c67_4
def r67_6 : List AOper := [ao 0 16 (.ld 3 true (.t 3)),
  ao 1 17 (.mv (.t 1)),
  ao 2 18 (.ld 6 true (.t 5)),
  ao 3 19 (.call (.k (.c (.fn 116 []))) [(.t 16), (.t 17), (.t 18)]),
  ao 4 15 (.mv (.t 19)),
  ao 5 20 (.ext 0 (.t 15)),
  ao 6 21 (.ext 1 (.t 15)),
  ao 7 8 (.alloc 34 [.nil0, .nil0, .nil0]),
  an 8 (.st 3 (.t 8) (.t 20)),
  ao 9 9 (.mv (.t 21))]
def r67_7 : List AOper := [ao 0 22 (.ld 3 true (.t 8)),
  ao 1 23 (.call (.k (.c (.fn 53 []))) [(.t 22)]),
  ao 2 24 (.mv (.t 9)),
  an 3 (.st 3 (.t 6) (.t 23)),
  ao 4 7 (.mv (.t 24))]
def c67 : ACode := .seq (.reg r67_0) (.seq c67_5 (.seq (.reg r67_6) (.seq (.reg r67_7) .ret)))
def s67 : List ARes := [.cell 6 3 true, .tmp 7]
theorem ok67 : okF Try.prog 67 25 c67 s67 := ⟨Try.f67, Try.func67, Try.ntmps67, by kernel_rfl, by kernel_rfl, by kernel_rfl⟩
theorem UGi_1 : (type_of% (uA c67.eq_1)) ∧ (type_of% (uR r67_0.eq_1)) ∧ (type_of% (uA c67_5.eq_1)) ∧ (type_of% (uR r67_1.eq_1)) ∧ (type_of% (uA c67_4.eq_1)) ∧ (type_of% (uA c67_3.eq_1)) ∧ (type_of% (uR r67_2.eq_1)) ∧ (type_of% (uR r67_6.eq_1)) ∧ (type_of% (uR r67_7.eq_1)) ∧ (type_of% s67.eq_1) :=
  ⟨uA c67.eq_1, uR r67_0.eq_1, uA c67_5.eq_1, uR r67_1.eq_1, uA c67_4.eq_1, uA c67_3.eq_1, uR r67_2.eq_1, uR r67_6.eq_1, uR r67_7.eq_1, s67.eq_1⟩
set_option maxRecDepth 20000 in
theorem doStore_ok (d : Dk) (ws : List DW) (a : LA) (hD : DOk d) (hl : ws.length ≤ 9000000000000000000) (hw : ∀ w ∈ ws, fineDW w) (m1 m2 m3 : Nat) : ACallsF Try.prog 67 [tDk d, tL (en eW ws), tLA a] (dkH 2101 2102 2103 m1 m2 m3 (stS d ws a).1) (oDkI 2101 0 2102 0 2103 0 (stS d ws a)) := by
  have hd := hD.fine
  obtain ⟨s1, s2, s3⟩ := stS_len hD ws a
  have hcl := cloneDk_ok (stS d ws a).1 ⟨by omega, by omega, by omega⟩ 2101 2102 2103
  by_cases hL : 2000 < ws.length
  · have g1 : (ws.length : Int) > 2000 := by omega
    have hr : stS d ws a = (d, 5) := by rw [stS, if_pos hL]
    rw [hr] at hcl ⊢
    refine ACallsF.intro ok67 follows fun X c0 => ?_
    simp only [RUN, core, T.c, T.s, T.b, T.i, sBin, sInt, sUn, isShift, asInt, P1.cells, loadT, ptrC, storeT, putC, fillP, Nat.reduceAdd, reduceIte, Nat.reduceEqDiff, Nat.reduceLT, Nat.reduceLeDiff, reduceCtorEq, eq_self, FIT, lendCs_map, verC_map, FinC, resPs, resP, lendPl, lendCs, lendC, sealC, partsT, finHs, tupT, verT, verP, verC, verB, verAt, Blk.ver, handsAre, forall_const, CHT, disj, Nat.reduceBEq, beq_self_eq_true, APT, srcOf, sealPs, sealCs, sealC, toVs, Option.map_some, List.mem_singleton, forall_eq, ALT, UGi_1, g1, en_len]
    refine callDk (ws := []) (ns := []) hcl rfl rfl rfl (by decide) ⟨rfl, ?_⟩
    simp only [RUN, core, T.c, T.s, T.b, T.i, sBin, sInt, sUn, isShift, asInt, P1.cells, loadT, ptrC, storeT, putC, fillP, Nat.reduceAdd, reduceIte, Nat.reduceEqDiff, Nat.reduceLT, Nat.reduceLeDiff, reduceCtorEq, eq_self, FIT, lendCs_map, verC_map, FinC, resPs, resP, lendPl, lendCs, lendC, sealC, partsT, finHs, tupT, verT, verP, verC, verB, verAt, Blk.ver, handsAre, forall_const, CHT, disj, Nat.reduceBEq, beq_self_eq_true, APT, srcOf, sealPs, sealCs, sealC, toVs, Option.map_some, List.mem_singleton, forall_eq, ALT, UGi_1, false_implies, and_self, imp_self]
  have g1 : ¬ (ws.length : Int) > 2000 := by omega
  have hr : stS d ws a = goS a 0 d ws := by rw [stS, if_neg hL]
  have hW := writes_ok d ws a hD hl hw
  rw [← hr] at hW
  generalize stS d ws a = r at *
  obtain ⟨rd, rc⟩ := r
  refine ACallsF.intro ok67 follows fun X c0 => ?_
  simp only [RUN, core, T.c, T.s, T.b, T.i, sBin, sInt, sUn, isShift, asInt, P1.cells, loadT, ptrC, storeT, putC, fillP, Nat.reduceAdd, reduceIte, Nat.reduceEqDiff, Nat.reduceLT, Nat.reduceLeDiff, reduceCtorEq, eq_self, FIT, lendCs_map, verC_map, FinC, resPs, resP, lendPl, lendCs, lendC, sealC, partsT, finHs, tupT, verT, verP, verC, verB, verAt, Blk.ver, handsAre, forall_const, CHT, disj, Nat.reduceBEq, beq_self_eq_true, APT, srcOf, sealPs, sealCs, sealC, toVs, Option.map_some, List.mem_singleton, forall_eq, ALT, UGi_1, g1, en_len]
  refine callC hW rfl rfl rfl rfl ?_
  simp only [RUN, core, T.c, T.s, T.b, T.i, sBin, sInt, sUn, isShift, asInt, P1.cells, loadT, ptrC, storeT, putC, fillP, Nat.reduceAdd, reduceIte, Nat.reduceEqDiff, Nat.reduceLT, Nat.reduceLeDiff, reduceCtorEq, eq_self, FIT, lendCs_map, verC_map, FinC, resPs, resP, lendPl, lendCs, lendC, sealC, partsT, finHs, tupT, verT, verP, verC, verB, verAt, Blk.ver, handsAre, forall_const, CHT, disj, Nat.reduceBEq, beq_self_eq_true, APT, srcOf, sealPs, sealCs, sealC, toVs, Option.map_some, List.mem_singleton, forall_eq, ALT, UGi_1]
  refine callDk (ws := []) (ns := []) hcl rfl rfl rfl (by decide) ⟨rfl, ?_⟩
  simp only [RUN, core, T.c, T.s, T.b, T.i, sBin, sInt, sUn, isShift, asInt, P1.cells, loadT, ptrC, storeT, putC, fillP, Nat.reduceAdd, reduceIte, Nat.reduceEqDiff, Nat.reduceLT, Nat.reduceLeDiff, reduceCtorEq, eq_self, FIT, lendCs_map, verC_map, FinC, resPs, resP, lendPl, lendCs, lendC, sealC, partsT, finHs, tupT, verT, verP, verC, verB, verAt, Blk.ver, handsAre, forall_const, CHT, disj, Nat.reduceBEq, beq_self_eq_true, APT, srcOf, sealPs, sealCs, sealC, toVs, Option.map_some, List.mem_singleton, forall_eq, ALT, UGi_1, false_implies, and_self, imp_self]
/- loop.example/teagle/impl.StoreDo -/
def r21_0 : List AOper := [ao 0 3 (.box 34 (.t 0)),
  ao 1 5 (.box 52 (.t 2)),
  ao 2 6 (.alloc 34 [.nil0, .nil0, .nil0]),
  ao 3 7 (.mv (.k (.i 0)))]
def r21_1 : List AOper := [ao 0 8 (.ld 3 true (.t 3)),
  ao 1 9 (.call (.k (.c (.fn 52 []))) [(.t 8)]),
  ao 2 10 (.un .not (.t 9))]
def r21_2 : List AOper := [ao 0 11 (.build [.nil0, .nil0, .nil0] []),
  an 1 (.st 3 (.t 6) (.t 11)),
  ao 2 7 (.mv (.k (.i 7)))]
def c21_3 : ACode := .seq (.reg r21_2) .ret
def c21_4 : ACode := .cond (.t 10) c21_3 .skip
def c21_5 : ACode := .seq (.reg r21_1) c21_4
def r21_6 : List AOper := [ao 0 12 (.ld 3 true (.t 3)),
  ao 1 13 (.mv (.t 1)),
  ao 2 14 (.ld 6 true (.t 5)),
  ao 3 15 (.call (.k (.c (.fn 67 []))) [(.t 12), (.t 13), (.t 14)]),
  ao 4 16 (.ext 0 (.t 15)),
  ao 5 17 (.ext 1 (.t 15)),
  an 6 (.st 3 (.t 6) (.t 16)),
  ao 7 7 (.mv (.t 17))]
def c21 : ACode := .seq (.reg r21_0) (.seq c21_5 (.seq (.reg r21_6) .ret))
def s21 : List ARes := [.cell 6 3 true, .tmp 7]
theorem ok21 : okF Try.prog 21 18 c21 s21 := ⟨Try.f21, Try.func21, Try.ntmps21, by kernel_rfl, by kernel_rfl, by kernel_rfl⟩
theorem UGi_2 : (type_of% (uA c21.eq_1)) ∧ (type_of% (uR r21_0.eq_1)) ∧ (type_of% (uA c21_5.eq_1)) ∧ (type_of% (uR r21_1.eq_1)) ∧ (type_of% (uA c21_4.eq_1)) ∧ (type_of% (uA c21_3.eq_1)) ∧ (type_of% (uR r21_2.eq_1)) ∧ (type_of% (uR r21_6.eq_1)) ∧ (type_of% s21.eq_1) :=
  ⟨uA c21.eq_1, uR r21_0.eq_1, uA c21_5.eq_1, uR r21_1.eq_1, uA c21_4.eq_1, uA c21_3.eq_1, uR r21_2.eq_1, uR r21_6.eq_1, s21.eq_1⟩
set_option maxRecDepth 20000 in
theorem stI_ok (d : Dk) (ws : List DW) (a : LA) (hd : fineDk d) (hl : ws.length ≤ 9000000000000000000) (hw : ∀ w ∈ ws, fineDW w) : ∃ r, StR d ws a r ∧ (r.1.files.length ≤ 1000 ∧ r.1.names.length ≤ 1000 ∧ r.1.moves.length ≤ 1000) ∧ ∀ m1 m2 m3, ACallsF Try.prog 21 [tDk d, tL (en eW ws), tLA a] (dkH 2101 2102 2103 m1 m2 m3 r.1) (oDkI 2101 0 2102 0 2103 0 r) := by
  obtain ⟨b, hb, hC⟩ := okI_ok d hd
  by_cases hD : DOk d
  rotate_left
  · have hbf : b = false := by cases hq : b with | false => rfl | true => exact absurd (hb.1 hq) hD
    rw [hbf] at hC
    refine ⟨_, .inr ⟨hD, rfl⟩, ⟨by simp, by simp, by simp⟩, fun m1 m2 m3 => ownNil3 (by decide) (ACallsF.intro ok21 follows fun X c0 => ?_)⟩
    simp only [RUN, core, T.c, T.s, T.b, T.i, sBin, sInt, sUn, isShift, asInt, P1.cells, loadT, ptrC, storeT, putC, fillP, Nat.reduceAdd, reduceIte, Nat.reduceEqDiff, Nat.reduceLT, Nat.reduceLeDiff, reduceCtorEq, eq_self, FIT, lendCs_map, verC_map, FinC, resPs, resP, lendPl, lendCs, lendC, sealC, partsT, finHs, tupT, verT, verP, verC, verB, verAt, Blk.ver, handsAre, forall_const, CHT, disj, Nat.reduceBEq, beq_self_eq_true, APT, srcOf, sealPs, sealCs, sealC, toVs, Option.map_some, List.mem_singleton, forall_eq, ALT, UGi_2]
    refine callC hC rfl rfl rfl rfl ?_
    simp only [RUN, core, T.c, T.s, T.b, T.i, sBin, sInt, sUn, isShift, asInt, P1.cells, loadT, ptrC, storeT, putC, fillP, Nat.reduceAdd, reduceIte, Nat.reduceEqDiff, Nat.reduceLT, Nat.reduceLeDiff, reduceCtorEq, eq_self, FIT, lendCs_map, verC_map, FinC, resPs, resP, lendPl, lendCs, lendC, sealC, partsT, finHs, tupT, verT, verP, verC, verB, verAt, Blk.ver, handsAre, forall_const, CHT, disj, Nat.reduceBEq, beq_self_eq_true, APT, srcOf, sealPs, sealCs, sealC, toVs, Option.map_some, List.mem_singleton, forall_eq, ALT, UGi_2]
  rw [hb.2 hD] at hC
  refine ⟨_, .inl ⟨hD, rfl⟩, stS_len hD ws a, fun m1 m2 m3 => ?_⟩
  have hS := doStore_ok d ws a hD hl hw 2101 2102 2103
  generalize stS d ws a = r at *
  obtain ⟨rd, rc⟩ := r
  refine ACallsF.intro ok21 follows fun X c0 => ?_
  simp only [RUN, core, T.c, T.s, T.b, T.i, sBin, sInt, sUn, isShift, asInt, P1.cells, loadT, ptrC, storeT, putC, fillP, Nat.reduceAdd, reduceIte, Nat.reduceEqDiff, Nat.reduceLT, Nat.reduceLeDiff, reduceCtorEq, eq_self, FIT, lendCs_map, verC_map, FinC, resPs, resP, lendPl, lendCs, lendC, sealC, partsT, finHs, tupT, verT, verP, verC, verB, verAt, Blk.ver, handsAre, forall_const, CHT, disj, Nat.reduceBEq, beq_self_eq_true, APT, srcOf, sealPs, sealCs, sealC, toVs, Option.map_some, List.mem_singleton, forall_eq, ALT, UGi_2]
  refine callC hC rfl rfl rfl rfl ?_
  simp only [RUN, core, T.c, T.s, T.b, T.i, sBin, sInt, sUn, isShift, asInt, P1.cells, loadT, ptrC, storeT, putC, fillP, Nat.reduceAdd, reduceIte, Nat.reduceEqDiff, Nat.reduceLT, Nat.reduceLeDiff, reduceCtorEq, eq_self, FIT, lendCs_map, verC_map, FinC, resPs, resP, lendPl, lendCs, lendC, sealC, partsT, finHs, tupT, verT, verP, verC, verB, verAt, Blk.ver, handsAre, forall_const, CHT, disj, Nat.reduceBEq, beq_self_eq_true, APT, srcOf, sealPs, sealCs, sealC, toVs, Option.map_some, List.mem_singleton, forall_eq, ALT, UGi_2]
  refine callDkI (ws := []) (ns := []) hS rfl rfl rfl (by decide) ⟨?_, ?_⟩
  · simp only [RUN, core, T.c, T.s, T.b, T.i, sBin, sInt, sUn, isShift, asInt, P1.cells, loadT, ptrC, storeT, putC, fillP, Nat.reduceAdd, reduceIte, Nat.reduceEqDiff, Nat.reduceLT, Nat.reduceLeDiff, reduceCtorEq, eq_self, FIT, lendCs_map, verC_map, FinC, resPs, resP, lendPl, lendCs, lendC, sealC, partsT, finHs, tupT, verT, verP, verC, verB, verAt, Blk.ver, handsAre, forall_const, CHT, disj, Nat.reduceBEq, beq_self_eq_true, APT, srcOf, sealPs, sealCs, sealC, toVs, Option.map_some, List.mem_singleton, forall_eq, ALT, UGi_2]
  simp only [RUN, core, T.c, T.s, T.b, T.i, sBin, sInt, sUn, isShift, asInt, P1.cells, loadT, ptrC, storeT, putC, fillP, Nat.reduceAdd, reduceIte, Nat.reduceEqDiff, Nat.reduceLT, Nat.reduceLeDiff, reduceCtorEq, eq_self, FIT, lendCs_map, verC_map, FinC, resPs, resP, lendPl, lendCs, lendC, sealC, partsT, finHs, tupT, verT, verP, verC, verB, verAt, Blk.ver, handsAre, forall_const, CHT, disj, Nat.reduceBEq, beq_self_eq_true, APT, srcOf, sealPs, sealCs, sealC, toVs, Option.map_some, List.mem_singleton, forall_eq, ALT, UGi_2, false_implies, and_self, imp_self]
end Go.V
set_option linter.unusedSimpArgs false
namespace Go.V
open Go.Proofs
section
variable {P : Program} {t : Nat → T} {H : HMap} {c : Nat} {f : Opd} {args : List Opd} {fid : FuncId} {argsC : List T} {ws : List (Nat × Blk)} {ns : List Nat} {k : Nat} {d : Option Nat} {un : List Nat} {l : List AOper} {prev : List (Nat × List Nat × List Nat)} {K : St → Prop}
/-- A call that makes an act. -/
theorem callLAc {n m : Nat} {a : LA} (hC : ACallsF P fid argsC [newH n m 1 3 (en eI a.keep)] (.pt (oLA n 0 a))) (hf : ev t f = .pt (.one (.fn fid []))) (hl : lendTs H argsC (args.map (ev t)) = some (argsC, ws, ns)) (ha : argsC.all closedA = true)
    (hk : chk prev un ⟨.pt (oLA m (c + k) a), [(m, .arr (c + k) true 1 3 (en eI a.keep))], ns ++ [m], [m]⟩ = true ∧ DRun P l ((k, ns ++ [m], [m]) :: prev) K ⟨updD t d (.pt (oLA m (c + k) a)), upd H m (some (.arr (c + k) true 1 3 (en eI a.keep))), c⟩) :
    step P k d un (.call f args) l prev K t H c := by
  have hN : renN [newH n m 1 3 (en eI a.keep)] n = some (newH n m 1 3 (en eI a.keep)) := by simp [renN]
  refine callF (r' := .pt (oLA m (c + k) a)) (ob := [(m, .arr (c + k) true 1 3 (en eI a.keep))]) [newH n m 1 3 (en eI a.keep)] hC hf hl ha (by simp) (by simp) (by simp) ?_ ?_ ?_ ?_
  · simp only [quiet, List.all_cons, List.all_nil, flatB, en_flat eI eI_flat]; rfl
  · simp only [renOT, renOP, renOs, renO, hN, Option.map_some, verOf]; rfl
  · simp only [renOBs, renOB, verOf]; rfl
  · simpa [updH] using hk
end
theorem lendW {H : HMap} {m v n : Nat} {w : Bool} {ws : List DW} (h : H m = some (.arr v w 3 38 (en eW ws))) (e : n = ws.length) : lendT H (tL (en eW ws)) (.c (.own m v n)) = some (tL (en eW ws), [(m, .arr v false 3 38 (en eW ws))], [m]) := by
  subst e
  simp only [tL, T.c, lendT, lendC, sealC, h, en_len, en_take, Nat.le_refl, and_self, if_true, Option.map_some]
theorem lendLA {H : HMap} {m v n : Nat} {w : Bool} {a : LA} (h : H m = some (.arr v w 1 3 (en eI a.keep))) (e : n = a.keep.length) : lendT H (tLA a) (.pt (.agg [.v (.s (.int .i64 a.kind)), .v (.s (.string a.data)), .v (.s (.bool a.cuts)), .v (.s (.int .i64 a.after)), .v (.s (.int .i64 a.moves)), .own m v n])) = some (tLA a, [(m, .arr v false 1 3 (en eI a.keep))], [m]) := by
  subst e
  simp only [lendT, lendCs, lendC, sealC, h, en_len, en_take, Nat.le_refl, and_self, if_true, Option.map_some, List.cons_append, List.nil_append]
abbrev wL (m v : Nat) (ws : List DW) : List (Nat × Blk) := [(m, .arr v false 3 38 (en eW ws))]
abbrev aL (m v : Nat) (a : LA) : List (Nat × Blk) := [(m, .arr v false 1 3 (en eI a.keep))]
theorem lend5 {H : HMap} {m1 m2 m3 v1 v2 v3 n1 n2 n3 m4 v4 n4 m5 v5 n5 : Nat} {w1 w2 w3 w4 w5 : Bool} {d : Dk} {ws : List DW} {a : LA} (h1 : H m1 = some (.arr v1 w1 3 88 (en eF d.files))) (h2 : H m2 = some (.arr v2 w2 1 9 (en eS d.names))) (h3 : H m3 = some (.arr v3 w3 2 90 (en eM d.moves))) (h4 : H m4 = some (.arr v4 w4 3 38 (en eW ws))) (h5 : H m5 = some (.arr v5 w5 1 3 (en eI a.keep)))
    (e1 : n1 = d.files.length) (e2 : n2 = d.names.length) (e3 : n3 = d.moves.length) (e4 : n4 = ws.length) (e5 : n5 = a.keep.length) :
    lendTs H [tDk d, tL (en eW ws), tLA a] [.pt (.agg [.own m1 v1 n1, .own m2 v2 n2, .own m3 v3 n3]), .c (.own m4 v4 n4), .pt (.agg [.v (.s (.int .i64 a.kind)), .v (.s (.string a.data)), .v (.s (.bool a.cuts)), .v (.s (.int .i64 a.after)), .v (.s (.int .i64 a.moves)), .own m5 v5 n5])] = some ([tDk d, tL (en eW ws), tLA a], dkL m1 v1 m2 v2 m3 v3 d ++ (wL m4 v4 ws ++ aL m5 v5 a), [m1, m2, m3, m4, m5]) := by
  simp only [lendTs, lendDk h1 h2 h3 e1 e2 e3, lendW h4 e4, lendLA h5 e5, List.append_nil, List.cons_append, List.nil_append]
theorem lend2W {H : HMap} {m v n m' v' n' : Nat} {w w' : Bool} {ws : List DW} (h : H m = some (.arr v w 3 38 (en eW ws))) (h' : H m' = some (.arr v' w' 3 38 (en eW ws))) (e : n = ws.length) (e' : n' = ws.length) :
    lendTs H [tL (en eW ws), tL (en eW ws)] [.c (.own m v n), .c (.own m' v' n')] = some ([tL (en eW ws), tL (en eW ws)], wL m v ws ++ wL m' v' ws, [m, m']) := by
  simp only [lendTs, lendW h e, lendW h' e', List.append_nil, List.cons_append, List.nil_append]
theorem lend2A {H : HMap} {m v n m' v' n' : Nat} {w w' : Bool} {a : LA} (h : H m = some (.arr v w 1 3 (en eI a.keep))) (h' : H m' = some (.arr v' w' 1 3 (en eI a.keep))) (e : n = a.keep.length) (e' : n' = a.keep.length) :
    lendTs H [tLA a, tLA a] [.pt (.agg [.v (.s (.int .i64 a.kind)), .v (.s (.string a.data)), .v (.s (.bool a.cuts)), .v (.s (.int .i64 a.after)), .v (.s (.int .i64 a.moves)), .own m v n]), .pt (.agg [.v (.s (.int .i64 a.kind)), .v (.s (.string a.data)), .v (.s (.bool a.cuts)), .v (.s (.int .i64 a.after)), .v (.s (.int .i64 a.moves)), .own m' v' n'])] = some ([tLA a, tLA a], aL m v a ++ aL m' v' a, [m, m']) := by
  simp only [lendTs, lendLA h e, lendLA h' e', List.append_nil, List.cons_append, List.nil_append]
/- loop.example/teagle/laws.FnExactStoreDo -/
def r4_0 : List AOper := [ao 0 3 (.box 26 (.t 0)),
  ao 1 5 (.box 46 (.t 2)),
  ao 2 6 (.mv (.k (.b false)))]
def r4_1 : List AOper := [ao 0 7 (.mv (.k (.i 1048576)))]
def r4_2 : List AOper := [ao 0 20 (.ld 3 true (.t 3)),
  ao 1 21 (.mv (.t 7)),
  ao 2 22 (.call (.k (.c (.fn 7 []))) [(.t 20), (.t 21)]),
  ao 3 7 (.mv (.t 22))]
def r4_3 : List AOper := [ao 0 23 (.mv (.t 7)),
  ao 1 24 (.bin .lss (.t 23) (.k (.i 0)))]
def r4_4 : List AOper := [ao 0 6 (.mv (.k (.b true)))]
def c4_5 : ACode := .seq (.reg r4_4) .ret
def c4_6 : ACode := .cond (.t 24) c4_5 .skip
def c4_7 : ACode := .seq (.reg r4_3) c4_6
def r4_8 : List AOper := [ao 0 25 (.mv (.t 1)),
  ao 1 26 (.mv (.t 7)),
  ao 2 27 (.call (.k (.c (.fn 16 []))) [(.t 25), (.t 26)]),
  ao 3 7 (.mv (.t 27))]
def r4_9 : List AOper := [ao 0 28 (.mv (.t 7)),
  ao 1 29 (.bin .lss (.t 28) (.k (.i 0)))]
def r4_10 : List AOper := [ao 0 6 (.mv (.k (.b true)))]
def c4_11 : ACode := .seq (.reg r4_10) .ret
def c4_12 : ACode := .cond (.t 29) c4_11 .skip
def c4_13 : ACode := .seq (.reg r4_9) c4_12
def r4_14 : List AOper := [ao 0 30 (.ld 6 true (.t 5)),
  ao 1 31 (.mv (.t 7)),
  ao 2 32 (.call (.k (.c (.fn 17 []))) [(.t 30), (.t 31)]),
  ao 3 7 (.mv (.t 32))]
def r4_15 : List AOper := [ao 0 33 (.mv (.t 7)),
  ao 1 34 (.bin .lss (.t 33) (.k (.i 0)))]
def r4_16 : List AOper := [ao 0 6 (.mv (.k (.b true)))]
def c4_17 : ACode := .seq (.reg r4_16) .ret
def c4_18 : ACode := .cond (.t 34) c4_17 .skip
def c4_19 : ACode := .seq (.reg r4_15) c4_18
def r4_20 : List AOper := [ao 0 36 (.ld 3 true (.t 3)),
  ao 1 37 (.call (.k (.c (.fn 10 []))) [(.t 36)]),
  au 2 38 [0, 1] (.mv (.t 1)),
  ao 3 39 (.call (.k (.c (.fn 19 []))) [(.t 38)]),
  au 4 40 (ru 4) (.ld 6 true (.t 5)),
  ao 5 41 (.call (.k (.c (.fn 20 []))) [(.t 40)]),
  ao 6 42 (.call (.k (.c (.fn 18 []))) [(.t 37), (.t 39), (.t 41)]),
  ao 7 35 (.mv (.t 42)),
  ao 8 43 (.ext 0 (.t 35)),
  au 9 44 [8] (.ext 1 (.t 35)),
  au 10 8 (ru 10) (.alloc 34 [.nil0, .nil0, .nil0]),
  ax 11 none none [9] (.st 3 (.t 8) (.t 43)),
  ao 12 9 (.mv (.t 44))]
def r4_21 : List AOper := [ao 0 45 (.ld 3 true (.t 3)),
  ao 1 46 (.call (.k (.c (.fn 10 []))) [(.t 45)]),
  ao 2 10 (.alloc 34 [.nil0, .nil0, .nil0]),
  an 3 (.st 3 (.t 10) (.t 46))]
def r4_22 : List AOper := [ao 0 47 (.mv (.t 1)),
  ao 1 48 (.call (.k (.c (.fn 19 []))) [(.t 47)]),
  ao 2 11 (.mv (.t 48))]
def r4_23 : List AOper := [ao 0 49 (.ld 6 true (.t 5)),
  ao 1 50 (.call (.k (.c (.fn 20 []))) [(.t 49)]),
  ao 2 12 (.alloc 52 [(.v (.s (.int .i64 0))), (.v (.s (.string ⟨#[]⟩))), (.v (.s (.bool false))), (.v (.s (.int .i64 0))), (.v (.s (.int .i64 0))), .nil0]),
  an 3 (.st 6 (.t 12) (.t 50))]
def r4_24 : List AOper := [ao 0 52 (.ld 3 true (.t 10)),
  ao 1 53 (.mv (.t 11)),
  ao 2 54 (.ld 6 true (.t 12)),
  ao 3 55 (.call (.k (.c (.fn 21 []))) [(.t 52), (.t 53), (.t 54)]),
  ao 4 51 (.mv (.t 55)),
  ao 5 56 (.ext 0 (.t 51)),
  ao 6 57 (.ext 1 (.t 51)),
  ao 7 13 (.alloc 34 [.nil0, .nil0, .nil0]),
  an 8 (.st 3 (.t 13) (.t 56)),
  ao 9 14 (.mv (.t 57))]
def r4_25 : List AOper := [ao 0 58 (.ld 3 true (.t 13)),
  ao 1 59 (.ld 3 true (.t 8)),
  ao 2 60 (.call (.k (.c (.fn 13 []))) [(.t 58), (.t 59)]),
  ao 3 61 (.un .not (.t 60)),
  ao 4 62 (.mv (.t 61)),
  ag 5 63 62 false [] (.mv (.t 14)),
  ag 6 64 62 false [] (.mv (.t 9)),
  ag 7 65 62 false [] (.bin .neq (.t 63) (.t 64)),
  ao 8 66 (.pick (.t 62) (.k (.b true)) (.t 65))]
def r4_26 : List AOper := [ao 0 6 (.mv (.k (.b false)))]
def c4_27 : ACode := .seq (.reg r4_26) .ret
def c4_28 : ACode := .cond (.t 66) c4_27 .skip
def c4_29 : ACode := .seq (.reg r4_25) c4_28
def r4_30 : List AOper := [ao 0 67 (.ld 3 true (.t 10)),
  au 1 68 [0] (.ld 3 true (.t 3)),
  au 2 69 [0] (.call (.k (.c (.fn 10 []))) [(.t 68)]),
  ao 3 70 (.call (.k (.c (.fn 13 []))) [(.t 67), (.t 69)]),
  ao 4 71 (.un .not (.t 70))]
def r4_31 : List AOper := [ao 0 6 (.mv (.k (.b false)))]
def c4_32 : ACode := .seq (.reg r4_31) .ret
def c4_33 : ACode := .cond (.t 71) c4_32 .skip
def c4_34 : ACode := .seq (.reg r4_30) c4_33
def r4_35 : List AOper := [ao 0 72 (.mv (.t 11)),
  ao 1 73 (.mv (.t 1)),
  ao 2 74 (.call (.k (.c (.fn 19 []))) [(.t 73)]),
  ao 3 75 (.call (.k (.c (.fn 22 []))) [(.t 72), (.t 74)]),
  ao 4 76 (.un .not (.t 75))]
def r4_36 : List AOper := [ao 0 6 (.mv (.k (.b false)))]
def c4_37 : ACode := .seq (.reg r4_36) .ret
def c4_38 : ACode := .cond (.t 76) c4_37 .skip
def c4_39 : ACode := .seq (.reg r4_35) c4_38
def r4_40 : List AOper := [ao 0 77 (.ld 6 true (.t 12)),
  au 1 78 [0] (.ld 6 true (.t 5)),
  au 2 79 [0] (.call (.k (.c (.fn 20 []))) [(.t 78)]),
  ao 3 80 (.call (.k (.c (.fn 23 []))) [(.t 77), (.t 79)]),
  ao 4 81 (.un .not (.t 80))]
def r4_41 : List AOper := [ao 0 6 (.mv (.k (.b false)))]
def c4_42 : ACode := .seq (.reg r4_41) .ret
def c4_43 : ACode := .cond (.t 81) c4_42 .skip
def c4_44 : ACode := .seq (.reg r4_40) c4_43
def r4_45 : List AOper := [ao 0 15 (.mv (.k (.i 1)))]
def r4_46 : List AOper := [ao 0 82 (.ld 3 true (.t 10)),
  ao 1 83 (.mv (.t 15)),
  ao 2 84 (.call (.k (.c (.fn 14 []))) [(.t 82), (.t 83)]),
  ao 3 15 (.mv (.t 84))]
def r4_47 : List AOper := [ao 0 85 (.mv (.t 11)),
  ao 1 86 (.mv (.t 15)),
  ao 2 87 (.call (.k (.c (.fn 24 []))) [(.t 85), (.t 86)]),
  ao 3 15 (.mv (.t 87))]
def r4_48 : List AOper := [ao 0 88 (.ld 6 true (.t 12)),
  ao 1 89 (.mv (.t 15)),
  ao 2 90 (.call (.k (.c (.fn 25 []))) [(.t 88), (.t 89)]),
  ao 3 15 (.mv (.t 90))]
def r4_49 : List AOper := [ao 0 91 (.mv (.t 15)),
  ao 1 92 (.bin .lss (.t 91) (.k (.i 0))),
  ao 2 93 (.mv (.t 92)),
  ag 3 94 93 false [] (.ld 3 true (.t 13)),
  ag 4 95 93 false [] (.ld 3 true (.t 8)),
  ag 5 96 93 false [] (.call (.k (.c (.fn 13 []))) [(.t 94), (.t 95)]),
  ag 6 97 93 false [] (.un .not (.t 96)),
  ao 7 98 (.pick (.t 93) (.k (.b true)) (.t 97)),
  ao 8 99 (.mv (.t 98)),
  ag 9 100 99 false [] (.mv (.t 14)),
  ag 10 101 99 false [] (.mv (.t 9)),
  ag 11 102 99 false [] (.bin .neq (.t 100) (.t 101)),
  ao 12 103 (.pick (.t 99) (.k (.b true)) (.t 102))]
def r4_50 : List AOper := [ao 0 6 (.mv (.k (.b false)))]
def c4_51 : ACode := .seq (.reg r4_50) .ret
def c4_52 : ACode := .cond (.t 103) c4_51 .skip
def c4_53 : ACode := .seq (.reg r4_49) c4_52
def r4_54 : List AOper := [ao 0 16 (.mv (.k (.i 1)))]
def r4_55 : List AOper := [ao 0 104 (.ld 3 true (.t 13)),
  ao 1 105 (.mv (.t 16)),
  ao 2 106 (.call (.k (.c (.fn 14 []))) [(.t 104), (.t 105)]),
  ao 3 16 (.mv (.t 106))]
def r4_56 : List AOper := [ao 0 17 (.mv (.k (.i 1)))]
def r4_57 : List AOper := [ao 0 107 (.ld 3 true (.t 13)),
  ao 1 108 (.mv (.t 17)),
  ao 2 109 (.call (.k (.c (.fn 15 []))) [(.t 107), (.t 108)]),
  ao 3 17 (.mv (.t 109))]
def r4_58 : List AOper := [ao 0 110 (.mv (.t 17)),
  ao 1 111 (.bin .lss (.t 110) (.k (.i 0)))]
def r4_59 : List AOper := [ao 0 6 (.mv (.k (.b false)))]
def c4_60 : ACode := .seq (.reg r4_59) .ret
def c4_61 : ACode := .cond (.t 111) c4_60 .skip
def c4_62 : ACode := .seq (.reg r4_58) c4_61
def r4_63 : List AOper := [ao 0 112 (.mv (.t 17)),
  ao 1 113 (.mv (.t 16)),
  ao 2 114 (.bin .neq (.t 112) (.t 113))]
def r4_64 : List AOper := [ao 0 6 (.mv (.k (.b false)))]
def c4_65 : ACode := .seq (.reg r4_64) .ret
def c4_66 : ACode := .cond (.t 114) c4_65 .skip
def c4_67 : ACode := .seq (.reg r4_63) c4_66
def r4_68 : List AOper := [ao 0 116 (.ld 3 true (.t 3)),
  ao 1 117 (.call (.k (.c (.fn 10 []))) [(.t 116)]),
  au 2 118 [0, 1] (.mv (.t 1)),
  ao 3 119 (.call (.k (.c (.fn 19 []))) [(.t 118)]),
  au 4 120 (ru 4) (.ld 6 true (.t 5)),
  ao 5 121 (.call (.k (.c (.fn 20 []))) [(.t 120)]),
  ao 6 122 (.call (.k (.c (.fn 21 []))) [(.t 117), (.t 119), (.t 121)]),
  ao 7 115 (.mv (.t 122)),
  ao 8 123 (.ext 0 (.t 115)),
  au 9 124 [8] (.ext 1 (.t 115)),
  au 10 18 (ru 10) (.alloc 34 [.nil0, .nil0, .nil0]),
  ax 11 none none [9] (.st 3 (.t 18) (.t 123)),
  ao 12 19 (.mv (.t 124))]
def r4_69 : List AOper := [ao 0 125 (.ld 3 true (.t 18)),
  ao 1 126 (.ld 3 true (.t 8)),
  ao 2 127 (.call (.k (.c (.fn 13 []))) [(.t 125), (.t 126)]),
  ao 3 128 (.un .not (.t 127)),
  ao 4 129 (.mv (.t 128)),
  ag 5 130 129 false [] (.mv (.t 19)),
  ag 6 131 129 false [] (.mv (.t 9)),
  ag 7 132 129 false [] (.bin .neq (.t 130) (.t 131)),
  ao 8 133 (.pick (.t 129) (.k (.b true)) (.t 132))]
def r4_70 : List AOper := [ao 0 6 (.mv (.k (.b false)))]
def c4_71 : ACode := .seq (.reg r4_70) .ret
def c4_72 : ACode := .cond (.t 133) c4_71 .skip
def c4_73 : ACode := .seq (.reg r4_69) c4_72
def r4_74 : List AOper := [ao 0 17 (.mv (.k (.i 1)))]
def r4_75 : List AOper := [ao 0 134 (.ld 3 true (.t 13)),
  ao 1 135 (.mv (.t 17)),
  ao 2 136 (.call (.k (.c (.fn 15 []))) [(.t 134), (.t 135)]),
  ao 3 17 (.mv (.t 136))]
def r4_76 : List AOper := [ao 0 137 (.mv (.t 17)),
  ao 1 138 (.bin .lss (.t 137) (.k (.i 0)))]
def r4_77 : List AOper := [ao 0 6 (.mv (.k (.b false)))]
def c4_78 : ACode := .seq (.reg r4_77) .ret
def c4_79 : ACode := .cond (.t 138) c4_78 .skip
def c4_80 : ACode := .seq (.reg r4_76) c4_79
def r4_81 : List AOper := [ao 0 139 (.mv (.t 17)),
  ao 1 140 (.mv (.t 16)),
  ao 2 141 (.bin .neq (.t 139) (.t 140))]
def r4_82 : List AOper := [ao 0 6 (.mv (.k (.b false)))]
def c4_83 : ACode := .seq (.reg r4_82) .ret
def c4_84 : ACode := .cond (.t 141) c4_83 .skip
def c4_85 : ACode := .seq (.reg r4_81) c4_84
def r4_86 : List AOper := [ao 0 6 (.mv (.k (.b true)))]
def c4 : ACode := .seq (.reg r4_0) (.seq (.reg r4_1) (.seq (.reg r4_2) (.seq c4_7 (.seq (.reg r4_8) (.seq c4_13 (.seq (.reg r4_14) (.seq c4_19 (.seq (.reg r4_20) (.seq (.reg r4_21) (.seq (.reg r4_22) (.seq (.reg r4_23) (.seq (.reg r4_24) (.seq c4_29 (.seq c4_34 (.seq c4_39 (.seq c4_44 (.seq (.reg r4_45) (.seq (.reg r4_46) (.seq (.reg r4_47) (.seq (.reg r4_48) (.seq c4_53 (.seq (.reg r4_54) (.seq (.reg r4_55) (.seq (.reg r4_56) (.seq (.reg r4_57) (.seq c4_62 (.seq c4_67 (.seq (.reg r4_68) (.seq c4_73 (.seq (.reg r4_74) (.seq (.reg r4_75) (.seq c4_80 (.seq c4_85 (.seq (.reg r4_86) .ret))))))))))))))))))))))))))))))))))
def s4 : List ARes := [.tmp 6]
theorem ok4 : okF Try.prog 4 142 c4 s4 := ⟨Try.f4, Try.func4, Try.ntmps4, by kernel_rfl, by kernel_rfl, by kernel_rfl⟩
theorem UGj_1 : (type_of% (uA c4.eq_1)) ∧ (type_of% (uR r4_0.eq_1)) ∧ (type_of% (uR r4_1.eq_1)) ∧ (type_of% (uR r4_2.eq_1)) ∧ (type_of% (uA c4_7.eq_1)) ∧ (type_of% (uR r4_3.eq_1)) ∧ (type_of% (uA c4_6.eq_1)) ∧ (type_of% (uA c4_5.eq_1)) ∧ (type_of% (uR r4_4.eq_1)) ∧ (type_of% (uR r4_8.eq_1)) ∧ (type_of% (uA c4_13.eq_1)) ∧ (type_of% (uR r4_9.eq_1)) ∧ (type_of% (uA c4_12.eq_1)) ∧ (type_of% (uA c4_11.eq_1)) ∧ (type_of% (uR r4_10.eq_1)) ∧ (type_of% (uR r4_14.eq_1)) ∧ (type_of% (uA c4_19.eq_1)) ∧ (type_of% (uR r4_15.eq_1)) ∧ (type_of% (uA c4_18.eq_1)) ∧ (type_of% (uA c4_17.eq_1)) ∧ (type_of% (uR r4_16.eq_1)) ∧ (type_of% (uR r4_20.eq_1)) ∧ (type_of% (uR r4_21.eq_1)) ∧ (type_of% (uR r4_22.eq_1)) ∧ (type_of% (uR r4_23.eq_1)) ∧ (type_of% (uR r4_24.eq_1)) ∧ (type_of% (uA c4_29.eq_1)) ∧ (type_of% (uR r4_25.eq_1)) ∧ (type_of% (uA c4_28.eq_1)) ∧ (type_of% (uA c4_27.eq_1)) ∧ (type_of% (uR r4_26.eq_1)) ∧ (type_of% (uA c4_34.eq_1)) ∧ (type_of% (uR r4_30.eq_1)) ∧ (type_of% (uA c4_33.eq_1)) ∧ (type_of% (uA c4_32.eq_1)) ∧ (type_of% (uR r4_31.eq_1)) ∧ (type_of% (uA c4_39.eq_1)) ∧ (type_of% (uR r4_35.eq_1)) ∧ (type_of% (uA c4_38.eq_1)) ∧ (type_of% (uA c4_37.eq_1)) ∧ (type_of% (uR r4_36.eq_1)) ∧ (type_of% (uA c4_44.eq_1)) ∧ (type_of% (uR r4_40.eq_1)) ∧ (type_of% (uA c4_43.eq_1)) ∧ (type_of% (uA c4_42.eq_1)) ∧ (type_of% (uR r4_41.eq_1)) ∧ (type_of% (uR r4_45.eq_1)) ∧ (type_of% (uR r4_46.eq_1)) ∧ (type_of% (uR r4_47.eq_1)) ∧ (type_of% (uR r4_48.eq_1)) ∧ (type_of% (uA c4_53.eq_1)) ∧ (type_of% (uR r4_49.eq_1)) ∧ (type_of% (uA c4_52.eq_1)) ∧ (type_of% (uA c4_51.eq_1)) ∧ (type_of% (uR r4_50.eq_1)) ∧ (type_of% (uR r4_54.eq_1)) ∧ (type_of% (uR r4_55.eq_1)) ∧ (type_of% (uR r4_56.eq_1)) ∧ (type_of% (uR r4_57.eq_1)) ∧ (type_of% (uA c4_62.eq_1)) ∧ (type_of% (uR r4_58.eq_1)) ∧ (type_of% (uA c4_61.eq_1)) ∧ (type_of% (uA c4_60.eq_1)) ∧ (type_of% (uR r4_59.eq_1)) ∧ (type_of% (uA c4_67.eq_1)) ∧ (type_of% (uR r4_63.eq_1)) ∧ (type_of% (uA c4_66.eq_1)) ∧ (type_of% (uA c4_65.eq_1)) ∧ (type_of% (uR r4_64.eq_1)) ∧ (type_of% (uR r4_68.eq_1)) ∧ (type_of% (uA c4_73.eq_1)) ∧ (type_of% (uR r4_69.eq_1)) ∧ (type_of% (uA c4_72.eq_1)) ∧ (type_of% (uA c4_71.eq_1)) ∧ (type_of% (uR r4_70.eq_1)) ∧ (type_of% (uR r4_74.eq_1)) ∧ (type_of% (uR r4_75.eq_1)) ∧ (type_of% (uA c4_80.eq_1)) ∧ (type_of% (uR r4_76.eq_1)) ∧ (type_of% (uA c4_79.eq_1)) ∧ (type_of% (uA c4_78.eq_1)) ∧ (type_of% (uR r4_77.eq_1)) ∧ (type_of% (uA c4_85.eq_1)) ∧ (type_of% (uR r4_81.eq_1)) ∧ (type_of% (uA c4_84.eq_1)) ∧ (type_of% (uA c4_83.eq_1)) ∧ (type_of% (uR r4_82.eq_1)) ∧ (type_of% (uR r4_86.eq_1)) ∧ (type_of% s4.eq_1) :=
  ⟨uA c4.eq_1, uR r4_0.eq_1, uR r4_1.eq_1, uR r4_2.eq_1, uA c4_7.eq_1, uR r4_3.eq_1, uA c4_6.eq_1, uA c4_5.eq_1, uR r4_4.eq_1, uR r4_8.eq_1, uA c4_13.eq_1, uR r4_9.eq_1, uA c4_12.eq_1, uA c4_11.eq_1, uR r4_10.eq_1, uR r4_14.eq_1, uA c4_19.eq_1, uR r4_15.eq_1, uA c4_18.eq_1, uA c4_17.eq_1, uR r4_16.eq_1, uR r4_20.eq_1, uR r4_21.eq_1, uR r4_22.eq_1, uR r4_23.eq_1, uR r4_24.eq_1, uA c4_29.eq_1, uR r4_25.eq_1, uA c4_28.eq_1, uA c4_27.eq_1, uR r4_26.eq_1, uA c4_34.eq_1, uR r4_30.eq_1, uA c4_33.eq_1, uA c4_32.eq_1, uR r4_31.eq_1, uA c4_39.eq_1, uR r4_35.eq_1, uA c4_38.eq_1, uA c4_37.eq_1, uR r4_36.eq_1, uA c4_44.eq_1, uR r4_40.eq_1, uA c4_43.eq_1, uA c4_42.eq_1, uR r4_41.eq_1, uR r4_45.eq_1, uR r4_46.eq_1, uR r4_47.eq_1, uR r4_48.eq_1, uA c4_53.eq_1, uR r4_49.eq_1, uA c4_52.eq_1, uA c4_51.eq_1, uR r4_50.eq_1, uR r4_54.eq_1, uR r4_55.eq_1, uR r4_56.eq_1, uR r4_57.eq_1, uA c4_62.eq_1, uR r4_58.eq_1, uA c4_61.eq_1, uA c4_60.eq_1, uR r4_59.eq_1, uA c4_67.eq_1, uR r4_63.eq_1, uA c4_66.eq_1, uA c4_65.eq_1, uR r4_64.eq_1, uR r4_68.eq_1, uA c4_73.eq_1, uR r4_69.eq_1, uA c4_72.eq_1, uA c4_71.eq_1, uR r4_70.eq_1, uR r4_74.eq_1, uR r4_75.eq_1, uA c4_80.eq_1, uR r4_76.eq_1, uA c4_79.eq_1, uA c4_78.eq_1, uR r4_77.eq_1, uA c4_85.eq_1, uR r4_81.eq_1, uA c4_84.eq_1, uA c4_83.eq_1, uR r4_82.eq_1, uR r4_86.eq_1, s4.eq_1⟩
set_option maxRecDepth 20000 in
set_option maxHeartbeats 4000000 in
theorem lawSD_ok (d : Dk) (ws : List DW) (a : LA) (ha : argDk d) (hwl : ws.length ≤ 9223372036854775807) (hw0 : ∀ w ∈ ws, okDW w) (hla : okLA a) : ACallsF Try.prog 4 [tDk d, tL (en eW ws), tLA a] [] (.b true) := by
  obtain ⟨q, hq, hC1⟩ := szDk_ok d 1048576 (by omega) ha.f ha.n ha.m
  rcases hq with rfl | ⟨q0, q1, q2⟩
  · refine ACallsF.intro ok4 follows fun X c0 => ?_
    simp only [RUN, core, T.c, T.s, T.b, T.i, sBin, sInt, sUn, isShift, asInt, P1.cells, loadT, ptrC, storeT, putC, fillP, Nat.reduceAdd, reduceIte, Nat.reduceEqDiff, Nat.reduceLT, Nat.reduceLeDiff, reduceCtorEq, eq_self, FIT, lendCs_map, verC_map, FinC, resPs, resP, lendPl, lendCs, lendC, sealC, partsT, finHs, tupT, verT, verP, verC, verB, verAt, Blk.ver, handsAre, forall_const, CHT, disj, Nat.reduceBEq, beq_self_eq_true, APT, srcOf, sealPs, sealCs, sealC, toVs, Option.map_some, List.mem_singleton, forall_eq, ALT, UGj_1]
    refine callC hC1 rfl rfl rfl rfl ?_
    simp only [RUN, core, T.c, T.s, T.b, T.i, sBin, sInt, sUn, isShift, asInt, P1.cells, loadT, ptrC, storeT, putC, fillP, Nat.reduceAdd, reduceIte, Nat.reduceEqDiff, Nat.reduceLT, Nat.reduceLeDiff, reduceCtorEq, eq_self, FIT, lendCs_map, verC_map, FinC, resPs, resP, lendPl, lendCs, lendC, sealC, partsT, finHs, tupT, verT, verP, verC, verB, verAt, Blk.ver, handsAre, forall_const, CHT, disj, Nat.reduceBEq, beq_self_eq_true, APT, srcOf, sealPs, sealCs, sealC, toVs, Option.map_some, List.mem_singleton, forall_eq, ALT, UGj_1, Int.reduceLT]
  have hd := fine_of q2
  have nq : ¬ q < 0 := by omega
  have hC2 := szDWs_ok ws q ⟨q0, q1⟩ hwl hw0
  by_cases hA : ((ws.length + wsum wW ws : Nat) : Int) ≤ q
  rotate_left
  · have e2 : sub1 q (ws.length + wsum wW ws) = -1 := by rw [sub1, if_neg hA]
    rw [e2] at hC2
    refine ACallsF.intro ok4 follows fun X c0 => ?_
    simp only [RUN, core, T.c, T.s, T.b, T.i, sBin, sInt, sUn, isShift, asInt, P1.cells, loadT, ptrC, storeT, putC, fillP, Nat.reduceAdd, reduceIte, Nat.reduceEqDiff, Nat.reduceLT, Nat.reduceLeDiff, reduceCtorEq, eq_self, FIT, lendCs_map, verC_map, FinC, resPs, resP, lendPl, lendCs, lendC, sealC, partsT, finHs, tupT, verT, verP, verC, verB, verAt, Blk.ver, handsAre, forall_const, CHT, disj, Nat.reduceBEq, beq_self_eq_true, APT, srcOf, sealPs, sealCs, sealC, toVs, Option.map_some, List.mem_singleton, forall_eq, ALT, UGj_1]
    refine callC hC1 rfl rfl rfl rfl ?_
    simp only [RUN, core, T.c, T.s, T.b, T.i, sBin, sInt, sUn, isShift, asInt, P1.cells, loadT, ptrC, storeT, putC, fillP, Nat.reduceAdd, reduceIte, Nat.reduceEqDiff, Nat.reduceLT, Nat.reduceLeDiff, reduceCtorEq, eq_self, FIT, lendCs_map, verC_map, FinC, resPs, resP, lendPl, lendCs, lendC, sealC, partsT, finHs, tupT, verT, verP, verC, verB, verAt, Blk.ver, handsAre, forall_const, CHT, disj, Nat.reduceBEq, beq_self_eq_true, APT, srcOf, sealPs, sealCs, sealC, toVs, Option.map_some, List.mem_singleton, forall_eq, ALT, UGj_1, nq]
    refine callC hC2 rfl rfl rfl rfl ?_
    simp only [RUN, core, T.c, T.s, T.b, T.i, sBin, sInt, sUn, isShift, asInt, P1.cells, loadT, ptrC, storeT, putC, fillP, Nat.reduceAdd, reduceIte, Nat.reduceEqDiff, Nat.reduceLT, Nat.reduceLeDiff, reduceCtorEq, eq_self, FIT, lendCs_map, verC_map, FinC, resPs, resP, lendPl, lendCs, lendC, sealC, partsT, finHs, tupT, verT, verP, verC, verB, verAt, Blk.ver, handsAre, forall_const, CHT, disj, Nat.reduceBEq, beq_self_eq_true, APT, srcOf, sealPs, sealCs, sealC, toVs, Option.map_some, List.mem_singleton, forall_eq, ALT, UGj_1, Int.reduceLT]
  have e2 : sub1 q (ws.length + wsum wW ws) = q - ((ws.length + wsum wW ws : Nat) : Int) := by rw [sub1, if_pos hA]
  rw [e2] at hC2
  have nq2 : ¬ q - ((ws.length + wsum wW ws : Nat) : Int) < 0 := by omega
  have hC3 := szLA_ok a (q - ((ws.length + wsum wW ws : Nat) : Int)) ⟨by omega, by omega⟩ hla
  by_cases hB : ((wLA a : Nat) : Int) ≤ q - ((ws.length + wsum wW ws : Nat) : Int)
  rotate_left
  · have e3 : sub1 (q - ((ws.length + wsum wW ws : Nat) : Int)) (wLA a) = -1 := by rw [sub1, if_neg hB]
    rw [e3] at hC3
    refine ACallsF.intro ok4 follows fun X c0 => ?_
    simp only [RUN, core, T.c, T.s, T.b, T.i, sBin, sInt, sUn, isShift, asInt, P1.cells, loadT, ptrC, storeT, putC, fillP, Nat.reduceAdd, reduceIte, Nat.reduceEqDiff, Nat.reduceLT, Nat.reduceLeDiff, reduceCtorEq, eq_self, FIT, lendCs_map, verC_map, FinC, resPs, resP, lendPl, lendCs, lendC, sealC, partsT, finHs, tupT, verT, verP, verC, verB, verAt, Blk.ver, handsAre, forall_const, CHT, disj, Nat.reduceBEq, beq_self_eq_true, APT, srcOf, sealPs, sealCs, sealC, toVs, Option.map_some, List.mem_singleton, forall_eq, ALT, UGj_1]
    refine callC hC1 rfl rfl rfl rfl ?_
    simp only [RUN, core, T.c, T.s, T.b, T.i, sBin, sInt, sUn, isShift, asInt, P1.cells, loadT, ptrC, storeT, putC, fillP, Nat.reduceAdd, reduceIte, Nat.reduceEqDiff, Nat.reduceLT, Nat.reduceLeDiff, reduceCtorEq, eq_self, FIT, lendCs_map, verC_map, FinC, resPs, resP, lendPl, lendCs, lendC, sealC, partsT, finHs, tupT, verT, verP, verC, verB, verAt, Blk.ver, handsAre, forall_const, CHT, disj, Nat.reduceBEq, beq_self_eq_true, APT, srcOf, sealPs, sealCs, sealC, toVs, Option.map_some, List.mem_singleton, forall_eq, ALT, UGj_1, nq]
    refine callC hC2 rfl rfl rfl rfl ?_
    simp only [RUN, core, T.c, T.s, T.b, T.i, sBin, sInt, sUn, isShift, asInt, P1.cells, loadT, ptrC, storeT, putC, fillP, Nat.reduceAdd, reduceIte, Nat.reduceEqDiff, Nat.reduceLT, Nat.reduceLeDiff, reduceCtorEq, eq_self, FIT, lendCs_map, verC_map, FinC, resPs, resP, lendPl, lendCs, lendC, sealC, partsT, finHs, tupT, verT, verP, verC, verB, verAt, Blk.ver, handsAre, forall_const, CHT, disj, Nat.reduceBEq, beq_self_eq_true, APT, srcOf, sealPs, sealCs, sealC, toVs, Option.map_some, List.mem_singleton, forall_eq, ALT, UGj_1, nq2]
    refine callC hC3 rfl rfl rfl rfl ?_
    simp only [RUN, core, T.c, T.s, T.b, T.i, sBin, sInt, sUn, isShift, asInt, P1.cells, loadT, ptrC, storeT, putC, fillP, Nat.reduceAdd, reduceIte, Nat.reduceEqDiff, Nat.reduceLT, Nat.reduceLeDiff, reduceCtorEq, eq_self, FIT, lendCs_map, verC_map, FinC, resPs, resP, lendPl, lendCs, lendC, sealC, partsT, finHs, tupT, verT, verP, verC, verB, verAt, Blk.ver, handsAre, forall_const, CHT, disj, Nat.reduceBEq, beq_self_eq_true, APT, srcOf, sealPs, sealCs, sealC, toVs, Option.map_some, List.mem_singleton, forall_eq, ALT, UGj_1, Int.reduceLT]
  have e3 : sub1 (q - ((ws.length + wsum wW ws : Nat) : Int)) (wLA a) = q - ((ws.length + wsum wW ws : Nat) : Int) - (wLA a : Int) := by rw [sub1, if_pos hB]
  rw [e3] at hC3
  have nq3 : ¬ q - ((ws.length + wsum wW ws : Nat) : Int) - (wLA a : Int) < 0 := by omega
  have hAl : wLA a = a.data.size + a.keep.length := rfl
  have hw : ∀ w ∈ ws, fineDW w := fun w hm => by
    have := wsum_mem wW hm
    have e : wW w = w.name.size + w.data.size := rfl
    exact ⟨by omega, by omega⟩
  obtain ⟨r, hr, hCS⟩ := stS_ok d ws a hd (by omega) hw
  obtain ⟨r', hr', hlen, hCI⟩ := stI_ok d ws a hd (by omega) hw
  cases st_det hr hr'
  have hto := toDk_ok d hd.s
  have htw := toDWs_ok ws (by omega)
  have hta := toLA_ok a (by omega)
  have hrs : smallDk r.1 := ⟨by omega, by omega, by omega⟩
  have hE1 := eqDk_ok r.1 hrs
  have hE2 := eqDk_ok d hd.s
  have hE3 := eqDWs_ok ws (by omega)
  have hE4 := eqLA_ok a (by omega)
  have hds := hd.s
  have s1 := hds.f
  have s2 := hds.n
  have s3 := hds.m
  have hkx : mkN 1 d ≤ 10000000 := by unfold mkN; omega
  have hk1 : 1 ≤ mkN 1 d := by unfold mkN; omega
  have hkg : mkN 1 r.1 ≤ 100000000 := by unfold mkN; omega
  have nkx : ¬ ((mkN 1 d + 3 * ws.length + 1 * a.keep.length : Nat) : Int) < 0 := by omega
  have nkg : ¬ ((mkN 1 r.1 : Nat) : Int) < 0 := by omega
  have hM2 := markDWs_ok ws (mkN 1 d) hk1 (by omega)
  have hM3 := markLA_ok a (mkN 1 d + 3 * ws.length) (by omega) (by omega)
  have hH := heldDk_ok r.1 1 (by omega) hkg
  have nn : (r.2 != r.2) = false := by simp
  have nm : (((mkN 1 r.1 : Nat) : Int) != ((mkN 1 r.1 : Nat) : Int)) = false := by simp
  obtain ⟨rd, rc⟩ := r
  refine ACallsF.intro ok4 follows fun X c0 => ?_
  simp only [RUN, core, T.c, T.s, T.b, T.i, sBin, sInt, sUn, isShift, asInt, P1.cells, loadT, ptrC, storeT, putC, fillP, Nat.reduceAdd, reduceIte, Nat.reduceEqDiff, Nat.reduceLT, Nat.reduceLeDiff, reduceCtorEq, eq_self, FIT, lendCs_map, verC_map, FinC, resPs, resP, lendPl, lendCs, lendC, sealC, partsT, finHs, tupT, verT, verP, verC, verB, verAt, Blk.ver, handsAre, forall_const, CHT, disj, Nat.reduceBEq, beq_self_eq_true, APT, srcOf, sealPs, sealCs, sealC, toVs, Option.map_some, List.mem_singleton, forall_eq, ALT, UGj_1]
  refine callC hC1 rfl rfl rfl rfl ?_
  simp only [RUN, core, T.c, T.s, T.b, T.i, sBin, sInt, sUn, isShift, asInt, P1.cells, loadT, ptrC, storeT, putC, fillP, Nat.reduceAdd, reduceIte, Nat.reduceEqDiff, Nat.reduceLT, Nat.reduceLeDiff, reduceCtorEq, eq_self, FIT, lendCs_map, verC_map, FinC, resPs, resP, lendPl, lendCs, lendC, sealC, partsT, finHs, tupT, verT, verP, verC, verB, verAt, Blk.ver, handsAre, forall_const, CHT, disj, Nat.reduceBEq, beq_self_eq_true, APT, srcOf, sealPs, sealCs, sealC, toVs, Option.map_some, List.mem_singleton, forall_eq, ALT, UGj_1, nq]
  refine callC hC2 rfl rfl rfl rfl ?_
  simp only [RUN, core, T.c, T.s, T.b, T.i, sBin, sInt, sUn, isShift, asInt, P1.cells, loadT, ptrC, storeT, putC, fillP, Nat.reduceAdd, reduceIte, Nat.reduceEqDiff, Nat.reduceLT, Nat.reduceLeDiff, reduceCtorEq, eq_self, FIT, lendCs_map, verC_map, FinC, resPs, resP, lendPl, lendCs, lendC, sealC, partsT, finHs, tupT, verT, verP, verC, verB, verAt, Blk.ver, handsAre, forall_const, CHT, disj, Nat.reduceBEq, beq_self_eq_true, APT, srcOf, sealPs, sealCs, sealC, toVs, Option.map_some, List.mem_singleton, forall_eq, ALT, UGj_1, nq2]
  refine callC hC3 rfl rfl rfl rfl ?_
  simp only [RUN, core, T.c, T.s, T.b, T.i, sBin, sInt, sUn, isShift, asInt, P1.cells, loadT, ptrC, storeT, putC, fillP, Nat.reduceAdd, reduceIte, Nat.reduceEqDiff, Nat.reduceLT, Nat.reduceLeDiff, reduceCtorEq, eq_self, FIT, lendCs_map, verC_map, FinC, resPs, resP, lendPl, lendCs, lendC, sealC, partsT, finHs, tupT, verT, verP, verC, verB, verAt, Blk.ver, handsAre, forall_const, CHT, disj, Nat.reduceBEq, beq_self_eq_true, APT, srcOf, sealPs, sealCs, sealC, toVs, Option.map_some, List.mem_singleton, forall_eq, ALT, UGj_1, nq3]
  refine callDk (ws := []) (ns := []) (hto 1001 1002 1003) rfl rfl rfl (by decide) ⟨rfl, ?_⟩
  simp only [RUN, core, T.c, T.s, T.b, T.i, sBin, sInt, sUn, isShift, asInt, P1.cells, loadT, ptrC, storeT, putC, fillP, Nat.reduceAdd, reduceIte, Nat.reduceEqDiff, Nat.reduceLT, Nat.reduceLeDiff, reduceCtorEq, eq_self, FIT, lendCs_map, verC_map, FinC, resPs, resP, lendPl, lendCs, lendC, sealC, partsT, finHs, tupT, verT, verP, verC, verB, verAt, Blk.ver, handsAre, forall_const, CHT, disj, Nat.reduceBEq, beq_self_eq_true, APT, srcOf, sealPs, sealCs, sealC, toVs, Option.map_some, List.mem_singleton, forall_eq, ALT, UGj_1]
  refine callA1 (m := 1004) (ws := []) (ns := []) (htw 1004) rfl rfl rfl (en_flat eW eW_flat _) ⟨?_, ?_⟩
  · simp only [RUN, core, T.c, T.s, T.b, T.i, sBin, sInt, sUn, isShift, asInt, P1.cells, loadT, ptrC, storeT, putC, fillP, Nat.reduceAdd, reduceIte, Nat.reduceEqDiff, Nat.reduceLT, Nat.reduceLeDiff, reduceCtorEq, eq_self, FIT, lendCs_map, verC_map, FinC, resPs, resP, lendPl, lendCs, lendC, sealC, partsT, finHs, tupT, verT, verP, verC, verB, verAt, Blk.ver, handsAre, forall_const, CHT, disj, Nat.reduceBEq, beq_self_eq_true, APT, srcOf, sealPs, sealCs, sealC, toVs, Option.map_some, List.mem_singleton, forall_eq, ALT, UGj_1]
  simp only [RUN, core, T.c, T.s, T.b, T.i, sBin, sInt, sUn, isShift, asInt, P1.cells, loadT, ptrC, storeT, putC, fillP, Nat.reduceAdd, reduceIte, Nat.reduceEqDiff, Nat.reduceLT, Nat.reduceLeDiff, reduceCtorEq, eq_self, FIT, lendCs_map, verC_map, FinC, resPs, resP, lendPl, lendCs, lendC, sealC, partsT, finHs, tupT, verT, verP, verC, verB, verAt, Blk.ver, handsAre, forall_const, CHT, disj, Nat.reduceBEq, beq_self_eq_true, APT, srcOf, sealPs, sealCs, sealC, toVs, Option.map_some, List.mem_singleton, forall_eq, ALT, UGj_1]
  refine callLAc (m := 1005) (ws := []) (ns := []) (hta 1005) rfl rfl rfl ⟨?_, ?_⟩
  · simp only [RUN, core, T.c, T.s, T.b, T.i, sBin, sInt, sUn, isShift, asInt, P1.cells, loadT, ptrC, storeT, putC, fillP, Nat.reduceAdd, reduceIte, Nat.reduceEqDiff, Nat.reduceLT, Nat.reduceLeDiff, reduceCtorEq, eq_self, FIT, lendCs_map, verC_map, FinC, resPs, resP, lendPl, lendCs, lendC, sealC, partsT, finHs, tupT, verT, verP, verC, verB, verAt, Blk.ver, handsAre, forall_const, CHT, disj, Nat.reduceBEq, beq_self_eq_true, APT, srcOf, sealPs, sealCs, sealC, toVs, Option.map_some, List.mem_singleton, forall_eq, ALT, UGj_1]
  simp only [RUN, core, T.c, T.s, T.b, T.i, sBin, sInt, sUn, isShift, asInt, P1.cells, loadT, ptrC, storeT, putC, fillP, Nat.reduceAdd, reduceIte, Nat.reduceEqDiff, Nat.reduceLT, Nat.reduceLeDiff, reduceCtorEq, eq_self, FIT, lendCs_map, verC_map, FinC, resPs, resP, lendPl, lendCs, lendC, sealC, partsT, finHs, tupT, verT, verP, verC, verB, verAt, Blk.ver, handsAre, forall_const, CHT, disj, Nat.reduceBEq, beq_self_eq_true, APT, srcOf, sealPs, sealCs, sealC, toVs, Option.map_some, List.mem_singleton, forall_eq, ALT, UGj_1]
  refine callL (ws := dkL 1001 _ 1002 _ 1003 _ d ++ (wL 1004 _ ws ++ aL 1005 _ a)) (ns := [1001, 1002, 1003, 1004, 1005]) hCS rfl (lend5 rfl rfl rfl rfl rfl rfl rfl rfl rfl rfl) rfl rfl ⟨?_, ?_⟩
  · simp only [RUN, core, T.c, T.s, T.b, T.i, sBin, sInt, sUn, isShift, asInt, P1.cells, loadT, ptrC, storeT, putC, fillP, Nat.reduceAdd, reduceIte, Nat.reduceEqDiff, Nat.reduceLT, Nat.reduceLeDiff, reduceCtorEq, eq_self, FIT, lendCs_map, verC_map, FinC, resPs, resP, lendPl, lendCs, lendC, sealC, partsT, finHs, tupT, verT, verP, verC, verB, verAt, Blk.ver, handsAre, forall_const, CHT, disj, Nat.reduceBEq, beq_self_eq_true, APT, srcOf, sealPs, sealCs, sealC, toVs, Option.map_some, List.mem_singleton, forall_eq, ALT, UGj_1]
  simp only [RUN, core, T.c, T.s, T.b, T.i, sBin, sInt, sUn, isShift, asInt, P1.cells, loadT, ptrC, storeT, putC, fillP, Nat.reduceAdd, reduceIte, Nat.reduceEqDiff, Nat.reduceLT, Nat.reduceLeDiff, reduceCtorEq, eq_self, FIT, lendCs_map, verC_map, FinC, resPs, resP, lendPl, lendCs, lendC, sealC, partsT, finHs, tupT, verT, verP, verC, verB, verAt, Blk.ver, handsAre, forall_const, CHT, disj, Nat.reduceBEq, beq_self_eq_true, APT, srcOf, sealPs, sealCs, sealC, toVs, Option.map_some, List.mem_singleton, forall_eq, ALT, UGj_1, scalarT, scalarP, scalarC, List.all_cons, Bool.false_and]
  refine callDk (ws := []) (ns := []) (hto 1101 1102 1103) rfl rfl rfl (by decide) ⟨rfl, ?_⟩
  simp only [RUN, core, T.c, T.s, T.b, T.i, sBin, sInt, sUn, isShift, asInt, P1.cells, loadT, ptrC, storeT, putC, fillP, Nat.reduceAdd, reduceIte, Nat.reduceEqDiff, Nat.reduceLT, Nat.reduceLeDiff, reduceCtorEq, eq_self, FIT, lendCs_map, verC_map, FinC, resPs, resP, lendPl, lendCs, lendC, sealC, partsT, finHs, tupT, verT, verP, verC, verB, verAt, Blk.ver, handsAre, forall_const, CHT, disj, Nat.reduceBEq, beq_self_eq_true, APT, srcOf, sealPs, sealCs, sealC, toVs, Option.map_some, List.mem_singleton, forall_eq, ALT, UGj_1]
  refine callA1 (m := 1104) (ws := []) (ns := []) (htw 1104) rfl rfl rfl (en_flat eW eW_flat _) ⟨rfl, ?_⟩
  simp only [RUN, core, T.c, T.s, T.b, T.i, sBin, sInt, sUn, isShift, asInt, P1.cells, loadT, ptrC, storeT, putC, fillP, Nat.reduceAdd, reduceIte, Nat.reduceEqDiff, Nat.reduceLT, Nat.reduceLeDiff, reduceCtorEq, eq_self, FIT, lendCs_map, verC_map, FinC, resPs, resP, lendPl, lendCs, lendC, sealC, partsT, finHs, tupT, verT, verP, verC, verB, verAt, Blk.ver, handsAre, forall_const, CHT, disj, Nat.reduceBEq, beq_self_eq_true, APT, srcOf, sealPs, sealCs, sealC, toVs, Option.map_some, List.mem_singleton, forall_eq, ALT, UGj_1]
  refine callLAc (m := 1105) (ws := []) (ns := []) (hta 1105) rfl rfl rfl ⟨rfl, ?_⟩
  simp only [RUN, core, T.c, T.s, T.b, T.i, sBin, sInt, sUn, isShift, asInt, P1.cells, loadT, ptrC, storeT, putC, fillP, Nat.reduceAdd, reduceIte, Nat.reduceEqDiff, Nat.reduceLT, Nat.reduceLeDiff, reduceCtorEq, eq_self, FIT, lendCs_map, verC_map, FinC, resPs, resP, lendPl, lendCs, lendC, sealC, partsT, finHs, tupT, verT, verP, verC, verB, verAt, Blk.ver, handsAre, forall_const, CHT, disj, Nat.reduceBEq, beq_self_eq_true, APT, srcOf, sealPs, sealCs, sealC, toVs, Option.map_some, List.mem_singleton, forall_eq, ALT, UGj_1]
  refine callDkI (ws := dkL 1101 _ 1102 _ 1103 _ d ++ (wL 1104 _ ws ++ aL 1105 _ a)) (ns := [1101, 1102, 1103, 1104, 1105]) (hCI 1201 1202 1203) rfl (lend5 rfl rfl rfl rfl rfl rfl rfl rfl rfl rfl) rfl (by decide) ⟨?_, ?_⟩
  · simp only [RUN, core, T.c, T.s, T.b, T.i, sBin, sInt, sUn, isShift, asInt, P1.cells, loadT, ptrC, storeT, putC, fillP, Nat.reduceAdd, reduceIte, Nat.reduceEqDiff, Nat.reduceLT, Nat.reduceLeDiff, reduceCtorEq, eq_self, FIT, lendCs_map, verC_map, FinC, resPs, resP, lendPl, lendCs, lendC, sealC, partsT, finHs, tupT, verT, verP, verC, verB, verAt, Blk.ver, handsAre, forall_const, CHT, disj, Nat.reduceBEq, beq_self_eq_true, APT, srcOf, sealPs, sealCs, sealC, toVs, Option.map_some, List.mem_singleton, forall_eq, ALT, UGj_1]
  simp only [RUN, core, T.c, T.s, T.b, T.i, sBin, sInt, sUn, isShift, asInt, P1.cells, loadT, ptrC, storeT, putC, fillP, Nat.reduceAdd, reduceIte, Nat.reduceEqDiff, Nat.reduceLT, Nat.reduceLeDiff, reduceCtorEq, eq_self, FIT, lendCs_map, verC_map, FinC, resPs, resP, lendPl, lendCs, lendC, sealC, partsT, finHs, tupT, verT, verP, verC, verB, verAt, Blk.ver, handsAre, forall_const, CHT, disj, Nat.reduceBEq, beq_self_eq_true, APT, srcOf, sealPs, sealCs, sealC, toVs, Option.map_some, List.mem_singleton, forall_eq, ALT, UGj_1]
  refine callL (ws := dkL 1201 _ 1202 _ 1203 _ rd) (ns := [1201, 1202, 1203]) hE1 rfl (lend1 rfl rfl rfl rfl rfl rfl rfl) rfl rfl ⟨?_, ?_⟩
  · simp only [RUN, core, T.c, T.s, T.b, T.i, sBin, sInt, sUn, isShift, asInt, P1.cells, loadT, ptrC, storeT, putC, fillP, Nat.reduceAdd, reduceIte, Nat.reduceEqDiff, Nat.reduceLT, Nat.reduceLeDiff, reduceCtorEq, eq_self, FIT, lendCs_map, verC_map, FinC, resPs, resP, lendPl, lendCs, lendC, sealC, partsT, finHs, tupT, verT, verP, verC, verB, verAt, Blk.ver, handsAre, forall_const, CHT, disj, Nat.reduceBEq, beq_self_eq_true, APT, srcOf, sealPs, sealCs, sealC, toVs, Option.map_some, List.mem_singleton, forall_eq, ALT, UGj_1, scalarT, scalarP, scalarC]
  simp only [RUN, core, T.c, T.s, T.b, T.i, sBin, sInt, sUn, isShift, asInt, P1.cells, loadT, ptrC, storeT, putC, fillP, Nat.reduceAdd, reduceIte, Nat.reduceEqDiff, Nat.reduceLT, Nat.reduceLeDiff, reduceCtorEq, eq_self, FIT, lendCs_map, verC_map, FinC, resPs, resP, lendPl, lendCs, lendC, sealC, partsT, finHs, tupT, verT, verP, verC, verB, verAt, Blk.ver, handsAre, forall_const, CHT, disj, Nat.reduceBEq, beq_self_eq_true, APT, srcOf, sealPs, sealCs, sealC, toVs, Option.map_some, List.mem_singleton, forall_eq, ALT, UGj_1, scalarT, scalarP, scalarC, nn]
  refine callDk (ws := []) (ns := []) (hto 1301 1302 1303) rfl rfl rfl (by decide) ⟨?_, ?_⟩
  · simp only [RUN, core, T.c, T.s, T.b, T.i, sBin, sInt, sUn, isShift, asInt, P1.cells, loadT, ptrC, storeT, putC, fillP, Nat.reduceAdd, reduceIte, Nat.reduceEqDiff, Nat.reduceLT, Nat.reduceLeDiff, reduceCtorEq, eq_self, FIT, lendCs_map, verC_map, FinC, resPs, resP, lendPl, lendCs, lendC, sealC, partsT, finHs, tupT, verT, verP, verC, verB, verAt, Blk.ver, handsAre, forall_const, CHT, disj, Nat.reduceBEq, beq_self_eq_true, APT, srcOf, sealPs, sealCs, sealC, toVs, Option.map_some, List.mem_singleton, forall_eq, ALT, UGj_1]
  simp only [RUN, core, T.c, T.s, T.b, T.i, sBin, sInt, sUn, isShift, asInt, P1.cells, loadT, ptrC, storeT, putC, fillP, Nat.reduceAdd, reduceIte, Nat.reduceEqDiff, Nat.reduceLT, Nat.reduceLeDiff, reduceCtorEq, eq_self, FIT, lendCs_map, verC_map, FinC, resPs, resP, lendPl, lendCs, lendC, sealC, partsT, finHs, tupT, verT, verP, verC, verB, verAt, Blk.ver, handsAre, forall_const, CHT, disj, Nat.reduceBEq, beq_self_eq_true, APT, srcOf, sealPs, sealCs, sealC, toVs, Option.map_some, List.mem_singleton, forall_eq, ALT, UGj_1]
  refine callL (ws := dkL 1101 _ 1102 _ 1103 _ d ++ dkL 1301 _ 1302 _ 1303 _ d) (ns := [1101, 1102, 1103, 1301, 1302, 1303]) hE2 rfl (lend2 rfl rfl rfl rfl rfl rfl) rfl rfl ⟨?_, ?_⟩
  · simp only [RUN, core, T.c, T.s, T.b, T.i, sBin, sInt, sUn, isShift, asInt, P1.cells, loadT, ptrC, storeT, putC, fillP, Nat.reduceAdd, reduceIte, Nat.reduceEqDiff, Nat.reduceLT, Nat.reduceLeDiff, reduceCtorEq, eq_self, FIT, lendCs_map, verC_map, FinC, resPs, resP, lendPl, lendCs, lendC, sealC, partsT, finHs, tupT, verT, verP, verC, verB, verAt, Blk.ver, handsAre, forall_const, CHT, disj, Nat.reduceBEq, beq_self_eq_true, APT, srcOf, sealPs, sealCs, sealC, toVs, Option.map_some, List.mem_singleton, forall_eq, ALT, UGj_1, scalarT, scalarP, scalarC]
  simp only [RUN, core, T.c, T.s, T.b, T.i, sBin, sInt, sUn, isShift, asInt, P1.cells, loadT, ptrC, storeT, putC, fillP, Nat.reduceAdd, reduceIte, Nat.reduceEqDiff, Nat.reduceLT, Nat.reduceLeDiff, reduceCtorEq, eq_self, FIT, lendCs_map, verC_map, FinC, resPs, resP, lendPl, lendCs, lendC, sealC, partsT, finHs, tupT, verT, verP, verC, verB, verAt, Blk.ver, handsAre, forall_const, CHT, disj, Nat.reduceBEq, beq_self_eq_true, APT, srcOf, sealPs, sealCs, sealC, toVs, Option.map_some, List.mem_singleton, forall_eq, ALT, UGj_1, scalarT, scalarP, scalarC]
  refine callA1 (m := 1304) (ws := []) (ns := []) (htw 1304) rfl rfl rfl (en_flat eW eW_flat _) ⟨?_, ?_⟩
  · simp only [RUN, core, T.c, T.s, T.b, T.i, sBin, sInt, sUn, isShift, asInt, P1.cells, loadT, ptrC, storeT, putC, fillP, Nat.reduceAdd, reduceIte, Nat.reduceEqDiff, Nat.reduceLT, Nat.reduceLeDiff, reduceCtorEq, eq_self, FIT, lendCs_map, verC_map, FinC, resPs, resP, lendPl, lendCs, lendC, sealC, partsT, finHs, tupT, verT, verP, verC, verB, verAt, Blk.ver, handsAre, forall_const, CHT, disj, Nat.reduceBEq, beq_self_eq_true, APT, srcOf, sealPs, sealCs, sealC, toVs, Option.map_some, List.mem_singleton, forall_eq, ALT, UGj_1]
  simp only [RUN, core, T.c, T.s, T.b, T.i, sBin, sInt, sUn, isShift, asInt, P1.cells, loadT, ptrC, storeT, putC, fillP, Nat.reduceAdd, reduceIte, Nat.reduceEqDiff, Nat.reduceLT, Nat.reduceLeDiff, reduceCtorEq, eq_self, FIT, lendCs_map, verC_map, FinC, resPs, resP, lendPl, lendCs, lendC, sealC, partsT, finHs, tupT, verT, verP, verC, verB, verAt, Blk.ver, handsAre, forall_const, CHT, disj, Nat.reduceBEq, beq_self_eq_true, APT, srcOf, sealPs, sealCs, sealC, toVs, Option.map_some, List.mem_singleton, forall_eq, ALT, UGj_1]
  refine callL (ws := wL 1104 _ ws ++ wL 1304 _ ws) (ns := [1104, 1304]) hE3 rfl (lend2W rfl rfl rfl rfl) rfl rfl ⟨?_, ?_⟩
  · simp only [RUN, core, T.c, T.s, T.b, T.i, sBin, sInt, sUn, isShift, asInt, P1.cells, loadT, ptrC, storeT, putC, fillP, Nat.reduceAdd, reduceIte, Nat.reduceEqDiff, Nat.reduceLT, Nat.reduceLeDiff, reduceCtorEq, eq_self, FIT, lendCs_map, verC_map, FinC, resPs, resP, lendPl, lendCs, lendC, sealC, partsT, finHs, tupT, verT, verP, verC, verB, verAt, Blk.ver, handsAre, forall_const, CHT, disj, Nat.reduceBEq, beq_self_eq_true, APT, srcOf, sealPs, sealCs, sealC, toVs, Option.map_some, List.mem_singleton, forall_eq, ALT, UGj_1, scalarT, scalarP, scalarC]
  simp only [RUN, core, T.c, T.s, T.b, T.i, sBin, sInt, sUn, isShift, asInt, P1.cells, loadT, ptrC, storeT, putC, fillP, Nat.reduceAdd, reduceIte, Nat.reduceEqDiff, Nat.reduceLT, Nat.reduceLeDiff, reduceCtorEq, eq_self, FIT, lendCs_map, verC_map, FinC, resPs, resP, lendPl, lendCs, lendC, sealC, partsT, finHs, tupT, verT, verP, verC, verB, verAt, Blk.ver, handsAre, forall_const, CHT, disj, Nat.reduceBEq, beq_self_eq_true, APT, srcOf, sealPs, sealCs, sealC, toVs, Option.map_some, List.mem_singleton, forall_eq, ALT, UGj_1, scalarT, scalarP, scalarC]
  refine callLAc (m := 1305) (ws := []) (ns := []) (hta 1305) rfl rfl rfl ⟨?_, ?_⟩
  · simp only [RUN, core, T.c, T.s, T.b, T.i, sBin, sInt, sUn, isShift, asInt, P1.cells, loadT, ptrC, storeT, putC, fillP, Nat.reduceAdd, reduceIte, Nat.reduceEqDiff, Nat.reduceLT, Nat.reduceLeDiff, reduceCtorEq, eq_self, FIT, lendCs_map, verC_map, FinC, resPs, resP, lendPl, lendCs, lendC, sealC, partsT, finHs, tupT, verT, verP, verC, verB, verAt, Blk.ver, handsAre, forall_const, CHT, disj, Nat.reduceBEq, beq_self_eq_true, APT, srcOf, sealPs, sealCs, sealC, toVs, Option.map_some, List.mem_singleton, forall_eq, ALT, UGj_1]
  simp only [RUN, core, T.c, T.s, T.b, T.i, sBin, sInt, sUn, isShift, asInt, P1.cells, loadT, ptrC, storeT, putC, fillP, Nat.reduceAdd, reduceIte, Nat.reduceEqDiff, Nat.reduceLT, Nat.reduceLeDiff, reduceCtorEq, eq_self, FIT, lendCs_map, verC_map, FinC, resPs, resP, lendPl, lendCs, lendC, sealC, partsT, finHs, tupT, verT, verP, verC, verB, verAt, Blk.ver, handsAre, forall_const, CHT, disj, Nat.reduceBEq, beq_self_eq_true, APT, srcOf, sealPs, sealCs, sealC, toVs, Option.map_some, List.mem_singleton, forall_eq, ALT, UGj_1]
  refine callL (ws := aL 1105 _ a ++ aL 1305 _ a) (ns := [1105, 1305]) hE4 rfl (lend2A rfl rfl rfl rfl) rfl rfl ⟨?_, ?_⟩
  · simp only [RUN, core, T.c, T.s, T.b, T.i, sBin, sInt, sUn, isShift, asInt, P1.cells, loadT, ptrC, storeT, putC, fillP, Nat.reduceAdd, reduceIte, Nat.reduceEqDiff, Nat.reduceLT, Nat.reduceLeDiff, reduceCtorEq, eq_self, FIT, lendCs_map, verC_map, FinC, resPs, resP, lendPl, lendCs, lendC, sealC, partsT, finHs, tupT, verT, verP, verC, verB, verAt, Blk.ver, handsAre, forall_const, CHT, disj, Nat.reduceBEq, beq_self_eq_true, APT, srcOf, sealPs, sealCs, sealC, toVs, Option.map_some, List.mem_singleton, forall_eq, ALT, UGj_1, scalarT, scalarP, scalarC]
  simp only [RUN, core, T.c, T.s, T.b, T.i, sBin, sInt, sUn, isShift, asInt, P1.cells, loadT, ptrC, storeT, putC, fillP, Nat.reduceAdd, reduceIte, Nat.reduceEqDiff, Nat.reduceLT, Nat.reduceLeDiff, reduceCtorEq, eq_self, FIT, lendCs_map, verC_map, FinC, resPs, resP, lendPl, lendCs, lendC, sealC, partsT, finHs, tupT, verT, verP, verC, verB, verAt, Blk.ver, handsAre, forall_const, CHT, disj, Nat.reduceBEq, beq_self_eq_true, APT, srcOf, sealPs, sealCs, sealC, toVs, Option.map_some, List.mem_singleton, forall_eq, ALT, UGj_1, scalarT, scalarP, scalarC]
  refine callMk (markDk_ok d 1 (by omega) (by omega) 1101 1102 1103 _ _ _) rfl rfl rfl rfl (by decide) rfl rfl rfl ⟨rfl, ?_⟩
  simp only [RUN, core, T.c, T.s, T.b, T.i, sBin, sInt, sUn, isShift, asInt, P1.cells, loadT, ptrC, storeT, putC, fillP, Nat.reduceAdd, reduceIte, Nat.reduceEqDiff, Nat.reduceLT, Nat.reduceLeDiff, reduceCtorEq, eq_self, FIT, lendCs_map, verC_map, FinC, resPs, resP, lendPl, lendCs, lendC, sealC, partsT, finHs, tupT, verT, verP, verC, verB, verAt, Blk.ver, handsAre, forall_const, CHT, disj, Nat.reduceBEq, beq_self_eq_true, APT, srcOf, sealPs, sealCs, sealC, toVs, Option.map_some, List.mem_singleton, forall_eq, ALT, UGj_1]
  refine callM1 (m := 1104) (hM2 1104 _) rfl rfl rfl rfl rfl ⟨rfl, ?_⟩
  simp only [RUN, core, T.c, T.s, T.b, T.i, sBin, sInt, sUn, isShift, asInt, P1.cells, loadT, ptrC, storeT, putC, fillP, Nat.reduceAdd, reduceIte, Nat.reduceEqDiff, Nat.reduceLT, Nat.reduceLeDiff, reduceCtorEq, eq_self, FIT, lendCs_map, verC_map, FinC, resPs, resP, lendPl, lendCs, lendC, sealC, partsT, finHs, tupT, verT, verP, verC, verB, verAt, Blk.ver, handsAre, forall_const, CHT, disj, Nat.reduceBEq, beq_self_eq_true, APT, srcOf, sealPs, sealCs, sealC, toVs, Option.map_some, List.mem_singleton, forall_eq, ALT, UGj_1]
  refine callMa (m := 1105) (hM3 1105 _) rfl rfl rfl rfl rfl ⟨rfl, ?_⟩
  simp only [RUN, core, T.c, T.s, T.b, T.i, sBin, sInt, sUn, isShift, asInt, P1.cells, loadT, ptrC, storeT, putC, fillP, Nat.reduceAdd, reduceIte, Nat.reduceEqDiff, Nat.reduceLT, Nat.reduceLeDiff, reduceCtorEq, eq_self, FIT, lendCs_map, verC_map, FinC, resPs, resP, lendPl, lendCs, lendC, sealC, partsT, finHs, tupT, verT, verP, verC, verB, verAt, Blk.ver, handsAre, forall_const, CHT, disj, Nat.reduceBEq, beq_self_eq_true, APT, srcOf, sealPs, sealCs, sealC, toVs, Option.map_some, List.mem_singleton, forall_eq, ALT, UGj_1, nkx]
  refine callL (ws := dkL 1201 _ 1202 _ 1203 _ rd) (ns := [1201, 1202, 1203]) hE1 rfl (lend1 rfl rfl rfl rfl rfl rfl rfl) rfl rfl ⟨?_, ?_⟩
  · simp only [RUN, core, T.c, T.s, T.b, T.i, sBin, sInt, sUn, isShift, asInt, P1.cells, loadT, ptrC, storeT, putC, fillP, Nat.reduceAdd, reduceIte, Nat.reduceEqDiff, Nat.reduceLT, Nat.reduceLeDiff, reduceCtorEq, eq_self, FIT, lendCs_map, verC_map, FinC, resPs, resP, lendPl, lendCs, lendC, sealC, partsT, finHs, tupT, verT, verP, verC, verB, verAt, Blk.ver, handsAre, forall_const, CHT, disj, Nat.reduceBEq, beq_self_eq_true, APT, srcOf, sealPs, sealCs, sealC, toVs, Option.map_some, List.mem_singleton, forall_eq, ALT, UGj_1, scalarT, scalarP, scalarC]
  simp only [RUN, core, T.c, T.s, T.b, T.i, sBin, sInt, sUn, isShift, asInt, P1.cells, loadT, ptrC, storeT, putC, fillP, Nat.reduceAdd, reduceIte, Nat.reduceEqDiff, Nat.reduceLT, Nat.reduceLeDiff, reduceCtorEq, eq_self, FIT, lendCs_map, verC_map, FinC, resPs, resP, lendPl, lendCs, lendC, sealC, partsT, finHs, tupT, verT, verP, verC, verB, verAt, Blk.ver, handsAre, forall_const, CHT, disj, Nat.reduceBEq, beq_self_eq_true, APT, srcOf, sealPs, sealCs, sealC, toVs, Option.map_some, List.mem_singleton, forall_eq, ALT, UGj_1, scalarT, scalarP, scalarC, nn]
  refine callMk (markDk_ok rd 1 (by omega) hkg 1201 1202 1203 _ _ _) rfl rfl rfl rfl (by decide) rfl rfl rfl ⟨rfl, ?_⟩
  simp only [RUN, core, T.c, T.s, T.b, T.i, sBin, sInt, sUn, isShift, asInt, P1.cells, loadT, ptrC, storeT, putC, fillP, Nat.reduceAdd, reduceIte, Nat.reduceEqDiff, Nat.reduceLT, Nat.reduceLeDiff, reduceCtorEq, eq_self, FIT, lendCs_map, verC_map, FinC, resPs, resP, lendPl, lendCs, lendC, sealC, partsT, finHs, tupT, verT, verP, verC, verB, verAt, Blk.ver, handsAre, forall_const, CHT, disj, Nat.reduceBEq, beq_self_eq_true, APT, srcOf, sealPs, sealCs, sealC, toVs, Option.map_some, List.mem_singleton, forall_eq, ALT, UGj_1]
  refine callL (ws := dkL 1201 _ 1202 _ 1203 _ (mkDk 1 rd)) (ns := [1201, 1202, 1203]) hH rfl (lend1 rfl rfl rfl (mk_len 1 rd).1 (mk_len 1 rd).2.1 (mk_len 1 rd).2.2 rfl) rfl rfl ⟨?_, ?_⟩
  · simp only [RUN, core, T.c, T.s, T.b, T.i, sBin, sInt, sUn, isShift, asInt, P1.cells, loadT, ptrC, storeT, putC, fillP, Nat.reduceAdd, reduceIte, Nat.reduceEqDiff, Nat.reduceLT, Nat.reduceLeDiff, reduceCtorEq, eq_self, FIT, lendCs_map, verC_map, FinC, resPs, resP, lendPl, lendCs, lendC, sealC, partsT, finHs, tupT, verT, verP, verC, verB, verAt, Blk.ver, handsAre, forall_const, CHT, disj, Nat.reduceBEq, beq_self_eq_true, APT, srcOf, sealPs, sealCs, sealC, toVs, Option.map_some, List.mem_singleton, forall_eq, ALT, UGj_1, scalarT, scalarP, scalarC]
  simp only [RUN, core, T.c, T.s, T.b, T.i, sBin, sInt, sUn, isShift, asInt, P1.cells, loadT, ptrC, storeT, putC, fillP, Nat.reduceAdd, reduceIte, Nat.reduceEqDiff, Nat.reduceLT, Nat.reduceLeDiff, reduceCtorEq, eq_self, FIT, lendCs_map, verC_map, FinC, resPs, resP, lendPl, lendCs, lendC, sealC, partsT, finHs, tupT, verT, verP, verC, verB, verAt, Blk.ver, handsAre, forall_const, CHT, disj, Nat.reduceBEq, beq_self_eq_true, APT, srcOf, sealPs, sealCs, sealC, toVs, Option.map_some, List.mem_singleton, forall_eq, ALT, UGj_1, scalarT, scalarP, scalarC, nkg, nm]
  refine callDk (ws := []) (ns := []) (hto 1401 1402 1403) rfl rfl rfl (by decide) ⟨?_, ?_⟩
  · simp only [RUN, core, T.c, T.s, T.b, T.i, sBin, sInt, sUn, isShift, asInt, P1.cells, loadT, ptrC, storeT, putC, fillP, Nat.reduceAdd, reduceIte, Nat.reduceEqDiff, Nat.reduceLT, Nat.reduceLeDiff, reduceCtorEq, eq_self, FIT, lendCs_map, verC_map, FinC, resPs, resP, lendPl, lendCs, lendC, sealC, partsT, finHs, tupT, verT, verP, verC, verB, verAt, Blk.ver, handsAre, forall_const, CHT, disj, Nat.reduceBEq, beq_self_eq_true, APT, srcOf, sealPs, sealCs, sealC, toVs, Option.map_some, List.mem_singleton, forall_eq, ALT, UGj_1]
  simp only [RUN, core, T.c, T.s, T.b, T.i, sBin, sInt, sUn, isShift, asInt, P1.cells, loadT, ptrC, storeT, putC, fillP, Nat.reduceAdd, reduceIte, Nat.reduceEqDiff, Nat.reduceLT, Nat.reduceLeDiff, reduceCtorEq, eq_self, FIT, lendCs_map, verC_map, FinC, resPs, resP, lendPl, lendCs, lendC, sealC, partsT, finHs, tupT, verT, verP, verC, verB, verAt, Blk.ver, handsAre, forall_const, CHT, disj, Nat.reduceBEq, beq_self_eq_true, APT, srcOf, sealPs, sealCs, sealC, toVs, Option.map_some, List.mem_singleton, forall_eq, ALT, UGj_1]
  refine callA1 (m := 1404) (ws := []) (ns := []) (htw 1404) rfl rfl rfl (en_flat eW eW_flat _) ⟨?_, ?_⟩
  · simp only [RUN, core, T.c, T.s, T.b, T.i, sBin, sInt, sUn, isShift, asInt, P1.cells, loadT, ptrC, storeT, putC, fillP, Nat.reduceAdd, reduceIte, Nat.reduceEqDiff, Nat.reduceLT, Nat.reduceLeDiff, reduceCtorEq, eq_self, FIT, lendCs_map, verC_map, FinC, resPs, resP, lendPl, lendCs, lendC, sealC, partsT, finHs, tupT, verT, verP, verC, verB, verAt, Blk.ver, handsAre, forall_const, CHT, disj, Nat.reduceBEq, beq_self_eq_true, APT, srcOf, sealPs, sealCs, sealC, toVs, Option.map_some, List.mem_singleton, forall_eq, ALT, UGj_1]
  simp only [RUN, core, T.c, T.s, T.b, T.i, sBin, sInt, sUn, isShift, asInt, P1.cells, loadT, ptrC, storeT, putC, fillP, Nat.reduceAdd, reduceIte, Nat.reduceEqDiff, Nat.reduceLT, Nat.reduceLeDiff, reduceCtorEq, eq_self, FIT, lendCs_map, verC_map, FinC, resPs, resP, lendPl, lendCs, lendC, sealC, partsT, finHs, tupT, verT, verP, verC, verB, verAt, Blk.ver, handsAre, forall_const, CHT, disj, Nat.reduceBEq, beq_self_eq_true, APT, srcOf, sealPs, sealCs, sealC, toVs, Option.map_some, List.mem_singleton, forall_eq, ALT, UGj_1]
  refine callLAc (m := 1405) (ws := []) (ns := []) (hta 1405) rfl rfl rfl ⟨?_, ?_⟩
  · simp only [RUN, core, T.c, T.s, T.b, T.i, sBin, sInt, sUn, isShift, asInt, P1.cells, loadT, ptrC, storeT, putC, fillP, Nat.reduceAdd, reduceIte, Nat.reduceEqDiff, Nat.reduceLT, Nat.reduceLeDiff, reduceCtorEq, eq_self, FIT, lendCs_map, verC_map, FinC, resPs, resP, lendPl, lendCs, lendC, sealC, partsT, finHs, tupT, verT, verP, verC, verB, verAt, Blk.ver, handsAre, forall_const, CHT, disj, Nat.reduceBEq, beq_self_eq_true, APT, srcOf, sealPs, sealCs, sealC, toVs, Option.map_some, List.mem_singleton, forall_eq, ALT, UGj_1]
  simp only [RUN, core, T.c, T.s, T.b, T.i, sBin, sInt, sUn, isShift, asInt, P1.cells, loadT, ptrC, storeT, putC, fillP, Nat.reduceAdd, reduceIte, Nat.reduceEqDiff, Nat.reduceLT, Nat.reduceLeDiff, reduceCtorEq, eq_self, FIT, lendCs_map, verC_map, FinC, resPs, resP, lendPl, lendCs, lendC, sealC, partsT, finHs, tupT, verT, verP, verC, verB, verAt, Blk.ver, handsAre, forall_const, CHT, disj, Nat.reduceBEq, beq_self_eq_true, APT, srcOf, sealPs, sealCs, sealC, toVs, Option.map_some, List.mem_singleton, forall_eq, ALT, UGj_1]
  refine callDkI (ws := dkL 1401 _ 1402 _ 1403 _ d ++ (wL 1404 _ ws ++ aL 1405 _ a)) (ns := [1401, 1402, 1403, 1404, 1405]) (hCI 1501 1502 1503) rfl (lend5 rfl rfl rfl rfl rfl rfl rfl rfl rfl rfl) rfl (by decide) ⟨?_, ?_⟩
  · simp only [RUN, core, T.c, T.s, T.b, T.i, sBin, sInt, sUn, isShift, asInt, P1.cells, loadT, ptrC, storeT, putC, fillP, Nat.reduceAdd, reduceIte, Nat.reduceEqDiff, Nat.reduceLT, Nat.reduceLeDiff, reduceCtorEq, eq_self, FIT, lendCs_map, verC_map, FinC, resPs, resP, lendPl, lendCs, lendC, sealC, partsT, finHs, tupT, verT, verP, verC, verB, verAt, Blk.ver, handsAre, forall_const, CHT, disj, Nat.reduceBEq, beq_self_eq_true, APT, srcOf, sealPs, sealCs, sealC, toVs, Option.map_some, List.mem_singleton, forall_eq, ALT, UGj_1]
  simp only [RUN, core, T.c, T.s, T.b, T.i, sBin, sInt, sUn, isShift, asInt, P1.cells, loadT, ptrC, storeT, putC, fillP, Nat.reduceAdd, reduceIte, Nat.reduceEqDiff, Nat.reduceLT, Nat.reduceLeDiff, reduceCtorEq, eq_self, FIT, lendCs_map, verC_map, FinC, resPs, resP, lendPl, lendCs, lendC, sealC, partsT, finHs, tupT, verT, verP, verC, verB, verAt, Blk.ver, handsAre, forall_const, CHT, disj, Nat.reduceBEq, beq_self_eq_true, APT, srcOf, sealPs, sealCs, sealC, toVs, Option.map_some, List.mem_singleton, forall_eq, ALT, UGj_1]
  refine callL (ws := dkL 1501 _ 1502 _ 1503 _ rd) (ns := [1501, 1502, 1503]) hE1 rfl (lend1 rfl rfl rfl rfl rfl rfl rfl) rfl rfl ⟨?_, ?_⟩
  · simp only [RUN, core, T.c, T.s, T.b, T.i, sBin, sInt, sUn, isShift, asInt, P1.cells, loadT, ptrC, storeT, putC, fillP, Nat.reduceAdd, reduceIte, Nat.reduceEqDiff, Nat.reduceLT, Nat.reduceLeDiff, reduceCtorEq, eq_self, FIT, lendCs_map, verC_map, FinC, resPs, resP, lendPl, lendCs, lendC, sealC, partsT, finHs, tupT, verT, verP, verC, verB, verAt, Blk.ver, handsAre, forall_const, CHT, disj, Nat.reduceBEq, beq_self_eq_true, APT, srcOf, sealPs, sealCs, sealC, toVs, Option.map_some, List.mem_singleton, forall_eq, ALT, UGj_1, scalarT, scalarP, scalarC]
  simp only [RUN, core, T.c, T.s, T.b, T.i, sBin, sInt, sUn, isShift, asInt, P1.cells, loadT, ptrC, storeT, putC, fillP, Nat.reduceAdd, reduceIte, Nat.reduceEqDiff, Nat.reduceLT, Nat.reduceLeDiff, reduceCtorEq, eq_self, FIT, lendCs_map, verC_map, FinC, resPs, resP, lendPl, lendCs, lendC, sealC, partsT, finHs, tupT, verT, verP, verC, verB, verAt, Blk.ver, handsAre, forall_const, CHT, disj, Nat.reduceBEq, beq_self_eq_true, APT, srcOf, sealPs, sealCs, sealC, toVs, Option.map_some, List.mem_singleton, forall_eq, ALT, UGj_1, scalarT, scalarP, scalarC, nn]
  refine callL (ws := dkL 1201 _ 1202 _ 1203 _ (mkDk 1 rd)) (ns := [1201, 1202, 1203]) hH rfl (lend1 rfl rfl rfl (mk_len 1 rd).1 (mk_len 1 rd).2.1 (mk_len 1 rd).2.2 rfl) rfl rfl ⟨?_, ?_⟩
  · simp only [RUN, core, T.c, T.s, T.b, T.i, sBin, sInt, sUn, isShift, asInt, P1.cells, loadT, ptrC, storeT, putC, fillP, Nat.reduceAdd, reduceIte, Nat.reduceEqDiff, Nat.reduceLT, Nat.reduceLeDiff, reduceCtorEq, eq_self, FIT, lendCs_map, verC_map, FinC, resPs, resP, lendPl, lendCs, lendC, sealC, partsT, finHs, tupT, verT, verP, verC, verB, verAt, Blk.ver, handsAre, forall_const, CHT, disj, Nat.reduceBEq, beq_self_eq_true, APT, srcOf, sealPs, sealCs, sealC, toVs, Option.map_some, List.mem_singleton, forall_eq, ALT, UGj_1, scalarT, scalarP, scalarC]
  simp only [RUN, core, T.c, T.s, T.b, T.i, sBin, sInt, sUn, isShift, asInt, P1.cells, loadT, ptrC, storeT, putC, fillP, Nat.reduceAdd, reduceIte, Nat.reduceEqDiff, Nat.reduceLT, Nat.reduceLeDiff, reduceCtorEq, eq_self, FIT, lendCs_map, verC_map, FinC, resPs, resP, lendPl, lendCs, lendC, sealC, partsT, finHs, tupT, verT, verP, verC, verB, verAt, Blk.ver, handsAre, forall_const, CHT, disj, Nat.reduceBEq, beq_self_eq_true, APT, srcOf, sealPs, sealCs, sealC, toVs, Option.map_some, List.mem_singleton, forall_eq, ALT, UGj_1, scalarT, scalarP, scalarC, nkg, nm]
end Go.V

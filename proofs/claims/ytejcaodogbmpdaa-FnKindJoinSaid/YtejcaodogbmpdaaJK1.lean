/- It is proved that the law FnKindJoin returns true for every input and leaves its input as it was; no condition. -/
import Derived.Test.YtejcaodogbmpdaaJV2
import Derived.Test.YtejcaodogbmpdaaProg
set_option linter.unusedSimpArgs false
namespace Go.V
open Go.Proofs
theorem follows : Try.prog.follows .mixedOrders = true := by kernel_rfl
def encS (ss : List ByteArray) : List (List V) := ss.map fun s => [.s (.string s)]
theorem encS_at {ss : List ByteArray} {i : Nat} {s : ByteArray} (h : ss[i]? = some s) : (encS ss)[i]? = some [.s (.string s)] := by simp [encS, h]
theorem encS_len (ss : List ByteArray) : (encS ss).length = ss.length := by simp [encS]
theorem str_beq (a b : ByteArray) : (a.toList == b.toList) = decide (a = b) := by
  rw [ByteArray.toList_eq, ByteArray.toList_eq]
  by_cases h : a = b
  · subst h; simp
  · have : a.data.toList ≠ b.data.toList := fun e => h (by
      cases a; cases b; simp only [ByteArray.mk.injEq]; exact Array.ext' e)
    rw [decide_eq_false h]; exact beq_eq_false_iff_ne.2 this
/- loop.example/teagle/spec.l6In -/
def r84_0 : List AOper := [ao 0 6 (.mv (.k (.b false)))]
def r84_1 : List AOper := [ao 0 7 (.mv (.t 0)),
  ao 1 8 (.mv (.t 1)),
  ao 2 9 (.bin .geq (.t 7) (.t 8)),
  ao 3 10 (.mv (.t 9)),
  ag 4 11 10 true [] (.mv (.t 0)),
  ag 5 12 10 true [] (.mv (.t 2)),
  ag 6 13 10 true [] (.bin .leq (.t 11) (.t 12)),
  ao 7 14 (.pick (.t 10) (.t 13) (.k (.b false))),
  ao 8 6 (.mv (.t 14))]
def c84 : ACode := .seq (.reg r84_0) (.seq (.reg r84_1) .ret)
def s84 : List ARes := [.tmp 6]
theorem ok84 : okF Try.prog 84 15 c84 s84 := ⟨Try.f84, Try.func84, Try.ntmps84, by kernel_rfl, by kernel_rfl, by kernel_rfl⟩
theorem UKa_4 : (type_of% (uR r84_0.eq_1)) ∧ (type_of% (uR r84_1.eq_1)) ∧ (type_of% (uA c84.eq_1)) ∧ (type_of% s84.eq_1) :=
  ⟨uR r84_0.eq_1, uR r84_1.eq_1, uA c84.eq_1, s84.eq_1⟩
theorem l6In_ok (n lo hi : Int) : ACallsF Try.prog 84 [.i n, .i lo, .i hi] [] (.b (decide (lo ≤ n) && decide (n ≤ hi))) := by
  refine ACallsF.intro ok84 follows fun X c0 => ?_
  by_cases h1 : lo ≤ n <;> by_cases h2 : n ≤ hi <;> simp only [RUN, core, T.c, T.s, T.b, T.i, sBin, sInt, sUn, isShift, asInt, P1.cells, loadT, ptrC, storeT, putC, fillP, Nat.reduceAdd, reduceIte, Nat.reduceEqDiff, Nat.reduceLT, Nat.reduceLeDiff, reduceCtorEq, eq_self, FIT, lendCs_map, verC_map, FinC, resPs, resP, lendPl, lendCs, lendC, sealC, partsT, finHs, tupT, verT, verP, verC, verB, verAt, Blk.ver, handsAre, forall_const, UKa_4, h1, h2, ge_iff_le]
/- slices.Equal[[]string,string] -/
def r86_0 : List AOper := [ao 0 4 (.mv (.k (.b false)))]
def r86_1 : List AOper := [ao 0 6 (.mv (.t 0)),
  ao 1 7 (.len (.t 6)),
  ao 2 8 (.mv (.t 1)),
  ao 3 9 (.len (.t 8)),
  ao 4 10 (.bin .neq (.t 7) (.t 9))]
def r86_2 : List AOper := [ao 0 4 (.mv (.k (.b false)))]
def c86_3 : ACode := .seq (.reg r86_2) .ret
def c86_4 : ACode := .cond (.t 10) c86_3 .skip
def c86_5 : ACode := .seq (.reg r86_1) c86_4
def r86_6 : List AOper := [ao 0 11 (.mv (.t 0)),
  ao 1 12 (.len (.t 11)),
  ao 2 13 (.mv (.k (.i 0)))]
def r86_7 : List AOper := [ao 0 14 (.bin .lss (.t 13) (.t 12))]
def c86_8 : ACode := .cond (.t 14) .skip (.exit 0)
def r86_9 : List AOper := [ao 0 15 (.mv (.t 13)),
  ao 1 5 (.mv (.t 15))]
def r86_10 : List AOper := [ao 0 16 (.mv (.t 0)),
  au 1 17 [0] (.mv (.t 5)),
  ao 2 18 (.ia 1 (.t 16) (.t 17)),
  ao 3 19 (.ld 1 false (.t 18)),
  au 4 20 (ru 4) (.mv (.t 1)),
  au 5 21 (ru 5) (.mv (.t 5)),
  au 6 22 (ru 4) (.ia 1 (.t 20) (.t 21)),
  au 7 23 (ru 4) (.ld 1 false (.t 22)),
  ao 8 24 (.bin .neq (.t 19) (.t 23))]
def r86_11 : List AOper := [ao 0 4 (.mv (.k (.b false)))]
def c86_12 : ACode := .seq (.reg r86_11) .ret
def c86_13 : ACode := .cond (.t 24) c86_12 .skip
def c86_14 : ACode := .seq (.reg r86_9) (.seq (.reg r86_10) c86_13)
def c86_15 : ACode := .block 1 c86_14
def r86_16 : List AOper := [ao 0 25 (.bin .add (.t 13) (.k (.i 1))),
  ao 1 13 (.mv (.t 25))]
def c86_17 : ACode := .seq (.reg r86_7) (.seq c86_8 (.seq c86_15 (.reg r86_16)))
def c86_18 : ACode := .loop c86_17
def c86_19 : ACode := .block 0 c86_18
def c86_20 : ACode := .seq (.reg r86_6) c86_19
def r86_21 : List AOper := [ao 0 4 (.mv (.k (.b true)))]
def c86 : ACode := .seq (.reg r86_0) (.seq c86_5 (.seq c86_20 (.seq (.reg r86_21) .ret)))
def s86 : List ARes := [.tmp 4]
theorem ok86 : okF Try.prog 86 26 c86 s86 := ⟨Try.f86, Try.func86, Try.ntmps86, by kernel_rfl, by kernel_rfl, by kernel_rfl⟩
def inv86 (xs ys : List ByteArray) (i : Nat) (σ : St) : Prop := (∀ j, j < i → xs[j]? = ys[j]?) ∧ σ.t 0 = .c (.v (.sl (encS xs))) ∧ σ.t 1 = .c (.v (.sl (encS ys))) ∧ σ.t 12 = .i xs.length ∧ σ.t 13 = .i i
theorem UKa_1 : (type_of% (uA c86.eq_1)) ∧ (type_of% (uR r86_0.eq_1)) ∧ (type_of% (uA c86_5.eq_1)) ∧ (type_of% (uR r86_1.eq_1)) ∧ (type_of% (uA c86_4.eq_1)) ∧ (type_of% (uA c86_3.eq_1)) ∧ (type_of% (uR r86_2.eq_1)) ∧ (type_of% (uA c86_20.eq_1)) ∧ (type_of% (uR r86_6.eq_1)) ∧ (type_of% (uA c86_19.eq_1)) ∧ (type_of% (uA c86_18.eq_1)) ∧ (type_of% (uR r86_21.eq_1)) ∧ (type_of% s86.eq_1) :=
  ⟨uA c86.eq_1, uR r86_0.eq_1, uA c86_5.eq_1, uR r86_1.eq_1, uA c86_4.eq_1, uA c86_3.eq_1, uR r86_2.eq_1, uA c86_20.eq_1, uR r86_6.eq_1, uA c86_19.eq_1, uA c86_18.eq_1, uR r86_21.eq_1, s86.eq_1⟩
theorem UKa_3 : (type_of% (uA c86_17.eq_1)) ∧ (type_of% (uR r86_7.eq_1)) ∧ (type_of% (uA c86_8.eq_1)) ∧ (type_of% (uA c86_15.eq_1)) ∧ (type_of% (uA c86_14.eq_1)) ∧ (type_of% (uR r86_9.eq_1)) ∧ (type_of% (uR r86_10.eq_1)) ∧ (type_of% (uA c86_13.eq_1)) ∧ (type_of% (uA c86_12.eq_1)) ∧ (type_of% (uR r86_11.eq_1)) ∧ (type_of% (uR r86_16.eq_1)) ∧ (type_of% (uA c86.eq_1)) ∧ (type_of% (uR r86_0.eq_1)) ∧ (type_of% (uA c86_5.eq_1)) ∧ (type_of% (uR r86_1.eq_1)) ∧ (type_of% (uA c86_4.eq_1)) ∧ (type_of% (uA c86_3.eq_1)) ∧ (type_of% (uR r86_2.eq_1)) ∧ (type_of% (uA c86_20.eq_1)) ∧ (type_of% (uR r86_6.eq_1)) ∧ (type_of% (uA c86_19.eq_1)) ∧ (type_of% (uA c86_18.eq_1)) ∧ (type_of% (uR r86_21.eq_1)) ∧ (type_of% s86.eq_1) :=
  ⟨uA c86_17.eq_1, uR r86_7.eq_1, uA c86_8.eq_1, uA c86_15.eq_1, uA c86_14.eq_1, uR r86_9.eq_1, uR r86_10.eq_1, uA c86_13.eq_1, uA c86_12.eq_1, uR r86_11.eq_1, uR r86_16.eq_1, uA c86.eq_1, uR r86_0.eq_1, uA c86_5.eq_1, uR r86_1.eq_1, uA c86_4.eq_1, uA c86_3.eq_1, uR r86_2.eq_1, uA c86_20.eq_1, uR r86_6.eq_1, uA c86_19.eq_1, uA c86_18.eq_1, uR r86_21.eq_1, s86.eq_1⟩
theorem equal_ok (xs ys : List ByteArray) (hx : xs.length ≤ 4611686018427387904) : ACallsF Try.prog 86 [.c (.v (.sl (encS xs))), .c (.v (.sl (encS ys)))] [] (.b (decide (xs = ys))) := by
  refine ACallsF.intro ok86 follows fun X c0 => ?_
  by_cases hl : xs.length = ys.length
  · have hl' : ((xs.length : Int) != (ys.length : Int)) = false := by simp [hl]
    simp only [RUN, core, T.c, T.s, T.b, T.i, sBin, sInt, sUn, isShift, asInt, P1.cells, loadT, ptrC, storeT, putC, fillP, Nat.reduceAdd, reduceIte, Nat.reduceEqDiff, Nat.reduceLT, Nat.reduceLeDiff, reduceCtorEq, eq_self, FIT, lendCs_map, verC_map, FinC, resPs, resP, lendPl, lendCs, lendC, sealC, partsT, finHs, tupT, verT, verP, verC, verB, verAt, Blk.ver, handsAre, forall_const, UKa_1, encS_len, hl']
    refine AW.upto xs.length (inv86 xs ys) ⟨fun j hj => absurd hj (Nat.not_lt_zero j), rfl, rfl, rfl, rfl⟩ fun i t H c h0 h => ?_
    obtain ⟨h2, h3, h4, h5, h6⟩ := h
    simp only [T.c, T.i] at h3 h4 h5 h6
    by_cases hi : i < xs.length
    · have hi' : (i : Int) < xs.length := by omega
      have e1 := encS_at (List.getElem?_eq_getElem hi)
      have e2 := encS_at (List.getElem?_eq_getElem (hl ▸ hi))
      have ew : IntKind.i64.wrap ((i : Int) + 1) = ((i + 1 : Nat) : Int) := wrap64 (by omega)
      have hn : (0 : Int) ≤ i := by omega
      by_cases he : xs[i] = ys[i]
      · simp only [RUN, core, T.c, T.s, T.b, T.i, sBin, sInt, sUn, isShift, asInt, P1.cells, loadT, ptrC, storeT, putC, fillP, Nat.reduceAdd, reduceIte, Nat.reduceEqDiff, Nat.reduceLT, Nat.reduceLeDiff, reduceCtorEq, eq_self, FIT, lendCs_map, verC_map, FinC, resPs, resP, lendPl, lendCs, lendC, sealC, partsT, finHs, tupT, verT, verP, verC, verB, verAt, Blk.ver, handsAre, forall_const, UKa_3, hi', h3, h4, h5, h6, e1, e2, hn, Int.toNat_natCast, str_beq, he, ew, sStr]
        exact ⟨hi, fun j hj => by
          rcases Nat.lt_succ_iff_lt_or_eq.1 hj with hj | rfl
          · exact h2 j hj
          · rw [List.getElem?_eq_getElem hi, List.getElem?_eq_getElem (hl ▸ hi), he], h3, h4, h5, rfl⟩
      · have hne : xs ≠ ys := fun e => he (by subst e; rfl)
        simp only [RUN, core, T.c, T.s, T.b, T.i, sBin, sInt, sUn, isShift, asInt, P1.cells, loadT, ptrC, storeT, putC, fillP, Nat.reduceAdd, reduceIte, Nat.reduceEqDiff, Nat.reduceLT, Nat.reduceLeDiff, reduceCtorEq, eq_self, FIT, lendCs_map, verC_map, FinC, resPs, resP, lendPl, lendCs, lendC, sealC, partsT, finHs, tupT, verT, verP, verC, verB, verAt, Blk.ver, handsAre, forall_const, UKa_3, hi', h3, h4, h5, h6, e1, e2, hn, Int.toNat_natCast, str_beq, he, ew, sStr, hne]
    · have hi' : ¬ (i : Int) < xs.length := by omega
      have hne : xs = ys := List.ext_getElem? fun j => by
        by_cases hj : j < xs.length
        · exact h2 j (by omega)
        · rw [List.getElem?_eq_none (by omega), List.getElem?_eq_none (by omega)]
      simp only [RUN, core, T.c, T.s, T.b, T.i, sBin, sInt, sUn, isShift, asInt, P1.cells, loadT, ptrC, storeT, putC, fillP, Nat.reduceAdd, reduceIte, Nat.reduceEqDiff, Nat.reduceLT, Nat.reduceLeDiff, reduceCtorEq, eq_self, FIT, lendCs_map, verC_map, FinC, resPs, resP, lendPl, lendCs, lendC, sealC, partsT, finHs, tupT, verT, verP, verC, verB, verAt, Blk.ver, handsAre, forall_const, UKa_3, hi', h3, h4, h5, h6]
      simp only [hne, decide_true]
  · have hl' : ((xs.length : Int) != (ys.length : Int)) = true := by simp; omega
    have hne : xs ≠ ys := fun e => hl (by rw [e])
    simp only [RUN, core, T.c, T.s, T.b, T.i, sBin, sInt, sUn, isShift, asInt, P1.cells, loadT, ptrC, storeT, putC, fillP, Nat.reduceAdd, reduceIte, Nat.reduceEqDiff, Nat.reduceLT, Nat.reduceLeDiff, reduceCtorEq, eq_self, FIT, lendCs_map, verC_map, FinC, resPs, resP, lendPl, lendCs, lendC, sealC, partsT, finHs, tupT, verT, verP, verC, verB, verAt, Blk.ver, handsAre, forall_const, UKa_1, encS_len, hl', hne]
/- (*loop.example/teagle/spec.l6Rd).pick -/
def r36_0 : List AOper := [ao 0 4 (.mv (.k (.i 0)))]
def r36_1 : List AOper := [ao 0 7 (.mv (.t 0)),
  ao 1 8 (.mv (.t 0)),
  ao 2 9 (.nck (.t 8)),
  ao 3 10 (.fa 1 (.t 9)),
  ao 4 11 (.ld 1 false (.t 10)),
  ao 5 12 (.bin .add (.t 11) (.k (.i 1))),
  ao 6 13 (.nck (.t 7)),
  ao 7 14 (.fa 1 (.t 13)),
  an 8 (.st 1 (.t 14) (.t 12))]
def r36_2 : List AOper := [ao 0 15 (.mv (.t 1)),
  ao 1 16 (.bin .lss (.t 15) (.k (.i 1))),
  ao 2 17 (.mv (.t 16)),
  ag 3 18 17 false [] (.mv (.t 0)),
  ag 4 19 17 false [] (.nck (.t 18)),
  ag 5 20 17 false [] (.fa 0 (.t 19)),
  ag 6 21 17 false [] (.ld 1 false (.t 20)),
  ag 7 22 17 false [] (.len (.t 21)),
  ag 8 23 17 false [] (.bin .eql (.t 22) (.k (.i 0))),
  ao 9 24 (.pick (.t 17) (.k (.b true)) (.t 23))]
def r36_3 : List AOper := [ao 0 4 (.mv (.k (.i 0)))]
def c36_4 : ACode := .seq (.reg r36_3) .ret
def c36_5 : ACode := .cond (.t 24) c36_4 .skip
def c36_6 : ACode := .seq (.reg r36_2) c36_5
def r36_7 : List AOper := [ao 0 25 (.mv (.t 0)),
  ao 1 26 (.nck (.t 25)),
  ao 2 27 (.fa 1 (.t 26)),
  ao 3 28 (.ld 1 false (.t 27)),
  ao 4 29 (.bin .sub (.t 28) (.k (.i 1))),
  ao 5 5 (.mv (.t 29))]
def r36_8 : List AOper := [ao 0 30 (.mv (.t 5)),
  ao 1 31 (.mv (.t 0)),
  ao 2 32 (.nck (.t 31)),
  ao 3 33 (.fa 0 (.t 32)),
  ao 4 34 (.ld 1 false (.t 33)),
  ao 5 35 (.len (.t 34)),
  ao 6 36 (.bin .lss (.t 30) (.t 35))]
def r36_9 : List AOper := [ao 0 37 (.mv (.t 0)),
  ao 1 38 (.nck (.t 37)),
  ao 2 39 (.fa 0 (.t 38)),
  ao 3 40 (.ld 1 false (.t 39)),
  ao 4 41 (.mv (.t 5)),
  ao 5 42 (.ia 1 (.t 40) (.t 41)),
  ao 6 43 (.ld 1 false (.t 42)),
  ao 7 44 (.cnvI .i64 (.t 43)),
  ao 8 45 (.mv (.t 1)),
  ao 9 46 (.bin .rem (.t 44) (.t 45)),
  ao 10 4 (.mv (.t 46))]
def c36_10 : ACode := .seq (.reg r36_9) .ret
def c36_11 : ACode := .cond (.t 36) c36_10 .skip
def c36_12 : ACode := .seq (.reg r36_8) c36_11
def r36_13 : List AOper := [ao 0 47 (.mv (.t 0)),
  ao 1 48 (.nck (.t 47)),
  ao 2 49 (.fa 0 (.t 48)),
  ao 3 50 (.ld 1 false (.t 49)),
  au 4 51 (ru 4) (.mv (.t 5)),
  au 5 52 (ru 5) (.mv (.t 0)),
  au 6 53 (ru 5) (.nck (.t 52)),
  au 7 54 (ru 5) (.fa 0 (.t 53)),
  au 8 55 (ru 5) (.ld 1 false (.t 54)),
  au 9 56 (ru 5) (.len (.t 55)),
  au 10 57 (ru 4) (.bin .rem (.t 51) (.t 56)),
  ao 11 58 (.ia 1 (.t 50) (.t 57)),
  ao 12 59 (.ld 1 false (.t 58)),
  ao 13 60 (.cnvI .i64 (.t 59)),
  ao 14 61 (.bin .mul (.t 60) (.k (.i 131))),
  au 15 62 (ru 15) (.mv (.t 0)),
  au 16 63 (ru 15) (.nck (.t 62)),
  au 17 64 (ru 15) (.fa 0 (.t 63)),
  au 18 65 (ru 15) (.ld 1 false (.t 64)),
  au 19 66 (ru 19) (.mv (.t 5)),
  au 20 67 (ru 19) (.bin .mul (.t 66) (.k (.i 7))),
  au 21 68 (ru 19) (.bin .add (.t 67) (.k (.i 3))),
  au 22 69 (ru 22) (.mv (.t 0)),
  au 23 70 (ru 22) (.nck (.t 69)),
  au 24 71 (ru 22) (.fa 0 (.t 70)),
  au 25 72 (ru 22) (.ld 1 false (.t 71)),
  au 26 73 (ru 22) (.len (.t 72)),
  au 27 74 (ru 19) (.bin .rem (.t 68) (.t 73)),
  au 28 75 (ru 15) (.ia 1 (.t 65) (.t 74)),
  au 29 76 (ru 15) (.ld 1 false (.t 75)),
  au 30 77 (ru 15) (.cnvI .i64 (.t 76)),
  au 31 78 (ru 15) (.bin .mul (.t 77) (.k (.i 1117))),
  ao 32 79 (.bin .add (.t 61) (.t 78)),
  au 33 80 (ru 33) (.mv (.t 5)),
  au 34 81 (ru 33) (.bin .mul (.t 80) (.k (.i 29))),
  ao 35 82 (.bin .add (.t 79) (.t 81)),
  au 36 83 (ru 36) (.mv (.t 5)),
  au 37 84 (ru 37) (.mv (.t 0)),
  au 38 85 (ru 37) (.nck (.t 84)),
  au 39 86 (ru 37) (.fa 0 (.t 85)),
  au 40 87 (ru 37) (.ld 1 false (.t 86)),
  au 41 88 (ru 37) (.len (.t 87)),
  au 42 89 (ru 36) (.bin .quo (.t 83) (.t 88)),
  au 43 90 (ru 36) (.bin .mul (.t 89) (.k (.i 53))),
  ao 44 91 (.bin .add (.t 82) (.t 90)),
  ao 45 6 (.mv (.t 91))]
def r36_14 : List AOper := [ao 0 92 (.mv (.t 6)),
  ao 1 93 (.mv (.t 6)),
  ao 2 94 (.bin .quo (.t 93) (.k (.i 64))),
  ao 3 95 (.bin .xor (.t 92) (.t 94)),
  ao 4 6 (.mv (.t 95))]
def r36_15 : List AOper := [ao 0 96 (.mv (.t 6)),
  ao 1 97 (.mv (.t 1)),
  ao 2 98 (.bin .rem (.t 96) (.t 97)),
  ao 3 4 (.mv (.t 98))]
def c36 : ACode := .seq (.reg r36_0) (.seq (.reg r36_1) (.seq c36_6 (.seq (.reg r36_7) (.seq c36_12 (.seq (.reg r36_13) (.seq (.reg r36_14) (.seq (.reg r36_15) .ret)))))))
def s36 : List ARes := [.tmp 4]
theorem ok36 : okF Try.prog 36 99 c36 s36 := ⟨Try.f36, Try.func36, Try.ntmps36, by kernel_rfl, by kernel_rfl, by kernel_rfl⟩
def encB (bs : List UInt8) : List (List V) := bs.map fun b => [.s (.int .u8 b.toNat)]
theorem encB_len (bs : List UInt8) : (encB bs).length = bs.length := by simp [encB]
theorem encB_at {bs : List UInt8} {i : Nat} {b : UInt8} (h : bs[i]? = some b) : (encB bs)[i]? = some [.s (.int .u8 b.toNat)] := by simp [encB, h]
def rdr (v : Nat) (bs : List UInt8) (p : Int) : Blk := .var v 85 [.v (.sl (encB bs)), .v (.s (.int .i64 p))]
abbrev rH (v : Nat) (bs : List UInt8) (p p' : Int) : Hand := ⟨1000, 1000, some (rdr v bs p), rdr v bs p', true⟩
theorem xor_nonneg {a b : Int} (ha : 0 ≤ a ∧ a ≤ 9223372036854775807) (hb : 0 ≤ b ∧ b ≤ 9223372036854775807) : 0 ≤ IntKind.i64.wrap ((BitVec.ofInt IntKind.i64.bits a ^^^ BitVec.ofInt IntKind.i64.bits b).toNat : Int) := by
  have h1 : (BitVec.ofInt 64 a).toNat < 2 ^ 63 := by rw [BitVec.toNat_ofInt]; omega
  have h2 : (BitVec.ofInt 64 b).toNat < 2 ^ 63 := by rw [BitVec.toNat_ofInt]; omega
  have h3 : (BitVec.ofInt 64 a ^^^ BitVec.ofInt 64 b).toNat < 2 ^ 63 := by rw [BitVec.toNat_xor]; exact Nat.xor_lt_two_pow h1 h2
  show 0 ≤ IntKind.i64.wrap ((BitVec.ofInt 64 a ^^^ BitVec.ofInt 64 b).toNat : Int)
  rw [wrap64 (by omega)]
  omega
theorem UKa_2 : (type_of% (uA c36.eq_1)) ∧ (type_of% (uR r36_0.eq_1)) ∧ (type_of% (uR r36_1.eq_1)) ∧ (type_of% (uA c36_6.eq_1)) ∧ (type_of% (uR r36_2.eq_1)) ∧ (type_of% (uA c36_5.eq_1)) ∧ (type_of% (uA c36_4.eq_1)) ∧ (type_of% (uR r36_3.eq_1)) ∧ (type_of% (uR r36_7.eq_1)) ∧ (type_of% (uA c36_12.eq_1)) ∧ (type_of% (uR r36_8.eq_1)) ∧ (type_of% (uA c36_11.eq_1)) ∧ (type_of% (uA c36_10.eq_1)) ∧ (type_of% (uR r36_9.eq_1)) ∧ (type_of% (uR r36_13.eq_1)) ∧ (type_of% (uR r36_14.eq_1)) ∧ (type_of% (uR r36_15.eq_1)) ∧ (type_of% s36.eq_1) :=
  ⟨uA c36.eq_1, uR r36_0.eq_1, uR r36_1.eq_1, uA c36_6.eq_1, uR r36_2.eq_1, uA c36_5.eq_1, uA c36_4.eq_1, uR r36_3.eq_1, uR r36_7.eq_1, uA c36_12.eq_1, uR r36_8.eq_1, uA c36_11.eq_1, uA c36_10.eq_1, uR r36_9.eq_1, uR r36_13.eq_1, uR r36_14.eq_1, uR r36_15.eq_1, s36.eq_1⟩
set_option maxRecDepth 100000 in
theorem pick_ok (v : Nat) (bs : List UInt8) (hb : bs.length ≤ 2000) (p n : Int) (hp : 0 ≤ p ∧ p ≤ 1000000000000) (hn : 0 < n ∧ n ≤ 9223372036854775807) : ∃ k : Int, 0 ≤ k ∧ k < n ∧ ACallsF Try.prog 36 [.c (.ptr 1000 v 0), .i n] [rH v bs p (p + 1)] (.i k) := by
  have hw : IntKind.i64.wrap (p + 1) = p + 1 := wrap64 (by omega)
  have hw2 : IntKind.i64.wrap (p + 1 - 1) = p := (wrap64 (x := p + 1 - 1) ⟨by omega, by omega⟩).trans (by omega)
  have h1 : ¬ n < 1 := by omega
  have hn0 : ¬ n = 0 := by omega
  by_cases hb0 : bs.length = 0
  · refine ⟨0, by omega, by omega, ACallsF.intro ok36 follows fun X c0 => ?_⟩
    have hbz : ((bs.length : Int) == 0) = true := by simp [hb0]
    simp only [RUN, core, T.c, T.s, T.b, T.i, sBin, sInt, sUn, isShift, asInt, P1.cells, loadT, ptrC, storeT, putC, fillP, Nat.reduceAdd, reduceIte, Nat.reduceEqDiff, Nat.reduceLT, Nat.reduceLeDiff, reduceCtorEq, eq_self, FIT, lendCs_map, verC_map, FinC, resPs, resP, lendPl, lendCs, lendC, sealC, partsT, finHs, tupT, verT, verP, verC, verB, verAt, Blk.ver, handsAre, forall_const, rH, rdr, UKa_2, encB_len, hw, hw2, h1, hbz]
  · have hbz : ((bs.length : Int) == 0) = false := beq_eq_false_iff_ne.2 (by omega)
    by_cases hlt : p < bs.length
    · have hp0 := hp.1
      obtain ⟨i, rfl⟩ : ∃ i : Nat, p = i := ⟨p.toNat, (Int.toNat_of_nonneg hp0).symm⟩
      have hi : i < bs.length := by omega
      have e1 := encB_at (List.getElem?_eq_getElem hi)
      have hr := Int.emod_lt_of_pos (bs[i].toNat : Int) hn.1
      have hr2 := Int.emod_nonneg (bs[i].toNat : Int) hn0
      have hu : ((bs[i].toNat : Int)) < 256 := by have := bs[i].toNat_lt; omega
      have hwu : IntKind.i64.wrap (bs[i].toNat : Int) = bs[i].toNat := wrap64 (by omega)
      refine ⟨(bs[i].toNat : Int) % n, hr2, hr, ACallsF.intro ok36 follows fun X c0 => ?_⟩
      have ht : (bs[i].toNat : Int).tmod n = (bs[i].toNat : Int) % n := Int.tmod_eq_emod_of_nonneg (by omega)
      simp only [RUN, core, T.c, T.s, T.b, T.i, sBin, sInt, sUn, isShift, asInt, P1.cells, loadT, ptrC, storeT, putC, fillP, Nat.reduceAdd, reduceIte, Nat.reduceEqDiff, Nat.reduceLT, Nat.reduceLeDiff, reduceCtorEq, eq_self, FIT, lendCs_map, verC_map, FinC, resPs, resP, lendPl, lendCs, lendC, sealC, partsT, finHs, tupT, verT, verP, verC, verB, verAt, Blk.ver, handsAre, forall_const, rH, rdr, UKa_2, encB_len, hw, hw2, h1, hbz, hlt, e1, hp0, Int.toNat_natCast, hwu, hn0, ht]
    · have hp0 := hp.1
      obtain ⟨k, rfl⟩ : ∃ i : Nat, p = i := ⟨p.toNat, (Int.toNat_of_nonneg hp0).symm⟩
      obtain ⟨l, hl⟩ : ∃ l : Nat, bs.length = l := ⟨_, rfl⟩
      rw [hl] at hb hb0 hbz hlt
      obtain ⟨q, hq⟩ : ∃ q : Nat, k / l = q := ⟨_, rfl⟩
      have hql : q ≤ k := by rw [← hq]; exact Nat.div_le_self _ _
      have t1 : (k : Int).tmod l = ((k % l : Nat) : Int) := rfl
      have t2 : ((k : Int) * 7 + 3).tmod l = (((k * 7 + 3) % l : Nat) : Int) := rfl
      have t3 : (k : Int).tdiv l = (q : Int) := by rw [← hq]; rfl
      have hl0 : ¬ (l : Int) = 0 := by omega
      obtain ⟨i, hi⟩ : ∃ i : Nat, k % l = i := ⟨_, rfl⟩
      obtain ⟨j, hj⟩ : ∃ j : Nat, (k * 7 + 3) % l = j := ⟨_, rfl⟩
      rw [hi] at t1
      rw [hj] at t2
      have hi2 : i < bs.length := by rw [← hi, hl]; exact Nat.mod_lt _ (by omega)
      have hj2 : j < bs.length := by rw [← hj, hl]; exact Nat.mod_lt _ (by omega)
      have e1 := encB_at (List.getElem?_eq_getElem hi2)
      have e2 := encB_at (List.getElem?_eq_getElem hj2)
      have hu1 := bs[i].toNat_lt
      have hu2 := bs[j].toNat_lt
      generalize bs[i].toNat = a at e1 hu1
      generalize bs[j].toNat = b at e2 hu2
      obtain ⟨x, hx⟩ : ∃ x : Int, (a : Int) * 131 + (b : Int) * 1117 + (k : Int) * 29 + (q : Int) * 53 = x := ⟨_, rfl⟩
      have hx0 : 0 ≤ x ∧ x ≤ 100000000000000 := by omega
      have t4 : IntKind.i64.wrap (x.tdiv 64) = x / 64 := IntWalk.i64_quo x 64 (by omega)
      obtain ⟨y, hy⟩ : ∃ y : Int, IntKind.i64.wrap ((BitVec.ofInt IntKind.i64.bits x ^^^ BitVec.ofInt IntKind.i64.bits (x / 64)).toNat : Int) = y := ⟨_, rfl⟩
      have hy0 : 0 ≤ y := by rw [← hy]; exact xor_nonneg (by omega) (by omega)
      have t5 : y.tmod n = y % n := Int.tmod_eq_emod_of_nonneg hy0
      have hz1 : (0 : Int) ≤ i := by omega
      have hz2 : (0 : Int) ≤ j := by omega
      have hz3 : ¬ (64 : Int) = 0 := by omega
      obtain ⟨p0, hp1⟩ : ∃ p0 : Int, (k : Int) + 1 = p0 := ⟨_, rfl⟩
      rw [hp1] at hw
      have w0 : IntKind.i64.wrap (p0 - 1) = k := by rw [← hp1]; exact (wrap64 ⟨by omega, by omega⟩).trans (by omega)
      have w1 : IntKind.i64.wrap (a : Int) = a := wrap64 ⟨by omega, by omega⟩
      have w2 : IntKind.i64.wrap ((a : Int) * 131) = (a : Int) * 131 := wrap64 ⟨by omega, by omega⟩
      have w3 : IntKind.i64.wrap ((k : Int) * 7) = (k : Int) * 7 := wrap64 ⟨by omega, by omega⟩
      have w4 : IntKind.i64.wrap ((k : Int) * 7 + 3) = (k : Int) * 7 + 3 := wrap64 ⟨by omega, by omega⟩
      have w5 : IntKind.i64.wrap (b : Int) = b := wrap64 ⟨by omega, by omega⟩
      have w6 : IntKind.i64.wrap ((b : Int) * 1117) = (b : Int) * 1117 := wrap64 ⟨by omega, by omega⟩
      have w7 : IntKind.i64.wrap ((a : Int) * 131 + (b : Int) * 1117) = (a : Int) * 131 + (b : Int) * 1117 := wrap64 ⟨by omega, by omega⟩
      have w8 : IntKind.i64.wrap ((k : Int) * 29) = (k : Int) * 29 := wrap64 ⟨by omega, by omega⟩
      have w9 : IntKind.i64.wrap ((a : Int) * 131 + (b : Int) * 1117 + (k : Int) * 29) = (a : Int) * 131 + (b : Int) * 1117 + (k : Int) * 29 := wrap64 ⟨by omega, by omega⟩
      have w10 : IntKind.i64.wrap (q : Int) = q := wrap64 ⟨by omega, by omega⟩
      have w11 : IntKind.i64.wrap ((q : Int) * 53) = (q : Int) * 53 := wrap64 ⟨by omega, by omega⟩
      have w12 : IntKind.i64.wrap x = x := wrap64 ⟨by omega, by omega⟩
      refine ⟨y % n, Int.emod_nonneg _ hn0, Int.emod_lt_of_pos _ hn.1, ACallsF.intro ok36 follows fun X c0 => ?_⟩
      simp only [RUN, core, T.c, T.s, T.b, T.i, sBin, sInt, sUn, isShift, asInt, P1.cells, loadT, ptrC, storeT, putC, fillP, Nat.reduceAdd, reduceIte, Nat.reduceEqDiff, Nat.reduceLT, Nat.reduceLeDiff, reduceCtorEq, eq_self, FIT, lendCs_map, verC_map, FinC, resPs, resP, lendPl, lendCs, lendC, sealC, partsT, finHs, tupT, verT, verP, verC, verB, verAt, Blk.ver, handsAre, forall_const, rH, rdr, UKa_2, encB_len, hl, hw, w0, hp1, h1, hbz, hlt, hl0, t1, t2, t3, e1, e2, hz1, hz2, Int.toNat_natCast, w1, w2, w3, w4, w5, w6, w7, w8, w9, w10, w11, hn0, hx, w12, t4, hy, t5, hz3]
end Go.V
set_option linter.unusedSimpArgs false
namespace Go.V
open Go.Proofs
/-- What a call of a drawing function gets and leaves. -/
abbrev rP (v : Nat) : T := .pt (.one (.ptr 1000 v 0))
theorem callR {P : Program} {t : Nat → T} {H : HMap} {c : Nat} {f : Opd} {args : List Opd} {fid : FuncId} {v : Nat} {bs : List UInt8} {p p' : Int} {argsC : List T} {ws : List (Nat × Blk)} {ns : List Nat} {r : T} {k : Nat} {d : Option Nat} {un : List Nat} {l : List AOper} {prev : List (Nat × List Nat × List Nat)} {K : St → Prop}
    (hC : ACallsF P fid (rP v :: argsC) [rH v bs p p'] r) (hf : ev t f = .pt (.one (.fn fid []))) (hl : lendTs H (rP v :: argsC) (args.map (ev t)) = some (rP v :: argsC, ws, ns))
    (ha : argsC.all closedA = true) (hr : closedT r = true) (hH : updH H ws 1000 = some (rdr v bs p))
    (hk : chk prev un ⟨r, ws ++ [(1000, rdr v bs p')], ns ++ [1000], ns ++ [1000]⟩ = true ∧ DRun P l ((k, ns ++ [1000], ns ++ [1000]) :: prev) K ⟨updD t d r, updH H (ws ++ [(1000, rdr v bs p')]), c⟩) :
    step P k d un (.call f args) l prev K t H c :=
  callV (n := 1000) (v := v) (ty := 85) (xs := [.sl (encB bs), .s (.int .i64 p)]) (ys := [.sl (encB bs), .s (.int .i64 p')]) hC hf hl ha hr hH hk
/-- .. where the arguments are closed already. -/
theorem callRc {P : Program} {t : Nat → T} {H : HMap} {c : Nat} {f : Opd} {args : List Opd} {fid : FuncId} {v : Nat} {bs : List UInt8} {p p' : Int} {argsC : List T} {r : T} {k : Nat} {d : Option Nat} {un : List Nat} {l : List AOper} {prev : List (Nat × List Nat × List Nat)} {K : St → Prop}
    (hC : ACallsF P fid (rP v :: argsC) [rH v bs p p'] r) (hf : ev t f = .pt (.one (.fn fid []))) (hl : args.map (ev t) = rP v :: argsC)
    (ha : argsC.all closedA = true) (hr : closedT r = true) (hH : H 1000 = some (rdr v bs p))
    (hk : chk prev un ⟨r, [(1000, rdr v bs p')], [1000], [1000]⟩ = true ∧ DRun P l ((k, [1000], [1000]) :: prev) K ⟨updD t d r, upd H 1000 (some (rdr v bs p')), c⟩) :
    step P k d un (.call f args) l prev K t H c := by
  refine callR (ws := []) (ns := []) hC hf ?_ ha hr hH hk
  rw [hl]
  simp only [lendTs, rP, lendT, lendC, Option.map_some, (closed_As [] H argsC ha).1, List.append_nil]
/- (*loop.example/teagle/spec.l6Rd).of -/
def r72_0 : List AOper := [ao 0 4 (.mv (.k (.s (.string ⟨#[]⟩))))]
def r72_1 : List AOper := [ao 0 5 (.mv (.t 1)),
  ao 1 6 (.mv (.t 0)),
  ao 2 7 (.mv (.t 1)),
  ao 3 8 (.len (.t 7)),
  ao 4 9 (.call (.k (.c (.fn 36 []))) [(.t 6), (.t 8)]),
  ao 5 10 (.ia 1 (.t 5) (.t 9)),
  ao 6 11 (.ld 1 false (.t 10)),
  ao 7 4 (.mv (.t 11))]
def c72 : ACode := .seq (.reg r72_0) (.seq (.reg r72_1) .ret)
def s72 : List ARes := [.tmp 4]
theorem ok72 : okF Try.prog 72 12 c72 s72 := ⟨Try.f72, Try.func72, Try.ntmps72, by kernel_rfl, by kernel_rfl, by kernel_rfl⟩
theorem UKb_1 : (type_of% (uA c72.eq_1)) ∧ (type_of% (uR r72_0.eq_1)) ∧ (type_of% (uR r72_1.eq_1)) ∧ (type_of% s72.eq_1) :=
  ⟨uA c72.eq_1, uR r72_0.eq_1, uR r72_1.eq_1, s72.eq_1⟩
theorem of_ok (v : Nat) (bs : List UInt8) (hb : bs.length ≤ 2000) (p : Int) (hp : 0 ≤ p ∧ p ≤ 1000000000000) (ss : List ByteArray) (hs : 0 < ss.length ∧ ss.length ≤ 1000000) :
    ∃ s, s ∈ ss ∧ ACallsF Try.prog 72 [rP v, .c (.v (.sl (encS ss)))] [rH v bs p (p + 1)] (.s (.string s)) := by
  obtain ⟨k, h1, h2, hC⟩ := pick_ok v bs hb p ss.length hp (by omega)
  obtain ⟨i, rfl⟩ : ∃ i : Nat, k = i := ⟨k.toNat, (Int.toNat_of_nonneg h1).symm⟩
  have hi : i < ss.length := by omega
  have e1 := encS_at (List.getElem?_eq_getElem hi)
  refine ⟨ss[i], List.getElem_mem hi, ACallsF.intro ok72 follows fun X c0 => ?_⟩
  simp only [RUN, core, T.c, T.s, T.b, T.i, sBin, sInt, sUn, isShift, asInt, P1.cells, loadT, ptrC, storeT, putC, fillP, Nat.reduceAdd, reduceIte, Nat.reduceEqDiff, Nat.reduceLT, Nat.reduceLeDiff, reduceCtorEq, eq_self, FIT, lendCs_map, verC_map, FinC, resPs, resP, lendPl, lendCs, lendC, sealC, partsT, finHs, tupT, verT, verP, verC, verB, verAt, Blk.ver, handsAre, forall_const, rH, rdr, UKb_1, encS_len]
  refine callR hC rfl rfl rfl rfl rfl ⟨rfl, ?_⟩
  simp only [RUN, core, T.c, T.s, T.b, T.i, sBin, sInt, sUn, isShift, asInt, P1.cells, loadT, ptrC, storeT, putC, fillP, Nat.reduceAdd, reduceIte, Nat.reduceEqDiff, Nat.reduceLT, Nat.reduceLeDiff, reduceCtorEq, eq_self, FIT, lendCs_map, verC_map, FinC, resPs, resP, lendPl, lendCs, lendC, sealC, partsT, finHs, tupT, verT, verP, verC, verB, verAt, Blk.ver, handsAre, forall_const, rH, rdr, UKb_1, encS_len, e1, h1, Int.toNat_natCast]
/- loop.example/teagle/spec.l5Names -/
def r75_0 : List AOper := [ao 0 0 (.mv (.k (.c .nil0)))]
def r75_1 : List AOper := [ao 0 1 (.bsl 1 9 [(.k (.s (.string ⟨#[97]⟩))), (.k (.s (.string ⟨#[98]⟩))), (.k (.s (.string ⟨#[105, 100]⟩))), (.k (.s (.string ⟨#[108, 105, 115, 116]⟩))), (.k (.s (.string ⟨#[110]⟩))), (.k (.s (.string ⟨#[115, 117, 109]⟩))), (.k (.s (.string ⟨#[116, 97, 103]⟩))), (.k (.s (.string ⟨#[119, 104, 111]⟩)))]),
  ao 1 0 (.mv (.t 1))]
def c75 : ACode := .seq (.reg r75_0) (.seq (.reg r75_1) .ret)
def s75 : List ARes := [.tmp 0]
theorem ok75 : okF Try.prog 75 2 c75 s75 := ⟨Try.f75, Try.func75, Try.ntmps75, by kernel_rfl, by kernel_rfl, by kernel_rfl⟩
def names8 : List ByteArray := [⟨#[97]⟩, ⟨#[98]⟩, ⟨#[105, 100]⟩, ⟨#[108, 105, 115, 116]⟩, ⟨#[110]⟩, ⟨#[115, 117, 109]⟩, ⟨#[116, 97, 103]⟩, ⟨#[119, 104, 111]⟩]
theorem UKb_2 : (type_of% (uA c75.eq_1)) ∧ (type_of% (uR r75_0.eq_1)) ∧ (type_of% (uR r75_1.eq_1)) ∧ (type_of% s75.eq_1) :=
  ⟨uA c75.eq_1, uR r75_0.eq_1, uR r75_1.eq_1, s75.eq_1⟩
theorem names_ok : ACallsF Try.prog 75 [] [] (.c (.v (.sl (encS names8)))) := by
  refine ACallsF.intro ok75 follows fun X c0 => ?_
  simp only [RUN, core, T.c, T.s, T.b, T.i, sBin, sInt, sUn, isShift, asInt, P1.cells, loadT, ptrC, storeT, putC, fillP, Nat.reduceAdd, reduceIte, Nat.reduceEqDiff, Nat.reduceLT, Nat.reduceLeDiff, reduceCtorEq, eq_self, FIT, lendCs_map, verC_map, FinC, resPs, resP, lendPl, lendCs, lendC, sealC, partsT, finHs, tupT, verT, verP, verC, verB, verAt, Blk.ver, handsAre, forall_const, UKb_2, sealPs, sealCs, sealC, List.take]
  rfl
/- loop.example/teagle/spec.l5Num -/
def r70_0 : List AOper := [ao 0 2 (.mv (.k (.i 0)))]
def r70_1 : List AOper := [ao 0 3 (.mv (.t 0)),
  ao 1 4 (.call (.k (.c (.fn 36 []))) [(.t 3), (.k (.i 9))])]
def r70_2 : List AOper := [ao 0 6 (.bin .eql (.t 4) (.k (.i 0))),
  ao 1 5 (.mv (.t 6))]
def r70_3 : List AOper := [ao 0 2 (.mv (.k (.i 999999999)))]
def c70_4 : ACode := .seq (.reg r70_3) .ret
def r70_5 : List AOper := [ao 0 8 (.bin .eql (.t 4) (.k (.i 1))),
  ao 1 7 (.mv (.t 8))]
def r70_6 : List AOper := [ao 0 2 (.mv (.k (.i (-999999999))))]
def c70_7 : ACode := .seq (.reg r70_6) .ret
def r70_8 : List AOper := [ao 0 10 (.bin .eql (.t 4) (.k (.i 2))),
  ao 1 9 (.mv (.t 10))]
def r70_9 : List AOper := [ao 0 11 (.mv (.t 0)),
  ao 1 12 (.call (.k (.c (.fn 36 []))) [(.t 11), (.k (.i 250))]),
  ao 2 13 (.bin .mul (.t 12) (.k (.i 4000000))),
  ao 3 14 (.mv (.t 0)),
  ao 4 15 (.call (.k (.c (.fn 36 []))) [(.t 14), (.k (.i 200))]),
  ao 5 16 (.bin .add (.t 13) (.t 15)),
  ao 6 2 (.mv (.t 16))]
def c70_10 : ACode := .seq (.reg r70_9) .ret
def r70_11 : List AOper := [ao 0 18 (.bin .eql (.t 4) (.k (.i 3))),
  ao 1 17 (.mv (.t 18))]
def r70_12 : List AOper := [ao 0 19 (.mv (.t 0)),
  ao 1 20 (.call (.k (.c (.fn 36 []))) [(.t 19), (.k (.i 2))]),
  ao 2 21 (.bin .add (.k (.i 127)) (.t 20)),
  ao 3 2 (.mv (.t 21))]
def c70_13 : ACode := .seq (.reg r70_12) .ret
def c70_14 : ACode := .cond (.t 17) c70_13 .skip
def c70_15 : ACode := .seq (.reg r70_11) c70_14
def c70_16 : ACode := .cond (.t 9) c70_10 c70_15
def c70_17 : ACode := .seq (.reg r70_8) c70_16
def c70_18 : ACode := .cond (.t 7) c70_7 c70_17
def c70_19 : ACode := .seq (.reg r70_5) c70_18
def c70_20 : ACode := .cond (.t 5) c70_4 c70_19
def c70_21 : ACode := .seq (.reg r70_2) c70_20
def c70_22 : ACode := .block 0 c70_21
def c70_23 : ACode := .seq (.reg r70_1) c70_22
def r70_24 : List AOper := [ao 0 22 (.mv (.t 0)),
  ao 1 23 (.call (.k (.c (.fn 36 []))) [(.t 22), (.k (.i 12))]),
  ao 2 24 (.bin .sub (.t 23) (.k (.i 3))),
  ao 3 2 (.mv (.t 24))]
def c70 : ACode := .seq (.reg r70_0) (.seq c70_23 (.seq (.reg r70_24) .ret))
def s70 : List ARes := [.tmp 2]
theorem ok70 : okF Try.prog 70 25 c70 s70 := ⟨Try.f70, Try.func70, Try.ntmps70, by kernel_rfl, by kernel_rfl, by kernel_rfl⟩
theorem UKb_3 : (type_of% (uA c70.eq_1)) ∧ (type_of% (uR r70_0.eq_1)) ∧ (type_of% (uA c70_23.eq_1)) ∧ (type_of% (uR r70_1.eq_1)) ∧ (type_of% (uA c70_22.eq_1)) ∧ (type_of% (uA c70_21.eq_1)) ∧ (type_of% (uR r70_2.eq_1)) ∧ (type_of% (uA c70_20.eq_1)) ∧ (type_of% (uA c70_4.eq_1)) ∧ (type_of% (uR r70_3.eq_1)) ∧ (type_of% (uA c70_19.eq_1)) ∧ (type_of% (uR r70_5.eq_1)) ∧ (type_of% (uA c70_18.eq_1)) ∧ (type_of% (uA c70_7.eq_1)) ∧ (type_of% (uR r70_6.eq_1)) ∧ (type_of% (uA c70_17.eq_1)) ∧ (type_of% (uR r70_8.eq_1)) ∧ (type_of% (uA c70_16.eq_1)) ∧ (type_of% (uA c70_10.eq_1)) ∧ (type_of% (uR r70_9.eq_1)) ∧ (type_of% (uA c70_15.eq_1)) ∧ (type_of% (uR r70_11.eq_1)) ∧ (type_of% (uA c70_14.eq_1)) ∧ (type_of% (uA c70_13.eq_1)) ∧ (type_of% (uR r70_12.eq_1)) ∧ (type_of% (uR r70_24.eq_1)) ∧ (type_of% s70.eq_1) :=
  ⟨uA c70.eq_1, uR r70_0.eq_1, uA c70_23.eq_1, uR r70_1.eq_1, uA c70_22.eq_1, uA c70_21.eq_1, uR r70_2.eq_1, uA c70_20.eq_1, uA c70_4.eq_1, uR r70_3.eq_1, uA c70_19.eq_1, uR r70_5.eq_1, uA c70_18.eq_1, uA c70_7.eq_1, uR r70_6.eq_1, uA c70_17.eq_1, uR r70_8.eq_1, uA c70_16.eq_1, uA c70_10.eq_1, uR r70_9.eq_1, uA c70_15.eq_1, uR r70_11.eq_1, uA c70_14.eq_1, uA c70_13.eq_1, uR r70_12.eq_1, uR r70_24.eq_1, s70.eq_1⟩
theorem num_ok (v : Nat) (bs : List UInt8) (hb : bs.length ≤ 2000) (p : Int) (hp : 0 ≤ p ∧ p ≤ 999999999000) :
    ∃ (p' n : Int), p ≤ p' ∧ p' ≤ p + 3 ∧ ACallsF Try.prog 70 [rP v] [rH v bs p p'] (.i n) := by
  obtain ⟨k, h1, h2, hC⟩ := pick_ok v bs hb p 9 (by omega) (by omega)
  obtain ⟨k2, h3, h4, hC2⟩ := pick_ok v bs hb (p + 1) 250 (by omega) (by omega)
  obtain ⟨k3, h5, h6, hC3⟩ := pick_ok v bs hb (p + 1 + 1) 200 (by omega) (by omega)
  obtain ⟨k4, h7, h8, hC4⟩ := pick_ok v bs hb (p + 1) 2 (by omega) (by omega)
  obtain ⟨k5, h9, h10, hC5⟩ := pick_ok v bs hb (p + 1) 12 (by omega) (by omega)
  by_cases e0 : k = 0
  · refine ⟨p + 1, 999999999, by omega, by omega, ACallsF.intro ok70 follows fun X c0 => ?_⟩
    simp only [RUN, core, T.c, T.s, T.b, T.i, sBin, sInt, sUn, isShift, asInt, P1.cells, loadT, ptrC, storeT, putC, fillP, Nat.reduceAdd, reduceIte, Nat.reduceEqDiff, Nat.reduceLT, Nat.reduceLeDiff, reduceCtorEq, eq_self, FIT, lendCs_map, verC_map, FinC, resPs, resP, lendPl, lendCs, lendC, sealC, partsT, finHs, tupT, verT, verP, verC, verB, verAt, Blk.ver, handsAre, forall_const, rH, rdr, UKb_3]
    refine callR hC rfl rfl rfl rfl rfl ⟨rfl, ?_⟩
    have b0 : (k == 0) = true := beq_iff_eq.2 e0
    simp only [RUN, core, T.c, T.s, T.b, T.i, sBin, sInt, sUn, isShift, asInt, P1.cells, loadT, ptrC, storeT, putC, fillP, Nat.reduceAdd, reduceIte, Nat.reduceEqDiff, Nat.reduceLT, Nat.reduceLeDiff, reduceCtorEq, eq_self, FIT, lendCs_map, verC_map, FinC, resPs, resP, lendPl, lendCs, lendC, sealC, partsT, finHs, tupT, verT, verP, verC, verB, verAt, Blk.ver, handsAre, forall_const, rH, rdr, UKb_3, b0]
  have b0 : (k == 0) = false := beq_eq_false_iff_ne.2 e0
  by_cases e1 : k = 1
  · refine ⟨p + 1, -999999999, by omega, by omega, ACallsF.intro ok70 follows fun X c0 => ?_⟩
    simp only [RUN, core, T.c, T.s, T.b, T.i, sBin, sInt, sUn, isShift, asInt, P1.cells, loadT, ptrC, storeT, putC, fillP, Nat.reduceAdd, reduceIte, Nat.reduceEqDiff, Nat.reduceLT, Nat.reduceLeDiff, reduceCtorEq, eq_self, FIT, lendCs_map, verC_map, FinC, resPs, resP, lendPl, lendCs, lendC, sealC, partsT, finHs, tupT, verT, verP, verC, verB, verAt, Blk.ver, handsAre, forall_const, rH, rdr, UKb_3]
    refine callR hC rfl rfl rfl rfl rfl ⟨rfl, ?_⟩
    have b1 : (k == 1) = true := beq_iff_eq.2 e1
    simp only [RUN, core, T.c, T.s, T.b, T.i, sBin, sInt, sUn, isShift, asInt, P1.cells, loadT, ptrC, storeT, putC, fillP, Nat.reduceAdd, reduceIte, Nat.reduceEqDiff, Nat.reduceLT, Nat.reduceLeDiff, reduceCtorEq, eq_self, FIT, lendCs_map, verC_map, FinC, resPs, resP, lendPl, lendCs, lendC, sealC, partsT, finHs, tupT, verT, verP, verC, verB, verAt, Blk.ver, handsAre, forall_const, rH, rdr, UKb_3, b0, b1]
  have b1 : (k == 1) = false := beq_eq_false_iff_ne.2 e1
  by_cases e2 : k = 2
  · have b2 : (k == 2) = true := beq_iff_eq.2 e2
    have w1 : IntKind.i64.wrap (k2 * 4000000) = k2 * 4000000 := wrap64 ⟨by omega, by omega⟩
    have w2 : IntKind.i64.wrap (k2 * 4000000 + k3) = k2 * 4000000 + k3 := wrap64 ⟨by omega, by omega⟩
    refine ⟨p + 1 + 1 + 1, k2 * 4000000 + k3, by omega, by omega, ACallsF.intro ok70 follows fun X c0 => ?_⟩
    simp only [RUN, core, T.c, T.s, T.b, T.i, sBin, sInt, sUn, isShift, asInt, P1.cells, loadT, ptrC, storeT, putC, fillP, Nat.reduceAdd, reduceIte, Nat.reduceEqDiff, Nat.reduceLT, Nat.reduceLeDiff, reduceCtorEq, eq_self, FIT, lendCs_map, verC_map, FinC, resPs, resP, lendPl, lendCs, lendC, sealC, partsT, finHs, tupT, verT, verP, verC, verB, verAt, Blk.ver, handsAre, forall_const, rH, rdr, UKb_3]
    refine callR hC rfl rfl rfl rfl rfl ⟨rfl, ?_⟩
    simp only [RUN, core, T.c, T.s, T.b, T.i, sBin, sInt, sUn, isShift, asInt, P1.cells, loadT, ptrC, storeT, putC, fillP, Nat.reduceAdd, reduceIte, Nat.reduceEqDiff, Nat.reduceLT, Nat.reduceLeDiff, reduceCtorEq, eq_self, FIT, lendCs_map, verC_map, FinC, resPs, resP, lendPl, lendCs, lendC, sealC, partsT, finHs, tupT, verT, verP, verC, verB, verAt, Blk.ver, handsAre, forall_const, rH, rdr, UKb_3, b0, b1, b2]
    refine callR hC2 rfl rfl rfl rfl rfl ⟨rfl, ?_⟩
    simp only [RUN, core, T.c, T.s, T.b, T.i, sBin, sInt, sUn, isShift, asInt, P1.cells, loadT, ptrC, storeT, putC, fillP, Nat.reduceAdd, reduceIte, Nat.reduceEqDiff, Nat.reduceLT, Nat.reduceLeDiff, reduceCtorEq, eq_self, FIT, lendCs_map, verC_map, FinC, resPs, resP, lendPl, lendCs, lendC, sealC, partsT, finHs, tupT, verT, verP, verC, verB, verAt, Blk.ver, handsAre, forall_const, rH, rdr, UKb_3, w1]
    refine callR hC3 rfl rfl rfl rfl rfl ⟨rfl, ?_⟩
    simp only [RUN, core, T.c, T.s, T.b, T.i, sBin, sInt, sUn, isShift, asInt, P1.cells, loadT, ptrC, storeT, putC, fillP, Nat.reduceAdd, reduceIte, Nat.reduceEqDiff, Nat.reduceLT, Nat.reduceLeDiff, reduceCtorEq, eq_self, FIT, lendCs_map, verC_map, FinC, resPs, resP, lendPl, lendCs, lendC, sealC, partsT, finHs, tupT, verT, verP, verC, verB, verAt, Blk.ver, handsAre, forall_const, rH, rdr, UKb_3, w2]
  have b2 : (k == 2) = false := beq_eq_false_iff_ne.2 e2
  by_cases e3 : k = 3
  · have b3 : (k == 3) = true := beq_iff_eq.2 e3
    have w1 : IntKind.i64.wrap (127 + k4) = 127 + k4 := wrap64 ⟨by omega, by omega⟩
    refine ⟨p + 1 + 1, 127 + k4, by omega, by omega, ACallsF.intro ok70 follows fun X c0 => ?_⟩
    simp only [RUN, core, T.c, T.s, T.b, T.i, sBin, sInt, sUn, isShift, asInt, P1.cells, loadT, ptrC, storeT, putC, fillP, Nat.reduceAdd, reduceIte, Nat.reduceEqDiff, Nat.reduceLT, Nat.reduceLeDiff, reduceCtorEq, eq_self, FIT, lendCs_map, verC_map, FinC, resPs, resP, lendPl, lendCs, lendC, sealC, partsT, finHs, tupT, verT, verP, verC, verB, verAt, Blk.ver, handsAre, forall_const, rH, rdr, UKb_3]
    refine callR hC rfl rfl rfl rfl rfl ⟨rfl, ?_⟩
    simp only [RUN, core, T.c, T.s, T.b, T.i, sBin, sInt, sUn, isShift, asInt, P1.cells, loadT, ptrC, storeT, putC, fillP, Nat.reduceAdd, reduceIte, Nat.reduceEqDiff, Nat.reduceLT, Nat.reduceLeDiff, reduceCtorEq, eq_self, FIT, lendCs_map, verC_map, FinC, resPs, resP, lendPl, lendCs, lendC, sealC, partsT, finHs, tupT, verT, verP, verC, verB, verAt, Blk.ver, handsAre, forall_const, rH, rdr, UKb_3, b0, b1, b2, b3]
    refine callR hC4 rfl rfl rfl rfl rfl ⟨rfl, ?_⟩
    simp only [RUN, core, T.c, T.s, T.b, T.i, sBin, sInt, sUn, isShift, asInt, P1.cells, loadT, ptrC, storeT, putC, fillP, Nat.reduceAdd, reduceIte, Nat.reduceEqDiff, Nat.reduceLT, Nat.reduceLeDiff, reduceCtorEq, eq_self, FIT, lendCs_map, verC_map, FinC, resPs, resP, lendPl, lendCs, lendC, sealC, partsT, finHs, tupT, verT, verP, verC, verB, verAt, Blk.ver, handsAre, forall_const, rH, rdr, UKb_3, w1]
  have b3 : (k == 3) = false := beq_eq_false_iff_ne.2 e3
  have w1 : IntKind.i64.wrap (k5 - 3) = k5 - 3 := wrap64 ⟨by omega, by omega⟩
  refine ⟨p + 1 + 1, k5 - 3, by omega, by omega, ACallsF.intro ok70 follows fun X c0 => ?_⟩
  simp only [RUN, core, T.c, T.s, T.b, T.i, sBin, sInt, sUn, isShift, asInt, P1.cells, loadT, ptrC, storeT, putC, fillP, Nat.reduceAdd, reduceIte, Nat.reduceEqDiff, Nat.reduceLT, Nat.reduceLeDiff, reduceCtorEq, eq_self, FIT, lendCs_map, verC_map, FinC, resPs, resP, lendPl, lendCs, lendC, sealC, partsT, finHs, tupT, verT, verP, verC, verB, verAt, Blk.ver, handsAre, forall_const, rH, rdr, UKb_3]
  refine callR hC rfl rfl rfl rfl rfl ⟨rfl, ?_⟩
  simp only [RUN, core, T.c, T.s, T.b, T.i, sBin, sInt, sUn, isShift, asInt, P1.cells, loadT, ptrC, storeT, putC, fillP, Nat.reduceAdd, reduceIte, Nat.reduceEqDiff, Nat.reduceLT, Nat.reduceLeDiff, reduceCtorEq, eq_self, FIT, lendCs_map, verC_map, FinC, resPs, resP, lendPl, lendCs, lendC, sealC, partsT, finHs, tupT, verT, verP, verC, verB, verAt, Blk.ver, handsAre, forall_const, rH, rdr, UKb_3, b0, b1, b2, b3]
  refine callR hC5 rfl rfl rfl rfl rfl ⟨rfl, ?_⟩
  simp only [RUN, core, T.c, T.s, T.b, T.i, sBin, sInt, sUn, isShift, asInt, P1.cells, loadT, ptrC, storeT, putC, fillP, Nat.reduceAdd, reduceIte, Nat.reduceEqDiff, Nat.reduceLT, Nat.reduceLeDiff, reduceCtorEq, eq_self, FIT, lendCs_map, verC_map, FinC, resPs, resP, lendPl, lendCs, lendC, sealC, partsT, finHs, tupT, verT, verP, verC, verB, verAt, Blk.ver, handsAre, forall_const, rH, rdr, UKb_3, w1]
end Go.V
set_option linter.unusedSimpArgs false
namespace Go.V
open Go.Proofs
inductive Kd where
  | mk (sort : Int) (names : List ByteArray) (kids : List Kd)
mutual
def encK : Kd → List V
  | .mk s ns ks => [.s (.int .i64 s), .sl (encS ns), .sl (encKs ks)]
def encKs : List Kd → List (List V)
  | [] => []
  | k :: ks => encK k :: encKs ks
end
theorem encKs_eq : ∀ ks, encKs ks = ks.map encK
  | [] => by simp [encKs]
  | k :: ks => by simp [encKs, encKs_eq ks]
theorem encK_mk (s : Int) (ns : List ByteArray) (ks : List Kd) : encK (.mk s ns ks) = [.s (.int .i64 s), .sl (encS ns), .sl (encKs ks)] := by simp [encK]
theorem encK_len (k : Kd) : (encK k).length = 3 := by cases k; simp [encK]
theorem encKs_len (ks : List Kd) : (encKs ks).length = ks.length := by simp [encKs_eq]
theorem encKs_at {ks : List Kd} {i : Nat} {k : Kd} (h : ks[i]? = some k) : (encKs ks)[i]? = some (encK k) := by simp [encKs_eq, h]
theorem encKs_all (ks : List Kd) : ∀ e ∈ encKs ks, e.length = 3 := by
  intro e he
  rw [encKs_eq, List.mem_map] at he
  obtain ⟨k, _, rfl⟩ := he
  exact encK_len k
theorem encKs_snoc (ks : List Kd) (k : Kd) : encKs (ks ++ [k]) = encKs ks ++ [encK k] := by simp [encKs_eq]
theorem encS_snoc (ss : List ByteArray) (s : ByteArray) : encS (ss ++ [s]) = encS ss ++ [[.s (.string s)]] := by simp [encS]
theorem take_encS (ss : List ByteArray) : (encS ss).take ss.length = encS ss := by rw [← encS_len ss, List.take_length]
theorem take_encKs (ks : List Kd) : (encKs ks).take ks.length = encKs ks := by rw [← encKs_len ks, List.take_length]
theorem APT : (type_of% @sealCs_map) ∧ (type_of% @Nat.le_refl) ∧ (type_of% @take_encS) ∧ (type_of% @take_encKs) ∧ (type_of% @encK_len) ∧ (type_of% @List.take_length.{0}) ∧ (type_of% @List.length_append.{0}) ∧ (type_of% @List.length_singleton.{0}) ∧ (type_of% @List.cons_append.{0}) ∧ (type_of% @List.nil_append.{0}) :=
  ⟨@sealCs_map, @Nat.le_refl, @take_encS, @take_encKs, @encK_len, @List.take_length.{0}, @List.length_append.{0}, @List.length_singleton.{0}, @List.cons_append.{0}, @List.nil_append.{0}⟩
abbrev tK (k : Kd) : T := .pt (.agg ((encK k).map .v))

/-- No list and no text is longer than n. -/
inductive KB (n : Nat) : Kd → Prop
  | mk (s : Int) (ns : List ByteArray) (ks : List Kd) (h1 : ns.length ≤ n) (h2 : ks.length ≤ n) (h3 : ∀ x ∈ ns, x.size ≤ n) (h4 : ∀ k ∈ ks, KB n k) : KB n (.mk s ns ks)

/-- How deep it is, at most. -/
inductive Dp : Nat → Kd → Prop
  | mk (d : Nat) (s : Int) (ns : List ByteArray) (ks : List Kd) (h : ∀ k ∈ ks, Dp d k) : Dp (d + 1) (.mk s ns ks)
theorem Dp.le {d e : Nat} {k : Kd} (h : Dp d k) : d ≤ e → Dp e k := by
  induction h generalizing e with
  | mk d s ns ks _ ih =>
    intro hd
    obtain ⟨e, rfl⟩ : ∃ e', e = e' + 1 := ⟨e - 1, by omega⟩
    exact .mk _ _ _ _ fun k hk => ih k hk (by omega)
theorem Dp.inv {d : Nat} {s : Int} {ns : List ByteArray} {ks : List Kd} (h : Dp d (.mk s ns ks)) : 1 ≤ d ∧ ∀ k ∈ ks, Dp (d - 1) k := by
  cases h with
  | mk d _ _ _ h => exact ⟨by omega, h⟩
theorem Dp.one {d : Nat} {k : Kd} (h : Dp d k) (s : Int) : Dp (d + 1) (.mk s [] [k]) := .mk _ _ _ _ fun x hx => by rw [List.mem_singleton.1 hx]; exact h
def kcost : Nat → Int
  | 0 => 100
  | d + 1 => 10 * kcost d
theorem kcost_pos : ∀ d, 100 ≤ kcost d
  | 0 => by simp [kcost]
  | d + 1 => by have := kcost_pos d; simp only [kcost]; omega

structure KS where
  p : Int
  ns : List ByteArray
  ks : List Kd
/- loop.example/teagle/spec.l5Kind -/
def r76_0 : List AOper := [ao 0 6 (.alloc 26 [(.v (.s (.int .i64 0))), .nil0, .nil0])]
def r76_1 : List AOper := [ao 0 11 (.mv (.t 0)),
  ao 1 12 (.call (.k (.c (.fn 36 []))) [(.t 11), (.k (.i 10))]),
  ao 2 7 (.mv (.t 12))]
def r76_2 : List AOper := [ao 0 13 (.mv (.t 1)),
  ao 1 14 (.bin .leq (.t 13) (.k (.i 1)))]
def r76_3 : List AOper := [ao 0 15 (.mv (.t 7)),
  ao 1 16 (.bin .rem (.t 15) (.k (.i 5))),
  ao 2 7 (.mv (.t 16))]
def c76_4 : ACode := .cond (.t 14) (.reg r76_3) .skip
def c76_5 : ACode := .seq (.reg r76_2) c76_4
def r76_6 : List AOper := [ao 0 18 (.mv (.t 2)),
  ao 1 19 (.mv (.t 18)),
  ag 2 20 19 false [] (.mv (.t 7)),
  ag 3 21 19 false [] (.bin .gtr (.t 20) (.k (.i 7))),
  ao 4 22 (.pick (.t 19) (.k (.b true)) (.t 21)),
  ao 5 17 (.mv (.t 22))]
def r76_7 : List AOper := [ao 0 23 (.build [(.v (.s (.int .i64 0))), .nil0, .nil0] [(0, 1, (.k (.i 5)))]),
  ao 1 8 (.alloc 26 [(.v (.s (.int .i64 0))), .nil0, .nil0]),
  an 2 (.st 3 (.t 8) (.t 23))]
def r76_8 : List AOper := [ao 0 24 (.call (.k (.c (.fn 75 []))) []),
  ao 1 9 (.mv (.t 24))]
def r76_9 : List AOper := [ao 0 10 (.mv (.k (.i 0)))]
def r76_10 : List AOper := [ao 0 25 (.mv (.t 10)),
  ao 1 26 (.mv (.t 9)),
  ao 2 27 (.len (.t 26)),
  ao 3 28 (.bin .lss (.t 25) (.t 27)),
  ao 4 29 (.mv (.t 28)),
  ag 5 30 29 true [] (.fa 2 (.t 8)),
  ag 6 31 29 true [] (.ld 1 false (.t 30)),
  ag 7 32 29 true [] (.len (.t 31)),
  ag 8 33 29 true [] (.bin .lss (.t 32) (.k (.i 4))),
  ao 9 34 (.pick (.t 29) (.t 33) (.k (.b false)))]
def c76_11 : ACode := .cond (.t 34) .skip (.exit 1)
def c76_12 : ACode := .seq (.reg r76_10) c76_11
def r76_13 : List AOper := [ao 0 37 (.mv (.t 0)),
  ao 1 38 (.call (.k (.c (.fn 36 []))) [(.t 37), (.k (.i 3))]),
  ao 2 39 (.bin .eql (.t 38) (.k (.i 0))),
  ao 3 40 (.mv (.t 39)),
  ag 4 41 40 true [] (.mv (.t 1)),
  ag 5 42 40 true [] (.bin .gtr (.t 41) (.k (.i 1))),
  ao 6 43 (.pick (.t 40) (.t 42) (.k (.b false)))]
def r76_14 : List AOper := [ao 0 44 (.fa 1 (.t 8)),
  ao 1 45 (.ld 1 false (.t 44)),
  au 2 46 [0, 1] (.mv (.t 9)),
  au 3 47 (ru 3) (.mv (.t 10)),
  au 4 48 [0, 1] (.ia 1 (.t 46) (.t 47)),
  au 5 49 [0, 1] (.ld 1 false (.t 48)),
  au 6 50 [0, 1] (.bsl 1 9 [(.t 49)]),
  ao 7 51 (.app 1 9 16 (.t 45) (.t 50)),
  ao 8 52 (.fa 1 (.t 8)),
  an 9 (.st 1 (.t 52) (.t 51))]
def r76_15 : List AOper := [ao 0 53 (.fa 2 (.t 8)),
  ao 1 54 (.ld 1 false (.t 53)),
  au 2 55 [0, 1] (.mv (.t 0)),
  au 3 56 (ru 3) (.mv (.t 1)),
  au 4 57 (ru 3) (.bin .sub (.t 56) (.k (.i 1))),
  au 5 58 [0, 1] (.call (.k (.c (.fn 76 []))) [(.t 55), (.t 57), (.k (.b false))]),
  au 6 59 [0, 1] (.bsl 3 26 [(.t 58)]),
  ao 7 60 (.app 3 26 56 (.t 54) (.t 59)),
  ao 8 61 (.fa 2 (.t 8)),
  an 9 (.st 1 (.t 61) (.t 60))]
def c76_16 : ACode := .seq (.reg r76_14) (.reg r76_15)
def c76_17 : ACode := .cond (.t 43) c76_16 .skip
def c76_18 : ACode := .seq (.reg r76_13) c76_17
def c76_19 : ACode := .block 2 c76_18
def r76_20 : List AOper := [ao 0 35 (.mv (.t 10)),
  ao 1 36 (.bin .add (.t 35) (.k (.i 1))),
  ao 2 10 (.mv (.t 36))]
def c76_21 : ACode := .seq c76_12 (.seq c76_19 (.reg r76_20))
def c76_22 : ACode := .loop c76_21
def c76_23 : ACode := .block 1 c76_22
def c76_24 : ACode := .seq (.reg r76_9) c76_23
def r76_25 : List AOper := [ao 0 62 (.ld 3 true (.t 8)),
  an 1 (.st 3 (.t 6) (.t 62))]
def c76_26 : ACode := .seq (.reg r76_7) (.seq (.reg r76_8) (.seq c76_24 (.seq (.reg r76_25) .ret)))
def r76_27 : List AOper := [ao 0 64 (.mv (.t 7)),
  ao 1 65 (.bin .gtr (.t 64) (.k (.i 6))),
  ao 2 63 (.mv (.t 65))]
def r76_28 : List AOper := [ao 0 66 (.mv (.t 0)),
  ao 1 67 (.mv (.t 1)),
  ao 2 68 (.bin .sub (.t 67) (.k (.i 1))),
  ao 3 69 (.call (.k (.c (.fn 76 []))) [(.t 66), (.t 68), (.k (.b false))]),
  ao 4 70 (.bsl 3 26 [(.t 69)]),
  ao 5 71 (.build [(.v (.s (.int .i64 0))), .nil0, .nil0] [(0, 1, (.k (.i 6))), (2, 1, (.t 70))]),
  an 6 (.st 3 (.t 6) (.t 71))]
def c76_29 : ACode := .seq (.reg r76_28) .ret
def r76_30 : List AOper := [ao 0 73 (.mv (.t 7)),
  ao 1 74 (.bin .gtr (.t 73) (.k (.i 4))),
  ao 2 72 (.mv (.t 74))]
def r76_31 : List AOper := [ao 0 75 (.mv (.t 0)),
  ao 1 76 (.mv (.t 1)),
  ao 2 77 (.bin .sub (.t 76) (.k (.i 1))),
  ao 3 78 (.call (.k (.c (.fn 76 []))) [(.t 75), (.t 77), (.k (.b false))]),
  ao 4 79 (.bsl 3 26 [(.t 78)]),
  ao 5 80 (.build [(.v (.s (.int .i64 0))), .nil0, .nil0] [(0, 1, (.k (.i 4))), (2, 1, (.t 79))]),
  an 6 (.st 3 (.t 6) (.t 80))]
def c76_32 : ACode := .seq (.reg r76_31) .ret
def c76_33 : ACode := .cond (.t 72) c76_32 .skip
def c76_34 : ACode := .seq (.reg r76_30) c76_33
def c76_35 : ACode := .cond (.t 63) c76_29 c76_34
def c76_36 : ACode := .seq (.reg r76_27) c76_35
def c76_37 : ACode := .cond (.t 17) c76_26 c76_36
def c76_38 : ACode := .seq (.reg r76_6) c76_37
def c76_39 : ACode := .block 0 c76_38
def r76_40 : List AOper := [ao 0 81 (.bsl 1 3 [(.k (.i 1)), (.k (.i 1)), (.k (.i 2)), (.k (.i 2)), (.k (.i 3))]),
  ao 1 82 (.mv (.t 7)),
  ao 2 83 (.ia 1 (.t 81) (.t 82)),
  ao 3 84 (.ld 1 false (.t 83)),
  ao 4 85 (.build [(.v (.s (.int .i64 0))), .nil0, .nil0] [(0, 1, (.t 84))]),
  an 5 (.st 3 (.t 6) (.t 85))]
def c76 : ACode := .seq (.reg r76_0) (.seq (.reg r76_1) (.seq c76_5 (.seq c76_39 (.seq (.reg r76_40) .ret))))
def s76 : List ARes := [.cell 6 3 true]
theorem ok76 : okF Try.prog 76 86 c76 s76 := ⟨Try.f76, Try.func76, Try.ntmps76, by kernel_rfl, by kernel_rfl, by kernel_rfl⟩
theorem names8_len : names8.length = 8 := rfl
theorem names8_size : ∀ s ∈ names8, s.size ≤ 1000 := by decide
def KInv (p : Int) (d : Nat) (i : Nat) (s : KS) : Prop := p ≤ s.p ∧ s.p ≤ p + i * (1 + kcost d) ∧ s.ns.length = s.ks.length ∧ s.ks.length ≤ 4 ∧ (∀ x ∈ s.ns, x ∈ names8) ∧ ∀ k ∈ s.ks, KB 1000 k ∧ Dp d k
def KStep (v : Nat) (bs : List UInt8) (d : Nat) (i : Nat) (s s' : KS) : Prop :=
  (4 ≤ s.ks.length ∧ s' = s) ∨ (s.ks.length < 4 ∧ ∃ n : Int, 0 ≤ n ∧ n < 3 ∧ ACallsF Try.prog 36 [rP v, .i 3] [rH v bs s.p (s.p + 1)] (.i n) ∧
    ((¬ (n = 0 ∧ 1 < d) ∧ s' = ⟨s.p + 1, s.ns, s.ks⟩) ∨ (n = 0 ∧ 1 < d ∧ ∃ k x, names8[i]? = some x ∧ s' = ⟨s'.p, s.ns ++ [x], s.ks ++ [k]⟩ ∧ ACallsF Try.prog 76 [rP v, .i ((d - 1 : Nat) : Int), .b false] [rH v bs (s.p + 1) s'.p] (tK k))))
def KI (v : Nat) (bs : List UInt8) (d : Nat) (f : Nat → KS) (i : Nat) (σ : St) : Prop :=
  σ.t 0 = rP v ∧ σ.t 1 = .i d ∧ σ.t 9 = .c (.v (.sl (encS names8))) ∧ σ.t 10 = .i i ∧ (∃ u6, σ.t 6 = .c (.ptr 6 u6 0) ∧ σ.H 6 = some (.var u6 26 [.v (.s (.int .i64 0)), .nil0, .nil0])) ∧
  σ.H 1000 = some (rdr v bs (f i).p) ∧ ∃ u8 a b, σ.t 8 = .c (.ptr 8 u8 0) ∧ σ.H 8 = some (.var u8 26 [.v (.s (.int .i64 5)), .own 2001 a (f i).ns.length, .own 2002 b (f i).ks.length]) ∧
    σ.H 2001 = some (.arr a true 1 9 (encS (f i).ns)) ∧ σ.H 2002 = some (.arr b true 3 26 (encKs (f i).ks))
theorem KStep_stay {v : Nat} {bs : List UInt8} {d : Nat} {f : Nat → KS} (f2 : ∀ i, i < 8 → KStep v bs d i (f i) (f (i + 1))) (i : Nat) (hi : i ≤ 8) (h : 4 ≤ (f i).ks.length) : ∀ j, i + j ≤ 8 → f (i + j) = f i
  | 0, _ => rfl
  | j + 1, hj => by
    have e := KStep_stay f2 i hi h j (by omega)
    rcases f2 (i + j) (by omega) with ⟨_, h2⟩ | ⟨h2, _⟩
    · rw [← Nat.add_assoc, h2, e]
    · rw [e] at h2; omega
theorem UKc_4 : (type_of% (uA c76_21.eq_1)) ∧ (type_of% (uA c76_12.eq_1)) ∧ (type_of% (uR r76_10.eq_1)) ∧ (type_of% (uA c76_11.eq_1)) ∧ (type_of% (uA c76_19.eq_1)) ∧ (type_of% (uA c76_18.eq_1)) ∧ (type_of% (uR r76_13.eq_1)) ∧ (type_of% (uA c76_17.eq_1)) ∧ (type_of% (uA c76_16.eq_1)) ∧ (type_of% (uR r76_14.eq_1)) ∧ (type_of% (uR r76_15.eq_1)) ∧ (type_of% (uR r76_20.eq_1)) ∧ (type_of% (uA c76.eq_1)) ∧ (type_of% (uR r76_0.eq_1)) ∧ (type_of% (uR r76_1.eq_1)) ∧ (type_of% (uA c76_5.eq_1)) ∧ (type_of% (uR r76_2.eq_1)) ∧ (type_of% (uA c76_4.eq_1)) ∧ (type_of% (uR r76_3.eq_1)) ∧ (type_of% (uA c76_39.eq_1)) ∧ (type_of% (uA c76_38.eq_1)) ∧ (type_of% (uR r76_6.eq_1)) ∧ (type_of% (uA c76_37.eq_1)) ∧ (type_of% (uA c76_26.eq_1)) ∧ (type_of% (uR r76_7.eq_1)) ∧ (type_of% (uR r76_8.eq_1)) ∧ (type_of% (uA c76_24.eq_1)) ∧ (type_of% (uR r76_9.eq_1)) ∧ (type_of% (uA c76_23.eq_1)) ∧ (type_of% (uA c76_22.eq_1)) ∧ (type_of% (uR r76_25.eq_1)) ∧ (type_of% (uA c76_36.eq_1)) ∧ (type_of% (uR r76_27.eq_1)) ∧ (type_of% (uA c76_35.eq_1)) ∧ (type_of% (uA c76_29.eq_1)) ∧ (type_of% (uR r76_28.eq_1)) ∧ (type_of% (uA c76_34.eq_1)) ∧ (type_of% (uR r76_30.eq_1)) ∧ (type_of% (uA c76_33.eq_1)) ∧ (type_of% (uA c76_32.eq_1)) ∧ (type_of% (uR r76_31.eq_1)) ∧ (type_of% (uR r76_40.eq_1)) ∧ (type_of% s76.eq_1) :=
  ⟨uA c76_21.eq_1, uA c76_12.eq_1, uR r76_10.eq_1, uA c76_11.eq_1, uA c76_19.eq_1, uA c76_18.eq_1, uR r76_13.eq_1, uA c76_17.eq_1, uA c76_16.eq_1, uR r76_14.eq_1, uR r76_15.eq_1, uR r76_20.eq_1, uA c76.eq_1, uR r76_0.eq_1, uR r76_1.eq_1, uA c76_5.eq_1, uR r76_2.eq_1, uA c76_4.eq_1, uR r76_3.eq_1, uA c76_39.eq_1, uA c76_38.eq_1, uR r76_6.eq_1, uA c76_37.eq_1, uA c76_26.eq_1, uR r76_7.eq_1, uR r76_8.eq_1, uA c76_24.eq_1, uR r76_9.eq_1, uA c76_23.eq_1, uA c76_22.eq_1, uR r76_25.eq_1, uA c76_36.eq_1, uR r76_27.eq_1, uA c76_35.eq_1, uA c76_29.eq_1, uR r76_28.eq_1, uA c76_34.eq_1, uR r76_30.eq_1, uA c76_33.eq_1, uA c76_32.eq_1, uR r76_31.eq_1, uR r76_40.eq_1, s76.eq_1⟩
theorem kind_loop (v : Nat) (bs : List UInt8) (d : Nat) (hd : 0 < d ∧ d ≤ 11) (f : Nat → KS) (hb : ∀ i, i ≤ 8 → (f i).ns.length = (f i).ks.length ∧ (f i).ks.length ≤ 4) (f2 : ∀ i, i < 8 → KStep v bs d i (f i) (f (i + 1))) {X : Ctx} {Q : Exit → St → Prop} {t : Nat → T} {H : HMap} {c : Nat}
    (h : KI v bs d f 0 ⟨t, H, c⟩) (hQ : ∀ t H c i, KI v bs d f i ⟨t, H, c⟩ → f i = f 8 → Q (.exit 1) ⟨t, H, c⟩) : AW Try.prog X (.loop c76_21) Q ⟨t, H, c⟩ := by
  refine AW.upto 8 (KI v bs d f) h fun i t H c hi h => ?_
  have hKI := h
  obtain ⟨h1, h2, h3, h4, ⟨u6, h5, h6⟩, h7, u8, a, b, h8, h9, h10, h11⟩ := h
  simp only [T.c, T.i, T.b, rP, rdr] at h1 h2 h3 h4 h5 h6 h7 h8 h9 h10 h11
  by_cases hi8 : i < 8
  · have g1 : (i : Int) < ((8 : Nat) : Int) := by omega
    rcases f2 i hi8 with ⟨g2, g3⟩ | ⟨g2, n, n0, n1, hC, g3⟩
    · have g4 : ¬ ((f i).ks.length : Int) < 4 := by omega
      have g5 := KStep_stay f2 i hi g2 (8 - i) (by omega)
      rw [show i + (8 - i) = 8 from by omega] at g5
      simp only [RUN, core, T.c, T.s, T.b, T.i, sBin, sInt, sUn, isShift, asInt, P1.cells, loadT, ptrC, storeT, putC, fillP, Nat.reduceAdd, reduceIte, Nat.reduceEqDiff, Nat.reduceLT, Nat.reduceLeDiff, reduceCtorEq, eq_self, FIT, lendCs_map, verC_map, FinC, resPs, resP, lendPl, lendCs, lendC, sealC, partsT, finHs, tupT, verT, verP, verC, verB, verAt, Blk.ver, handsAre, forall_const, UKc_4, h1, h2, h3, h4, h8, h9, encS_len, names8_len, g1, g4]
      exact hQ _ _ _ i ⟨h1, h2, h3, h4, ⟨u6, h5, h6⟩, h7, u8, a, b, h8, h9, h10, h11⟩ g5.symm
    · have g4 : ((f i).ks.length : Int) < 4 := by omega
      have gw : IntKind.i64.wrap ((i : Int) + 1) = ((i + 1 : Nat) : Int) := wrap64 (x := (i : Int) + 1) ⟨by omega, by omega⟩
      rcases g3 with ⟨g5, g6⟩ | ⟨rfl, g5, kd, x, g6, g7, hC2⟩
      · have g8 : ∃ b : Bool, (if (n == 0) = true then decide ((d : Int) > 1) else false) = b ∧ b = false := by
          refine ⟨_, rfl, ?_⟩
          by_cases hn : n = 0
          · have : ¬ 1 < d := fun h => g5 ⟨hn, h⟩
            simp [hn]; omega
          · simp [hn]
        simp only [RUN, core, T.c, T.s, T.b, T.i, sBin, sInt, sUn, isShift, asInt, P1.cells, loadT, ptrC, storeT, putC, fillP, Nat.reduceAdd, reduceIte, Nat.reduceEqDiff, Nat.reduceLT, Nat.reduceLeDiff, reduceCtorEq, eq_self, FIT, lendCs_map, verC_map, FinC, resPs, resP, lendPl, lendCs, lendC, sealC, partsT, finHs, tupT, verT, verP, verC, verB, verAt, Blk.ver, handsAre, forall_const, UKc_4, h1, h2, h3, h4, h8, h9, encS_len, names8_len, g1, g4]
        refine callR hC rfl rfl rfl rfl h7 ⟨rfl, ?_⟩
        by_cases hn : n = 0
        · have e0 : (n == 0) = true := beq_iff_eq.2 hn
          have e1 : ¬ (d : Int) > 1 := by have : ¬ 1 < d := fun h => g5 ⟨hn, h⟩
                                          omega
          simp only [RUN, core, T.c, T.s, T.b, T.i, sBin, sInt, sUn, isShift, asInt, P1.cells, loadT, ptrC, storeT, putC, fillP, Nat.reduceAdd, reduceIte, Nat.reduceEqDiff, Nat.reduceLT, Nat.reduceLeDiff, reduceCtorEq, eq_self, FIT, lendCs_map, verC_map, FinC, resPs, resP, lendPl, lendCs, lendC, sealC, partsT, finHs, tupT, verT, verP, verC, verB, verAt, Blk.ver, handsAre, forall_const, UKc_4, h1, h2, h3, h4, h8, h9, encS_len, names8_len, g1, g4, e0, e1, gw]
          refine ⟨hi8, h1, h2, h3, rfl, ⟨u6, h5, h6⟩, ?_, u8, a, b, h8, ?_, ?_, ?_⟩
          all_goals simp only [g6, upd_at, reduceIte, Nat.reduceEqDiff, h9, h10, h11]
        · have e0 : (n == 0) = false := beq_eq_false_iff_ne.2 hn
          simp only [RUN, core, T.c, T.s, T.b, T.i, sBin, sInt, sUn, isShift, asInt, P1.cells, loadT, ptrC, storeT, putC, fillP, Nat.reduceAdd, reduceIte, Nat.reduceEqDiff, Nat.reduceLT, Nat.reduceLeDiff, reduceCtorEq, eq_self, FIT, lendCs_map, verC_map, FinC, resPs, resP, lendPl, lendCs, lendC, sealC, partsT, finHs, tupT, verT, verP, verC, verB, verAt, Blk.ver, handsAre, forall_const, UKc_4, h1, h2, h3, h4, h8, h9, encS_len, names8_len, g1, g4, e0, gw]
          refine ⟨hi8, h1, h2, h3, rfl, ⟨u6, h5, h6⟩, ?_, u8, a, b, h8, ?_, ?_, ?_⟩
          all_goals simp only [g6, upd_at, reduceIte, Nat.reduceEqDiff, h9, h10, h11]
      · have e0 : ((0 : Int) == 0) = true := rfl
        have e1 : (d : Int) > 1 := by omega
        have hi0 : (0 : Int) ≤ i := by omega
        have ex := encS_at g6
        have hwd : IntKind.i64.wrap ((d : Int) - 1) = ((d - 1 : Nat) : Int) := (wrap64 (x := (d : Int) - 1) ⟨by omega, by omega⟩).trans (by omega)
        have hbi := hb i hi
        have q1 : ((f i).ns.length + 1) * 16 ≤ 140737488355328 := by omega
        have q2 : (f i).ns.length ≤ 9223372036854775806 := by omega
        have q3 : ((f i).ks.length + 1) * 56 ≤ 140737488355328 := by omega
        have q4 : (f i).ks.length ≤ 9223372036854775806 := by omega
        simp only [RUN, core, T.c, T.s, T.b, T.i, sBin, sInt, sUn, isShift, asInt, P1.cells, loadT, ptrC, storeT, putC, fillP, Nat.reduceAdd, reduceIte, Nat.reduceEqDiff, Nat.reduceLT, Nat.reduceLeDiff, reduceCtorEq, eq_self, FIT, lendCs_map, verC_map, FinC, resPs, resP, lendPl, lendCs, lendC, sealC, partsT, finHs, tupT, verT, verP, verC, verB, verAt, Blk.ver, handsAre, forall_const, UKc_4, h1, h2, h3, h4, h8, h9, encS_len, names8_len, g1, g4]
        refine callR hC rfl rfl rfl rfl h7 ⟨rfl, ?_⟩
        simp only [RUN, core, T.c, T.s, T.b, T.i, sBin, sInt, sUn, isShift, asInt, P1.cells, loadT, ptrC, storeT, putC, fillP, Nat.reduceAdd, reduceIte, Nat.reduceEqDiff, Nat.reduceLT, Nat.reduceLeDiff, reduceCtorEq, eq_self, FIT, lendCs_map, verC_map, FinC, resPs, resP, lendPl, lendCs, lendC, sealC, partsT, finHs, tupT, verT, verP, verC, verB, verAt, Blk.ver, handsAre, forall_const, CHT, disj, Nat.reduceBEq, beq_self_eq_true, APT, srcOf, sealPs, sealCs, sealC, List.mem_singleton, forall_eq, UKc_4, h1, h2, h3, h4, h8, h9, h10, h11, encS_len, names8_len, g1, g4, e0, e1, ex, hi0, Int.toNat_natCast, q1, q2, hwd]
        refine callR hC2 rfl rfl rfl (closed_map _) rfl ⟨?_, ?_⟩
        · simp only [RUN, core, T.c, T.s, T.b, T.i, sBin, sInt, sUn, isShift, asInt, P1.cells, loadT, ptrC, storeT, putC, fillP, Nat.reduceAdd, reduceIte, Nat.reduceEqDiff, Nat.reduceLT, Nat.reduceLeDiff, reduceCtorEq, eq_self, FIT, lendCs_map, verC_map, FinC, resPs, resP, lendPl, lendCs, lendC, sealC, partsT, finHs, tupT, verT, verP, verC, verB, verAt, Blk.ver, handsAre, forall_const, CHT, disj, Nat.reduceBEq, beq_self_eq_true]
        simp only [RUN, core, T.c, T.s, T.b, T.i, sBin, sInt, sUn, isShift, asInt, P1.cells, loadT, ptrC, storeT, putC, fillP, Nat.reduceAdd, reduceIte, Nat.reduceEqDiff, Nat.reduceLT, Nat.reduceLeDiff, reduceCtorEq, eq_self, FIT, lendCs_map, verC_map, FinC, resPs, resP, lendPl, lendCs, lendC, sealC, partsT, finHs, tupT, verT, verP, verC, verB, verAt, Blk.ver, handsAre, forall_const, CHT, disj, Nat.reduceBEq, beq_self_eq_true, APT, srcOf, sealPs, sealCs, sealC, List.mem_singleton, forall_eq, UKc_4, h1, h2, h3, h4, h8, h9, h10, h11, gw, q3, q4, encKs_len]
        have k1 : (f (i + 1)).ns = (f i).ns ++ [x] := congrArg KS.ns g7
        have k2 : (f (i + 1)).ks = (f i).ks ++ [kd] := congrArg KS.ks g7
        refine ⟨hi8, h1, h2, h3, rfl, ⟨u6, h5, h6⟩, rfl, u8, c + 10 + 7 + 7, c + 10 + 7 + 10 + 7, h8, ?_, ?_, ?_⟩
        · simp only [k1, k2, List.length_append, List.length_cons, List.length_nil, upd_at, reduceIte, Nat.reduceEqDiff]
        · rw [k1, encS_snoc]; rfl
        · rw [k2, encKs_snoc]; rfl
  · have g1 : ¬ (i : Int) < ((8 : Nat) : Int) := by omega
    have : i = 8 := by omega
    subst this
    simp only [RUN, core, T.c, T.s, T.b, T.i, sBin, sInt, sUn, isShift, asInt, P1.cells, loadT, ptrC, storeT, putC, fillP, Nat.reduceAdd, reduceIte, Nat.reduceEqDiff, Nat.reduceLT, Nat.reduceLeDiff, reduceCtorEq, eq_self, FIT, lendCs_map, verC_map, FinC, resPs, resP, lendPl, lendCs, lendC, sealC, partsT, finHs, tupT, verT, verP, verC, verB, verAt, Blk.ver, handsAre, forall_const, UKc_4, h1, h2, h3, h4, h8, h9, encS_len, names8_len, g1]
    exact hQ _ _ _ 8 ⟨h1, h2, h3, h4, ⟨u6, h5, h6⟩, h7, u8, a, b, h8, h9, h10, h11⟩ rfl
theorem UKc_1 : (type_of% (uA c76.eq_1)) ∧ (type_of% (uR r76_0.eq_1)) ∧ (type_of% (uR r76_1.eq_1)) ∧ (type_of% (uA c76_5.eq_1)) ∧ (type_of% (uR r76_2.eq_1)) ∧ (type_of% (uA c76_4.eq_1)) ∧ (type_of% (uR r76_3.eq_1)) ∧ (type_of% (uA c76_39.eq_1)) ∧ (type_of% (uR r76_40.eq_1)) ∧ (type_of% s76.eq_1) :=
  ⟨uA c76.eq_1, uR r76_0.eq_1, uR r76_1.eq_1, uA c76_5.eq_1, uR r76_2.eq_1, uA c76_4.eq_1, uR r76_3.eq_1, uA c76_39.eq_1, uR r76_40.eq_1, s76.eq_1⟩
theorem UKc_2 : (type_of% (uA c76.eq_1)) ∧ (type_of% (uR r76_0.eq_1)) ∧ (type_of% (uR r76_1.eq_1)) ∧ (type_of% (uA c76_5.eq_1)) ∧ (type_of% (uR r76_2.eq_1)) ∧ (type_of% (uA c76_4.eq_1)) ∧ (type_of% (uR r76_3.eq_1)) ∧ (type_of% (uA c76_39.eq_1)) ∧ (type_of% (uA c76_38.eq_1)) ∧ (type_of% (uR r76_6.eq_1)) ∧ (type_of% (uA c76_37.eq_1)) ∧ (type_of% (uA c76_26.eq_1)) ∧ (type_of% (uR r76_7.eq_1)) ∧ (type_of% (uR r76_8.eq_1)) ∧ (type_of% (uA c76_24.eq_1)) ∧ (type_of% (uR r76_9.eq_1)) ∧ (type_of% (uA c76_23.eq_1)) ∧ (type_of% (uA c76_22.eq_1)) ∧ (type_of% (uR r76_25.eq_1)) ∧ (type_of% (uA c76_36.eq_1)) ∧ (type_of% (uR r76_27.eq_1)) ∧ (type_of% (uA c76_35.eq_1)) ∧ (type_of% (uA c76_29.eq_1)) ∧ (type_of% (uR r76_28.eq_1)) ∧ (type_of% (uA c76_34.eq_1)) ∧ (type_of% (uR r76_30.eq_1)) ∧ (type_of% (uA c76_33.eq_1)) ∧ (type_of% (uA c76_32.eq_1)) ∧ (type_of% (uR r76_31.eq_1)) ∧ (type_of% (uR r76_40.eq_1)) ∧ (type_of% s76.eq_1) :=
  ⟨uA c76.eq_1, uR r76_0.eq_1, uR r76_1.eq_1, uA c76_5.eq_1, uR r76_2.eq_1, uA c76_4.eq_1, uR r76_3.eq_1, uA c76_39.eq_1, uA c76_38.eq_1, uR r76_6.eq_1, uA c76_37.eq_1, uA c76_26.eq_1, uR r76_7.eq_1, uR r76_8.eq_1, uA c76_24.eq_1, uR r76_9.eq_1, uA c76_23.eq_1, uA c76_22.eq_1, uR r76_25.eq_1, uA c76_36.eq_1, uR r76_27.eq_1, uA c76_35.eq_1, uA c76_29.eq_1, uR r76_28.eq_1, uA c76_34.eq_1, uR r76_30.eq_1, uA c76_33.eq_1, uA c76_32.eq_1, uR r76_31.eq_1, uR r76_40.eq_1, s76.eq_1⟩
theorem UKc_3 : (type_of% (uA c76.eq_1)) ∧ (type_of% (uR r76_0.eq_1)) ∧ (type_of% (uR r76_1.eq_1)) ∧ (type_of% (uA c76_5.eq_1)) ∧ (type_of% (uR r76_2.eq_1)) ∧ (type_of% (uA c76_4.eq_1)) ∧ (type_of% (uR r76_3.eq_1)) ∧ (type_of% (uA c76_39.eq_1)) ∧ (type_of% (uA c76_38.eq_1)) ∧ (type_of% (uR r76_6.eq_1)) ∧ (type_of% (uA c76_37.eq_1)) ∧ (type_of% (uA c76_36.eq_1)) ∧ (type_of% (uR r76_27.eq_1)) ∧ (type_of% (uA c76_35.eq_1)) ∧ (type_of% (uA c76_29.eq_1)) ∧ (type_of% (uR r76_28.eq_1)) ∧ (type_of% (uA c76_34.eq_1)) ∧ (type_of% (uR r76_30.eq_1)) ∧ (type_of% (uA c76_33.eq_1)) ∧ (type_of% (uA c76_32.eq_1)) ∧ (type_of% (uR r76_31.eq_1)) ∧ (type_of% (uR r76_40.eq_1)) ∧ (type_of% s76.eq_1) :=
  ⟨uA c76.eq_1, uR r76_0.eq_1, uR r76_1.eq_1, uA c76_5.eq_1, uR r76_2.eq_1, uA c76_4.eq_1, uR r76_3.eq_1, uA c76_39.eq_1, uA c76_38.eq_1, uR r76_6.eq_1, uA c76_37.eq_1, uA c76_36.eq_1, uR r76_27.eq_1, uA c76_35.eq_1, uA c76_29.eq_1, uR r76_28.eq_1, uA c76_34.eq_1, uR r76_30.eq_1, uA c76_33.eq_1, uA c76_32.eq_1, uR r76_31.eq_1, uR r76_40.eq_1, s76.eq_1⟩
theorem kind_ok (v : Nat) (bs : List UInt8) (hb : bs.length ≤ 2000) : ∀ (d : Nat) (p : Int) (top : Bool), 1 ≤ d ∧ d ≤ 10 → 0 ≤ p → p + kcost d ≤ 999999999000 →
    ∃ (p' : Int) (k : Kd), p ≤ p' ∧ p' ≤ p + kcost d ∧ (KB 1000 k ∧ Dp d k) ∧ ACallsF Try.prog 76 [rP v, .i d, .b top] [rH v bs p p'] (tK k) := by
  intro d
  induction d with
  | zero => intro p top hd; omega
  | succ d ih =>
    intro p top hd hp0 hp1
    have hkc := kcost_pos d
    have hkc1 : kcost (d + 1) = 10 * kcost d := rfl
    obtain ⟨n, hn0, hn1, hC⟩ := pick_ok v bs hb p 10 (by omega) (by omega)
    obtain ⟨f, f0, f1, f2⟩ := trace (KInv (p + 1) d) (KStep v bs (d + 1)) ⟨p + 1, [], []⟩ ⟨Int.le_refl _, by simp, rfl, by simp, fun x hx => (by cases hx), fun x hx => (by cases hx)⟩ 8 (by
      rintro i hi ⟨q, ns, ks⟩ ⟨g1, g2, g3, g4, g5, g6⟩
      simp only at g1 g2 g3 g4 g5 g6
      have hik : (i : Int) * (1 + kcost d) ≤ 7 * (1 + kcost d) := Int.mul_le_mul_of_nonneg_right (by omega) (by omega)
      have hik2 : ((i + 1 : Nat) : Int) * (1 + kcost d) = (i : Int) * (1 + kcost d) + (1 + kcost d) := by
        rw [Int.natCast_add, Int.add_mul]; simp
      by_cases hk : 4 ≤ ks.length
      · exact ⟨⟨q, ns, ks⟩, .inl ⟨hk, rfl⟩, g1, by simp only; omega, g3, g4, g5, g6⟩
      · obtain ⟨m, m0, m1, hm⟩ := pick_ok v bs hb q 3 (by omega) (by omega)
        by_cases hc : m = 0 ∧ 1 < d + 1
        · obtain ⟨p', k, i1, i2, i3, i4⟩ := ih (q + 1) false (by omega) (by omega) (by omega)
          have hx : names8[i]? = some (names8[i]'(by rw [names8_len]; omega)) := List.getElem?_eq_getElem _
          refine ⟨⟨p', ns ++ [_], ks ++ [k]⟩, .inr ⟨by simp only; omega, m, m0, m1, hm, .inr ⟨hc.1, hc.2, k, _, hx, rfl, i4⟩⟩, by simp only; omega, by simp only; omega, by simp [g3], by simp; omega, ?_, ?_⟩
          · intro x hx2
            rcases List.mem_append.1 hx2 with hx2 | hx2
            · exact g5 x hx2
            · simp at hx2; subst hx2; exact List.getElem_mem _
          · intro x hx2
            rcases List.mem_append.1 hx2 with hx2 | hx2
            · exact g6 x hx2
            · simp at hx2; subst hx2; exact i3
        · exact ⟨⟨q + 1, ns, ks⟩, .inr ⟨by simp only; omega, m, m0, m1, hm, .inl ⟨hc, rfl⟩⟩, by simp only; omega, by simp only; omega, g3, g4, g5, g6⟩)
    have hwd : IntKind.i64.wrap (((d + 1 : Nat) : Int) - 1) = (d : Int) := (wrap64 (x := ((d + 1 : Nat) : Int) - 1) ⟨by omega, by omega⟩).trans (by omega)
    obtain ⟨m, hm0, hm1, hm⟩ : ∃ m : Int, 0 ≤ m ∧ m ≤ 9 ∧ ((((d + 1 : Nat) : Int) ≤ 1 ∧ n.tmod 5 = m ∧ m ≤ 4) ∨ (¬ (((d + 1 : Nat) : Int) ≤ 1) ∧ n = m)) := by
      by_cases h : ((d + 1 : Nat) : Int) ≤ 1
      · exact ⟨n.tmod 5, by rw [Int.tmod_eq_emod_of_nonneg hn0]; omega, by rw [Int.tmod_eq_emod_of_nonneg hn0]; omega, .inl ⟨h, rfl, by rw [Int.tmod_eq_emod_of_nonneg hn0]; omega⟩⟩
      · exact ⟨n, hn0, by omega, .inr ⟨h, rfl⟩⟩
    have pre : ∀ (p' : Int) (kd : Kd), (∀ (X : Ctx) (t : Nat → T) (H : HMap) (c : Nat), (∃ u6, t 6 = .c (.ptr 6 u6 0) ∧ H 6 = some (.var u6 26 [.v (.s (.int .i64 0)), .nil0, .nil0])) → t 0 = rP v → t 1 = .i ((d + 1 : Nat) : Int) → t 2 = .b top → t 7 = .i m → H 1000 = some (rdr v bs (p + 1)) → H 2001 = none → H 2002 = none →
        wpa Try.prog X c76_38 (inW 0 (thenW Try.prog X (.seq (.reg r76_40) .ret) (endA (FinC s76 (tK kd) [rH v bs p p'])))) ⟨t, H, c⟩) → ACallsF Try.prog 76 [rP v, .i ((d + 1 : Nat) : Int), .b top] [rH v bs p p'] (tK kd) := by
      intro p' kd hrest
      refine ACallsF.intro ok76 follows fun X c0 => ?_
      simp only [RUN, core, T.c, T.s, T.b, T.i, sBin, sInt, sUn, isShift, asInt, P1.cells, loadT, ptrC, storeT, putC, fillP, Nat.reduceAdd, reduceIte, Nat.reduceEqDiff, Nat.reduceLT, Nat.reduceLeDiff, reduceCtorEq, eq_self, FIT, lendCs_map, verC_map, FinC, resPs, resP, lendPl, lendCs, lendC, sealC, partsT, finHs, tupT, verT, verP, verC, verB, verAt, Blk.ver, handsAre, forall_const, UKc_1]
      refine callR hC rfl rfl rfl rfl rfl ⟨rfl, ?_⟩
      rcases hm with ⟨hm2, hm3, hm4⟩ | ⟨hm2, rfl⟩
      · have h5 : ¬ (5 : Int) = 0 := by omega
        simp only [RUN, core, T.c, T.s, T.b, T.i, sBin, sInt, sUn, isShift, asInt, P1.cells, loadT, ptrC, storeT, putC, fillP, Nat.reduceAdd, reduceIte, Nat.reduceEqDiff, Nat.reduceLT, Nat.reduceLeDiff, reduceCtorEq, eq_self, FIT, lendCs_map, verC_map, FinC, resPs, resP, lendPl, lendCs, lendC, sealC, partsT, finHs, tupT, verT, verP, verC, verB, verAt, Blk.ver, handsAre, forall_const, UKc_1, hm2, hm3, h5]
        exact hrest X _ _ _ ⟨_, rfl, rfl⟩ rfl rfl rfl rfl rfl rfl rfl
      · simp only [RUN, core, T.c, T.s, T.b, T.i, sBin, sInt, sUn, isShift, asInt, P1.cells, loadT, ptrC, storeT, putC, fillP, Nat.reduceAdd, reduceIte, Nat.reduceEqDiff, Nat.reduceLT, Nat.reduceLeDiff, reduceCtorEq, eq_self, FIT, lendCs_map, verC_map, FinC, resPs, resP, lendPl, lendCs, lendC, sealC, partsT, finHs, tupT, verT, verP, verC, verB, verAt, Blk.ver, handsAre, forall_const, UKc_1, hm2]
        exact hrest X _ _ _ ⟨_, rfl, rfl⟩ rfl rfl rfl rfl rfl rfl rfl
    by_cases htop : top = true ∨ 7 < m
    · refine ⟨(f 8).p, .mk 5 (f 8).ns (f 8).ks, ?_, ?_, ?_, ?_⟩
      · have := (f1 8 (Nat.le_refl _)).1; omega
      · have := (f1 8 (Nat.le_refl _)).2.1; omega
      · obtain ⟨_, _, g3, g4, g5, g6⟩ := f1 8 (Nat.le_refl _)
        exact ⟨.mk _ _ _ (by omega) (by omega) (fun x hx => names8_size x (g5 x hx)) fun k hk => (g6 k hk).1, .mk _ _ _ _ fun k hk => (g6 k hk).2⟩
      have fin8 : ∀ (X : Ctx) (t : Nat → T) (H : HMap) (c : Nat), (∃ u6, t 6 = .c (.ptr 6 u6 0) ∧ H 6 = some (.var u6 26 [.v (.s (.int .i64 0)), .nil0, .nil0])) → t 0 = rP v → t 1 = .i ((d + 1 : Nat) : Int) → H 1000 = some (rdr v bs (p + 1)) → H 2001 = none → H 2002 = none →
          wpa Try.prog X c76_26 (inW 0 (thenW Try.prog X (.seq (.reg r76_40) .ret) (endA (FinC s76 (tK (.mk 5 (f 8).ns (f 8).ks)) [rH v bs p (f 8).p])))) ⟨t, H, c⟩ := by
        rintro X t H c ⟨u6, h5, h6⟩ h1 h2 h7 h8 h9
        simp only [T.c, T.i, rP, rdr] at h1 h2 h5 h6 h7
        simp only [RUN, core, T.c, T.s, T.b, T.i, sBin, sInt, sUn, isShift, asInt, P1.cells, loadT, ptrC, storeT, putC, fillP, Nat.reduceAdd, reduceIte, Nat.reduceEqDiff, Nat.reduceLT, Nat.reduceLeDiff, reduceCtorEq, eq_self, FIT, lendCs_map, verC_map, FinC, resPs, resP, lendPl, lendCs, lendC, sealC, partsT, finHs, tupT, verT, verP, verC, verB, verAt, Blk.ver, handsAre, forall_const, UKc_2]
        refine callC names_ok rfl rfl rfl rfl ?_
        simp only [RUN, core, T.c, T.s, T.b, T.i, sBin, sInt, sUn, isShift, asInt, P1.cells, loadT, ptrC, storeT, putC, fillP, Nat.reduceAdd, reduceIte, Nat.reduceEqDiff, Nat.reduceLT, Nat.reduceLeDiff, reduceCtorEq, eq_self, FIT, lendCs_map, verC_map, FinC, resPs, resP, lendPl, lendCs, lendC, sealC, partsT, finHs, tupT, verT, verP, verC, verB, verAt, Blk.ver, handsAre, forall_const, UKc_2]
        refine AW.reify 8 1 2001 1 9 rfl rfl h8 (by decide) ?_
        refine AW.reify 8 2 2002 3 26 rfl rfl h9 (by decide) ?_
        refine kind_loop v bs (d + 1) ⟨by omega, by omega⟩ f (fun i hi => ⟨(f1 i hi).2.2.1, (f1 i hi).2.2.2.1⟩) f2 ?_ ?_
        · unfold KI
          rw [f0]
          exact ⟨h1, h2, rfl, rfl, ⟨u6, h5, h6⟩, h7, _, _, _, rfl, rfl, rfl, rfl⟩
        · rintro t H c i ⟨h1, h2, h3, h4, ⟨u6, h5, h6⟩, h7, u8, a, b, h8, h9, h10, h11⟩ e
          rw [e] at h7 h9 h10 h11
          simp only [T.c, T.i, T.b, rP, rdr] at h1 h2 h3 h4 h5 h6 h7 h8 h9 h10 h11
          simp only [RUN, core, T.c, T.s, T.b, T.i, sBin, sInt, sUn, isShift, asInt, P1.cells, loadT, ptrC, storeT, putC, fillP, Nat.reduceAdd, reduceIte, Nat.reduceEqDiff, Nat.reduceLT, Nat.reduceLeDiff, reduceCtorEq, eq_self, FIT, lendCs_map, verC_map, FinC, resPs, resP, lendPl, lendCs, lendC, sealC, partsT, finHs, tupT, verT, verP, verC, verB, verAt, Blk.ver, handsAre, forall_const, UKc_2, APT, srcOf, sealPs, sealCs, sealC, List.mem_singleton, forall_eq, rH, rdr, h1, h5, h6, h7, h8, h9, h10, h11, encK_mk, encKs_len, encS_len]
      refine pre _ _ fun X t H c ⟨u6, h5, h6⟩ h1 h2 h3 h4 h7 h8 h9 => ?_
      simp only [T.c, T.i, T.b] at h3 h4
      cases top with
      | true =>
        simp only [RUN, core, T.c, T.s, T.b, T.i, sBin, sInt, sUn, isShift, asInt, P1.cells, loadT, ptrC, storeT, putC, fillP, Nat.reduceAdd, reduceIte, Nat.reduceEqDiff, Nat.reduceLT, Nat.reduceLeDiff, reduceCtorEq, eq_self, FIT, lendCs_map, verC_map, FinC, resPs, resP, lendPl, lendCs, lendC, sealC, partsT, finHs, tupT, verT, verP, verC, verB, verAt, Blk.ver, handsAre, forall_const, UKc_3, h3, h4]
        exact fin8 X _ _ _ ⟨u6, h5, h6⟩ h1 h2 h7 h8 h9
      | false =>
        have h7m : m > 7 := by rcases htop with h | h; cases h; exact h
        simp only [RUN, core, T.c, T.s, T.b, T.i, sBin, sInt, sUn, isShift, asInt, P1.cells, loadT, ptrC, storeT, putC, fillP, Nat.reduceAdd, reduceIte, Nat.reduceEqDiff, Nat.reduceLT, Nat.reduceLeDiff, reduceCtorEq, eq_self, FIT, lendCs_map, verC_map, FinC, resPs, resP, lendPl, lendCs, lendC, sealC, partsT, finHs, tupT, verT, verP, verC, verB, verAt, Blk.ver, handsAre, forall_const, UKc_3, h3, h4, h7m]
        exact fin8 X _ _ _ ⟨u6, h5, h6⟩ h1 h2 h7 h8 h9
    · have ht : top = false := by cases top with
        | true => exact absurd (.inl rfl) htop
        | false => rfl
      subst ht
      have h7m : ¬ m > 7 := fun h => htop (.inr h)
      by_cases h4m : m > 4
      · obtain ⟨p', kd, i1, i2, i3, i4⟩ := ih (p + 1) false (by omega) (by omega) (by omega)
        have hwd : IntKind.i64.wrap (((d + 1 : Nat) : Int) - 1) = (d : Int) := (wrap64 (x := ((d + 1 : Nat) : Int) - 1) ⟨by omega, by omega⟩).trans (by omega)
        by_cases h6m : m > 6
        · refine ⟨p', .mk 6 [] [kd], by omega, by omega, ⟨.mk _ _ _ (by simp) (by simp) (by simp) (by simpa using i3.1), i3.2.one 6⟩, pre _ _ fun X t H c ⟨u6, h5, h6⟩ h1 h2 h3 h4 h7 h8 h9 => ?_⟩
          simp only [T.c, T.i, T.b] at h2 h3 h4 h5
          simp only [RUN, core, T.c, T.s, T.b, T.i, sBin, sInt, sUn, isShift, asInt, P1.cells, loadT, ptrC, storeT, putC, fillP, Nat.reduceAdd, reduceIte, Nat.reduceEqDiff, Nat.reduceLT, Nat.reduceLeDiff, reduceCtorEq, eq_self, FIT, lendCs_map, verC_map, FinC, resPs, resP, lendPl, lendCs, lendC, sealC, partsT, finHs, tupT, verT, verP, verC, verB, verAt, Blk.ver, handsAre, forall_const, UKc_3, h1, h2, h3, h4, h7m, h6m, hwd]
          refine callR i4 rfl rfl rfl (closed_map _) h7 ⟨rfl, ?_⟩
          simp only [RUN, core, T.c, T.s, T.b, T.i, sBin, sInt, sUn, isShift, asInt, P1.cells, loadT, ptrC, storeT, putC, fillP, Nat.reduceAdd, reduceIte, Nat.reduceEqDiff, Nat.reduceLT, Nat.reduceLeDiff, reduceCtorEq, eq_self, FIT, lendCs_map, verC_map, FinC, resPs, resP, lendPl, lendCs, lendC, sealC, partsT, finHs, tupT, verT, verP, verC, verB, verAt, Blk.ver, handsAre, forall_const, UKc_3, APT, srcOf, sealPs, sealCs, sealC, List.mem_singleton, forall_eq, h5, h6, rdr, encK_mk, encKs, encS, List.take]
        · refine ⟨p', .mk 4 [] [kd], by omega, by omega, ⟨.mk _ _ _ (by simp) (by simp) (by simp) (by simpa using i3.1), i3.2.one 4⟩, pre _ _ fun X t H c ⟨u6, h5, h6⟩ h1 h2 h3 h4 h7 h8 h9 => ?_⟩
          simp only [T.c, T.i, T.b] at h2 h3 h4 h5
          simp only [RUN, core, T.c, T.s, T.b, T.i, sBin, sInt, sUn, isShift, asInt, P1.cells, loadT, ptrC, storeT, putC, fillP, Nat.reduceAdd, reduceIte, Nat.reduceEqDiff, Nat.reduceLT, Nat.reduceLeDiff, reduceCtorEq, eq_self, FIT, lendCs_map, verC_map, FinC, resPs, resP, lendPl, lendCs, lendC, sealC, partsT, finHs, tupT, verT, verP, verC, verB, verAt, Blk.ver, handsAre, forall_const, UKc_3, h1, h2, h3, h4, h7m, h6m, h4m, hwd]
          refine callR i4 rfl rfl rfl (closed_map _) h7 ⟨rfl, ?_⟩
          simp only [RUN, core, T.c, T.s, T.b, T.i, sBin, sInt, sUn, isShift, asInt, P1.cells, loadT, ptrC, storeT, putC, fillP, Nat.reduceAdd, reduceIte, Nat.reduceEqDiff, Nat.reduceLT, Nat.reduceLeDiff, reduceCtorEq, eq_self, FIT, lendCs_map, verC_map, FinC, resPs, resP, lendPl, lendCs, lendC, sealC, partsT, finHs, tupT, verT, verP, verC, verB, verAt, Blk.ver, handsAre, forall_const, UKc_3, APT, srcOf, sealPs, sealCs, sealC, List.mem_singleton, forall_eq, h5, h6, rdr, encK_mk, encKs, encS, List.take]
      · have h6m : ¬ m > 6 := by omega
        have hz : (0 : Int) ≤ m := by omega
        have hsort : ∃ q : Int, ([[.s (.int .i64 1)], [.s (.int .i64 1)], [.s (.int .i64 2)], [.s (.int .i64 2)], [.s (.int .i64 3)]] : List (List V))[m.toNat]? = some [.s (.int .i64 q)] := by
          rcases (by omega : m = 0 ∨ m = 1 ∨ m = 2 ∨ m = 3 ∨ m = 4) with h | h | h | h | h <;> subst h
          · exact ⟨1, rfl⟩
          · exact ⟨1, rfl⟩
          · exact ⟨2, rfl⟩
          · exact ⟨2, rfl⟩
          · exact ⟨3, rfl⟩
        obtain ⟨q, hq⟩ := hsort
        have hm5 : m < ((5 : Nat) : Int) := by omega
        refine ⟨p + 1, .mk q [] [], by omega, by omega, ⟨.mk _ _ _ (by simp) (by simp) (by simp) (by simp), .mk _ _ _ _ (by simp)⟩, pre _ _ fun X t H c ⟨u6, h5, h6⟩ h1 h2 h3 h4 h7 h8 h9 => ?_⟩
        simp only [T.c, T.i, T.b] at h2 h3 h4 h5
        simp only [RUN, core, T.c, T.s, T.b, T.i, sBin, sInt, sUn, isShift, asInt, P1.cells, loadT, ptrC, storeT, putC, fillP, Nat.reduceAdd, reduceIte, Nat.reduceEqDiff, Nat.reduceLT, Nat.reduceLeDiff, reduceCtorEq, eq_self, FIT, lendCs_map, verC_map, FinC, resPs, resP, lendPl, lendCs, lendC, sealC, partsT, finHs, tupT, verT, verP, verC, verB, verAt, Blk.ver, handsAre, forall_const, UKc_3, APT, srcOf, sealPs, sealCs, sealC, List.mem_singleton, forall_eq, h1, h2, h3, h4, h7m, h6m, h4m, hz, hq, hm5, h5, h6, h7, rdr, encK_mk, encKs, encS, List.take]
end Go.V
set_option linter.unusedSimpArgs false
namespace Go.V
open Go.Proofs
def lower (b : UInt8) : Bool := decide (97 ≤ b.toNat) && decide (b.toNat ≤ 122)
def digit (b : UInt8) : Bool := decide (48 ≤ b.toNat) && decide (b.toNat ≤ 57)
def nameOk (s : ByteArray) : Bool := decide (1 ≤ s.size) && decide (s.size ≤ 8) && (s.data.toList.head?.any lower) && s.data.toList.all fun b => lower b || digit b
/- loop.example/teagle/spec.l6NameOk -/
def r102_0 : List AOper := [ao 0 2 (.mv (.k (.b false)))]
def r102_1 : List AOper := [ao 0 4 (.mv (.t 0)),
  ao 1 5 (.lenS (.t 4)),
  ao 2 6 (.call (.k (.c (.fn 84 []))) [(.t 5), (.k (.i 1)), (.k (.i 8))]),
  ao 3 7 (.un .not (.t 6)),
  ao 4 8 (.mv (.t 7)),
  ag 5 9 8 false [] (.mv (.t 0)),
  ag 6 10 8 false [] (.ix (.t 9) (.k (.i 0))),
  ag 7 11 8 false [] (.bin .lss (.t 10) (.k (.s (.int .u8 97)))),
  ao 8 12 (.pick (.t 8) (.k (.b true)) (.t 11)),
  ao 9 13 (.mv (.t 12)),
  ag 10 14 13 false [] (.mv (.t 0)),
  ag 11 15 13 false [] (.ix (.t 14) (.k (.i 0))),
  ag 12 16 13 false [] (.bin .gtr (.t 15) (.k (.s (.int .u8 122)))),
  ao 13 17 (.pick (.t 13) (.k (.b true)) (.t 16))]
def r102_2 : List AOper := [ao 0 2 (.mv (.k (.b false)))]
def c102_3 : ACode := .seq (.reg r102_2) .ret
def c102_4 : ACode := .cond (.t 17) c102_3 .skip
def c102_5 : ACode := .seq (.reg r102_1) c102_4
def r102_6 : List AOper := [ao 0 3 (.mv (.k (.i 0)))]
def r102_7 : List AOper := [ao 0 18 (.mv (.t 3)),
  ao 1 19 (.mv (.t 0)),
  ao 2 20 (.lenS (.t 19)),
  ao 3 21 (.bin .lss (.t 18) (.t 20))]
def c102_8 : ACode := .cond (.t 21) .skip (.exit 0)
def c102_9 : ACode := .seq (.reg r102_7) c102_8
def r102_10 : List AOper := [ao 0 24 (.mv (.t 0)),
  ao 1 25 (.mv (.t 3)),
  ao 2 26 (.ix (.t 24) (.t 25)),
  ao 3 27 (.bin .geq (.t 26) (.k (.s (.int .u8 97)))),
  ao 4 28 (.mv (.t 27)),
  ag 5 29 28 true [] (.mv (.t 0)),
  ag 6 30 28 true [] (.mv (.t 3)),
  ag 7 31 28 true [] (.ix (.t 29) (.t 30)),
  ag 8 32 28 true [] (.bin .leq (.t 31) (.k (.s (.int .u8 122)))),
  ao 9 33 (.pick (.t 28) (.t 32) (.k (.b false))),
  ao 10 34 (.mv (.t 33)),
  ag 11 35 34 false [] (.mv (.t 0)),
  ag 12 36 34 false [] (.mv (.t 3)),
  ag 13 37 34 false [] (.ix (.t 35) (.t 36)),
  ag 14 38 34 false [] (.bin .geq (.t 37) (.k (.s (.int .u8 48)))),
  ag 15 39 34 false [] (.mv (.t 38)),
  ag 16 40 39 true [] (.mv (.t 0)),
  ag 17 41 39 true [] (.mv (.t 3)),
  ag 18 42 39 true [] (.ix (.t 40) (.t 41)),
  ag 19 43 39 true [] (.bin .leq (.t 42) (.k (.s (.int .u8 57)))),
  ag 20 44 34 false [] (.pick (.t 39) (.t 43) (.k (.b false))),
  ao 21 45 (.pick (.t 34) (.k (.b true)) (.t 44)),
  ao 22 46 (.un .not (.t 45))]
def r102_11 : List AOper := [ao 0 2 (.mv (.k (.b false)))]
def c102_12 : ACode := .seq (.reg r102_11) .ret
def c102_13 : ACode := .cond (.t 46) c102_12 .skip
def c102_14 : ACode := .seq (.reg r102_10) c102_13
def c102_15 : ACode := .block 1 c102_14
def r102_16 : List AOper := [ao 0 22 (.mv (.t 3)),
  ao 1 23 (.bin .add (.t 22) (.k (.i 1))),
  ao 2 3 (.mv (.t 23))]
def c102_17 : ACode := .seq c102_9 (.seq c102_15 (.reg r102_16))
def c102_18 : ACode := .loop c102_17
def c102_19 : ACode := .block 0 c102_18
def c102_20 : ACode := .seq (.reg r102_6) c102_19
def r102_21 : List AOper := [ao 0 2 (.mv (.k (.b true)))]
def c102 : ACode := .seq (.reg r102_0) (.seq c102_5 (.seq c102_20 (.seq (.reg r102_21) .ret)))
def s102 : List ARes := [.tmp 2]
theorem ok102 : okF Try.prog 102 47 c102 s102 := ⟨Try.f102, Try.func102, Try.ntmps102, by kernel_rfl, by kernel_rfl, by kernel_rfl⟩
def inv102 (s : ByteArray) (i : Nat) (σ : St) : Prop := (∀ j b, j < i → s.data[j]? = some b → (lower b || digit b) = true) ∧ σ.t 0 = .s (.string s) ∧ σ.t 3 = .i i
theorem size_data (s : ByteArray) : s.size = s.data.size := rfl
theorem UKd_1 : (type_of% (uA c102.eq_1)) ∧ (type_of% (uR r102_0.eq_1)) ∧ (type_of% (uA c102_5.eq_1)) ∧ (type_of% (uR r102_1.eq_1)) ∧ (type_of% (uA c102_4.eq_1)) ∧ (type_of% (uA c102_3.eq_1)) ∧ (type_of% (uR r102_2.eq_1)) ∧ (type_of% (uA c102_20.eq_1)) ∧ (type_of% (uR r102_6.eq_1)) ∧ (type_of% (uA c102_19.eq_1)) ∧ (type_of% (uA c102_18.eq_1)) ∧ (type_of% (uR r102_21.eq_1)) ∧ (type_of% s102.eq_1) :=
  ⟨uA c102.eq_1, uR r102_0.eq_1, uA c102_5.eq_1, uR r102_1.eq_1, uA c102_4.eq_1, uA c102_3.eq_1, uR r102_2.eq_1, uA c102_20.eq_1, uR r102_6.eq_1, uA c102_19.eq_1, uA c102_18.eq_1, uR r102_21.eq_1, s102.eq_1⟩
theorem UKd_2 : (type_of% (uA c102_17.eq_1)) ∧ (type_of% (uA c102_9.eq_1)) ∧ (type_of% (uR r102_7.eq_1)) ∧ (type_of% (uA c102_8.eq_1)) ∧ (type_of% (uA c102_15.eq_1)) ∧ (type_of% (uA c102_14.eq_1)) ∧ (type_of% (uR r102_10.eq_1)) ∧ (type_of% (uA c102_13.eq_1)) ∧ (type_of% (uA c102_12.eq_1)) ∧ (type_of% (uR r102_11.eq_1)) ∧ (type_of% (uR r102_16.eq_1)) ∧ (type_of% (uA c102.eq_1)) ∧ (type_of% (uR r102_0.eq_1)) ∧ (type_of% (uA c102_5.eq_1)) ∧ (type_of% (uR r102_1.eq_1)) ∧ (type_of% (uA c102_4.eq_1)) ∧ (type_of% (uA c102_3.eq_1)) ∧ (type_of% (uR r102_2.eq_1)) ∧ (type_of% (uA c102_20.eq_1)) ∧ (type_of% (uR r102_6.eq_1)) ∧ (type_of% (uA c102_19.eq_1)) ∧ (type_of% (uA c102_18.eq_1)) ∧ (type_of% (uR r102_21.eq_1)) ∧ (type_of% s102.eq_1) :=
  ⟨uA c102_17.eq_1, uA c102_9.eq_1, uR r102_7.eq_1, uA c102_8.eq_1, uA c102_15.eq_1, uA c102_14.eq_1, uR r102_10.eq_1, uA c102_13.eq_1, uA c102_12.eq_1, uR r102_11.eq_1, uR r102_16.eq_1, uA c102.eq_1, uR r102_0.eq_1, uA c102_5.eq_1, uR r102_1.eq_1, uA c102_4.eq_1, uA c102_3.eq_1, uR r102_2.eq_1, uA c102_20.eq_1, uR r102_6.eq_1, uA c102_19.eq_1, uA c102_18.eq_1, uR r102_21.eq_1, s102.eq_1⟩
theorem nameOk_ok (s : ByteArray) (hs : s.size ≤ 4611686018427387904) : ACallsF Try.prog 102 [.s (.string s)] [] (.b (nameOk s)) := by
  refine ACallsF.intro ok102 follows fun X c0 => ?_
  simp only [RUN, core, T.c, T.s, T.b, T.i, sBin, sInt, sUn, isShift, asInt, P1.cells, loadT, ptrC, storeT, putC, fillP, Nat.reduceAdd, reduceIte, Nat.reduceEqDiff, Nat.reduceLT, Nat.reduceLeDiff, reduceCtorEq, eq_self, FIT, lendCs_map, verC_map, FinC, resPs, resP, lendPl, lendCs, lendC, sealC, partsT, finHs, tupT, verT, verP, verC, verB, verAt, Blk.ver, handsAre, forall_const, UKd_1]
  refine callC (l6In_ok _ _ _) rfl rfl rfl rfl ?_
  by_cases h1 : (1 : Int) ≤ s.size
  · by_cases h2 : (s.size : Int) ≤ 8
    · obtain ⟨b0, hb0⟩ : ∃ b, s.data[0]? = some b := ⟨_, Array.getElem?_eq_getElem (by rw [← size_data]; omega)⟩
      have hhead : s.data.toList.head? = some b0 := by rw [List.head?_eq_getElem?, Array.getElem?_toList]; exact hb0
      by_cases h3 : (b0.toNat : Int) < 97
      · have hm : nameOk s = false := by
          have : lower b0 = false := by simp only [lower, Bool.and_eq_false_imp, decide_eq_true_eq, decide_eq_false_iff_not]; omega
          simp [nameOk, hhead, this]
        simp only [RUN, core, T.c, T.s, T.b, T.i, sBin, sInt, sUn, isShift, asInt, P1.cells, loadT, ptrC, storeT, putC, fillP, Nat.reduceAdd, reduceIte, Nat.reduceEqDiff, Nat.reduceLT, Nat.reduceLeDiff, reduceCtorEq, eq_self, FIT, lendCs_map, verC_map, FinC, resPs, resP, lendPl, lendCs, lendC, sealC, partsT, finHs, tupT, verT, verP, verC, verB, verAt, Blk.ver, handsAre, forall_const, UKd_1, h1, h2, hb0, h3, hm, Int.toNat_zero, Int.le_refl]
      · by_cases h4 : (b0.toNat : Int) > 122
        · have hm : nameOk s = false := by
            have : lower b0 = false := by simp only [lower, Bool.and_eq_false_imp, decide_eq_true_eq, decide_eq_false_iff_not]; omega
            simp [nameOk, hhead, this]
          simp only [RUN, core, T.c, T.s, T.b, T.i, sBin, sInt, sUn, isShift, asInt, P1.cells, loadT, ptrC, storeT, putC, fillP, Nat.reduceAdd, reduceIte, Nat.reduceEqDiff, Nat.reduceLT, Nat.reduceLeDiff, reduceCtorEq, eq_self, FIT, lendCs_map, verC_map, FinC, resPs, resP, lendPl, lendCs, lendC, sealC, partsT, finHs, tupT, verT, verP, verC, verB, verAt, Blk.ver, handsAre, forall_const, UKd_1, h1, h2, hb0, h3, h4, hm, Int.toNat_zero, Int.le_refl]
        · simp only [RUN, core, T.c, T.s, T.b, T.i, sBin, sInt, sUn, isShift, asInt, P1.cells, loadT, ptrC, storeT, putC, fillP, Nat.reduceAdd, reduceIte, Nat.reduceEqDiff, Nat.reduceLT, Nat.reduceLeDiff, reduceCtorEq, eq_self, FIT, lendCs_map, verC_map, FinC, resPs, resP, lendPl, lendCs, lendC, sealC, partsT, finHs, tupT, verT, verP, verC, verB, verAt, Blk.ver, handsAre, forall_const, UKd_1, h1, h2, hb0, h3, h4, Int.toNat_zero, Int.le_refl]
          have hlow : lower b0 = true := by simp only [lower, Bool.and_eq_true, decide_eq_true_eq]; omega
          refine AW.upto s.size (inv102 s) ⟨fun j _ hj => absurd hj (Nat.not_lt_zero j), rfl, rfl⟩ fun i t H c hi h => ?_
          obtain ⟨g0, e0, e3⟩ := h
          simp only [T.c, T.i, T.s] at e0 e3
          by_cases hlt : i < s.size
          · have g1 : (i : Int) < s.size := by omega
            have gz : (0 : Int) ≤ i := by omega
            have gw : IntKind.i64.wrap ((i : Int) + 1) = ((i + 1 : Nat) : Int) := wrap64 (x := (i : Int) + 1) ⟨by omega, by omega⟩
            obtain ⟨b, hb⟩ : ∃ b, s.data[i]? = some b := ⟨_, Array.getElem?_eq_getElem (by rw [← size_data]; omega)⟩
            have key : ∀ j b', j < i + 1 → (lower b || digit b) = true → s.data[j]? = some b' → (lower b' || digit b') = true := by
              intro j b' hj hl hj2
              rcases Nat.lt_succ_iff_lt_or_eq.1 hj with hj | rfl
              · exact g0 j b' hj hj2
              · rw [hb] at hj2; cases hj2; exact hl
            by_cases hl : (lower b || digit b) = true
            · have hl2 : (97 ≤ (b.toNat : Int) ∧ (b.toNat : Int) ≤ 122) ∨ (48 ≤ (b.toNat : Int) ∧ (b.toNat : Int) ≤ 57) := by
                simp only [lower, digit, Bool.or_eq_true, Bool.and_eq_true, decide_eq_true_eq] at hl; omega
              rcases hl2 with ⟨q1, q2⟩ | ⟨q3, q4⟩
              · simp only [RUN, core, T.c, T.s, T.b, T.i, sBin, sInt, sUn, isShift, asInt, P1.cells, loadT, ptrC, storeT, putC, fillP, Nat.reduceAdd, reduceIte, Nat.reduceEqDiff, Nat.reduceLT, Nat.reduceLeDiff, reduceCtorEq, eq_self, FIT, lendCs_map, verC_map, FinC, resPs, resP, lendPl, lendCs, lendC, sealC, partsT, finHs, tupT, verT, verP, verC, verB, verAt, Blk.ver, handsAre, forall_const, UKd_2, e0, e3, g1, gz, hb, Int.toNat_natCast, q1, q2, gw, ge_iff_le]
                exact ⟨hlt, fun j b' hj hj2 => key j b' hj hl hj2, e0, rfl⟩
              · have q1 : ¬ 97 ≤ (b.toNat : Int) := by omega
                simp only [RUN, core, T.c, T.s, T.b, T.i, sBin, sInt, sUn, isShift, asInt, P1.cells, loadT, ptrC, storeT, putC, fillP, Nat.reduceAdd, reduceIte, Nat.reduceEqDiff, Nat.reduceLT, Nat.reduceLeDiff, reduceCtorEq, eq_self, FIT, lendCs_map, verC_map, FinC, resPs, resP, lendPl, lendCs, lendC, sealC, partsT, finHs, tupT, verT, verP, verC, verB, verAt, Blk.ver, handsAre, forall_const, UKd_2, e0, e3, g1, gz, hb, Int.toNat_natCast, q1, q3, q4, gw, ge_iff_le]
                exact ⟨hlt, fun j b' hj hj2 => key j b' hj hl hj2, e0, rfl⟩
            · have hm : nameOk s = false := by
                have : (s.data.toList.all fun b => lower b || digit b) = false := by
                  rw [List.all_eq_false]
                  exact ⟨b, by rw [Array.mem_toList_iff]; exact Array.mem_of_getElem? hb, hl⟩
                simp [nameOk, this]
              have hl2 : (¬ 97 ≤ (b.toNat : Int) ∧ ¬ 48 ≤ (b.toNat : Int)) ∨ (¬ 97 ≤ (b.toNat : Int) ∧ 48 ≤ (b.toNat : Int) ∧ ¬ (b.toNat : Int) ≤ 57) ∨ (97 ≤ (b.toNat : Int) ∧ ¬ (b.toNat : Int) ≤ 122 ∧ 48 ≤ (b.toNat : Int) ∧ ¬ (b.toNat : Int) ≤ 57) := by
                simp only [lower, digit, Bool.or_eq_true, Bool.and_eq_true, decide_eq_true_eq] at hl; omega
              rcases hl2 with ⟨q1, q3⟩ | ⟨q1, q3, q4⟩ | ⟨q1, q2, q3, q4⟩
              · simp only [RUN, core, T.c, T.s, T.b, T.i, sBin, sInt, sUn, isShift, asInt, P1.cells, loadT, ptrC, storeT, putC, fillP, Nat.reduceAdd, reduceIte, Nat.reduceEqDiff, Nat.reduceLT, Nat.reduceLeDiff, reduceCtorEq, eq_self, FIT, lendCs_map, verC_map, FinC, resPs, resP, lendPl, lendCs, lendC, sealC, partsT, finHs, tupT, verT, verP, verC, verB, verAt, Blk.ver, handsAre, forall_const, UKd_2, e0, e3, g1, gz, hb, Int.toNat_natCast, q1, q3, hm, ge_iff_le]
              · simp only [RUN, core, T.c, T.s, T.b, T.i, sBin, sInt, sUn, isShift, asInt, P1.cells, loadT, ptrC, storeT, putC, fillP, Nat.reduceAdd, reduceIte, Nat.reduceEqDiff, Nat.reduceLT, Nat.reduceLeDiff, reduceCtorEq, eq_self, FIT, lendCs_map, verC_map, FinC, resPs, resP, lendPl, lendCs, lendC, sealC, partsT, finHs, tupT, verT, verP, verC, verB, verAt, Blk.ver, handsAre, forall_const, UKd_2, e0, e3, g1, gz, hb, Int.toNat_natCast, q1, q3, q4, hm, ge_iff_le]
              · simp only [RUN, core, T.c, T.s, T.b, T.i, sBin, sInt, sUn, isShift, asInt, P1.cells, loadT, ptrC, storeT, putC, fillP, Nat.reduceAdd, reduceIte, Nat.reduceEqDiff, Nat.reduceLT, Nat.reduceLeDiff, reduceCtorEq, eq_self, FIT, lendCs_map, verC_map, FinC, resPs, resP, lendPl, lendCs, lendC, sealC, partsT, finHs, tupT, verT, verP, verC, verB, verAt, Blk.ver, handsAre, forall_const, UKd_2, e0, e3, g1, gz, hb, Int.toNat_natCast, q1, q2, q3, q4, hm, ge_iff_le]
          · have g1 : ¬ (i : Int) < s.size := by omega
            have hm : nameOk s = true := by
              have : (s.data.toList.all fun b => lower b || digit b) = true := by
                rw [List.all_eq_true]
                intro b hb
                rw [Array.mem_toList_iff, Array.mem_iff_getElem?] at hb
                obtain ⟨j, hj⟩ := hb
                exact g0 j b (by have := (Array.getElem?_eq_some_iff.1 hj).1; rw [size_data] at hlt; omega) hj
              simp [nameOk, this, hhead, hlow]; omega
            simp only [RUN, core, T.c, T.s, T.b, T.i, sBin, sInt, sUn, isShift, asInt, P1.cells, loadT, ptrC, storeT, putC, fillP, Nat.reduceAdd, reduceIte, Nat.reduceEqDiff, Nat.reduceLT, Nat.reduceLeDiff, reduceCtorEq, eq_self, FIT, lendCs_map, verC_map, FinC, resPs, resP, lendPl, lendCs, lendC, sealC, partsT, finHs, tupT, verT, verP, verC, verB, verAt, Blk.ver, handsAre, forall_const, UKd_2, e0, e3, g1, hm]
    · have hm : nameOk s = false := by simp [nameOk]; omega
      simp only [RUN, core, T.c, T.s, T.b, T.i, sBin, sInt, sUn, isShift, asInt, P1.cells, loadT, ptrC, storeT, putC, fillP, Nat.reduceAdd, reduceIte, Nat.reduceEqDiff, Nat.reduceLT, Nat.reduceLeDiff, reduceCtorEq, eq_self, FIT, lendCs_map, verC_map, FinC, resPs, resP, lendPl, lendCs, lendC, sealC, partsT, finHs, tupT, verT, verP, verC, verB, verAt, Blk.ver, handsAre, forall_const, UKd_1, h1, h2, hm]
  · have hm : nameOk s = false := by simp [nameOk]; omega
    simp only [RUN, core, T.c, T.s, T.b, T.i, sBin, sInt, sUn, isShift, asInt, P1.cells, loadT, ptrC, storeT, putC, fillP, Nat.reduceAdd, reduceIte, Nat.reduceEqDiff, Nat.reduceLT, Nat.reduceLeDiff, reduceCtorEq, eq_self, FIT, lendCs_map, verC_map, FinC, resPs, resP, lendPl, lendCs, lendC, sealC, partsT, finHs, tupT, verT, verP, verC, verB, verAt, Blk.ver, handsAre, forall_const, UKd_1, h1, hm]
end Go.V
set_option linter.unusedSimpArgs false
namespace Go.V
open Go.Proofs
/-- Ascending names. -/
def RiseP (ss : List ByteArray) : Prop := ∀ i s, ss[i]? = some s → nameOk s = true ∧ ∀ s', 0 < i → ss[i - 1]? = some s' → Op.bytesLess s'.toList s.toList = true
noncomputable def rise (ss : List ByteArray) : Bool := @decide (RiseP ss) (Classical.propDecidable _)
theorem rise_true {ss : List ByteArray} : rise ss = true ↔ RiseP ss := by simp [rise]
theorem rise_false {ss : List ByteArray} : rise ss = false ↔ ¬ RiseP ss := by simp [rise]
/- loop.example/teagle/spec.l1Rise -/
def r85_0 : List AOper := [ao 0 2 (.mv (.k (.b false)))]
def r85_1 : List AOper := [ao 0 3 (.mv (.k (.i 0)))]
def r85_2 : List AOper := [ao 0 4 (.mv (.t 3)),
  ao 1 5 (.mv (.t 0)),
  ao 2 6 (.len (.t 5)),
  ao 3 7 (.bin .lss (.t 4) (.t 6))]
def c85_3 : ACode := .cond (.t 7) .skip (.exit 0)
def c85_4 : ACode := .seq (.reg r85_2) c85_3
def r85_5 : List AOper := [ao 0 10 (.mv (.t 0)),
  au 1 11 [0] (.mv (.t 3)),
  ao 2 12 (.ia 1 (.t 10) (.t 11)),
  ao 3 13 (.ld 1 false (.t 12)),
  ao 4 14 (.call (.k (.c (.fn 102 []))) [(.t 13)]),
  ao 5 15 (.un .not (.t 14)),
  ao 6 16 (.mv (.t 15)),
  ag 7 17 16 false [] (.mv (.t 3)),
  ag 8 18 16 false [] (.bin .gtr (.t 17) (.k (.i 0))),
  ag 9 19 16 false [] (.mv (.t 18)),
  ag 10 20 19 true [] (.mv (.t 0)),
  ag 11 21 19 true [10] (.mv (.t 3)),
  ag 12 22 19 true [10] (.bin .sub (.t 21) (.k (.i 1))),
  ag 13 23 19 true [] (.ia 1 (.t 20) (.t 22)),
  ag 14 24 19 true [] (.ld 1 false (.t 23)),
  ag 15 25 19 true [10, 11, 12, 13, 14] (.mv (.t 0)),
  ag 16 26 19 true [10, 11, 12, 13, 14, 15] (.mv (.t 3)),
  ag 17 27 19 true [10, 11, 12, 13, 14] (.ia 1 (.t 25) (.t 26)),
  ag 18 28 19 true [10, 11, 12, 13, 14] (.ld 1 false (.t 27)),
  ag 19 29 19 true [] (.bin .geq (.t 24) (.t 28)),
  ag 20 30 16 false [] (.pick (.t 19) (.t 29) (.k (.b false))),
  ao 21 31 (.pick (.t 16) (.k (.b true)) (.t 30))]
def r85_6 : List AOper := [ao 0 2 (.mv (.k (.b false)))]
def c85_7 : ACode := .seq (.reg r85_6) .ret
def c85_8 : ACode := .cond (.t 31) c85_7 .skip
def c85_9 : ACode := .seq (.reg r85_5) c85_8
def c85_10 : ACode := .block 1 c85_9
def r85_11 : List AOper := [ao 0 8 (.mv (.t 3)),
  ao 1 9 (.bin .add (.t 8) (.k (.i 1))),
  ao 2 3 (.mv (.t 9))]
def c85_12 : ACode := .seq c85_4 (.seq c85_10 (.reg r85_11))
def c85_13 : ACode := .loop c85_12
def c85_14 : ACode := .block 0 c85_13
def c85_15 : ACode := .seq (.reg r85_1) c85_14
def r85_16 : List AOper := [ao 0 2 (.mv (.k (.b true)))]
def c85 : ACode := .seq (.reg r85_0) (.seq c85_15 (.seq (.reg r85_16) .ret))
def s85 : List ARes := [.tmp 2]
theorem ok85 : okF Try.prog 85 32 c85 s85 := ⟨Try.f85, Try.func85, Try.ntmps85, by kernel_rfl, by kernel_rfl, by kernel_rfl⟩
def inv85 (ss : List ByteArray) (i : Nat) (σ : St) : Prop := (∀ j s, j < i → ss[j]? = some s → nameOk s = true ∧ ∀ s', 0 < j → ss[j - 1]? = some s' → Op.bytesLess s'.toList s.toList = true) ∧ σ.t 0 = .c (.v (.sl (encS ss))) ∧ σ.t 3 = .i i
theorem UKe_1 : (type_of% (uA c85.eq_1)) ∧ (type_of% (uR r85_0.eq_1)) ∧ (type_of% (uA c85_15.eq_1)) ∧ (type_of% (uR r85_1.eq_1)) ∧ (type_of% (uA c85_14.eq_1)) ∧ (type_of% (uA c85_13.eq_1)) ∧ (type_of% (uR r85_16.eq_1)) ∧ (type_of% s85.eq_1) :=
  ⟨uA c85.eq_1, uR r85_0.eq_1, uA c85_15.eq_1, uR r85_1.eq_1, uA c85_14.eq_1, uA c85_13.eq_1, uR r85_16.eq_1, s85.eq_1⟩
theorem UKe_2 : (type_of% (uA c85_12.eq_1)) ∧ (type_of% (uA c85_4.eq_1)) ∧ (type_of% (uR r85_2.eq_1)) ∧ (type_of% (uA c85_3.eq_1)) ∧ (type_of% (uA c85_10.eq_1)) ∧ (type_of% (uA c85_9.eq_1)) ∧ (type_of% (uR r85_5.eq_1)) ∧ (type_of% (uA c85_8.eq_1)) ∧ (type_of% (uA c85_7.eq_1)) ∧ (type_of% (uR r85_6.eq_1)) ∧ (type_of% (uR r85_11.eq_1)) ∧ (type_of% (uA c85.eq_1)) ∧ (type_of% (uR r85_0.eq_1)) ∧ (type_of% (uA c85_15.eq_1)) ∧ (type_of% (uR r85_1.eq_1)) ∧ (type_of% (uA c85_14.eq_1)) ∧ (type_of% (uA c85_13.eq_1)) ∧ (type_of% (uR r85_16.eq_1)) ∧ (type_of% s85.eq_1) :=
  ⟨uA c85_12.eq_1, uA c85_4.eq_1, uR r85_2.eq_1, uA c85_3.eq_1, uA c85_10.eq_1, uA c85_9.eq_1, uR r85_5.eq_1, uA c85_8.eq_1, uA c85_7.eq_1, uR r85_6.eq_1, uR r85_11.eq_1, uA c85.eq_1, uR r85_0.eq_1, uA c85_15.eq_1, uR r85_1.eq_1, uA c85_14.eq_1, uA c85_13.eq_1, uR r85_16.eq_1, s85.eq_1⟩
theorem rise_ok (ss : List ByteArray) (hl : ss.length ≤ 4611686018427387904) (hs : ∀ s ∈ ss, s.size ≤ 4611686018427387904) : ACallsF Try.prog 85 [.c (.v (.sl (encS ss)))] [] (.b (rise ss)) := by
  refine ACallsF.intro ok85 follows fun X c0 => ?_
  simp only [RUN, core, T.c, T.s, T.b, T.i, sBin, sInt, sUn, isShift, asInt, P1.cells, loadT, ptrC, storeT, putC, fillP, Nat.reduceAdd, reduceIte, Nat.reduceEqDiff, Nat.reduceLT, Nat.reduceLeDiff, reduceCtorEq, eq_self, FIT, lendCs_map, verC_map, FinC, resPs, resP, lendPl, lendCs, lendC, sealC, partsT, finHs, tupT, verT, verP, verC, verB, verAt, Blk.ver, handsAre, forall_const, UKe_1]
  refine AW.upto ss.length (inv85 ss) ⟨fun j _ hj => absurd hj (Nat.not_lt_zero j), rfl, rfl⟩ fun i t H c hi h => ?_
  obtain ⟨g0, e0, e3⟩ := h
  simp only [T.c, T.i, T.s] at e0 e3
  by_cases hlt : i < ss.length
  · have g1 : (i : Int) < ss.length := by omega
    have gz : (0 : Int) ≤ i := by omega
    have gw : IntKind.i64.wrap ((i : Int) + 1) = ((i + 1 : Nat) : Int) := wrap64 (x := (i : Int) + 1) ⟨by omega, by omega⟩
    obtain ⟨s, hs1⟩ : ∃ s, ss[i]? = some s := ⟨_, List.getElem?_eq_getElem hlt⟩
    have es := encS_at hs1
    have hC := nameOk_ok s (hs s (List.mem_of_getElem? hs1))
    have key : nameOk s = true → (∀ s', 0 < i → ss[i - 1]? = some s' → Op.bytesLess s'.toList s.toList = true) → ∀ j s, j < i + 1 → ss[j]? = some s → nameOk s = true ∧ ∀ s', 0 < j → ss[j - 1]? = some s' → Op.bytesLess s'.toList s.toList = true := by
      intro k1 k2 j s2 hj hj2
      rcases Nat.lt_succ_iff_lt_or_eq.1 hj with hj | rfl
      · exact g0 j s2 hj hj2
      · rw [hs1] at hj2; cases hj2; exact ⟨k1, k2⟩
    simp only [RUN, core, T.c, T.s, T.b, T.i, sBin, sInt, sUn, isShift, asInt, P1.cells, loadT, ptrC, storeT, putC, fillP, Nat.reduceAdd, reduceIte, Nat.reduceEqDiff, Nat.reduceLT, Nat.reduceLeDiff, reduceCtorEq, eq_self, FIT, lendCs_map, verC_map, FinC, resPs, resP, lendPl, lendCs, lendC, sealC, partsT, finHs, tupT, verT, verP, verC, verB, verAt, Blk.ver, handsAre, forall_const, UKe_2, e0, e3, g1, gz, encS_len, es, Int.toNat_natCast]
    refine callC hC rfl rfl rfl rfl ?_
    cases hn : nameOk s with
    | false =>
      have hm : rise ss = false := rise_false.2 fun h => by rw [(h i s hs1).1] at hn; cases hn
      simp only [RUN, core, T.c, T.s, T.b, T.i, sBin, sInt, sUn, isShift, asInt, P1.cells, loadT, ptrC, storeT, putC, fillP, Nat.reduceAdd, reduceIte, Nat.reduceEqDiff, Nat.reduceLT, Nat.reduceLeDiff, reduceCtorEq, eq_self, FIT, lendCs_map, verC_map, FinC, resPs, resP, lendPl, lendCs, lendC, sealC, partsT, finHs, tupT, verT, verP, verC, verB, verAt, Blk.ver, handsAre, forall_const, UKe_2, hm]
    | true =>
      by_cases hi0 : i = 0
      · have k1 : ¬ (i : Int) > 0 := by omega
        simp only [RUN, core, T.c, T.s, T.b, T.i, sBin, sInt, sUn, isShift, asInt, P1.cells, loadT, ptrC, storeT, putC, fillP, Nat.reduceAdd, reduceIte, Nat.reduceEqDiff, Nat.reduceLT, Nat.reduceLeDiff, reduceCtorEq, eq_self, FIT, lendCs_map, verC_map, FinC, resPs, resP, lendPl, lendCs, lendC, sealC, partsT, finHs, tupT, verT, verP, verC, verB, verAt, Blk.ver, handsAre, forall_const, UKe_2, e0, e3, k1, gw]
        exact ⟨hlt, key hn (fun s' h => by omega), e0, rfl⟩
      · have k1 : (i : Int) > 0 := by omega
        have k2 : IntKind.i64.wrap ((i : Int) - 1) = ((i - 1 : Nat) : Int) := (wrap64 (x := (i : Int) - 1) ⟨by omega, by omega⟩).trans (by omega)
        have k3 : (0 : Int) ≤ ((i - 1 : Nat) : Int) := by omega
        obtain ⟨s', hs2⟩ : ∃ s, ss[i - 1]? = some s := ⟨_, List.getElem?_eq_getElem (by omega)⟩
        have es2 := encS_at hs2
        cases hb : Op.bytesLess s'.toList s.toList with
        | false =>
          have hm : rise ss = false := rise_false.2 fun h => by rw [(h i s hs1).2 s' (by omega) hs2] at hb; cases hb
          simp only [RUN, core, T.c, T.s, T.b, T.i, sBin, sInt, sUn, isShift, asInt, P1.cells, loadT, ptrC, storeT, putC, fillP, Nat.reduceAdd, reduceIte, Nat.reduceEqDiff, Nat.reduceLT, Nat.reduceLeDiff, reduceCtorEq, eq_self, FIT, lendCs_map, verC_map, FinC, resPs, resP, lendPl, lendCs, lendC, sealC, partsT, finHs, tupT, verT, verP, verC, verB, verAt, Blk.ver, handsAre, forall_const, UKe_2, e0, e3, k1, k2, k3, es, es2, gz, Int.toNat_natCast, sStr, hb, hm]
        | true =>
          simp only [RUN, core, T.c, T.s, T.b, T.i, sBin, sInt, sUn, isShift, asInt, P1.cells, loadT, ptrC, storeT, putC, fillP, Nat.reduceAdd, reduceIte, Nat.reduceEqDiff, Nat.reduceLT, Nat.reduceLeDiff, reduceCtorEq, eq_self, FIT, lendCs_map, verC_map, FinC, resPs, resP, lendPl, lendCs, lendC, sealC, partsT, finHs, tupT, verT, verP, verC, verB, verAt, Blk.ver, handsAre, forall_const, UKe_2, e0, e3, k1, k2, k3, es, es2, gz, Int.toNat_natCast, sStr, hb, gw]
          exact ⟨hlt, key hn (fun s2 _ h2 => by rw [hs2] at h2; cases h2; exact hb), e0, rfl⟩
  · have g1 : ¬ (i : Int) < ss.length := by omega
    have hm : rise ss = true := rise_true.2 fun j s hj => g0 j s (by have := (List.getElem?_eq_some_iff.1 hj).1; omega) hj
    simp only [RUN, core, T.c, T.s, T.b, T.i, sBin, sInt, sUn, isShift, asInt, P1.cells, loadT, ptrC, storeT, putC, fillP, Nat.reduceAdd, reduceIte, Nat.reduceEqDiff, Nat.reduceLT, Nat.reduceLeDiff, reduceCtorEq, eq_self, FIT, lendCs_map, verC_map, FinC, resPs, resP, lendPl, lendCs, lendC, sealC, partsT, finHs, tupT, verT, verP, verC, verB, verAt, Blk.ver, handsAre, forall_const, UKe_2, e0, e3, g1, encS_len, hm]
end Go.V
set_option linter.unusedSimpArgs false
namespace Go.V
open Go.Proofs
theorem takeK (k : Kd) : List.take 3 (List.map C.v (encK k)) = List.map C.v (encK k) := by
  have h : (List.map C.v (encK k)).length = 3 := by rw [List.length_map, encK_len]
  rw [← h, List.take_length]
theorem Kd.ind {P : Kd → Prop} (h : ∀ s ns ks, (∀ k ∈ ks, P k) → P (.mk s ns ks)) : ∀ k, P k
  | .mk s ns ks => h s ns ks fun k _hk => Kd.ind h k
termination_by k => SizeOf.sizeOf k
decreasing_by
  have := List.sizeOf_lt_of_mem _hk
  simp
  omega
mutual
def parts : Kd → Nat
  | .mk _ _ ks => 1 + partsL ks
def partsL : List Kd → Nat
  | [] => 0
  | k :: ks => parts k + partsL ks
end
theorem partsL_snoc (ks : List Kd) (k : Kd) : partsL (ks ++ [k]) = partsL ks + parts k := by
  induction ks with
  | nil => simp [partsL]
  | cons x xs ih => simp [partsL, ih]; omega
theorem parts_pos (k : Kd) : 1 ≤ parts k := by cases k; simp [parts]
theorem partsL_take_le (ks : List Kd) (i : Nat) : partsL (ks.take i) ≤ partsL ks := by
  induction ks generalizing i with
  | nil => simp
  | cons k ks ih => cases i with
    | zero => simp [partsL]
    | succ i => simp only [List.take_succ_cons, partsL]; have := ih i; omega
theorem partsL_mem {ks : List Kd} {k : Kd} (h : k ∈ ks) : parts k ≤ partsL ks := by
  induction ks with
  | nil => cases h
  | cons x xs ih =>
    rcases List.mem_cons.1 h with rfl | h
    · simp [partsL]
    · have := ih h; simp only [partsL]; omega
structure Shape (s : Int) (ns : List ByteArray) (ks : List Kd) : Prop where
  lo : 1 ≤ s
  hi : s ≤ 6
  form : s = 5 → ns.length = ks.length ∧ rise ns = true
  other : s ≠ 5 → ns.length = 0
  leaf : s < 4 → ks.length = 0
  one : s = 4 ∨ s = 6 → ks.length = 1
inductive KOk : Nat → Kd → Prop
  | mk (d : Nat) (s : Int) (ns : List ByteArray) (ks : List Kd) (h1 : d ≤ 6) (h2 : Shape s ns ks) (h3 : ∀ k ∈ ks, KOk (d + 1) k) : KOk d (.mk s ns ks)
theorem KOk.inv {d : Nat} {s : Int} {ns : List ByteArray} {ks : List Kd} (h : KOk d (.mk s ns ks)) : d ≤ 6 ∧ Shape s ns ks ∧ ∀ k ∈ ks, KOk (d + 1) k := by
  cases h with
  | mk _ _ _ _ h1 h2 h3 => exact ⟨h1, h2, h3⟩
theorem KB.inv {n : Nat} {s : Int} {ns : List ByteArray} {ks : List Kd} (h : KB n (.mk s ns ks)) : ns.length ≤ n ∧ ks.length ≤ n ∧ (∀ x ∈ ns, x.size ≤ n) ∧ ∀ k ∈ ks, KB n k := by
  cases h with
  | mk _ _ _ h1 h2 h3 h4 => exact ⟨h1, h2, h3, h4⟩
/-- What l2Parts tells. -/
def PartsR (d : Nat) (k : Kd) (q : Int) : Prop := (KOk d k ∧ parts k ≤ 40 ∧ q = parts k) ∨ (¬ (KOk d k ∧ parts k ≤ 40) ∧ q = -1)
/- loop.example/teagle/spec.l2Parts -/
def r63_0 : List AOper := [ao 0 2 (.box 26 (.t 0)),
  ao 1 4 (.mv (.k (.i 0)))]
def r63_1 : List AOper := [ao 0 9 (.fa 2 (.t 2)),
  ao 1 10 (.ld 1 false (.t 9)),
  ao 2 11 (.len (.t 10)),
  ao 3 5 (.mv (.t 11))]
def r63_2 : List AOper := [ao 0 12 (.mv (.t 1)),
  ao 1 13 (.bin .gtr (.t 12) (.k (.i 6))),
  ao 2 14 (.mv (.t 13)),
  ag 3 15 14 false [] (.fa 0 (.t 2)),
  ag 4 16 14 false [] (.ld 1 false (.t 15)),
  ag 5 17 14 false [] (.call (.k (.c (.fn 84 []))) [(.t 16), (.k (.i 1)), (.k (.i 6))]),
  ag 6 18 14 false [] (.un .not (.t 17)),
  ao 7 19 (.pick (.t 14) (.k (.b true)) (.t 18))]
def r63_3 : List AOper := [ao 0 4 (.mv (.k (.i (-1))))]
def c63_4 : ACode := .seq (.reg r63_3) .ret
def c63_5 : ACode := .cond (.t 19) c63_4 .skip
def c63_6 : ACode := .seq (.reg r63_2) c63_5
def r63_7 : List AOper := [ao 0 20 (.fa 0 (.t 2)),
  ao 1 21 (.ld 1 false (.t 20)),
  ao 2 22 (.bin .eql (.t 21) (.k (.i 5))),
  ao 3 23 (.mv (.t 22)),
  ag 4 24 23 true [] (.fa 1 (.t 2)),
  ag 5 25 23 true [] (.ld 1 false (.t 24)),
  ag 6 26 23 true [] (.len (.t 25)),
  ag 7 27 23 true [] (.mv (.t 5)),
  ag 8 28 23 true [] (.bin .neq (.t 26) (.t 27)),
  ag 9 29 23 true [] (.mv (.t 28)),
  ag 10 30 29 false [] (.fa 1 (.t 2)),
  ag 11 31 29 false [] (.ld 1 false (.t 30)),
  ag 12 32 29 false [] (.call (.k (.c (.fn 85 []))) [(.t 31)]),
  ag 13 33 29 false [] (.un .not (.t 32)),
  ag 14 34 23 true [] (.pick (.t 29) (.k (.b true)) (.t 33)),
  ao 15 35 (.pick (.t 23) (.t 34) (.k (.b false))),
  ao 16 36 (.mv (.t 35)),
  ag 17 37 36 false [] (.fa 0 (.t 2)),
  ag 18 38 36 false [] (.ld 1 false (.t 37)),
  ag 19 39 36 false [] (.bin .neq (.t 38) (.k (.i 5))),
  ag 20 40 36 false [] (.mv (.t 39)),
  ag 21 41 40 true [] (.fa 1 (.t 2)),
  ag 22 42 40 true [] (.ld 1 false (.t 41)),
  ag 23 43 40 true [] (.len (.t 42)),
  ag 24 44 40 true [] (.bin .gtr (.t 43) (.k (.i 0))),
  ag 25 45 36 false [] (.pick (.t 40) (.t 44) (.k (.b false))),
  ao 26 46 (.pick (.t 36) (.k (.b true)) (.t 45))]
def r63_8 : List AOper := [ao 0 4 (.mv (.k (.i (-1))))]
def c63_9 : ACode := .seq (.reg r63_8) .ret
def c63_10 : ACode := .cond (.t 46) c63_9 .skip
def c63_11 : ACode := .seq (.reg r63_7) c63_10
def r63_12 : List AOper := [ao 0 47 (.fa 0 (.t 2)),
  ao 1 48 (.ld 1 false (.t 47)),
  ao 2 49 (.bin .lss (.t 48) (.k (.i 4))),
  ao 3 50 (.mv (.t 49)),
  ag 4 51 50 true [] (.mv (.t 5)),
  ag 5 52 50 true [] (.bin .gtr (.t 51) (.k (.i 0))),
  ao 6 53 (.pick (.t 50) (.t 52) (.k (.b false))),
  ao 7 54 (.mv (.t 53)),
  ag 8 55 54 false [] (.fa 0 (.t 2)),
  ag 9 56 54 false [] (.ld 1 false (.t 55)),
  ag 10 57 54 false [] (.bin .eql (.t 56) (.k (.i 4))),
  ag 11 58 54 false [] (.mv (.t 57)),
  ag 12 59 58 false [] (.fa 0 (.t 2)),
  ag 13 60 58 false [] (.ld 1 false (.t 59)),
  ag 14 61 58 false [] (.bin .eql (.t 60) (.k (.i 6))),
  ag 15 62 54 false [] (.pick (.t 58) (.k (.b true)) (.t 61)),
  ag 16 63 54 false [] (.mv (.t 62)),
  ag 17 64 63 true [] (.mv (.t 5)),
  ag 18 65 63 true [] (.bin .neq (.t 64) (.k (.i 1))),
  ag 19 66 54 false [] (.pick (.t 63) (.t 65) (.k (.b false))),
  ao 20 67 (.pick (.t 54) (.k (.b true)) (.t 66))]
def r63_13 : List AOper := [ao 0 4 (.mv (.k (.i (-1))))]
def c63_14 : ACode := .seq (.reg r63_13) .ret
def c63_15 : ACode := .cond (.t 67) c63_14 .skip
def c63_16 : ACode := .seq (.reg r63_12) c63_15
def r63_17 : List AOper := [ao 0 6 (.mv (.k (.i 1)))]
def r63_18 : List AOper := [ao 0 7 (.mv (.k (.i 0)))]
def r63_19 : List AOper := [ao 0 68 (.mv (.t 7)),
  ao 1 69 (.mv (.t 5)),
  ao 2 70 (.bin .lss (.t 68) (.t 69))]
def c63_20 : ACode := .cond (.t 70) .skip (.exit 0)
def c63_21 : ACode := .seq (.reg r63_19) c63_20
def r63_22 : List AOper := [ao 0 73 (.fa 2 (.t 2)),
  ao 1 74 (.ld 1 false (.t 73)),
  ao 2 75 (.mv (.t 7)),
  ao 3 76 (.ia 3 (.t 74) (.t 75)),
  ao 4 77 (.ld 3 true (.t 76)),
  ao 5 78 (.mv (.t 1)),
  ao 6 79 (.bin .add (.t 78) (.k (.i 1))),
  ao 7 80 (.call (.k (.c (.fn 63 []))) [(.t 77), (.t 79)]),
  ao 8 8 (.mv (.t 80))]
def r63_23 : List AOper := [ao 0 81 (.mv (.t 8)),
  ao 1 82 (.bin .lss (.t 81) (.k (.i 0))),
  ao 2 83 (.mv (.t 82)),
  ag 3 84 83 false [] (.mv (.t 6)),
  ag 4 85 83 false [] (.mv (.t 8)),
  ag 5 86 83 false [] (.bin .add (.t 84) (.t 85)),
  ag 6 87 83 false [] (.bin .gtr (.t 86) (.k (.i 40))),
  ao 7 88 (.pick (.t 83) (.k (.b true)) (.t 87))]
def r63_24 : List AOper := [ao 0 4 (.mv (.k (.i (-1))))]
def c63_25 : ACode := .seq (.reg r63_24) .ret
def c63_26 : ACode := .cond (.t 88) c63_25 .skip
def c63_27 : ACode := .seq (.reg r63_23) c63_26
def r63_28 : List AOper := [ao 0 89 (.mv (.t 6)),
  ao 1 90 (.mv (.t 8)),
  ao 2 91 (.bin .add (.t 89) (.t 90)),
  ao 3 6 (.mv (.t 91))]
def c63_29 : ACode := .seq (.reg r63_22) (.seq c63_27 (.reg r63_28))
def c63_30 : ACode := .block 1 c63_29
def r63_31 : List AOper := [ao 0 71 (.mv (.t 7)),
  ao 1 72 (.bin .add (.t 71) (.k (.i 1))),
  ao 2 7 (.mv (.t 72))]
def c63_32 : ACode := .seq c63_21 (.seq c63_30 (.reg r63_31))
def c63_33 : ACode := .loop c63_32
def c63_34 : ACode := .block 0 c63_33
def c63_35 : ACode := .seq (.reg r63_18) c63_34
def r63_36 : List AOper := [ao 0 92 (.mv (.t 6)),
  ao 1 4 (.mv (.t 92))]
def c63 : ACode := .seq (.reg r63_0) (.seq (.reg r63_1) (.seq c63_6 (.seq c63_11 (.seq c63_16 (.seq (.reg r63_17) (.seq c63_35 (.seq (.reg r63_36) .ret)))))))
def s63 : List ARes := [.tmp 4]
theorem ok63 : okF Try.prog 63 93 c63 s63 := ⟨Try.f63, Try.func63, Try.ntmps63, by kernel_rfl, by kernel_rfl, by kernel_rfl⟩
def inv63 (v2 : Nat) (d : Nat) (s : Int) (ns : List ByteArray) (ks : List Kd) (i : Nat) (σ : St) : Prop :=
  (∀ j k, j < i → ks[j]? = some k → KOk (d + 1) k) ∧ partsL (ks.take i) ≤ 39 ∧ σ.t 1 = .i d ∧ σ.t 2 = .c (.ptr 2 v2 0) ∧ σ.t 5 = .i ks.length ∧ σ.t 6 = .i ((1 + partsL (ks.take i) : Nat) : Int) ∧ σ.t 7 = .i i ∧ σ.H 2 = some (.var v2 26 [.v (.s (.int .i64 s)), .v (.sl (encS ns)), .v (.sl (encKs ks))])
theorem UKf_1 : (type_of% (uA c63.eq_1)) ∧ (type_of% (uR r63_0.eq_1)) ∧ (type_of% (uR r63_1.eq_1)) ∧ (type_of% (uA c63_6.eq_1)) ∧ (type_of% (uR r63_2.eq_1)) ∧ (type_of% (uA c63_5.eq_1)) ∧ (type_of% (uA c63_4.eq_1)) ∧ (type_of% (uR r63_3.eq_1)) ∧ (type_of% (uA c63_11.eq_1)) ∧ (type_of% (uR r63_7.eq_1)) ∧ (type_of% (uA c63_10.eq_1)) ∧ (type_of% (uA c63_9.eq_1)) ∧ (type_of% (uR r63_8.eq_1)) ∧ (type_of% (uA c63_16.eq_1)) ∧ (type_of% (uR r63_12.eq_1)) ∧ (type_of% (uA c63_15.eq_1)) ∧ (type_of% (uA c63_14.eq_1)) ∧ (type_of% (uR r63_13.eq_1)) ∧ (type_of% (uR r63_17.eq_1)) ∧ (type_of% (uA c63_35.eq_1)) ∧ (type_of% (uR r63_18.eq_1)) ∧ (type_of% (uA c63_34.eq_1)) ∧ (type_of% (uA c63_33.eq_1)) ∧ (type_of% (uR r63_36.eq_1)) ∧ (type_of% s63.eq_1) :=
  ⟨uA c63.eq_1, uR r63_0.eq_1, uR r63_1.eq_1, uA c63_6.eq_1, uR r63_2.eq_1, uA c63_5.eq_1, uA c63_4.eq_1, uR r63_3.eq_1, uA c63_11.eq_1, uR r63_7.eq_1, uA c63_10.eq_1, uA c63_9.eq_1, uR r63_8.eq_1, uA c63_16.eq_1, uR r63_12.eq_1, uA c63_15.eq_1, uA c63_14.eq_1, uR r63_13.eq_1, uR r63_17.eq_1, uA c63_35.eq_1, uR r63_18.eq_1, uA c63_34.eq_1, uA c63_33.eq_1, uR r63_36.eq_1, s63.eq_1⟩
theorem UKf_2 : (type_of% (uA c63.eq_1)) ∧ (type_of% (uR r63_0.eq_1)) ∧ (type_of% (uR r63_1.eq_1)) ∧ (type_of% (uA c63_6.eq_1)) ∧ (type_of% (uR r63_2.eq_1)) ∧ (type_of% (uA c63_5.eq_1)) ∧ (type_of% (uA c63_4.eq_1)) ∧ (type_of% (uR r63_3.eq_1)) ∧ (type_of% (uA c63_11.eq_1)) ∧ (type_of% (uR r63_7.eq_1)) ∧ (type_of% (uA c63_10.eq_1)) ∧ (type_of% (uA c63_9.eq_1)) ∧ (type_of% (uR r63_8.eq_1)) ∧ (type_of% (uA c63_16.eq_1)) ∧ (type_of% (uR r63_12.eq_1)) ∧ (type_of% (uA c63_15.eq_1)) ∧ (type_of% (uA c63_14.eq_1)) ∧ (type_of% (uR r63_13.eq_1)) ∧ (type_of% (uA c63_35.eq_1)) ∧ (type_of% (uR r63_18.eq_1)) ∧ (type_of% (uA c63_34.eq_1)) ∧ (type_of% (uA c63_33.eq_1)) ∧ (type_of% (uR r63_36.eq_1)) ∧ (type_of% s63.eq_1) :=
  ⟨uA c63.eq_1, uR r63_0.eq_1, uR r63_1.eq_1, uA c63_6.eq_1, uR r63_2.eq_1, uA c63_5.eq_1, uA c63_4.eq_1, uR r63_3.eq_1, uA c63_11.eq_1, uR r63_7.eq_1, uA c63_10.eq_1, uA c63_9.eq_1, uR r63_8.eq_1, uA c63_16.eq_1, uR r63_12.eq_1, uA c63_15.eq_1, uA c63_14.eq_1, uR r63_13.eq_1, uA c63_35.eq_1, uR r63_18.eq_1, uA c63_34.eq_1, uA c63_33.eq_1, uR r63_36.eq_1, s63.eq_1⟩
theorem UKf_3 : (type_of% (uA c63_32.eq_1)) ∧ (type_of% (uA c63_21.eq_1)) ∧ (type_of% (uR r63_19.eq_1)) ∧ (type_of% (uA c63_20.eq_1)) ∧ (type_of% (uA c63_30.eq_1)) ∧ (type_of% (uA c63_29.eq_1)) ∧ (type_of% (uR r63_22.eq_1)) ∧ (type_of% (uA c63_27.eq_1)) ∧ (type_of% (uR r63_23.eq_1)) ∧ (type_of% (uA c63_26.eq_1)) ∧ (type_of% (uA c63_25.eq_1)) ∧ (type_of% (uR r63_24.eq_1)) ∧ (type_of% (uR r63_28.eq_1)) ∧ (type_of% (uR r63_31.eq_1)) ∧ (type_of% (uA c63.eq_1)) ∧ (type_of% (uR r63_0.eq_1)) ∧ (type_of% (uR r63_1.eq_1)) ∧ (type_of% (uA c63_6.eq_1)) ∧ (type_of% (uR r63_2.eq_1)) ∧ (type_of% (uA c63_5.eq_1)) ∧ (type_of% (uA c63_4.eq_1)) ∧ (type_of% (uR r63_3.eq_1)) ∧ (type_of% (uA c63_11.eq_1)) ∧ (type_of% (uR r63_7.eq_1)) ∧ (type_of% (uA c63_10.eq_1)) ∧ (type_of% (uA c63_9.eq_1)) ∧ (type_of% (uR r63_8.eq_1)) ∧ (type_of% (uA c63_16.eq_1)) ∧ (type_of% (uR r63_12.eq_1)) ∧ (type_of% (uA c63_15.eq_1)) ∧ (type_of% (uA c63_14.eq_1)) ∧ (type_of% (uR r63_13.eq_1)) ∧ (type_of% (uR r63_17.eq_1)) ∧ (type_of% (uA c63_35.eq_1)) ∧ (type_of% (uR r63_18.eq_1)) ∧ (type_of% (uA c63_34.eq_1)) ∧ (type_of% (uA c63_33.eq_1)) ∧ (type_of% (uR r63_36.eq_1)) ∧ (type_of% s63.eq_1) :=
  ⟨uA c63_32.eq_1, uA c63_21.eq_1, uR r63_19.eq_1, uA c63_20.eq_1, uA c63_30.eq_1, uA c63_29.eq_1, uR r63_22.eq_1, uA c63_27.eq_1, uR r63_23.eq_1, uA c63_26.eq_1, uA c63_25.eq_1, uR r63_24.eq_1, uR r63_28.eq_1, uR r63_31.eq_1, uA c63.eq_1, uR r63_0.eq_1, uR r63_1.eq_1, uA c63_6.eq_1, uR r63_2.eq_1, uA c63_5.eq_1, uA c63_4.eq_1, uR r63_3.eq_1, uA c63_11.eq_1, uR r63_7.eq_1, uA c63_10.eq_1, uA c63_9.eq_1, uR r63_8.eq_1, uA c63_16.eq_1, uR r63_12.eq_1, uA c63_15.eq_1, uA c63_14.eq_1, uR r63_13.eq_1, uR r63_17.eq_1, uA c63_35.eq_1, uR r63_18.eq_1, uA c63_34.eq_1, uA c63_33.eq_1, uR r63_36.eq_1, s63.eq_1⟩
set_option maxHeartbeats 4000000 in
theorem parts_ok : ∀ (k : Kd), KB 1000000 k → ∀ d : Nat, d ≤ 100 → ∃ q, PartsR d k q ∧ ACallsF Try.prog 63 [tK k, .i d] [] (.i q) := by
  intro k
  induction k using Kd.ind with
  | _ s ns ks ih =>
    intro hB d hd
    obtain ⟨hB1, hB2, hB3, hB4⟩ := hB.inv
    have hq : ∃ q, PartsR d (.mk s ns ks) q := by
      by_cases h : KOk d (.mk s ns ks) ∧ parts (.mk s ns ks) ≤ 40
      · exact ⟨_, .inl ⟨h.1, h.2, rfl⟩⟩
      · exact ⟨_, .inr ⟨h, rfl⟩⟩
    obtain ⟨q, hq⟩ := hq
    refine ⟨q, hq, ACallsF.intro ok63 follows fun X c0 => ?_⟩
    have hno : ¬ (KOk d (.mk s ns ks) ∧ parts (.mk s ns ks) ≤ 40) → q = -1 := fun h => by
      rcases hq with ⟨h1, h2, _⟩ | ⟨_, h⟩
      · exact absurd ⟨h1, h2⟩ h
      · exact h
    have tail : d ≤ 6 → Shape s ns ks → ∀ (X : Ctx) (t : Nat → T) (H : HMap) (c v2 : Nat), t 1 = .i d → t 2 = .c (.ptr 2 v2 0) → t 5 = .i ks.length → H 2 = some (.var v2 26 [.v (.s (.int .i64 s)), .v (.sl (encS ns)), .v (.sl (encKs ks))]) →
        DRun Try.prog r63_17 [] (Kont (thenW Try.prog X (.seq c63_35 (.seq (.reg r63_36) .ret)) (endA (FinC s63 (.i q) []))) r63_17) ⟨t, H, c⟩ := by
      intro hd6 hsh X t H c v2 e1 e2 e5 eH
      simp only [T.c, T.i] at e1 e2 e5
      simp only [RUN, core, T.c, T.s, T.b, T.i, sBin, sInt, sUn, isShift, asInt, P1.cells, loadT, ptrC, storeT, putC, fillP, Nat.reduceAdd, reduceIte, Nat.reduceEqDiff, Nat.reduceLT, Nat.reduceLeDiff, reduceCtorEq, eq_self, FIT, lendCs_map, verC_map, FinC, resPs, resP, lendPl, lendCs, lendC, sealC, partsT, finHs, tupT, verT, verP, verC, verB, verAt, Blk.ver, handsAre, forall_const, UKf_1]
      refine AW.upto ks.length (inv63 v2 d s ns ks) ⟨fun j _ hj => absurd hj (Nat.not_lt_zero j), by simp [partsL], e1, e2, e5, by simp [partsL]; rfl, rfl, eH⟩ fun i t H c hi h => ?_
      obtain ⟨g0, g1, e1, e2, e5, e6, e7, eH⟩ := h
      simp only [T.c, T.i] at e1 e2 e5 e6 e7 eH
      by_cases hlt : i < ks.length
      · have k1 : (i : Int) < ks.length := by omega
        have gz : (0 : Int) ≤ i := by omega
        have gw : IntKind.i64.wrap ((i : Int) + 1) = ((i + 1 : Nat) : Int) := wrap64 (x := (i : Int) + 1) ⟨by omega, by omega⟩
        have gd : IntKind.i64.wrap ((d : Int) + 1) = ((d + 1 : Nat) : Int) := wrap64 (x := (d : Int) + 1) ⟨by omega, by omega⟩
        obtain ⟨kd, hk⟩ : ∃ kd, ks[i]? = some kd := ⟨_, List.getElem?_eq_getElem hlt⟩
        have hmem := List.mem_of_getElem? hk
        have ek := encKs_at hk
        have e3 := encK_len kd
        obtain ⟨x, hx, hC⟩ := ih kd hmem (hB4 kd hmem) (d + 1) (by omega)
        have htake : partsL (ks.take (i + 1)) = partsL (ks.take i) + parts kd := by
          rw [List.take_add_one, hk]; exact partsL_snoc _ _
        have hle := partsL_take_le ks (i + 1)
        have hpos := parts_pos kd
        simp only [RUN, core, T.c, T.s, T.b, T.i, sBin, sInt, sUn, isShift, asInt, P1.cells, loadT, ptrC, storeT, putC, fillP, Nat.reduceAdd, reduceIte, Nat.reduceEqDiff, Nat.reduceLT, Nat.reduceLeDiff, reduceCtorEq, eq_self, FIT, lendCs_map, verC_map, FinC, resPs, resP, lendPl, lendCs, lendC, sealC, partsT, finHs, tupT, verT, verP, verC, verB, verAt, Blk.ver, handsAre, forall_const, UKf_3, e1, e2, e5, e7, eH, k1, gz, ek, e3, Int.toNat_natCast, List.length_map, takeK, Nat.le_refl, gd]
        refine callC hC rfl rfl (by simp [closedA, closedP, closedC]) rfl ?_
        rcases hx with ⟨x1, x2, rfl⟩ | ⟨x1, rfl⟩
        · have k2 : ¬ (parts kd : Int) < 0 := by omega
          by_cases k3 : ((1 + partsL (ks.take i) : Nat) : Int) + (parts kd : Int) > 40
          · have hm := hno fun h => by have := h.2; simp only [parts] at this; have := partsL_take_le ks (i + 1); omega
            have kw : IntKind.i64.wrap (((1 + partsL (ks.take i) : Nat) : Int) + (parts kd : Int)) = ((1 + partsL (ks.take i) : Nat) : Int) + (parts kd : Int) := wrap64 ⟨by omega, by omega⟩
            simp only [RUN, core, T.c, T.s, T.b, T.i, sBin, sInt, sUn, isShift, asInt, P1.cells, loadT, ptrC, storeT, putC, fillP, Nat.reduceAdd, reduceIte, Nat.reduceEqDiff, Nat.reduceLT, Nat.reduceLeDiff, reduceCtorEq, eq_self, FIT, lendCs_map, verC_map, FinC, resPs, resP, lendPl, lendCs, lendC, sealC, partsT, finHs, tupT, verT, verP, verC, verB, verAt, Blk.ver, handsAre, forall_const, UKf_3, e6, k2, kw, k3, hm]
          · have kw : IntKind.i64.wrap (((1 + partsL (ks.take i) : Nat) : Int) + (parts kd : Int)) = ((1 + partsL (ks.take (i + 1)) : Nat) : Int) := (wrap64 (x := ((1 + partsL (ks.take i) : Nat) : Int) + (parts kd : Int)) ⟨by omega, by omega⟩).trans (by rw [htake]; omega)
            have k4 : ¬ ((1 + partsL (ks.take (i + 1)) : Nat) : Int) > 40 := by rw [htake]; omega
            simp only [RUN, core, T.c, T.s, T.b, T.i, sBin, sInt, sUn, isShift, asInt, P1.cells, loadT, ptrC, storeT, putC, fillP, Nat.reduceAdd, reduceIte, Nat.reduceEqDiff, Nat.reduceLT, Nat.reduceLeDiff, reduceCtorEq, eq_self, FIT, lendCs_map, verC_map, FinC, resPs, resP, lendPl, lendCs, lendC, sealC, partsT, finHs, tupT, verT, verP, verC, verB, verAt, Blk.ver, handsAre, forall_const, UKf_3, e6, e7, k2, kw, k4, gw]
            exact ⟨hlt, fun j k hj hj2 => by
              rcases Nat.lt_succ_iff_lt_or_eq.1 hj with hj | rfl
              · exact g0 j k hj hj2
              · rw [hk] at hj2; cases hj2; exact x1, by rw [htake]; omega, e1, e2, e5, rfl, rfl, eH⟩
        · have hm := hno fun h => x1 ⟨h.1.inv.2.2 kd hmem, by have := h.2; simp only [parts] at this; have := partsL_mem hmem; omega⟩
          have k2 : (-1 : Int) < 0 := by omega
          simp only [RUN, core, T.c, T.s, T.b, T.i, sBin, sInt, sUn, isShift, asInt, P1.cells, loadT, ptrC, storeT, putC, fillP, Nat.reduceAdd, reduceIte, Nat.reduceEqDiff, Nat.reduceLT, Nat.reduceLeDiff, reduceCtorEq, eq_self, FIT, lendCs_map, verC_map, FinC, resPs, resP, lendPl, lendCs, lendC, sealC, partsT, finHs, tupT, verT, verP, verC, verB, verAt, Blk.ver, handsAre, forall_const, UKf_3, k2, hm]
      · have k1 : ¬ (i : Int) < ks.length := by omega
        have hi2 : i = ks.length := by omega
        subst hi2
        rw [List.take_length] at g1 e6
        have hm : q = ((1 + partsL ks : Nat) : Int) := by
          rcases hq with ⟨_, _, h⟩ | ⟨h, _⟩
          · rw [h]; simp [parts]
          · refine absurd ⟨.mk _ _ _ _ hd6 hsh fun k hk => ?_, by simp only [parts]; omega⟩ h
            obtain ⟨j, hj⟩ := List.getElem?_of_mem hk
            exact g0 j k (List.getElem?_eq_some_iff.1 hj).1 hj
        simp only [RUN, core, T.c, T.s, T.b, T.i, sBin, sInt, sUn, isShift, asInt, P1.cells, loadT, ptrC, storeT, putC, fillP, Nat.reduceAdd, reduceIte, Nat.reduceEqDiff, Nat.reduceLT, Nat.reduceLeDiff, reduceCtorEq, eq_self, FIT, lendCs_map, verC_map, FinC, resPs, resP, lendPl, lendCs, lendC, sealC, partsT, finHs, tupT, verT, verP, verC, verB, verAt, Blk.ver, handsAre, forall_const, UKf_3, e1, e2, e5, e6, e7, k1, hm]
    by_cases hd6 : (d : Int) > 6
    · have hm := hno fun h => by have := h.1.inv.1; omega
      simp only [RUN, core, T.c, T.s, T.b, T.i, sBin, sInt, sUn, isShift, asInt, P1.cells, loadT, ptrC, storeT, putC, fillP, Nat.reduceAdd, reduceIte, Nat.reduceEqDiff, Nat.reduceLT, Nat.reduceLeDiff, reduceCtorEq, eq_self, FIT, lendCs_map, verC_map, FinC, resPs, resP, lendPl, lendCs, lendC, sealC, partsT, finHs, tupT, verT, verP, verC, verB, verAt, Blk.ver, handsAre, forall_const, UKf_2, encK_mk, encKs_len, hd6, hm]
    simp only [RUN, core, T.c, T.s, T.b, T.i, sBin, sInt, sUn, isShift, asInt, P1.cells, loadT, ptrC, storeT, putC, fillP, Nat.reduceAdd, reduceIte, Nat.reduceEqDiff, Nat.reduceLT, Nat.reduceLeDiff, reduceCtorEq, eq_self, FIT, lendCs_map, verC_map, FinC, resPs, resP, lendPl, lendCs, lendC, sealC, partsT, finHs, tupT, verT, verP, verC, verB, verAt, Blk.ver, handsAre, forall_const, UKf_2, encK_mk, encKs_len, hd6]
    refine callC (l6In_ok _ _ _) rfl rfl rfl rfl ?_
    by_cases hs1 : 1 ≤ s
    · by_cases hs2 : s ≤ 6
      · by_cases h5 : s = 5
        · subst h5
          have b5 : ((5 : Int) == 5) = true := rfl
          by_cases hn : ns.length = ks.length
          · have bn : ((ns.length : Int) != (ks.length : Int)) = false := by simp [hn]
            simp only [RUN, core, T.c, T.s, T.b, T.i, sBin, sInt, sUn, isShift, asInt, P1.cells, loadT, ptrC, storeT, putC, fillP, Nat.reduceAdd, reduceIte, Nat.reduceEqDiff, Nat.reduceLT, Nat.reduceLeDiff, reduceCtorEq, eq_self, FIT, lendCs_map, verC_map, FinC, resPs, resP, lendPl, lendCs, lendC, sealC, partsT, finHs, tupT, verT, verP, verC, verB, verAt, Blk.ver, handsAre, forall_const, UKf_2, encK_mk, encKs_len, encS_len, hs1, hs2, b5, bn]
            refine callC (rise_ok ns (by omega) fun x hx => by have := hB3 x hx; omega) rfl rfl rfl rfl ?_
            cases hr : rise ns with
            | true =>
              have k1 : ¬ (5 : Int) < 4 := by omega
              have b4 : ((5 : Int) == 4) = false := rfl
              have b6 : ((5 : Int) == 6) = false := rfl
              have c5 : ((5 : Int) != 5) = false := rfl
              simp only [RUN, core, T.c, T.s, T.b, T.i, sBin, sInt, sUn, isShift, asInt, P1.cells, loadT, ptrC, storeT, putC, fillP, Nat.reduceAdd, reduceIte, Nat.reduceEqDiff, Nat.reduceLT, Nat.reduceLeDiff, reduceCtorEq, eq_self, FIT, lendCs_map, verC_map, FinC, resPs, resP, lendPl, lendCs, lendC, sealC, partsT, finHs, tupT, verT, verP, verC, verB, verAt, Blk.ver, handsAre, forall_const, UKf_2, encK_mk, encKs_len, encS_len, b5, bn, k1, b4, b6, c5]
              exact tail (by omega) ⟨by omega, by omega, fun _ => ⟨hn, hr⟩, fun h => absurd rfl h, fun h => by omega, fun h => by omega⟩ X _ _ _ _ rfl rfl rfl rfl
            | false =>
              have hm := hno fun h => by have := (h.1.inv.2.1.form rfl).2; rw [hr] at this; cases this
              simp only [RUN, core, T.c, T.s, T.b, T.i, sBin, sInt, sUn, isShift, asInt, P1.cells, loadT, ptrC, storeT, putC, fillP, Nat.reduceAdd, reduceIte, Nat.reduceEqDiff, Nat.reduceLT, Nat.reduceLeDiff, reduceCtorEq, eq_self, FIT, lendCs_map, verC_map, FinC, resPs, resP, lendPl, lendCs, lendC, sealC, partsT, finHs, tupT, verT, verP, verC, verB, verAt, Blk.ver, handsAre, forall_const, UKf_2, hm]
          · have bn : ((ns.length : Int) != (ks.length : Int)) = true := by simp; omega
            have hm := hno fun h => hn (h.1.inv.2.1.form rfl).1
            simp only [RUN, core, T.c, T.s, T.b, T.i, sBin, sInt, sUn, isShift, asInt, P1.cells, loadT, ptrC, storeT, putC, fillP, Nat.reduceAdd, reduceIte, Nat.reduceEqDiff, Nat.reduceLT, Nat.reduceLeDiff, reduceCtorEq, eq_self, FIT, lendCs_map, verC_map, FinC, resPs, resP, lendPl, lendCs, lendC, sealC, partsT, finHs, tupT, verT, verP, verC, verB, verAt, Blk.ver, handsAre, forall_const, UKf_2, encK_mk, encKs_len, encS_len, hs1, hs2, b5, bn, hm]
        · have b5 : (s == 5) = false := beq_eq_false_iff_ne.2 h5
          have c5 : (s != 5) = true := by simp [h5]
          by_cases hn : ns.length = 0
          · have k0 : ¬ (ns.length : Int) > 0 := by omega
            by_cases hs4 : s < 4
            · have b4 : (s == 4) = false := beq_eq_false_iff_ne.2 (by omega)
              have b6 : (s == 6) = false := beq_eq_false_iff_ne.2 (by omega)
              by_cases hk0 : ks.length = 0
              · have k1 : ¬ (ks.length : Int) > 0 := by omega
                simp only [RUN, core, T.c, T.s, T.b, T.i, sBin, sInt, sUn, isShift, asInt, P1.cells, loadT, ptrC, storeT, putC, fillP, Nat.reduceAdd, reduceIte, Nat.reduceEqDiff, Nat.reduceLT, Nat.reduceLeDiff, reduceCtorEq, eq_self, FIT, lendCs_map, verC_map, FinC, resPs, resP, lendPl, lendCs, lendC, sealC, partsT, finHs, tupT, verT, verP, verC, verB, verAt, Blk.ver, handsAre, forall_const, UKf_2, encK_mk, encKs_len, encS_len, hs1, hs2, b5, c5, k0, hs4, k1, b4, b6]
                exact tail (by omega) ⟨hs1, hs2, fun h => absurd h h5, fun _ => hn, fun _ => hk0, fun h => by omega⟩ X _ _ _ _ rfl rfl rfl rfl
              · have k1 : (ks.length : Int) > 0 := by omega
                have hm := hno fun h => hk0 (h.1.inv.2.1.leaf hs4)
                simp only [RUN, core, T.c, T.s, T.b, T.i, sBin, sInt, sUn, isShift, asInt, P1.cells, loadT, ptrC, storeT, putC, fillP, Nat.reduceAdd, reduceIte, Nat.reduceEqDiff, Nat.reduceLT, Nat.reduceLeDiff, reduceCtorEq, eq_self, FIT, lendCs_map, verC_map, FinC, resPs, resP, lendPl, lendCs, lendC, sealC, partsT, finHs, tupT, verT, verP, verC, verB, verAt, Blk.ver, handsAre, forall_const, UKf_2, encK_mk, encKs_len, encS_len, hs1, hs2, b5, c5, k0, hs4, k1, hm]
            · have h46 : s = 4 ∨ s = 6 := by omega
              by_cases hk1 : ks.length = 1
              · have bn : ((ks.length : Int) != 1) = false := by simp [hk1]
                rcases h46 with rfl | rfl
                · simp only [RUN, core, T.c, T.s, T.b, T.i, sBin, sInt, sUn, isShift, asInt, P1.cells, loadT, ptrC, storeT, putC, fillP, Nat.reduceAdd, reduceIte, Nat.reduceEqDiff, Nat.reduceLT, Nat.reduceLeDiff, reduceCtorEq, eq_self, FIT, lendCs_map, verC_map, FinC, resPs, resP, lendPl, lendCs, lendC, sealC, partsT, finHs, tupT, verT, verP, verC, verB, verAt, Blk.ver, handsAre, forall_const, UKf_2, encK_mk, encKs_len, encS_len, hs1, hs2, b5, c5, k0, hs4, bn, Int.reduceBEq]
                  exact tail (by omega) ⟨hs1, hs2, fun h => absurd h h5, fun _ => hn, fun h => by omega, fun _ => hk1⟩ X _ _ _ _ rfl rfl rfl rfl
                · simp only [RUN, core, T.c, T.s, T.b, T.i, sBin, sInt, sUn, isShift, asInt, P1.cells, loadT, ptrC, storeT, putC, fillP, Nat.reduceAdd, reduceIte, Nat.reduceEqDiff, Nat.reduceLT, Nat.reduceLeDiff, reduceCtorEq, eq_self, FIT, lendCs_map, verC_map, FinC, resPs, resP, lendPl, lendCs, lendC, sealC, partsT, finHs, tupT, verT, verP, verC, verB, verAt, Blk.ver, handsAre, forall_const, UKf_2, encK_mk, encKs_len, encS_len, hs1, hs2, b5, c5, k0, hs4, bn, Int.reduceBEq]
                  exact tail (by omega) ⟨hs1, hs2, fun h => absurd h h5, fun _ => hn, fun h => by omega, fun _ => hk1⟩ X _ _ _ _ rfl rfl rfl rfl
              · have bn : ((ks.length : Int) != 1) = true := by simp; omega
                have hm := hno fun h => hk1 (h.1.inv.2.1.one h46)
                rcases h46 with rfl | rfl <;> simp only [RUN, core, T.c, T.s, T.b, T.i, sBin, sInt, sUn, isShift, asInt, P1.cells, loadT, ptrC, storeT, putC, fillP, Nat.reduceAdd, reduceIte, Nat.reduceEqDiff, Nat.reduceLT, Nat.reduceLeDiff, reduceCtorEq, eq_self, FIT, lendCs_map, verC_map, FinC, resPs, resP, lendPl, lendCs, lendC, sealC, partsT, finHs, tupT, verT, verP, verC, verB, verAt, Blk.ver, handsAre, forall_const, UKf_2, encK_mk, encKs_len, encS_len, hs1, hs2, b5, c5, k0, hs4, bn, Int.reduceBEq, hm]
          · have k0 : (ns.length : Int) > 0 := by omega
            have hm := hno fun h => hn (h.1.inv.2.1.other h5)
            simp only [RUN, core, T.c, T.s, T.b, T.i, sBin, sInt, sUn, isShift, asInt, P1.cells, loadT, ptrC, storeT, putC, fillP, Nat.reduceAdd, reduceIte, Nat.reduceEqDiff, Nat.reduceLT, Nat.reduceLeDiff, reduceCtorEq, eq_self, FIT, lendCs_map, verC_map, FinC, resPs, resP, lendPl, lendCs, lendC, sealC, partsT, finHs, tupT, verT, verP, verC, verB, verAt, Blk.ver, handsAre, forall_const, UKf_2, encK_mk, encKs_len, encS_len, hs1, hs2, b5, c5, k0, hm]
      · have hm := hno fun h => hs2 h.1.inv.2.1.hi
        simp only [RUN, core, T.c, T.s, T.b, T.i, sBin, sInt, sUn, isShift, asInt, P1.cells, loadT, ptrC, storeT, putC, fillP, Nat.reduceAdd, reduceIte, Nat.reduceEqDiff, Nat.reduceLT, Nat.reduceLeDiff, reduceCtorEq, eq_self, FIT, lendCs_map, verC_map, FinC, resPs, resP, lendPl, lendCs, lendC, sealC, partsT, finHs, tupT, verT, verP, verC, verB, verAt, Blk.ver, handsAre, forall_const, UKf_2, hs1, hs2, hm]
    · have hm := hno fun h => hs1 h.1.inv.2.1.lo
      simp only [RUN, core, T.c, T.s, T.b, T.i, sBin, sInt, sUn, isShift, asInt, P1.cells, loadT, ptrC, storeT, putC, fillP, Nat.reduceAdd, reduceIte, Nat.reduceEqDiff, Nat.reduceLT, Nat.reduceLeDiff, reduceCtorEq, eq_self, FIT, lendCs_map, verC_map, FinC, resPs, resP, lendPl, lendCs, lendC, sealC, partsT, finHs, tupT, verT, verP, verC, verB, verAt, Blk.ver, handsAre, forall_const, UKf_2, hs1, hm]
end Go.V
set_option linter.unusedSimpArgs false
namespace Go.V
open Go.Proofs
noncomputable def okK (k : Kd) : Bool := @decide (KOk 1 k ∧ parts k ≤ 40) (Classical.propDecidable _)
theorem okK_true {k : Kd} : okK k = true ↔ KOk 1 k ∧ parts k ≤ 40 := by simp [okK]
theorem okK_false {k : Kd} : okK k = false ↔ ¬ (KOk 1 k ∧ parts k ≤ 40) := by simp [okK]
/- loop.example/teagle/spec.KindOk -/
def r25_0 : List AOper := [ao 0 1 (.box 26 (.t 0)),
  ao 1 2 (.mv (.k (.b false)))]
def r25_1 : List AOper := [ao 0 3 (.ld 3 true (.t 1)),
  ao 1 4 (.call (.k (.c (.fn 63 []))) [(.t 3), (.k (.i 1))]),
  ao 2 5 (.bin .gtr (.t 4) (.k (.i 0))),
  ao 3 2 (.mv (.t 5))]
def c25 : ACode := .seq (.reg r25_0) (.seq (.reg r25_1) .ret)
def s25 : List ARes := [.tmp 2]
theorem ok25 : okF Try.prog 25 6 c25 s25 := ⟨Try.f25, Try.func25, Try.ntmps25, by kernel_rfl, by kernel_rfl, by kernel_rfl⟩
theorem UKg_1 : (type_of% (uA c25.eq_1)) ∧ (type_of% (uR r25_0.eq_1)) ∧ (type_of% (uR r25_1.eq_1)) ∧ (type_of% s25.eq_1) :=
  ⟨uA c25.eq_1, uR r25_0.eq_1, uR r25_1.eq_1, s25.eq_1⟩
theorem kindOkS_ok (k : Kd) (hB : KB 1000000 k) : ACallsF Try.prog 25 [tK k] [] (.b (okK k)) := by
  obtain ⟨q, hq, hC⟩ := parts_ok k hB 1 (by omega)
  refine ACallsF.intro ok25 follows fun X c0 => ?_
  have e1 : ((1 : Nat) : Int) = 1 := rfl
  rw [e1] at hC
  simp only [RUN, core, T.c, T.s, T.b, T.i, sBin, sInt, sUn, isShift, asInt, P1.cells, loadT, ptrC, storeT, putC, fillP, Nat.reduceAdd, reduceIte, Nat.reduceEqDiff, Nat.reduceLT, Nat.reduceLeDiff, reduceCtorEq, eq_self, FIT, lendCs_map, verC_map, FinC, resPs, resP, lendPl, lendCs, lendC, sealC, partsT, finHs, tupT, verT, verP, verC, verB, verAt, Blk.ver, handsAre, forall_const, UKg_1, encK_len, List.length_map, takeK, Nat.le_refl]
  refine callC hC rfl rfl (by simp [closedA, closedP, closedC]) rfl ?_
  rcases hq with ⟨h1, h2, rfl⟩ | ⟨h1, rfl⟩
  · have hm : okK k = true := okK_true.2 ⟨h1, h2⟩
    have k1 : (parts k : Int) > 0 := by have := parts_pos k; omega
    simp only [RUN, core, T.c, T.s, T.b, T.i, sBin, sInt, sUn, isShift, asInt, P1.cells, loadT, ptrC, storeT, putC, fillP, Nat.reduceAdd, reduceIte, Nat.reduceEqDiff, Nat.reduceLT, Nat.reduceLeDiff, reduceCtorEq, eq_self, FIT, lendCs_map, verC_map, FinC, resPs, resP, lendPl, lendCs, lendC, sealC, partsT, finHs, tupT, verT, verP, verC, verB, verAt, Blk.ver, handsAre, forall_const, UKg_1, hm, k1]
  · have hm : okK k = false := okK_false.2 h1
    have k1 : ¬ (-1 : Int) > 0 := by omega
    simp only [RUN, core, T.c, T.s, T.b, T.i, sBin, sInt, sUn, isShift, asInt, P1.cells, loadT, ptrC, storeT, putC, fillP, Nat.reduceAdd, reduceIte, Nat.reduceEqDiff, Nat.reduceLT, Nat.reduceLeDiff, reduceCtorEq, eq_self, FIT, lendCs_map, verC_map, FinC, resPs, resP, lendPl, lendCs, lendC, sealC, partsT, finHs, tupT, verT, verP, verC, verB, verAt, Blk.ver, handsAre, forall_const, UKg_1, hm, k1]
theorem KB.le {n m : Nat} (h : n ≤ m) {k : Kd} (hk : KB n k) : KB m k := by
  induction k using Kd.ind with
  | _ s ns ks ih =>
    obtain ⟨h1, h2, h3, h4⟩ := hk.inv
    exact .mk _ _ _ (by omega) (by omega) (fun x hx => by have := h3 x hx; omega) fun k hk => ih k hk (h4 k hk)
/- loop.example/teagle/spec.l5Some -/
def r69_0 : List AOper := [ao 0 4 (.alloc 26 [(.v (.s (.int .i64 0))), .nil0, .nil0])]
def r69_1 : List AOper := [ao 0 5 (.mv (.k (.i 0)))]
def r69_2 : List AOper := [ao 0 7 (.mv (.t 5)),
  ao 1 8 (.bin .lss (.t 7) (.k (.i 4)))]
def c69_3 : ACode := .cond (.t 8) .skip (.exit 0)
def c69_4 : ACode := .seq (.reg r69_2) c69_3
def r69_5 : List AOper := [ao 0 11 (.mv (.t 0)),
  ao 1 12 (.mv (.t 0)),
  ao 2 13 (.call (.k (.c (.fn 36 []))) [(.t 12), (.k (.i 3))]),
  ao 3 14 (.bin .add (.k (.i 2)) (.t 13)),
  ao 4 15 (.mv (.t 1)),
  ao 5 16 (.call (.k (.c (.fn 76 []))) [(.t 11), (.t 14), (.t 15)]),
  ao 6 6 (.alloc 26 [(.v (.s (.int .i64 0))), .nil0, .nil0]),
  an 7 (.st 3 (.t 6) (.t 16))]
def r69_6 : List AOper := [ao 0 17 (.ld 3 true (.t 6)),
  ao 1 18 (.call (.k (.c (.fn 25 []))) [(.t 17)])]
def r69_7 : List AOper := [ao 0 19 (.ld 3 true (.t 6)),
  an 1 (.st 3 (.t 4) (.t 19))]
def c69_8 : ACode := .seq (.reg r69_7) .ret
def c69_9 : ACode := .cond (.t 18) c69_8 .skip
def c69_10 : ACode := .seq (.reg r69_5) (.seq (.reg r69_6) c69_9)
def c69_11 : ACode := .block 1 c69_10
def r69_12 : List AOper := [ao 0 9 (.mv (.t 5)),
  ao 1 10 (.bin .add (.t 9) (.k (.i 1))),
  ao 2 5 (.mv (.t 10))]
def c69_13 : ACode := .seq c69_4 (.seq c69_11 (.reg r69_12))
def c69_14 : ACode := .loop c69_13
def c69_15 : ACode := .block 0 c69_14
def c69_16 : ACode := .seq (.reg r69_1) c69_15
def r69_17 : List AOper := [ao 0 20 (.build [(.v (.s (.int .i64 0))), .nil0, .nil0] [(0, 1, (.k (.i 5)))]),
  an 1 (.st 3 (.t 4) (.t 20))]
def c69 : ACode := .seq (.reg r69_0) (.seq c69_16 (.seq (.reg r69_17) .ret))
def s69 : List ARes := [.cell 4 3 true]
theorem ok69 : okF Try.prog 69 21 c69 s69 := ⟨Try.f69, Try.func69, Try.ntmps69, by kernel_rfl, by kernel_rfl, by kernel_rfl⟩
/-- A step of l5Some: it draws again. -/
def SomeStep (v : Nat) (bs : List UInt8) (top : Bool) (s s' : Int × Option Kd) : Prop :=
  ∃ (n p' : Int) (k : Kd), 0 ≤ n ∧ n < 3 ∧ ACallsF Try.prog 36 [rP v, .i 3] [rH v bs s.1 (s.1 + 1)] (.i n) ∧ ACallsF Try.prog 76 [rP v, .i (2 + n), .b top] [rH v bs (s.1 + 1) p'] (tK k) ∧ KB 1000 k ∧
    s' = (p', some k)
def inv69 (v : Nat) (bs : List UInt8) (top : Bool) (f : Nat → Int × Option Kd) (i : Nat) (σ : St) : Prop :=
  (∀ j k, j < i → (f (j + 1)).2 = some k → okK k = false) ∧ σ.t 0 = rP v ∧ σ.t 1 = .b top ∧ σ.t 5 = .i i ∧ (∃ u, σ.t 4 = .c (.ptr 4 u 0) ∧ σ.H 4 = some (.var u 26 [.v (.s (.int .i64 0)), .nil0, .nil0])) ∧ σ.H 1000 = some (rdr v bs (f i).1)
theorem UKg_2 : (type_of% (uA c69.eq_1)) ∧ (type_of% (uR r69_0.eq_1)) ∧ (type_of% (uA c69_16.eq_1)) ∧ (type_of% (uR r69_1.eq_1)) ∧ (type_of% (uA c69_15.eq_1)) ∧ (type_of% (uA c69_14.eq_1)) ∧ (type_of% (uR r69_17.eq_1)) ∧ (type_of% s69.eq_1) :=
  ⟨uA c69.eq_1, uR r69_0.eq_1, uA c69_16.eq_1, uR r69_1.eq_1, uA c69_15.eq_1, uA c69_14.eq_1, uR r69_17.eq_1, s69.eq_1⟩
theorem UKg_3 : (type_of% (uA c69_13.eq_1)) ∧ (type_of% (uA c69_4.eq_1)) ∧ (type_of% (uR r69_2.eq_1)) ∧ (type_of% (uA c69_3.eq_1)) ∧ (type_of% (uA c69_11.eq_1)) ∧ (type_of% (uA c69_10.eq_1)) ∧ (type_of% (uR r69_5.eq_1)) ∧ (type_of% (uR r69_6.eq_1)) ∧ (type_of% (uA c69_9.eq_1)) ∧ (type_of% (uA c69_8.eq_1)) ∧ (type_of% (uR r69_7.eq_1)) ∧ (type_of% (uR r69_12.eq_1)) ∧ (type_of% (uA c69.eq_1)) ∧ (type_of% (uR r69_0.eq_1)) ∧ (type_of% (uA c69_16.eq_1)) ∧ (type_of% (uR r69_1.eq_1)) ∧ (type_of% (uA c69_15.eq_1)) ∧ (type_of% (uA c69_14.eq_1)) ∧ (type_of% (uR r69_17.eq_1)) ∧ (type_of% s69.eq_1) :=
  ⟨uA c69_13.eq_1, uA c69_4.eq_1, uR r69_2.eq_1, uA c69_3.eq_1, uA c69_11.eq_1, uA c69_10.eq_1, uR r69_5.eq_1, uR r69_6.eq_1, uA c69_9.eq_1, uA c69_8.eq_1, uR r69_7.eq_1, uR r69_12.eq_1, uA c69.eq_1, uR r69_0.eq_1, uA c69_16.eq_1, uR r69_1.eq_1, uA c69_15.eq_1, uA c69_14.eq_1, uR r69_17.eq_1, s69.eq_1⟩
theorem some_ok (v : Nat) (bs : List UInt8) (hb : bs.length ≤ 2000) (p : Int) (top : Bool) (hp : 0 ≤ p ∧ p ≤ 900000000000) :
    ∃ (p' : Int) (k : Kd), p ≤ p' ∧ p' ≤ p + 4000010 ∧ KB 1000 k ∧ okK k = true ∧ ACallsF Try.prog 69 [rP v, .b top] [rH v bs p p'] (tK k) := by
  obtain ⟨f, f0, f1, f2⟩ := trace (fun i (s : Int × Option Kd) => p ≤ s.1 ∧ s.1 ≤ p + i * 1000002) (fun _ => SomeStep v bs top) (p, none) ⟨Int.le_refl _, by simp⟩ 4 (by
    rintro i hi ⟨q, o⟩ ⟨g1, g2⟩
    simp only at g1 g2
    obtain ⟨n, n0, n1, hC⟩ := pick_ok v bs hb q 3 (by omega) (by omega)
    obtain ⟨m, rfl⟩ : ∃ m : Nat, n = m := ⟨n.toNat, (Int.toNat_of_nonneg n0).symm⟩
    have hk : kcost (2 + m) ≤ 1000000 := by
      rcases (by omega : m = 0 ∨ m = 1 ∨ m = 2) with rfl | rfl | rfl <;> decide
    have hk0 := kcost_pos (2 + m)
    obtain ⟨p', k, i1, i2, i3, i4⟩ := kind_ok v bs hb (2 + m) (q + 1) top (by omega) (by omega) (by omega)
    exact ⟨(p', some k), ⟨m, p', k, n0, n1, hC, i4, i3.1, rfl⟩, by simp only; omega, by simp only; omega⟩)
  let bad : Nat → Prop := fun i => ∀ j k, j < i → (f (j + 1)).2 = some k → okK k = false
  obtain ⟨p', K, hp1, hp2, hB, hO, hres, hend⟩ : ∃ (p' : Int) (K : Kd), p ≤ p' ∧ p' ≤ p + 4000010 ∧ KB 1000 K ∧ okK K = true ∧ (∀ i k, i < 4 → bad i → (f (i + 1)).2 = some k → okK k = true → p' = (f (i + 1)).1 ∧ K = k) ∧ (bad 4 → p' = (f 4).1 ∧ K = .mk 5 [] []) := by
    by_cases h : ∃ j, j < 4 ∧ ∃ k, (f (j + 1)).2 = some k ∧ okK k = true
    · obtain ⟨j, ⟨hj, k, hk, hO⟩, hmin⟩ := least h
      have hI := f1 (j + 1) (by omega)
      obtain ⟨n, q, k2, _, _, _, _, hB, he⟩ := f2 j hj
      rw [he] at hk
      cases hk
      have hj2 : ((j + 1 : Nat) : Int) * 1000002 ≤ 4 * 1000002 := by omega
      refine ⟨(f (j + 1)).1, k, hI.1, by have := hI.2; omega, hB, hO, fun i k3 hi hb3 hk3 hO3 => ?_, fun hb4 => ?_⟩
      · have hij : i = j := by
          rcases Nat.lt_trichotomy i j with h | h | h
          · have := hmin i ⟨hi, k3, hk3, hO3⟩; omega
          · exact h
          · have := hb3 j k h (by rw [he]); rw [hO] at this; cases this
        subst hij
        rw [he] at hk3; cases hk3
        exact ⟨rfl, rfl⟩
      · have := hb4 j k hj (by rw [he]); rw [hO] at this; cases this
    · have hI := f1 4 (by omega)
      refine ⟨(f 4).1, .mk 5 [] [], hI.1, by have := hI.2; omega, .mk _ _ _ (by simp) (by simp) (by simp) (by simp), okK_true.2 ⟨.mk _ _ _ _ (by omega) ⟨by omega, by omega, fun _ => ⟨rfl, rise_true.2 fun i s hs => by simp at hs⟩, fun h => absurd rfl h, fun h => by omega, fun h => by omega⟩ (by simp), by decide⟩, fun i k3 hi _ hk3 hO3 => absurd ⟨i, hi, k3, hk3, hO3⟩ h, fun _ => ⟨rfl, rfl⟩⟩
  refine ⟨p', K, hp1, hp2, hB, hO, ACallsF.intro ok69 follows fun X c0 => ?_⟩
  simp only [RUN, core, T.c, T.s, T.b, T.i, sBin, sInt, sUn, isShift, asInt, P1.cells, loadT, ptrC, storeT, putC, fillP, Nat.reduceAdd, reduceIte, Nat.reduceEqDiff, Nat.reduceLT, Nat.reduceLeDiff, reduceCtorEq, eq_self, FIT, lendCs_map, verC_map, FinC, resPs, resP, lendPl, lendCs, lendC, sealC, partsT, finHs, tupT, verT, verP, verC, verB, verAt, Blk.ver, handsAre, forall_const, rH, rdr, UKg_2]
  refine AW.upto 4 (inv69 v bs top f) ?_ fun i t H c hi h => ?_
  · unfold inv69
    rw [f0]
    exact ⟨fun j _ hj => absurd hj (Nat.not_lt_zero j), rfl, rfl, rfl, ⟨_, rfl, rfl⟩, rfl⟩
  obtain ⟨g0, e0, e1, e5, ⟨u, e4, eH4⟩, eH⟩ := h
  simp only [T.c, T.i, T.b] at e0 e1 e5 e4 eH4 eH
  by_cases hlt : i < 4
  · have k1 : (i : Int) < ((4 : Nat) : Int) := by omega
    have k1' : (i : Int) < 4 := by omega
    have gw : IntKind.i64.wrap ((i : Int) + 1) = ((i + 1 : Nat) : Int) := wrap64 (x := (i : Int) + 1) ⟨by omega, by omega⟩
    obtain ⟨n, q, k, n0, n1, hC, hC2, hBk, he⟩ := f2 i hlt
    have gn : IntKind.i64.wrap (2 + n) = 2 + n := wrap64 ⟨by omega, by omega⟩
    simp only [RUN, core, T.c, T.s, T.b, T.i, sBin, sInt, sUn, isShift, asInt, P1.cells, loadT, ptrC, storeT, putC, fillP, Nat.reduceAdd, reduceIte, Nat.reduceEqDiff, Nat.reduceLT, Nat.reduceLeDiff, reduceCtorEq, eq_self, FIT, lendCs_map, verC_map, FinC, resPs, resP, lendPl, lendCs, lendC, sealC, partsT, finHs, tupT, verT, verP, verC, verB, verAt, Blk.ver, handsAre, forall_const, UKg_3, e0, e1, e5, k1']
    refine callR hC rfl rfl rfl rfl eH ⟨rfl, ?_⟩
    simp only [RUN, core, T.c, T.s, T.b, T.i, sBin, sInt, sUn, isShift, asInt, P1.cells, loadT, ptrC, storeT, putC, fillP, Nat.reduceAdd, reduceIte, Nat.reduceEqDiff, Nat.reduceLT, Nat.reduceLeDiff, reduceCtorEq, eq_self, FIT, lendCs_map, verC_map, FinC, resPs, resP, lendPl, lendCs, lendC, sealC, partsT, finHs, tupT, verT, verP, verC, verB, verAt, Blk.ver, handsAre, forall_const, UKg_3, e0, e1, e5, gn]
    refine callR hC2 rfl rfl rfl (closed_map _) rfl ⟨rfl, ?_⟩
    simp only [RUN, core, T.c, T.s, T.b, T.i, sBin, sInt, sUn, isShift, asInt, P1.cells, loadT, ptrC, storeT, putC, fillP, Nat.reduceAdd, reduceIte, Nat.reduceEqDiff, Nat.reduceLT, Nat.reduceLeDiff, reduceCtorEq, eq_self, FIT, lendCs_map, verC_map, FinC, resPs, resP, lendPl, lendCs, lendC, sealC, partsT, finHs, tupT, verT, verP, verC, verB, verAt, Blk.ver, handsAre, forall_const, UKg_3, List.length_map, encK_len, takeK, Nat.le_refl]
    refine callC (kindOkS_ok k (hBk.le (by omega))) rfl rfl (by simp [closedA, closedP, closedC]) rfl ?_
    have hf2 : (f (i + 1)).2 = some k := by rw [he]
    have hf1 : (f (i + 1)).1 = q := by rw [he]
    cases hk : okK k with
    | true =>
      obtain ⟨r1, r2⟩ := hres i k hlt g0 hf2 hk
      rw [hf1] at r1
      subst r1 r2
      simp only [RUN, core, T.c, T.s, T.b, T.i, sBin, sInt, sUn, isShift, asInt, P1.cells, loadT, ptrC, storeT, putC, fillP, Nat.reduceAdd, reduceIte, Nat.reduceEqDiff, Nat.reduceLT, Nat.reduceLeDiff, reduceCtorEq, eq_self, FIT, lendCs_map, verC_map, FinC, resPs, resP, lendPl, lendCs, lendC, sealC, partsT, finHs, tupT, verT, verP, verC, verB, verAt, Blk.ver, handsAre, forall_const, UKg_3, e4, eH4, rdr, List.length_map, encK_len, takeK, Nat.le_refl]
    | false =>
      simp only [RUN, core, T.c, T.s, T.b, T.i, sBin, sInt, sUn, isShift, asInt, P1.cells, loadT, ptrC, storeT, putC, fillP, Nat.reduceAdd, reduceIte, Nat.reduceEqDiff, Nat.reduceLT, Nat.reduceLeDiff, reduceCtorEq, eq_self, FIT, lendCs_map, verC_map, FinC, resPs, resP, lendPl, lendCs, lendC, sealC, partsT, finHs, tupT, verT, verP, verC, verB, verAt, Blk.ver, handsAre, forall_const, UKg_3, e5, gw]
      refine ⟨hlt, fun j k2 hj hj2 => ?_, e0, e1, rfl, ⟨u, e4, eH4⟩, by rw [hf1]; rfl⟩
      rcases Nat.lt_succ_iff_lt_or_eq.1 hj with hj | rfl
      · exact g0 j k2 hj hj2
      · rw [hf2] at hj2; cases hj2; exact hk
  · have hi4 : i = 4 := by omega
    subst hi4
    have k1' : ¬ (((4 : Nat) : Int)) < 4 := by omega
    obtain ⟨r1, r2⟩ := hend g0
    subst r1 r2
    simp only [rdr] at eH
    simp only [RUN, core, T.c, T.s, T.b, T.i, sBin, sInt, sUn, isShift, asInt, P1.cells, loadT, ptrC, storeT, putC, fillP, Nat.reduceAdd, reduceIte, Nat.reduceEqDiff, Nat.reduceLT, Nat.reduceLeDiff, reduceCtorEq, eq_self, FIT, lendCs_map, verC_map, FinC, resPs, resP, lendPl, lendCs, lendC, sealC, partsT, finHs, tupT, verT, verP, verC, verB, verAt, Blk.ver, handsAre, forall_const, UKg_3, e0, e1, e5, k1', e4, eH4, eH, rdr, encK_mk, encS, encKs]
end Go.V
set_option linter.unusedSimpArgs false
namespace Go.V
open Go.Proofs
/- loop.example/teagle/spec.l5Wider -/
def r40_0 : List AOper := [ao 0 3 (.box 26 (.t 1)),
  ao 1 4 (.alloc 26 [(.v (.s (.int .i64 0))), .nil0, .nil0])]
def r40_1 : List AOper := [ao 0 11 (.fa 0 (.t 3)),
  ao 1 12 (.ld 1 false (.t 11)),
  ao 2 13 (.build [(.v (.s (.int .i64 0))), .nil0, .nil0] [(0, 1, (.t 12))]),
  ao 3 5 (.alloc 26 [(.v (.s (.int .i64 0))), .nil0, .nil0]),
  an 4 (.st 3 (.t 5) (.t 13))]
def r40_2 : List AOper := [ao 0 6 (.mv (.k (.i 0)))]
def r40_3 : List AOper := [ao 0 14 (.mv (.t 6)),
  ao 1 15 (.fa 2 (.t 3)),
  ao 2 16 (.ld 1 false (.t 15)),
  ao 3 17 (.len (.t 16)),
  ao 4 18 (.bin .lss (.t 14) (.t 17))]
def c40_4 : ACode := .cond (.t 18) .skip (.exit 0)
def c40_5 : ACode := .seq (.reg r40_3) c40_4
def r40_6 : List AOper := [ao 0 21 (.fa 2 (.t 5)),
  ao 1 22 (.ld 1 false (.t 21)),
  au 2 23 [0, 1] (.mv (.t 0)),
  au 3 24 (ru 3) (.fa 2 (.t 3)),
  au 4 25 (ru 3) (.ld 1 false (.t 24)),
  au 5 26 (ru 5) (.mv (.t 6)),
  au 6 27 (ru 3) (.ia 3 (.t 25) (.t 26)),
  au 7 28 (ru 3) (.ld 3 true (.t 27)),
  au 8 29 [0, 1] (.call (.k (.c (.fn 40 []))) [(.t 23), (.t 28)]),
  au 9 30 [0, 1] (.bsl 3 26 [(.t 29)]),
  ao 10 31 (.app 3 26 56 (.t 22) (.t 30)),
  ao 11 32 (.fa 2 (.t 5)),
  an 12 (.st 1 (.t 32) (.t 31))]
def c40_7 : ACode := .block 1 (.reg r40_6)
def r40_8 : List AOper := [ao 0 19 (.mv (.t 6)),
  ao 1 20 (.bin .add (.t 19) (.k (.i 1))),
  ao 2 6 (.mv (.t 20))]
def c40_9 : ACode := .seq c40_5 (.seq c40_7 (.reg r40_8))
def c40_10 : ACode := .loop c40_9
def c40_11 : ACode := .block 0 c40_10
def c40_12 : ACode := .seq (.reg r40_2) c40_11
def r40_13 : List AOper := [ao 0 33 (.call (.k (.c (.fn 75 []))) []),
  ao 1 7 (.mv (.t 33))]
def r40_14 : List AOper := [ao 0 34 (.fa 0 (.t 3)),
  ao 1 35 (.ld 1 false (.t 34)),
  ao 2 36 (.bin .eql (.t 35) (.k (.i 5)))]
def r40_15 : List AOper := [ao 0 37 (.fa 2 (.t 5)),
  ao 1 38 (.ld 1 false (.t 37)),
  ao 2 8 (.mv (.t 38))]
def r40_16 : List AOper := [ao 0 39 (.bsl 3 26 []),
  ao 1 40 (.fa 2 (.t 5)),
  an 2 (.st 1 (.t 40) (.t 39))]
def r40_17 : List AOper := [ao 0 9 (.mv (.k (.i 0)))]
def r40_18 : List AOper := [ao 0 10 (.mv (.k (.i 0)))]
def r40_19 : List AOper := [ao 0 41 (.mv (.t 10)),
  ao 1 42 (.mv (.t 7)),
  ao 2 43 (.len (.t 42)),
  ao 3 44 (.bin .lss (.t 41) (.t 43))]
def c40_20 : ACode := .cond (.t 44) .skip (.exit 2)
def c40_21 : ACode := .seq (.reg r40_19) c40_20
def r40_22 : List AOper := [ao 0 47 (.mv (.t 9)),
  au 1 48 [0] (.fa 1 (.t 3)),
  au 2 49 [0] (.ld 1 false (.t 48)),
  au 3 50 [0] (.len (.t 49)),
  ao 4 51 (.bin .lss (.t 47) (.t 50)),
  ao 5 52 (.mv (.t 51)),
  ag 6 53 52 true [] (.fa 1 (.t 3)),
  ag 7 54 52 true [] (.ld 1 false (.t 53)),
  ag 8 55 52 true [6, 7] (.mv (.t 9)),
  ag 9 56 52 true [] (.ia 1 (.t 54) (.t 55)),
  ag 10 57 52 true [] (.ld 1 false (.t 56)),
  ag 11 58 52 true [6, 7, 8, 9, 10] (.mv (.t 7)),
  ag 12 59 52 true [6, 7, 8, 9, 10, 11] (.mv (.t 10)),
  ag 13 60 52 true [6, 7, 8, 9, 10] (.ia 1 (.t 58) (.t 59)),
  ag 14 61 52 true [6, 7, 8, 9, 10] (.ld 1 false (.t 60)),
  ag 15 62 52 true [] (.bin .eql (.t 57) (.t 61)),
  ao 16 63 (.pick (.t 52) (.t 62) (.k (.b false)))]
def r40_23 : List AOper := [ao 0 64 (.fa 1 (.t 5)),
  ao 1 65 (.ld 1 false (.t 64)),
  au 2 66 [0, 1] (.mv (.t 7)),
  au 3 67 (ru 3) (.mv (.t 10)),
  au 4 68 [0, 1] (.ia 1 (.t 66) (.t 67)),
  au 5 69 [0, 1] (.ld 1 false (.t 68)),
  au 6 70 [0, 1] (.bsl 1 9 [(.t 69)]),
  ao 7 71 (.app 1 9 16 (.t 65) (.t 70)),
  ao 8 72 (.fa 1 (.t 5)),
  an 9 (.st 1 (.t 72) (.t 71))]
def r40_24 : List AOper := [ao 0 73 (.fa 2 (.t 5)),
  ao 1 74 (.ld 1 false (.t 73)),
  au 2 75 [0, 1] (.mv (.t 8)),
  au 3 76 (ru 3) (.mv (.t 9)),
  au 4 77 [0, 1] (.ia 3 (.t 75) (.t 76)),
  au 5 78 [0, 1] (.ld 3 true (.t 77)),
  au 6 79 [0, 1] (.bsl 3 26 [(.t 78)]),
  ao 7 80 (.app 3 26 56 (.t 74) (.t 79)),
  ao 8 81 (.fa 2 (.t 5)),
  an 9 (.st 1 (.t 81) (.t 80))]
def r40_25 : List AOper := [ao 0 82 (.mv (.t 9)),
  ao 1 83 (.bin .add (.t 82) (.k (.i 1))),
  ao 2 9 (.mv (.t 83))]
def c40_26 : ACode := .seq (.reg r40_23) (.seq (.reg r40_24) (.reg r40_25))
def r40_27 : List AOper := [ao 0 84 (.mv (.t 0)),
  ao 1 85 (.call (.k (.c (.fn 36 []))) [(.t 84), (.k (.i 9))]),
  ao 2 86 (.bin .eql (.t 85) (.k (.i 0)))]
def r40_28 : List AOper := [ao 0 87 (.fa 1 (.t 5)),
  ao 1 88 (.ld 1 false (.t 87)),
  au 2 89 [0, 1] (.mv (.t 7)),
  au 3 90 (ru 3) (.mv (.t 10)),
  au 4 91 [0, 1] (.ia 1 (.t 89) (.t 90)),
  au 5 92 [0, 1] (.ld 1 false (.t 91)),
  au 6 93 [0, 1] (.bsl 1 9 [(.t 92)]),
  ao 7 94 (.app 1 9 16 (.t 88) (.t 93)),
  ao 8 95 (.fa 1 (.t 5)),
  an 9 (.st 1 (.t 95) (.t 94))]
def r40_29 : List AOper := [ao 0 96 (.fa 2 (.t 5)),
  ao 1 97 (.ld 1 false (.t 96)),
  au 2 98 [0, 1] (.mv (.t 0)),
  au 3 99 [0, 1] (.call (.k (.c (.fn 76 []))) [(.t 98), (.k (.i 2)), (.k (.b false))]),
  au 4 100 [0, 1] (.bsl 3 26 [(.t 99)]),
  au 5 101 [0, 1] (.build [(.v (.s (.int .i64 0))), .nil0, .nil0] [(0, 1, (.k (.i 6))), (2, 1, (.t 100))]),
  au 6 102 [0, 1] (.bsl 3 26 [(.t 101)]),
  ao 7 103 (.app 3 26 56 (.t 97) (.t 102)),
  ao 8 104 (.fa 2 (.t 5)),
  an 9 (.st 1 (.t 104) (.t 103))]
def c40_30 : ACode := .seq (.reg r40_28) (.reg r40_29)
def c40_31 : ACode := .cond (.t 86) c40_30 .skip
def c40_32 : ACode := .seq (.reg r40_27) c40_31
def c40_33 : ACode := .cond (.t 63) c40_26 c40_32
def c40_34 : ACode := .seq (.reg r40_22) c40_33
def c40_35 : ACode := .block 3 c40_34
def r40_36 : List AOper := [ao 0 45 (.mv (.t 10)),
  ao 1 46 (.bin .add (.t 45) (.k (.i 1))),
  ao 2 10 (.mv (.t 46))]
def c40_37 : ACode := .seq c40_21 (.seq c40_35 (.reg r40_36))
def c40_38 : ACode := .loop c40_37
def c40_39 : ACode := .block 2 c40_38
def c40_40 : ACode := .seq (.reg r40_15) (.seq (.reg r40_16) (.seq (.reg r40_17) (.seq (.reg r40_18) c40_39)))
def c40_41 : ACode := .cond (.t 36) c40_40 .skip
def c40_42 : ACode := .seq (.reg r40_14) c40_41
def r40_43 : List AOper := [ao 0 105 (.mv (.t 0)),
  ao 1 106 (.call (.k (.c (.fn 36 []))) [(.t 105), (.k (.i 6))]),
  ao 2 107 (.bin .eql (.t 106) (.k (.i 0)))]
def r40_44 : List AOper := [ao 0 108 (.ld 3 true (.t 5)),
  ao 1 109 (.bsl 3 26 [(.t 108)]),
  ao 2 110 (.build [(.v (.s (.int .i64 0))), .nil0, .nil0] [(0, 1, (.k (.i 6))), (2, 1, (.t 109))]),
  an 3 (.st 3 (.t 4) (.t 110))]
def c40_45 : ACode := .seq (.reg r40_44) .ret
def c40_46 : ACode := .cond (.t 107) c40_45 .skip
def c40_47 : ACode := .seq (.reg r40_43) c40_46
def r40_48 : List AOper := [ao 0 111 (.ld 3 true (.t 5)),
  an 1 (.st 3 (.t 4) (.t 111))]
def c40 : ACode := .seq (.reg r40_0) (.seq (.reg r40_1) (.seq c40_12 (.seq (.reg r40_13) (.seq c40_42 (.seq c40_47 (.seq (.reg r40_48) .ret))))))
def s40 : List ARes := [.cell 4 3 true]
theorem ok40 : okF Try.prog 40 112 c40 s40 := ⟨Try.f40, Try.func40, Try.ntmps40, by kernel_rfl, by kernel_rfl, by kernel_rfl⟩
structure W1 where
  p : Int
  ks : List Kd
structure W2 where
  p : Int
  j : Nat
  ns : List ByteArray
  ks : List Kd
def W1Step (v : Nat) (bs : List UInt8) (ks : List Kd) (i : Nat) (s s' : W1) : Prop :=
  ∃ k k', ks[i]? = some k ∧ s' = ⟨s'.p, s.ks ++ [k']⟩ ∧ ACallsF Try.prog 40 [rP v, tK k] [rH v bs s.p s'.p] (tK k')
def W2Step (v : Nat) (bs : List UInt8) (ns : List ByteArray) (outs : List Kd) (i : Nat) (s s' : W2) : Prop :=
  ∃ x, names8[i]? = some x ∧
    ((∃ k, s.j < ns.length ∧ ns[s.j]? = some x ∧ outs[s.j]? = some k ∧ s' = ⟨s.p, s.j + 1, s.ns ++ [x], s.ks ++ [k]⟩) ∨
     (¬ (s.j < ns.length ∧ ns[s.j]? = some x) ∧ ∃ n : Int, 0 ≤ n ∧ n < 9 ∧ ACallsF Try.prog 36 [rP v, .i 9] [rH v bs s.p (s.p + 1)] (.i n) ∧
       ((n ≠ 0 ∧ s' = ⟨s.p + 1, s.j, s.ns, s.ks⟩) ∨ (n = 0 ∧ ∃ k, ACallsF Try.prog 76 [rP v, .i 2, .b false] [rH v bs (s.p + 1) s'.p] (tK k) ∧ s' = ⟨s'.p, s.j, s.ns ++ [x], s.ks ++ [.mk 6 [] [k]]⟩))))
def W1Inv (d : Nat) (p : Int) (ks : List Kd) (i : Nat) (s : W1) : Prop := p ≤ s.p ∧ s.p ≤ p + (partsL (ks.take i) : Int) * 100000 ∧ s.ks.length = i ∧ ∀ k ∈ s.ks, KB 1000 k ∧ Dp (24 - 2 * d) k
def W2Inv (d : Nat) (p : Int) (ns : List ByteArray) (i : Nat) (s : W2) : Prop := p ≤ s.p ∧ s.p ≤ p + i * 10002 ∧ s.j ≤ ns.length ∧ s.ns.length = s.ks.length ∧ s.ks.length ≤ i ∧ (∀ x ∈ s.ns, x ∈ names8) ∧ ∀ k ∈ s.ks, KB 1000 k ∧ Dp (24 - 2 * d) k
theorem wider_traces (v : Nat) (bs : List UInt8) (hb : bs.length ≤ 2000) (s : Int) (ns : List ByteArray) (ks : List Kd) (d : Nat) (hO : KOk d (.mk s ns ks)) (hB : KB 1000 (.mk s ns ks)) (p : Int) (hp : 0 ≤ p ∧ p + (parts (.mk s ns ks) : Int) * 100000 ≤ 900000000000)
    (ih : ∀ k ∈ ks, ∀ (d : Nat), KOk d k → KB 1000 k → ∀ p : Int, 0 ≤ p ∧ p + (parts k : Int) * 100000 ≤ 900000000000 → ∃ (p' : Int) (k' : Kd), p ≤ p' ∧ p' ≤ p + (parts k : Int) * 100000 ∧ (KB 1000 k' ∧ Dp (26 - 2 * d) k') ∧ ACallsF Try.prog 40 [rP v, tK k] [rH v bs p p'] (tK k')) :
    ∃ (f : Nat → W1) (g : Nat → W2), f 0 = ⟨p, []⟩ ∧ g 0 = ⟨(f ks.length).p, 0, [], []⟩ ∧ (∀ i, i ≤ ks.length → W1Inv d p ks i (f i)) ∧ (∀ i, i < ks.length → W1Step v bs ks i (f i) (f (i + 1))) ∧
      (s = 5 → (∀ i, i ≤ 8 → W2Inv d (f ks.length).p ns i (g i)) ∧ ∀ i, i < 8 → W2Step v bs ns (f ks.length).ks i (g i) (g (i + 1))) := by
  obtain ⟨hd6, hS, hK⟩ := hO.inv
  obtain ⟨b1, b2, b3, b4⟩ := hB.inv
  simp only [parts] at hp
  obtain ⟨f, f0, f1, f2⟩ := trace (W1Inv d p ks) (W1Step v bs ks) ⟨p, []⟩ ⟨Int.le_refl _, by simp [partsL], rfl, fun k hk => (by cases hk)⟩ ks.length (by
    rintro i hi ⟨q, os⟩ ⟨g1, g2, g3, g4⟩
    simp only at g1 g2 g3 g4
    obtain ⟨k, hk⟩ : ∃ k, ks[i]? = some k := ⟨_, List.getElem?_eq_getElem hi⟩
    have hmem := List.mem_of_getElem? hk
    have htake : partsL (ks.take (i + 1)) = partsL (ks.take i) + parts k := by
      rw [List.take_add_one, hk]; exact partsL_snoc _ _
    have hle := partsL_take_le ks (i + 1)
    obtain ⟨p', k', i1, i2, i3, i4⟩ := ih k hmem (d + 1) (hK k hmem) (b4 k hmem) q ⟨by omega, by omega⟩
    refine ⟨⟨p', os ++ [k']⟩, ⟨k, k', hk, rfl, i4⟩, by simp only; omega, by simp only; omega, by simp [g3], fun k2 hk2 => ?_⟩
    rcases List.mem_append.1 hk2 with h | h
    · exact g4 k2 h
    · simp at h; subst h; exact ⟨i3.1, i3.2.le (by omega)⟩)
  have hF := f1 ks.length (Nat.le_refl _)
  rw [W1Inv, List.take_length] at hF
  by_cases h5 : s = 5
  · have hlen := (hS.form h5).1
    obtain ⟨g, g0, g1, g2⟩ := trace (W2Inv d (f ks.length).p ns) (W2Step v bs ns (f ks.length).ks) ⟨(f ks.length).p, 0, [], []⟩ ⟨Int.le_refl _, by simp, by simp, rfl, by simp, fun x hx => (by cases hx), fun x hx => (by cases hx)⟩ 8 (by
      rintro i hi ⟨q, j, ms, os⟩ ⟨e1, e2, e3, e4, e5, e6, e7⟩
      simp only at e1 e2 e3 e4 e5 e6 e7
      have hx : names8[i]? = some (names8[i]'(by rw [names8_len]; omega)) := List.getElem?_eq_getElem _
      have hxm : names8[i]'(by rw [names8_len]; omega) ∈ names8 := List.getElem_mem _
      generalize names8[i]'(by rw [names8_len]; omega) = x at hx hxm
      by_cases hc : j < ns.length ∧ ns[j]? = some x
      · obtain ⟨k, hk⟩ : ∃ k, (f ks.length).ks[j]? = some k := ⟨_, List.getElem?_eq_getElem (by rw [hF.2.2.1]; omega)⟩
        refine ⟨⟨q, j + 1, ms ++ [x], os ++ [k]⟩, ⟨x, hx, .inl ⟨k, hc.1, hc.2, hk, rfl⟩⟩, by simp only; omega, by simp only; omega, by simp only; omega, by simp [e4], by simp; omega, ?_, ?_⟩
        · intro y hy
          rcases List.mem_append.1 hy with h | h
          · exact e6 y h
          · simp at h; subst h; exact hxm
        · intro y hy
          rcases List.mem_append.1 hy with h | h
          · exact e7 y h
          · simp at h; subst h; exact hF.2.2.2 _ (List.mem_of_getElem? hk)
      · obtain ⟨n, n0, n1, hC⟩ := pick_ok v bs hb q 9 (by omega) (by omega)
        by_cases hn : n = 0
        · have hk2 : kcost 2 = 10000 := rfl
          obtain ⟨p', k, i1, i2, i3, i4⟩ := kind_ok v bs hb 2 (q + 1) false (by omega) (by omega) (by omega)
          refine ⟨⟨p', j, ms ++ [x], os ++ [.mk 6 [] [k]]⟩, ⟨x, hx, .inr ⟨hc, n, n0, n1, hC, .inr ⟨hn, k, i4, rfl⟩⟩⟩, by simp only; omega, by simp only; omega, e3, by simp [e4], by simp; omega, ?_, ?_⟩
          · intro y hy
            rcases List.mem_append.1 hy with h | h
            · exact e6 y h
            · simp at h; subst h; exact hxm
          · intro y hy
            rcases List.mem_append.1 hy with h | h
            · exact e7 y h
            · simp at h; subst h; exact ⟨.mk _ _ _ (by simp) (by simp) (by simp) (by simpa using i3.1), (i3.2.one 6).le (by omega)⟩
        · exact ⟨⟨q + 1, j, ms, os⟩, ⟨x, hx, .inr ⟨hc, n, n0, n1, hC, .inl ⟨hn, rfl⟩⟩⟩, by simp only; omega, by simp only; omega, e3, e4, by simp only; omega, e6, e7⟩)
    exact ⟨f, g, f0, g0, f1, f2, fun _ => ⟨g1, g2⟩⟩
  · exact ⟨f, fun _ => ⟨(f ks.length).p, 0, [], []⟩, f0, rfl, f1, f2, fun h => absurd h h5⟩
def KW1 (v : Nat) (bs : List UInt8) (s : Int) (ns : List ByteArray) (ks : List Kd) (f : Nat → W1) (i : Nat) (σ : St) : Prop :=
  σ.t 0 = rP v ∧ (∃ u, σ.t 3 = .c (.ptr 3 u 0) ∧ σ.H 3 = some (.var u 26 [.v (.s (.int .i64 s)), .v (.sl (encS ns)), .v (.sl (encKs ks))])) ∧ (∃ u, σ.t 4 = .c (.ptr 4 u 0) ∧ σ.H 4 = some (.var u 26 [.v (.s (.int .i64 0)), .nil0, .nil0])) ∧
  (∃ u b, σ.t 5 = .c (.ptr 5 u 0) ∧ σ.H 5 = some (.var u 26 [.v (.s (.int .i64 s)), .nil0, .own 2002 b (f i).ks.length]) ∧ σ.H 2002 = some (.arr b true 3 26 (encKs (f i).ks))) ∧ σ.t 6 = .i i ∧ σ.H 1000 = some (rdr v bs (f i).p) ∧ σ.H 2001 = none
theorem UKh_1 : (type_of% (uA c40_9.eq_1)) ∧ (type_of% (uA c40_5.eq_1)) ∧ (type_of% (uR r40_3.eq_1)) ∧ (type_of% (uA c40_4.eq_1)) ∧ (type_of% (uA c40_7.eq_1)) ∧ (type_of% (uR r40_6.eq_1)) ∧ (type_of% (uR r40_8.eq_1)) ∧ (type_of% (uA c40.eq_1)) ∧ (type_of% (uR r40_0.eq_1)) ∧ (type_of% (uR r40_1.eq_1)) ∧ (type_of% (uA c40_12.eq_1)) ∧ (type_of% (uR r40_2.eq_1)) ∧ (type_of% (uA c40_11.eq_1)) ∧ (type_of% (uA c40_10.eq_1)) ∧ (type_of% (uR r40_13.eq_1)) ∧ (type_of% (uA c40_42.eq_1)) ∧ (type_of% (uR r40_14.eq_1)) ∧ (type_of% (uA c40_41.eq_1)) ∧ (type_of% (uA c40_40.eq_1)) ∧ (type_of% (uR r40_15.eq_1)) ∧ (type_of% (uR r40_16.eq_1)) ∧ (type_of% (uR r40_17.eq_1)) ∧ (type_of% (uR r40_18.eq_1)) ∧ (type_of% (uA c40_39.eq_1)) ∧ (type_of% (uA c40_38.eq_1)) ∧ (type_of% (uA c40_47.eq_1)) ∧ (type_of% (uR r40_43.eq_1)) ∧ (type_of% (uA c40_46.eq_1)) ∧ (type_of% (uA c40_45.eq_1)) ∧ (type_of% (uR r40_44.eq_1)) ∧ (type_of% (uR r40_48.eq_1)) ∧ (type_of% s40.eq_1) :=
  ⟨uA c40_9.eq_1, uA c40_5.eq_1, uR r40_3.eq_1, uA c40_4.eq_1, uA c40_7.eq_1, uR r40_6.eq_1, uR r40_8.eq_1, uA c40.eq_1, uR r40_0.eq_1, uR r40_1.eq_1, uA c40_12.eq_1, uR r40_2.eq_1, uA c40_11.eq_1, uA c40_10.eq_1, uR r40_13.eq_1, uA c40_42.eq_1, uR r40_14.eq_1, uA c40_41.eq_1, uA c40_40.eq_1, uR r40_15.eq_1, uR r40_16.eq_1, uR r40_17.eq_1, uR r40_18.eq_1, uA c40_39.eq_1, uA c40_38.eq_1, uA c40_47.eq_1, uR r40_43.eq_1, uA c40_46.eq_1, uA c40_45.eq_1, uR r40_44.eq_1, uR r40_48.eq_1, s40.eq_1⟩
theorem wider_loop1 (v : Nat) (bs : List UInt8) (s : Int) (ns : List ByteArray) (ks : List Kd) (f : Nat → W1) (hk : ks.length ≤ 1000) (hf : ∀ i, i ≤ ks.length → (f i).ks.length = i) (f2 : ∀ i, i < ks.length → W1Step v bs ks i (f i) (f (i + 1))) {X : Ctx} {Q : Exit → St → Prop} {t : Nat → T} {H : HMap} {c : Nat}
    (h : KW1 v bs s ns ks f 0 ⟨t, H, c⟩) (hQ : ∀ t H c, KW1 v bs s ns ks f ks.length ⟨t, H, c⟩ → Q (.exit 0) ⟨t, H, c⟩) : AW Try.prog X (.loop c40_9) Q ⟨t, H, c⟩ := by
  refine AW.upto ks.length (KW1 v bs s ns ks f) h fun i t H c hi h => ?_
  have hKI := h
  obtain ⟨e0, ⟨u3, e3, eH3⟩, ⟨u4, e4, eH4⟩, ⟨u5, b, e5, eH5, eHb⟩, e6, eH, eN⟩ := h
  simp only [T.c, T.i, rdr] at e0 e3 eH3 e4 eH4 e5 eH5 eHb e6 eH eN
  by_cases hlt : i < ks.length
  · have k1 : (i : Int) < ks.length := by omega
    have gz : (0 : Int) ≤ i := by omega
    have gw : IntKind.i64.wrap ((i : Int) + 1) = ((i + 1 : Nat) : Int) := wrap64 (x := (i : Int) + 1) ⟨by omega, by omega⟩
    obtain ⟨k, k', hk1, he, hC⟩ := f2 i hlt
    have ek := encKs_at hk1
    have hfi := hf i hi
    have q3 : ((f i).ks.length + 1) * 56 ≤ 140737488355328 := by omega
    have q4 : (f i).ks.length ≤ 9223372036854775806 := by omega
    simp only [RUN, core, T.c, T.s, T.b, T.i, sBin, sInt, sUn, isShift, asInt, P1.cells, loadT, ptrC, storeT, putC, fillP, Nat.reduceAdd, reduceIte, Nat.reduceEqDiff, Nat.reduceLT, Nat.reduceLeDiff, reduceCtorEq, eq_self, FIT, lendCs_map, verC_map, FinC, resPs, resP, lendPl, lendCs, lendC, sealC, partsT, finHs, tupT, verT, verP, verC, verB, verAt, Blk.ver, handsAre, forall_const, UKh_1, e0, e3, eH3, e5, eH5, e6, encKs_len, k1, gz, ek, Int.toNat_natCast, List.length_map, encK_len, takeK, Nat.le_refl]
    refine callRc hC rfl rfl (by simp [closedA, closedP, closedC]) (closed_map _) eH ⟨?_, ?_⟩
    · simp only [RUN, core, T.c, T.s, T.b, T.i, sBin, sInt, sUn, isShift, asInt, P1.cells, loadT, ptrC, storeT, putC, fillP, Nat.reduceAdd, reduceIte, Nat.reduceEqDiff, Nat.reduceLT, Nat.reduceLeDiff, reduceCtorEq, eq_self, FIT, lendCs_map, verC_map, FinC, resPs, resP, lendPl, lendCs, lendC, sealC, partsT, finHs, tupT, verT, verP, verC, verB, verAt, Blk.ver, handsAre, forall_const, CHT, disj, Nat.reduceBEq, beq_self_eq_true]
    simp only [RUN, core, T.c, T.s, T.b, T.i, sBin, sInt, sUn, isShift, asInt, P1.cells, loadT, ptrC, storeT, putC, fillP, Nat.reduceAdd, reduceIte, Nat.reduceEqDiff, Nat.reduceLT, Nat.reduceLeDiff, reduceCtorEq, eq_self, FIT, lendCs_map, verC_map, FinC, resPs, resP, lendPl, lendCs, lendC, sealC, partsT, finHs, tupT, verT, verP, verC, verB, verAt, Blk.ver, handsAre, forall_const, CHT, disj, Nat.reduceBEq, beq_self_eq_true, APT, srcOf, sealPs, sealCs, sealC, List.mem_singleton, forall_eq, UKh_1, e5, eH5, e6, eHb, gw, q3, q4, encKs_len]
    have k2 : (f (i + 1)).ks = (f i).ks ++ [k'] := congrArg W1.ks he
    have k3 : (f (i + 1)).ks.length = (f i).ks.length + 1 := by rw [k2]; simp
    have k4 : encKs (f (i + 1)).ks = encKs (f i).ks ++ [encK k'] := by rw [k2, encKs_snoc]
    unfold KW1
    rw [k3, k4]
    exact ⟨hlt, e0, ⟨u3, e3, eH3⟩, ⟨u4, e4, eH4⟩, ⟨u5, _, e5, rfl, rfl⟩, rfl, rfl, eN⟩
  · have k1 : ¬ (i : Int) < ks.length := by omega
    have : i = ks.length := by omega
    subst this
    simp only [RUN, core, T.c, T.s, T.b, T.i, sBin, sInt, sUn, isShift, asInt, P1.cells, loadT, ptrC, storeT, putC, fillP, Nat.reduceAdd, reduceIte, Nat.reduceEqDiff, Nat.reduceLT, Nat.reduceLeDiff, reduceCtorEq, eq_self, FIT, lendCs_map, verC_map, FinC, resPs, resP, lendPl, lendCs, lendC, sealC, partsT, finHs, tupT, verT, verP, verC, verB, verAt, Blk.ver, handsAre, forall_const, UKh_1, e0, e3, eH3, e5, eH5, e6, encKs_len, k1]
    exact hQ _ _ _ ⟨e0, ⟨u3, e3, eH3⟩, ⟨u4, e4, eH4⟩, ⟨u5, b, e5, eH5, eHb⟩, e6, eH, eN⟩
def KW2 (v : Nat) (bs : List UInt8) (s : Int) (ns : List ByteArray) (ks outs : List Kd) (g : Nat → W2) (i : Nat) (σ : St) : Prop :=
  σ.t 0 = rP v ∧ (∃ u, σ.t 3 = .c (.ptr 3 u 0) ∧ σ.H 3 = some (.var u 26 [.v (.s (.int .i64 s)), .v (.sl (encS ns)), .v (.sl (encKs ks))])) ∧ (∃ u, σ.t 4 = .c (.ptr 4 u 0) ∧ σ.H 4 = some (.var u 26 [.v (.s (.int .i64 0)), .nil0, .nil0])) ∧
  (∃ u a b, σ.t 5 = .c (.ptr 5 u 0) ∧ σ.H 5 = some (.var u 26 [.v (.s (.int .i64 s)), .own 2001 a (g i).ns.length, .own 39 b (g i).ks.length]) ∧ σ.H 2001 = some (.arr a true 1 9 (encS (g i).ns)) ∧ σ.H 39 = some (.arr b true 3 26 (encKs (g i).ks))) ∧
  σ.t 7 = .c (.v (.sl (encS names8))) ∧ (∃ b, σ.t 8 = .c (.own 2002 b outs.length) ∧ σ.H 2002 = some (.arr b true 3 26 (encKs outs))) ∧ σ.t 9 = .i (g i).j ∧ σ.t 10 = .i i ∧ σ.H 1000 = some (rdr v bs (g i).p)
theorem UKh_2 : (type_of% (uA c40_37.eq_1)) ∧ (type_of% (uA c40_21.eq_1)) ∧ (type_of% (uR r40_19.eq_1)) ∧ (type_of% (uA c40_20.eq_1)) ∧ (type_of% (uA c40_35.eq_1)) ∧ (type_of% (uA c40_34.eq_1)) ∧ (type_of% (uR r40_22.eq_1)) ∧ (type_of% (uA c40_33.eq_1)) ∧ (type_of% (uA c40_26.eq_1)) ∧ (type_of% (uR r40_23.eq_1)) ∧ (type_of% (uR r40_24.eq_1)) ∧ (type_of% (uR r40_25.eq_1)) ∧ (type_of% (uA c40_32.eq_1)) ∧ (type_of% (uR r40_27.eq_1)) ∧ (type_of% (uA c40_31.eq_1)) ∧ (type_of% (uA c40_30.eq_1)) ∧ (type_of% (uR r40_28.eq_1)) ∧ (type_of% (uR r40_29.eq_1)) ∧ (type_of% (uR r40_36.eq_1)) ∧ (type_of% (uA c40.eq_1)) ∧ (type_of% (uR r40_0.eq_1)) ∧ (type_of% (uR r40_1.eq_1)) ∧ (type_of% (uA c40_12.eq_1)) ∧ (type_of% (uR r40_2.eq_1)) ∧ (type_of% (uA c40_11.eq_1)) ∧ (type_of% (uA c40_10.eq_1)) ∧ (type_of% (uR r40_13.eq_1)) ∧ (type_of% (uA c40_42.eq_1)) ∧ (type_of% (uR r40_14.eq_1)) ∧ (type_of% (uA c40_41.eq_1)) ∧ (type_of% (uA c40_40.eq_1)) ∧ (type_of% (uR r40_15.eq_1)) ∧ (type_of% (uR r40_16.eq_1)) ∧ (type_of% (uR r40_17.eq_1)) ∧ (type_of% (uR r40_18.eq_1)) ∧ (type_of% (uA c40_39.eq_1)) ∧ (type_of% (uA c40_38.eq_1)) ∧ (type_of% (uA c40_47.eq_1)) ∧ (type_of% (uR r40_43.eq_1)) ∧ (type_of% (uA c40_46.eq_1)) ∧ (type_of% (uA c40_45.eq_1)) ∧ (type_of% (uR r40_44.eq_1)) ∧ (type_of% (uR r40_48.eq_1)) ∧ (type_of% s40.eq_1) :=
  ⟨uA c40_37.eq_1, uA c40_21.eq_1, uR r40_19.eq_1, uA c40_20.eq_1, uA c40_35.eq_1, uA c40_34.eq_1, uR r40_22.eq_1, uA c40_33.eq_1, uA c40_26.eq_1, uR r40_23.eq_1, uR r40_24.eq_1, uR r40_25.eq_1, uA c40_32.eq_1, uR r40_27.eq_1, uA c40_31.eq_1, uA c40_30.eq_1, uR r40_28.eq_1, uR r40_29.eq_1, uR r40_36.eq_1, uA c40.eq_1, uR r40_0.eq_1, uR r40_1.eq_1, uA c40_12.eq_1, uR r40_2.eq_1, uA c40_11.eq_1, uA c40_10.eq_1, uR r40_13.eq_1, uA c40_42.eq_1, uR r40_14.eq_1, uA c40_41.eq_1, uA c40_40.eq_1, uR r40_15.eq_1, uR r40_16.eq_1, uR r40_17.eq_1, uR r40_18.eq_1, uA c40_39.eq_1, uA c40_38.eq_1, uA c40_47.eq_1, uR r40_43.eq_1, uA c40_46.eq_1, uA c40_45.eq_1, uR r40_44.eq_1, uR r40_48.eq_1, s40.eq_1⟩
theorem UKh_3 : (type_of% (uA c40_37.eq_1)) ∧ (type_of% (uA c40_21.eq_1)) ∧ (type_of% (uR r40_19.eq_1)) ∧ (type_of% (uA c40_20.eq_1)) ∧ (type_of% (uA c40_35.eq_1)) ∧ (type_of% (uA c40_34.eq_1)) ∧ (type_of% (uR r40_22.eq_1)) ∧ (type_of% (uA c40_33.eq_1)) ∧ (type_of% (uA c40_26.eq_1)) ∧ (type_of% (uR r40_23.eq_1)) ∧ (type_of% (uR r40_24.eq_1)) ∧ (type_of% (uR r40_25.eq_1)) ∧ (type_of% (uR r40_36.eq_1)) ∧ (type_of% (uA c40.eq_1)) ∧ (type_of% (uR r40_0.eq_1)) ∧ (type_of% (uR r40_1.eq_1)) ∧ (type_of% (uA c40_12.eq_1)) ∧ (type_of% (uR r40_2.eq_1)) ∧ (type_of% (uA c40_11.eq_1)) ∧ (type_of% (uA c40_10.eq_1)) ∧ (type_of% (uR r40_13.eq_1)) ∧ (type_of% (uA c40_42.eq_1)) ∧ (type_of% (uR r40_14.eq_1)) ∧ (type_of% (uA c40_41.eq_1)) ∧ (type_of% (uA c40_40.eq_1)) ∧ (type_of% (uR r40_15.eq_1)) ∧ (type_of% (uR r40_16.eq_1)) ∧ (type_of% (uR r40_17.eq_1)) ∧ (type_of% (uR r40_18.eq_1)) ∧ (type_of% (uA c40_39.eq_1)) ∧ (type_of% (uA c40_38.eq_1)) ∧ (type_of% (uA c40_47.eq_1)) ∧ (type_of% (uR r40_43.eq_1)) ∧ (type_of% (uA c40_46.eq_1)) ∧ (type_of% (uA c40_45.eq_1)) ∧ (type_of% (uR r40_44.eq_1)) ∧ (type_of% (uR r40_48.eq_1)) ∧ (type_of% s40.eq_1) :=
  ⟨uA c40_37.eq_1, uA c40_21.eq_1, uR r40_19.eq_1, uA c40_20.eq_1, uA c40_35.eq_1, uA c40_34.eq_1, uR r40_22.eq_1, uA c40_33.eq_1, uA c40_26.eq_1, uR r40_23.eq_1, uR r40_24.eq_1, uR r40_25.eq_1, uR r40_36.eq_1, uA c40.eq_1, uR r40_0.eq_1, uR r40_1.eq_1, uA c40_12.eq_1, uR r40_2.eq_1, uA c40_11.eq_1, uA c40_10.eq_1, uR r40_13.eq_1, uA c40_42.eq_1, uR r40_14.eq_1, uA c40_41.eq_1, uA c40_40.eq_1, uR r40_15.eq_1, uR r40_16.eq_1, uR r40_17.eq_1, uR r40_18.eq_1, uA c40_39.eq_1, uA c40_38.eq_1, uA c40_47.eq_1, uR r40_43.eq_1, uA c40_46.eq_1, uA c40_45.eq_1, uR r40_44.eq_1, uR r40_48.eq_1, s40.eq_1⟩
theorem wider_loop2 (v : Nat) (bs : List UInt8) (s : Int) (ns : List ByteArray) (ks outs : List Kd) (g : Nat → W2) (hn : ns.length ≤ 1000) (_ho : outs.length ≤ 1000) (hg : ∀ i, i ≤ 8 → (g i).j ≤ ns.length ∧ (g i).ns.length = (g i).ks.length ∧ (g i).ks.length ≤ i) (g2 : ∀ i, i < 8 → W2Step v bs ns outs i (g i) (g (i + 1))) {X : Ctx} {Q : Exit → St → Prop} {t : Nat → T} {H : HMap} {c : Nat}
    (h : KW2 v bs s ns ks outs g 0 ⟨t, H, c⟩) (hQ : ∀ t H c, KW2 v bs s ns ks outs g 8 ⟨t, H, c⟩ → Q (.exit 2) ⟨t, H, c⟩) : AW Try.prog X (.loop c40_37) Q ⟨t, H, c⟩ := by
  refine AW.upto 8 (KW2 v bs s ns ks outs g) h fun i t H c hi h => ?_
  obtain ⟨e0, ⟨u3, e3, eH3⟩, ⟨u4, e4, eH4⟩, ⟨u5, a, b, e5, eH5, eHa, eHb⟩, e7, ⟨b8, e8, eH8⟩, e9, e10, eH⟩ := h
  simp only [T.c, T.i, rdr] at e0 e3 eH3 e4 eH4 e5 eH5 eHa eHb e7 e8 eH8 e9 e10 eH
  by_cases hlt : i < 8
  · have k1 : (i : Int) < ((8 : Nat) : Int) := by omega
    have gz : (0 : Int) ≤ i := by omega
    have gz2 : (0 : Int) ≤ ((g i).j : Int) := by omega
    have gw : IntKind.i64.wrap ((i : Int) + 1) = ((i + 1 : Nat) : Int) := wrap64 (x := (i : Int) + 1) ⟨by omega, by omega⟩
    have hgi := hg i hi
    have q1 : ((g i).ns.length + 1) * 16 ≤ 140737488355328 := by omega
    have q2 : (g i).ns.length ≤ 9223372036854775806 := by omega
    have q3 : ((g i).ks.length + 1) * 56 ≤ 140737488355328 := by omega
    have q4 : (g i).ks.length ≤ 9223372036854775806 := by omega
    obtain ⟨x, hx, hcase⟩ := g2 i hlt
    have ex := encS_at hx
    rcases hcase with ⟨k, hj, hj2, hk, he⟩ | ⟨hno, n, n0, n1, hC, hcase⟩
    · have gw2 : IntKind.i64.wrap (((g i).j : Int) + 1) = (((g i).j + 1 : Nat) : Int) := wrap64 (x := ((g i).j : Int) + 1) ⟨by omega, by omega⟩
      have kj : ((g i).j : Int) < ns.length := by omega
      have ej := encS_at hj2
      have ek := encKs_at hk
      have hjo := (List.getElem?_eq_some_iff.1 hk).1
      have kjo : ((g i).j : Int) < outs.length := by omega
      simp only [RUN, core, T.c, T.s, T.b, T.i, sBin, sInt, sUn, isShift, asInt, P1.cells, loadT, ptrC, storeT, putC, fillP, Nat.reduceAdd, reduceIte, Nat.reduceEqDiff, Nat.reduceLT, Nat.reduceLeDiff, reduceCtorEq, eq_self, FIT, lendCs_map, verC_map, FinC, resPs, resP, lendPl, lendCs, lendC, sealC, partsT, finHs, tupT, verT, verP, verC, verB, verAt, Blk.ver, handsAre, forall_const, CHT, disj, Nat.reduceBEq, beq_self_eq_true, APT, srcOf, sealPs, sealCs, sealC, List.mem_singleton, forall_eq, UKh_2, e0, e3, eH3, e5, eH5, eHa, eHb, e7, e8, eH8, e9, e10, encKs_len, encS_len, names8_len, k1, gz, gz2, kj, kjo, ej, ek, ex, Int.toNat_natCast, List.length_map, encK_len, takeK, Nat.le_refl, str_beq, sStr, q1, q2, q3, q4, gw, gw2]
      have k2 : (g (i + 1)).ns.length = (g i).ns.length + 1 := by rw [he]; simp
      have k3 : (g (i + 1)).ks.length = (g i).ks.length + 1 := by rw [he]; simp
      have k4 : encS (g (i + 1)).ns = encS (g i).ns ++ [[.s (.string x)]] := by rw [he]; exact encS_snoc _ _
      have k5 : encKs (g (i + 1)).ks = encKs (g i).ks ++ [encK k] := by rw [he]; exact encKs_snoc _ _
      have k6 : (g (i + 1)).j = (g i).j + 1 := by rw [he]
      have k7 : (g (i + 1)).p = (g i).p := by rw [he]
      unfold KW2
      rw [k2, k3, k4, k5, k6, k7]
      exact ⟨hlt, e0, ⟨u3, e3, eH3⟩, ⟨u4, e4, eH4⟩, ⟨u5, _, _, e5, rfl, rfl, rfl⟩, e7, ⟨b8, e8, eH8⟩, rfl, rfl, eH⟩
    · have rest : ∀ (t' : Nat → T) (c' : Nat), t' 0 = rP v → t' 3 = .c (.ptr 3 u3 0) → t' 4 = .c (.ptr 4 u4 0) → t' 5 = .c (.ptr 5 u5 0) → t' 7 = .c (.v (.sl (encS names8))) → t' 8 = .c (.own 2002 b8 outs.length) → t' 9 = .i (g i).j → t' 10 = .i i →
          wpa Try.prog X c40_32 (inW 3 (thenW Try.prog X (.reg r40_36) (thenA (fun σ => i < 8 ∧ KW2 v bs s ns ks outs g (i + 1) σ) Q))) ⟨t', H, c'⟩ := by
        intro t' c' e0 e3 e4 e5 e7 e8 e9 e10
        simp only [T.c, T.i] at e0 e3 e4 e5 e7 e8 e9 e10
        simp only [RUN, core, T.c, T.s, T.b, T.i, sBin, sInt, sUn, isShift, asInt, P1.cells, loadT, ptrC, storeT, putC, fillP, Nat.reduceAdd, reduceIte, Nat.reduceEqDiff, Nat.reduceLT, Nat.reduceLeDiff, reduceCtorEq, eq_self, FIT, lendCs_map, verC_map, FinC, resPs, resP, lendPl, lendCs, lendC, sealC, partsT, finHs, tupT, verT, verP, verC, verB, verAt, Blk.ver, handsAre, forall_const, UKh_2, e0]
        refine callRc hC rfl rfl (by simp [closedA, closedP, closedC]) rfl eH ⟨rfl, ?_⟩
        rcases hcase with ⟨hn0, he⟩ | ⟨hn0, k, hC2, he⟩
        · have b0 : (n == 0) = false := beq_eq_false_iff_ne.2 hn0
          simp only [RUN, core, T.c, T.s, T.b, T.i, sBin, sInt, sUn, isShift, asInt, P1.cells, loadT, ptrC, storeT, putC, fillP, Nat.reduceAdd, reduceIte, Nat.reduceEqDiff, Nat.reduceLT, Nat.reduceLeDiff, reduceCtorEq, eq_self, FIT, lendCs_map, verC_map, FinC, resPs, resP, lendPl, lendCs, lendC, sealC, partsT, finHs, tupT, verT, verP, verC, verB, verAt, Blk.ver, handsAre, forall_const, UKh_2, b0, e10, gw]
          have k2 : (g (i + 1)).ns.length = (g i).ns.length := by rw [he]
          have k3 : (g (i + 1)).ks.length = (g i).ks.length := by rw [he]
          have k4 : encS (g (i + 1)).ns = encS (g i).ns := by rw [he]
          have k5 : encKs (g (i + 1)).ks = encKs (g i).ks := by rw [he]
          have k6 : (g (i + 1)).j = (g i).j := by rw [he]
          have k7 : (g (i + 1)).p = (g i).p + 1 := by rw [he]
          unfold KW2
          rw [k2, k3, k4, k5, k6, k7]
          exact ⟨hlt, e0, ⟨u3, e3, eH3⟩, ⟨u4, e4, eH4⟩, ⟨u5, a, b, e5, eH5, eHa, eHb⟩, e7, ⟨b8, e8, eH8⟩, e9, rfl, rfl⟩
        · have b0 : (n == 0) = true := beq_iff_eq.2 hn0
          simp only [RUN, core, T.c, T.s, T.b, T.i, sBin, sInt, sUn, isShift, asInt, P1.cells, loadT, ptrC, storeT, putC, fillP, Nat.reduceAdd, reduceIte, Nat.reduceEqDiff, Nat.reduceLT, Nat.reduceLeDiff, reduceCtorEq, eq_self, FIT, lendCs_map, verC_map, FinC, resPs, resP, lendPl, lendCs, lendC, sealC, partsT, finHs, tupT, verT, verP, verC, verB, verAt, Blk.ver, handsAre, forall_const, CHT, disj, Nat.reduceBEq, beq_self_eq_true, APT, srcOf, sealPs, sealCs, sealC, List.mem_singleton, forall_eq, UKh_2, b0, e0, e5, eH5, eHa, e7, e10, gz, ex, Int.toNat_natCast, q1, q2, encS_len]
          refine callRc hC2 rfl rfl (by simp [closedA, closedP, closedC]) (closed_map _) rfl ⟨?_, ?_⟩
          · simp only [RUN, core, T.c, T.s, T.b, T.i, sBin, sInt, sUn, isShift, asInt, P1.cells, loadT, ptrC, storeT, putC, fillP, Nat.reduceAdd, reduceIte, Nat.reduceEqDiff, Nat.reduceLT, Nat.reduceLeDiff, reduceCtorEq, eq_self, FIT, lendCs_map, verC_map, FinC, resPs, resP, lendPl, lendCs, lendC, sealC, partsT, finHs, tupT, verT, verP, verC, verB, verAt, Blk.ver, handsAre, forall_const, CHT, disj, Nat.reduceBEq, beq_self_eq_true]
          simp only [RUN, core, T.c, T.s, T.b, T.i, sBin, sInt, sUn, isShift, asInt, P1.cells, loadT, ptrC, storeT, putC, fillP, Nat.reduceAdd, reduceIte, Nat.reduceEqDiff, Nat.reduceLT, Nat.reduceLeDiff, reduceCtorEq, eq_self, FIT, lendCs_map, verC_map, FinC, resPs, resP, lendPl, lendCs, lendC, sealC, partsT, finHs, tupT, verT, verP, verC, verB, verAt, Blk.ver, handsAre, forall_const, CHT, disj, Nat.reduceBEq, beq_self_eq_true, APT, srcOf, sealPs, sealCs, sealC, List.mem_singleton, forall_eq, UKh_2, e5, eHb, e10, gw, q3, q4, encKs_len, List.length_map, encK_len, List.take]
          have k2 : (g (i + 1)).ns.length = (g i).ns.length + 1 := by rw [he]; simp
          have k3 : (g (i + 1)).ks.length = (g i).ks.length + 1 := by rw [he]; simp
          have k4 : encS (g (i + 1)).ns = encS (g i).ns ++ [[.s (.string x)]] := by rw [he]; exact encS_snoc _ _
          have k5 : encKs (g (i + 1)).ks = encKs (g i).ks ++ [[.s (.int .i64 6), .sl [], .sl [encK k]]] := by rw [he]; simp only [encKs_snoc, encK_mk]; rfl
          have k6 : (g (i + 1)).j = (g i).j := by rw [he]
          unfold KW2
          rw [k2, k3, k4, k5, k6]
          exact ⟨hlt, e0, ⟨u3, e3, eH3⟩, ⟨u4, e4, eH4⟩, ⟨u5, _, _, e5, rfl, rfl, rfl⟩, e7, ⟨b8, e8, eH8⟩, e9, rfl, rfl⟩
      by_cases hj : (g i).j < ns.length
      · obtain ⟨y, hy⟩ : ∃ y, ns[(g i).j]? = some y := ⟨_, List.getElem?_eq_getElem hj⟩
        have ey := encS_at hy
        have kj : ((g i).j : Int) < ns.length := by omega
        have hxy : ¬ y = x := fun e => hno ⟨hj, by rw [hy, e]⟩
        simp only [RUN, core, T.c, T.s, T.b, T.i, sBin, sInt, sUn, isShift, asInt, P1.cells, loadT, ptrC, storeT, putC, fillP, Nat.reduceAdd, reduceIte, Nat.reduceEqDiff, Nat.reduceLT, Nat.reduceLeDiff, reduceCtorEq, eq_self, FIT, lendCs_map, verC_map, FinC, resPs, resP, lendPl, lendCs, lendC, sealC, partsT, finHs, tupT, verT, verP, verC, verB, verAt, Blk.ver, handsAre, forall_const, CHT, disj, Nat.reduceBEq, beq_self_eq_true, APT, srcOf, sealPs, sealCs, sealC, List.mem_singleton, forall_eq, UKh_3, e0, e3, eH3, e7, e9, e10, encS_len, names8_len, k1, gz, gz2, kj, ey, ex, Int.toNat_natCast, str_beq, sStr, hxy]
        exact rest _ _ e0 e3 e4 e5 e7 e8 e9 e10
      · have kj : ¬ ((g i).j : Int) < ns.length := by omega
        simp only [RUN, core, T.c, T.s, T.b, T.i, sBin, sInt, sUn, isShift, asInt, P1.cells, loadT, ptrC, storeT, putC, fillP, Nat.reduceAdd, reduceIte, Nat.reduceEqDiff, Nat.reduceLT, Nat.reduceLeDiff, reduceCtorEq, eq_self, FIT, lendCs_map, verC_map, FinC, resPs, resP, lendPl, lendCs, lendC, sealC, partsT, finHs, tupT, verT, verP, verC, verB, verAt, Blk.ver, handsAre, forall_const, CHT, disj, Nat.reduceBEq, beq_self_eq_true, APT, srcOf, sealPs, sealCs, sealC, List.mem_singleton, forall_eq, UKh_3, e0, e3, eH3, e7, e9, e10, encS_len, names8_len, k1, kj]
        exact rest _ _ e0 e3 e4 e5 e7 e8 e9 e10
  · have k1 : ¬ (i : Int) < ((8 : Nat) : Int) := by omega
    have : i = 8 := by omega
    subst this
    simp only [RUN, core, T.c, T.s, T.b, T.i, sBin, sInt, sUn, isShift, asInt, P1.cells, loadT, ptrC, storeT, putC, fillP, Nat.reduceAdd, reduceIte, Nat.reduceEqDiff, Nat.reduceLT, Nat.reduceLeDiff, reduceCtorEq, eq_self, FIT, lendCs_map, verC_map, FinC, resPs, resP, lendPl, lendCs, lendC, sealC, partsT, finHs, tupT, verT, verP, verC, verB, verAt, Blk.ver, handsAre, forall_const, UKh_2, e7, e10, encS_len, names8_len, k1]
    exact hQ _ _ _ ⟨e0, ⟨u3, e3, eH3⟩, ⟨u4, e4, eH4⟩, ⟨u5, a, b, e5, eH5, eHa, eHb⟩, e7, ⟨b8, e8, eH8⟩, e9, e10, eH⟩
end Go.V
set_option linter.unusedSimpArgs false
namespace Go.V
open Go.Proofs
theorem encS_nil : encS [] = [] := rfl
theorem UKi_1 : (type_of% (uA c40.eq_1)) ∧ (type_of% (uR r40_0.eq_1)) ∧ (type_of% (uR r40_1.eq_1)) ∧ (type_of% (uA c40_12.eq_1)) ∧ (type_of% (uR r40_2.eq_1)) ∧ (type_of% (uA c40_11.eq_1)) ∧ (type_of% (uA c40_10.eq_1)) ∧ (type_of% (uR r40_13.eq_1)) ∧ (type_of% (uR r40_48.eq_1)) ∧ (type_of% s40.eq_1) :=
  ⟨uA c40.eq_1, uR r40_0.eq_1, uR r40_1.eq_1, uA c40_12.eq_1, uR r40_2.eq_1, uA c40_11.eq_1, uA c40_10.eq_1, uR r40_13.eq_1, uR r40_48.eq_1, s40.eq_1⟩
theorem UKi_2 : (type_of% (uA c40.eq_1)) ∧ (type_of% (uR r40_0.eq_1)) ∧ (type_of% (uR r40_1.eq_1)) ∧ (type_of% (uA c40_12.eq_1)) ∧ (type_of% (uR r40_2.eq_1)) ∧ (type_of% (uA c40_11.eq_1)) ∧ (type_of% (uA c40_10.eq_1)) ∧ (type_of% (uR r40_13.eq_1)) ∧ (type_of% (uA c40_42.eq_1)) ∧ (type_of% (uR r40_14.eq_1)) ∧ (type_of% (uA c40_41.eq_1)) ∧ (type_of% (uA c40_40.eq_1)) ∧ (type_of% (uR r40_15.eq_1)) ∧ (type_of% (uR r40_16.eq_1)) ∧ (type_of% (uR r40_17.eq_1)) ∧ (type_of% (uR r40_18.eq_1)) ∧ (type_of% (uA c40_39.eq_1)) ∧ (type_of% (uA c40_38.eq_1)) ∧ (type_of% (uR r40_48.eq_1)) ∧ (type_of% s40.eq_1) :=
  ⟨uA c40.eq_1, uR r40_0.eq_1, uR r40_1.eq_1, uA c40_12.eq_1, uR r40_2.eq_1, uA c40_11.eq_1, uA c40_10.eq_1, uR r40_13.eq_1, uA c40_42.eq_1, uR r40_14.eq_1, uA c40_41.eq_1, uA c40_40.eq_1, uR r40_15.eq_1, uR r40_16.eq_1, uR r40_17.eq_1, uR r40_18.eq_1, uA c40_39.eq_1, uA c40_38.eq_1, uR r40_48.eq_1, s40.eq_1⟩
theorem UKi_3 : (type_of% (uA c40.eq_1)) ∧ (type_of% (uR r40_0.eq_1)) ∧ (type_of% (uR r40_1.eq_1)) ∧ (type_of% (uA c40_12.eq_1)) ∧ (type_of% (uR r40_2.eq_1)) ∧ (type_of% (uA c40_11.eq_1)) ∧ (type_of% (uA c40_10.eq_1)) ∧ (type_of% (uR r40_13.eq_1)) ∧ (type_of% (uA c40_42.eq_1)) ∧ (type_of% (uR r40_14.eq_1)) ∧ (type_of% (uA c40_41.eq_1)) ∧ (type_of% (uA c40_40.eq_1)) ∧ (type_of% (uR r40_15.eq_1)) ∧ (type_of% (uR r40_16.eq_1)) ∧ (type_of% (uR r40_17.eq_1)) ∧ (type_of% (uR r40_18.eq_1)) ∧ (type_of% (uA c40_39.eq_1)) ∧ (type_of% (uA c40_38.eq_1)) ∧ (type_of% (uA c40_47.eq_1)) ∧ (type_of% (uR r40_43.eq_1)) ∧ (type_of% (uA c40_46.eq_1)) ∧ (type_of% (uA c40_45.eq_1)) ∧ (type_of% (uR r40_44.eq_1)) ∧ (type_of% (uR r40_48.eq_1)) ∧ (type_of% s40.eq_1) :=
  ⟨uA c40.eq_1, uR r40_0.eq_1, uR r40_1.eq_1, uA c40_12.eq_1, uR r40_2.eq_1, uA c40_11.eq_1, uA c40_10.eq_1, uR r40_13.eq_1, uA c40_42.eq_1, uR r40_14.eq_1, uA c40_41.eq_1, uA c40_40.eq_1, uR r40_15.eq_1, uR r40_16.eq_1, uR r40_17.eq_1, uR r40_18.eq_1, uA c40_39.eq_1, uA c40_38.eq_1, uA c40_47.eq_1, uR r40_43.eq_1, uA c40_46.eq_1, uA c40_45.eq_1, uR r40_44.eq_1, uR r40_48.eq_1, s40.eq_1⟩
set_option maxHeartbeats 1000000 in
theorem wider_ok (v : Nat) (bs : List UInt8) (hb : bs.length ≤ 2000) : ∀ (k : Kd) (d : Nat), KOk d k → KB 1000 k → ∀ p : Int, 0 ≤ p ∧ p + (parts k : Int) * 100000 ≤ 900000000000 → ∃ (p' : Int) (k' : Kd), p ≤ p' ∧ p' ≤ p + (parts k : Int) * 100000 ∧ (KB 1000 k' ∧ Dp (26 - 2 * d) k') ∧ ACallsF Try.prog 40 [rP v, tK k] [rH v bs p p'] (tK k') := by
  intro k
  induction k using Kd.ind with
  | _ s ns ks ih =>
    intro d hO hB p hp
    obtain ⟨f, g, f0, g0, f1, f2, g12⟩ := wider_traces v bs hb s ns ks d hO hB p hp ih
    obtain ⟨hd6, hS, hK⟩ := hO.inv
    obtain ⟨b1, b2, b3, b4⟩ := hB.inv
    have hF := f1 ks.length (Nat.le_refl _)
    rw [W1Inv, List.take_length] at hF
    simp only [parts] at hp ⊢
    have hD : ∀ (s' : Int) (ns' : List ByteArray) (ks' : List Kd), (∀ k ∈ ks', Dp (24 - 2 * d) k) → Dp (25 - 2 * d) (.mk s' ns' ks') := fun s' ns' ks' h => by
      have e : 25 - 2 * d = (24 - 2 * d) + 1 := by omega
      rw [e]; exact .mk _ _ _ _ h
    -- what the two loops leave
    obtain ⟨q, out, hq1, hq2, hKB, hsel⟩ : ∃ (q : Int) (out : Kd), p ≤ q ∧ q ≤ p + (partsL ks : Int) * 100000 + 80016 ∧ (KB 1000 out ∧ Dp (25 - 2 * d) out) ∧ ((s = 5 ∧ q = (g 8).p ∧ out = .mk 5 (g 8).ns (g 8).ks) ∨ (s ≠ 5 ∧ q = (f ks.length).p ∧ out = .mk s [] (f ks.length).ks)) := by
      by_cases h5 : s = 5
      · obtain ⟨g1, _⟩ := g12 h5
        obtain ⟨e1, e2, e3, e4, e5, e6, e7⟩ := g1 8 (Nat.le_refl _)
        refine ⟨(g 8).p, .mk 5 (g 8).ns (g 8).ks, by omega, by omega, ⟨.mk _ _ _ (by omega) (by omega) (fun x hx => names8_size x (e6 x hx)) fun k hk => (e7 k hk).1, hD _ _ _ fun k hk => (e7 k hk).2⟩, .inl ⟨h5, rfl, rfl⟩⟩
      · exact ⟨(f ks.length).p, .mk s [] (f ks.length).ks, by omega, by omega, ⟨.mk _ _ _ (by simp) (by omega) (by simp) fun k hk => (hF.2.2.2 k hk).1, hD _ _ _ fun k hk => (hF.2.2.2 k hk).2⟩, .inr ⟨h5, rfl, rfl⟩⟩
    obtain ⟨n, n0, n1, hC⟩ := pick_ok v bs hb q 6 (by omega) (by omega)
    obtain ⟨res, hres, hKB2⟩ : ∃ res, ((n = 0 ∧ res = .mk 6 [] [out]) ∨ (n ≠ 0 ∧ res = out)) ∧ KB 1000 res ∧ Dp (26 - 2 * d) res := by
      by_cases hn : n = 0
      · exact ⟨_, .inl ⟨hn, rfl⟩, .mk _ _ _ (by simp) (by simp) (by simp) (by simpa using hKB.1), (hKB.2.one 6).le (by omega)⟩
      · exact ⟨_, .inr ⟨hn, rfl⟩, hKB.1, hKB.2.le (by omega)⟩
    refine ⟨q + 1, res, by omega, by omega, hKB2, ACallsF.intro ok40 follows fun X c0 => ?_⟩
    simp only [RUN, core, T.c, T.s, T.b, T.i, sBin, sInt, sUn, isShift, asInt, P1.cells, loadT, ptrC, storeT, putC, fillP, Nat.reduceAdd, reduceIte, Nat.reduceEqDiff, Nat.reduceLT, Nat.reduceLeDiff, reduceCtorEq, eq_self, FIT, lendCs_map, verC_map, FinC, resPs, resP, lendPl, lendCs, lendC, sealC, partsT, finHs, tupT, verT, verP, verC, verB, verAt, Blk.ver, handsAre, forall_const, rH, rdr, UKi_1, encK_mk]
    refine AW.reify 5 2 2002 3 26 rfl rfl rfl (by decide) ?_
    refine wider_loop1 v bs s ns ks f b2 (fun i hi => (f1 i hi).2.2.1) f2 ?_ fun t H c h => ?_
    · unfold KW1
      rw [f0]
      exact ⟨rfl, ⟨_, rfl, rfl⟩, ⟨_, rfl, rfl⟩, ⟨_, _, rfl, rfl, rfl⟩, rfl, rfl, rfl⟩
    obtain ⟨e0, ⟨u3, e3, eH3⟩, ⟨u4, e4, eH4⟩, ⟨u5, b, e5, eH5, eHb⟩, e6, eH, eN⟩ := h
    simp only [RUN, core, T.c, T.s, T.b, T.i, sBin, sInt, sUn, isShift, asInt, P1.cells, loadT, ptrC, storeT, putC, fillP, Nat.reduceAdd, reduceIte, Nat.reduceEqDiff, Nat.reduceLT, Nat.reduceLeDiff, reduceCtorEq, eq_self, FIT, lendCs_map, verC_map, FinC, resPs, resP, lendPl, lendCs, lendC, sealC, partsT, finHs, tupT, verT, verP, verC, verB, verAt, Blk.ver, handsAre, forall_const, rH, rdr, UKi_1]
    refine callC names_ok rfl rfl rfl rfl ?_
    simp only [RUN, core, T.c, T.s, T.b, T.i, sBin, sInt, sUn, isShift, asInt, P1.cells, loadT, ptrC, storeT, putC, fillP, Nat.reduceAdd, reduceIte, Nat.reduceEqDiff, Nat.reduceLT, Nat.reduceLeDiff, reduceCtorEq, eq_self, FIT, lendCs_map, verC_map, FinC, resPs, resP, lendPl, lendCs, lendC, sealC, partsT, finHs, tupT, verT, verP, verC, verB, verAt, Blk.ver, handsAre, forall_const, rH, rdr, UKi_1]
    rcases hsel with ⟨rfl, rfl, rfl⟩ | ⟨h5, rfl, rfl⟩
    · obtain ⟨g1, g2⟩ := g12 rfl
      have b5 : ((5 : Int) == 5) = true := rfl
      simp only [T.c, T.i, rdr] at e0 e3 eH3 e4 eH4 e5 eH5 eHb e6 eH eN
      simp only [RUN, core, T.c, T.s, T.b, T.i, sBin, sInt, sUn, isShift, asInt, P1.cells, loadT, ptrC, storeT, putC, fillP, Nat.reduceAdd, reduceIte, Nat.reduceEqDiff, Nat.reduceLT, Nat.reduceLeDiff, reduceCtorEq, eq_self, FIT, lendCs_map, verC_map, FinC, resPs, resP, lendPl, lendCs, lendC, sealC, partsT, finHs, tupT, verT, verP, verC, verB, verAt, Blk.ver, handsAre, forall_const, CHT, disj, Nat.reduceBEq, beq_self_eq_true, APT, srcOf, sealPs, sealCs, sealC, List.mem_singleton, forall_eq, rH, rdr, UKi_2, e3, eH3, e5, eH5, b5]
      refine AW.reify 5 1 2001 1 9 rfl rfl eN (by decide) ?_
      refine wider_loop2 v bs 5 ns ks (f ks.length).ks g (by omega) (by omega) (fun i hi => ⟨(g1 i hi).2.2.1, (g1 i hi).2.2.2.1, (g1 i hi).2.2.2.2.1⟩) g2 ?_ fun t H c h => ?_
      · unfold KW2
        rw [g0]
        exact ⟨e0, ⟨u3, e3, eH3⟩, ⟨u4, e4, eH4⟩, ⟨u5, _, _, e5, rfl, rfl, rfl⟩, rfl, ⟨b, rfl, eHb⟩, rfl, rfl, eH⟩
      clear e0 e3 eH3 e4 eH4 e5 eH5 eHb e6 eH eN
      obtain ⟨e0, ⟨u3, e3, eH3⟩, ⟨u4, e4, eH4⟩, ⟨u5, a, b, e5, eH5, eHa, eHb⟩, e7, ⟨b8, e8, eH8⟩, e9, e10, eH⟩ := h
      simp only [T.c, T.i, rdr] at e0 e3 eH3 e4 eH4 e5 eH5 eHa eHb e7 e8 eH8 e9 e10 eH
      simp only [RUN, core, T.c, T.s, T.b, T.i, sBin, sInt, sUn, isShift, asInt, P1.cells, loadT, ptrC, storeT, putC, fillP, Nat.reduceAdd, reduceIte, Nat.reduceEqDiff, Nat.reduceLT, Nat.reduceLeDiff, reduceCtorEq, eq_self, FIT, lendCs_map, verC_map, FinC, resPs, resP, lendPl, lendCs, lendC, sealC, partsT, finHs, tupT, verT, verP, verC, verB, verAt, Blk.ver, handsAre, forall_const, UKi_3, e0]
      refine callRc hC rfl rfl (by simp [closedA, closedP, closedC]) rfl eH ⟨rfl, ?_⟩
      rcases hres with ⟨hn, rfl⟩ | ⟨hn, rfl⟩
      · have b0 : (n == 0) = true := beq_iff_eq.2 hn
        simp only [RUN, core, T.c, T.s, T.b, T.i, sBin, sInt, sUn, isShift, asInt, P1.cells, loadT, ptrC, storeT, putC, fillP, Nat.reduceAdd, reduceIte, Nat.reduceEqDiff, Nat.reduceLT, Nat.reduceLeDiff, reduceCtorEq, eq_self, FIT, lendCs_map, verC_map, FinC, resPs, resP, lendPl, lendCs, lendC, sealC, partsT, finHs, tupT, verT, verP, verC, verB, verAt, Blk.ver, handsAre, forall_const, APT, srcOf, sealPs, sealCs, sealC, List.mem_singleton, forall_eq, UKi_3, b0, e4, eH4, e5, eH5, eHa, eHb, encK_mk, encKs, encKs_len, encS_len, encS_nil, List.take, rdr]
      · have b0 : (n == 0) = false := beq_eq_false_iff_ne.2 hn
        simp only [RUN, core, T.c, T.s, T.b, T.i, sBin, sInt, sUn, isShift, asInt, P1.cells, loadT, ptrC, storeT, putC, fillP, Nat.reduceAdd, reduceIte, Nat.reduceEqDiff, Nat.reduceLT, Nat.reduceLeDiff, reduceCtorEq, eq_self, FIT, lendCs_map, verC_map, FinC, resPs, resP, lendPl, lendCs, lendC, sealC, partsT, finHs, tupT, verT, verP, verC, verB, verAt, Blk.ver, handsAre, forall_const, APT, srcOf, sealPs, sealCs, sealC, List.mem_singleton, forall_eq, UKi_3, b0, e4, eH4, e5, eH5, eHa, eHb, encK_mk, encKs, encKs_len, encS_len, encS_nil, List.take, rdr]
    · have b5 : (s == 5) = false := beq_eq_false_iff_ne.2 h5
      simp only [T.c, T.i, rdr] at e0 e3 eH3 e4 eH4 e5 eH5 eHb e6 eH eN
      simp only [RUN, core, T.c, T.s, T.b, T.i, sBin, sInt, sUn, isShift, asInt, P1.cells, loadT, ptrC, storeT, putC, fillP, Nat.reduceAdd, reduceIte, Nat.reduceEqDiff, Nat.reduceLT, Nat.reduceLeDiff, reduceCtorEq, eq_self, FIT, lendCs_map, verC_map, FinC, resPs, resP, lendPl, lendCs, lendC, sealC, partsT, finHs, tupT, verT, verP, verC, verB, verAt, Blk.ver, handsAre, forall_const, rH, rdr, UKi_3, e0, e3, eH3, b5]
      refine callRc hC rfl rfl (by simp [closedA, closedP, closedC]) rfl eH ⟨rfl, ?_⟩
      rcases hres with ⟨hn, rfl⟩ | ⟨hn, rfl⟩
      · have b0 : (n == 0) = true := beq_iff_eq.2 hn
        simp only [RUN, core, T.c, T.s, T.b, T.i, sBin, sInt, sUn, isShift, asInt, P1.cells, loadT, ptrC, storeT, putC, fillP, Nat.reduceAdd, reduceIte, Nat.reduceEqDiff, Nat.reduceLT, Nat.reduceLeDiff, reduceCtorEq, eq_self, FIT, lendCs_map, verC_map, FinC, resPs, resP, lendPl, lendCs, lendC, sealC, partsT, finHs, tupT, verT, verP, verC, verB, verAt, Blk.ver, handsAre, forall_const, APT, srcOf, sealPs, sealCs, sealC, List.mem_singleton, forall_eq, UKi_3, b0, e4, eH4, e5, eH5, eHb, encK_mk, encKs, encKs_len, encS_len, encS_nil, List.take, rdr]
      · have b0 : (n == 0) = false := beq_eq_false_iff_ne.2 hn
        simp only [RUN, core, T.c, T.s, T.b, T.i, sBin, sInt, sUn, isShift, asInt, P1.cells, loadT, ptrC, storeT, putC, fillP, Nat.reduceAdd, reduceIte, Nat.reduceEqDiff, Nat.reduceLT, Nat.reduceLeDiff, reduceCtorEq, eq_self, FIT, lendCs_map, verC_map, FinC, resPs, resP, lendPl, lendCs, lendC, sealC, partsT, finHs, tupT, verT, verP, verC, verB, verAt, Blk.ver, handsAre, forall_const, APT, srcOf, sealPs, sealCs, sealC, List.mem_singleton, forall_eq, UKi_3, b0, e4, eH4, e5, eH5, eHb, encK_mk, encKs, encKs_len, encS_len, encS_nil, List.take, rdr]
end Go.V
set_option linter.unusedSimpArgs false
namespace Go.V
open Go.Proofs
def badK (f : Nat → Int × Option Kd) (i : Nat) : Prop := ∀ j k, j < i → (f (j + 1)).2 = some k → okK k = false
/-- The first that is ok, or another one. -/
theorem retry (N : Nat) (f : Nat → Int × Option Kd) (G : Kd → Prop) (hf : ∀ i, i < N → ∃ k, (f (i + 1)).2 = some k ∧ G k) (d0 : Kd) (h0 : G d0) (h1 : okK d0 = true) :
    ∃ (m : Nat) (K : Kd), m ≤ N ∧ G K ∧ okK K = true ∧ (∀ i k, i < N → badK f i → (f (i + 1)).2 = some k → okK k = true → m = i + 1 ∧ K = k) ∧ (badK f N → m = N ∧ K = d0) := by
  by_cases h : ∃ j, j < N ∧ ∃ k, (f (j + 1)).2 = some k ∧ okK k = true
  · obtain ⟨j, ⟨hj, k, hk, hO⟩, hmin⟩ := least h
    obtain ⟨k2, hk2, hG⟩ := hf j hj
    rw [hk] at hk2; cases hk2
    refine ⟨j + 1, k, hj, hG, hO, fun i k3 hi hb3 hk3 hO3 => ?_, fun hb4 => ?_⟩
    · have hij : i = j := by
        rcases Nat.lt_trichotomy i j with h | h | h
        · have := hmin i ⟨hi, k3, hk3, hO3⟩; omega
        · exact h
        · have := hb3 j k h hk; rw [hO] at this; cases this
      subst hij
      rw [hk] at hk3; cases hk3
      exact ⟨rfl, rfl⟩
    · have := hb4 j k hj hk; rw [hO] at this; cases this
  · exact ⟨N, d0, Nat.le_refl _, h0, h1, fun i k3 hi _ hk3 hO3 => absurd ⟨i, hi, k3, hk3, hO3⟩ h, fun _ => ⟨rfl, rfl⟩⟩
/- loop.example/teagle/spec.l5Pair -/
def r34_0 : List AOper := [ao 0 2 (.alloc 26 [(.v (.s (.int .i64 0))), .nil0, .nil0]),
  ao 1 3 (.alloc 26 [(.v (.s (.int .i64 0))), .nil0, .nil0])]
def r34_1 : List AOper := [ao 0 7 (.mv (.t 0)),
  ao 1 8 (.mv (.t 0)),
  ao 2 9 (.call (.k (.c (.fn 36 []))) [(.t 8), (.k (.i 3))]),
  ao 3 10 (.bin .gtr (.t 9) (.k (.i 0))),
  ao 4 11 (.call (.k (.c (.fn 69 []))) [(.t 7), (.t 10)]),
  ao 5 4 (.alloc 26 [(.v (.s (.int .i64 0))), .nil0, .nil0]),
  an 6 (.st 3 (.t 4) (.t 11))]
def r34_2 : List AOper := [ao 0 5 (.mv (.k (.i 0)))]
def r34_3 : List AOper := [ao 0 12 (.mv (.t 5)),
  ao 1 13 (.bin .lss (.t 12) (.k (.i 3)))]
def c34_4 : ACode := .cond (.t 13) .skip (.exit 0)
def c34_5 : ACode := .seq (.reg r34_3) c34_4
def r34_6 : List AOper := [ao 0 16 (.mv (.t 0)),
  ao 1 17 (.ld 3 true (.t 4)),
  ao 2 18 (.call (.k (.c (.fn 40 []))) [(.t 16), (.t 17)]),
  ao 3 6 (.alloc 26 [(.v (.s (.int .i64 0))), .nil0, .nil0]),
  an 4 (.st 3 (.t 6) (.t 18))]
def r34_7 : List AOper := [ao 0 19 (.ld 3 true (.t 6)),
  ao 1 20 (.call (.k (.c (.fn 25 []))) [(.t 19)])]
def r34_8 : List AOper := [ao 0 21 (.ld 3 true (.t 4)),
  au 1 22 [0] (.ld 3 true (.t 6)),
  ax 2 none none [1] (.st 3 (.t 2) (.t 21)),
  an 3 (.st 3 (.t 3) (.t 22))]
def c34_9 : ACode := .seq (.reg r34_8) .ret
def c34_10 : ACode := .cond (.t 20) c34_9 .skip
def c34_11 : ACode := .seq (.reg r34_6) (.seq (.reg r34_7) c34_10)
def c34_12 : ACode := .block 1 c34_11
def r34_13 : List AOper := [ao 0 14 (.mv (.t 5)),
  ao 1 15 (.bin .add (.t 14) (.k (.i 1))),
  ao 2 5 (.mv (.t 15))]
def c34_14 : ACode := .seq c34_5 (.seq c34_12 (.reg r34_13))
def c34_15 : ACode := .loop c34_14
def c34_16 : ACode := .block 0 c34_15
def c34_17 : ACode := .seq (.reg r34_2) c34_16
def r34_18 : List AOper := [ao 0 23 (.ld 3 true (.t 4)),
  au 1 24 [0] (.ld 3 true (.t 4)),
  ax 2 none none [1] (.st 3 (.t 2) (.t 23)),
  an 3 (.st 3 (.t 3) (.t 24))]
def c34 : ACode := .seq (.reg r34_0) (.seq (.reg r34_1) (.seq c34_17 (.seq (.reg r34_18) .ret)))
def s34 : List ARes := [.cell 2 3 true, .cell 3 3 true]
theorem ok34 : okF Try.prog 34 25 c34 s34 := ⟨Try.f34, Try.func34, Try.ntmps34, by kernel_rfl, by kernel_rfl, by kernel_rfl⟩
abbrev tKK (a b : Kd) : T := .tup [.agg ((encK a).map .v), .agg ((encK b).map .v)]
def PairStep (v : Nat) (bs : List UInt8) (a : Kd) (s s' : Int × Option Kd) : Prop :=
  ∃ (p' : Int) (k : Kd), ACallsF Try.prog 40 [rP v, tK a] [rH v bs s.1 p'] (tK k) ∧ KB 1000 k ∧ s' = (p', some k)
def inv34 (v : Nat) (bs : List UInt8) (a : Kd) (f : Nat → Int × Option Kd) (i : Nat) (σ : St) : Prop :=
  badK f i ∧ σ.t 0 = rP v ∧ σ.t 5 = .i i ∧ (∃ u, σ.t 2 = .c (.ptr 2 u 0) ∧ σ.H 2 = some (.var u 26 [.v (.s (.int .i64 0)), .nil0, .nil0])) ∧ (∃ u, σ.t 3 = .c (.ptr 3 u 0) ∧ σ.H 3 = some (.var u 26 [.v (.s (.int .i64 0)), .nil0, .nil0])) ∧
  (∃ u, σ.t 4 = .c (.ptr 4 u 0) ∧ σ.H 4 = some (.var u 26 ((encK a).map .v))) ∧ σ.H 1000 = some (rdr v bs (f i).1)
theorem UKj_1 : (type_of% (uA c34.eq_1)) ∧ (type_of% (uR r34_0.eq_1)) ∧ (type_of% (uR r34_1.eq_1)) ∧ (type_of% (uA c34_17.eq_1)) ∧ (type_of% (uR r34_2.eq_1)) ∧ (type_of% (uA c34_16.eq_1)) ∧ (type_of% (uA c34_15.eq_1)) ∧ (type_of% (uR r34_18.eq_1)) ∧ (type_of% s34.eq_1) :=
  ⟨uA c34.eq_1, uR r34_0.eq_1, uR r34_1.eq_1, uA c34_17.eq_1, uR r34_2.eq_1, uA c34_16.eq_1, uA c34_15.eq_1, uR r34_18.eq_1, s34.eq_1⟩
theorem UKj_2 : (type_of% (uA c34_14.eq_1)) ∧ (type_of% (uA c34_5.eq_1)) ∧ (type_of% (uR r34_3.eq_1)) ∧ (type_of% (uA c34_4.eq_1)) ∧ (type_of% (uA c34_12.eq_1)) ∧ (type_of% (uA c34_11.eq_1)) ∧ (type_of% (uR r34_6.eq_1)) ∧ (type_of% (uR r34_7.eq_1)) ∧ (type_of% (uA c34_10.eq_1)) ∧ (type_of% (uA c34_9.eq_1)) ∧ (type_of% (uR r34_8.eq_1)) ∧ (type_of% (uR r34_13.eq_1)) ∧ (type_of% (uA c34.eq_1)) ∧ (type_of% (uR r34_0.eq_1)) ∧ (type_of% (uR r34_1.eq_1)) ∧ (type_of% (uA c34_17.eq_1)) ∧ (type_of% (uR r34_2.eq_1)) ∧ (type_of% (uA c34_16.eq_1)) ∧ (type_of% (uA c34_15.eq_1)) ∧ (type_of% (uR r34_18.eq_1)) ∧ (type_of% s34.eq_1) :=
  ⟨uA c34_14.eq_1, uA c34_5.eq_1, uR r34_3.eq_1, uA c34_4.eq_1, uA c34_12.eq_1, uA c34_11.eq_1, uR r34_6.eq_1, uR r34_7.eq_1, uA c34_10.eq_1, uA c34_9.eq_1, uR r34_8.eq_1, uR r34_13.eq_1, uA c34.eq_1, uR r34_0.eq_1, uR r34_1.eq_1, uA c34_17.eq_1, uR r34_2.eq_1, uA c34_16.eq_1, uA c34_15.eq_1, uR r34_18.eq_1, s34.eq_1⟩
theorem pair_ok (v : Nat) (bs : List UInt8) (hb : bs.length ≤ 2000) (p : Int) (hp : 0 ≤ p ∧ p ≤ 800000000000) :
    ∃ (p' : Int) (a b : Kd), p ≤ p' ∧ p' ≤ p + 20000000 ∧ KB 1000 a ∧ okK a = true ∧ KB 1000 b ∧ okK b = true ∧ ACallsF Try.prog 34 [rP v] [rH v bs p p'] (tKK a b) := by
  obtain ⟨n, n0, n1, hC⟩ := pick_ok v bs hb p 3 (by omega) (by omega)
  obtain ⟨p1, a, q1, q2, hBa, hOa, hC1⟩ := some_ok v bs hb (p + 1) (decide (n > 0)) (by omega)
  have hOk := okK_true.1 hOa
  obtain ⟨f, f0, f1, f2⟩ := trace (fun i (s : Int × Option Kd) => p1 ≤ s.1 ∧ s.1 ≤ p1 + i * 4000000) (fun _ => PairStep v bs a) (p1, none) ⟨Int.le_refl _, by simp⟩ 3 (by
    rintro i hi ⟨q, o⟩ ⟨g1, g2⟩
    simp only at g1 g2
    obtain ⟨p', k, i1, i2, i3, i4⟩ := wider_ok v bs hb a 1 hOk.1 hBa q ⟨by omega, by omega⟩
    exact ⟨(p', some k), ⟨p', k, i4, i3.1, rfl⟩, by simp only; omega, by simp only; omega⟩)
  obtain ⟨m, K, hm, hBK, hOK, hres, hend⟩ := retry 3 f (KB 1000) (fun i hi => by obtain ⟨p', k, _, h2, h3⟩ := f2 i hi; exact ⟨k, by rw [h3], h2⟩) a hBa hOa
  have hI := f1 m hm
  refine ⟨(f m).1, a, K, by omega, by omega, hBa, hOa, hBK, hOK, ACallsF.intro ok34 follows fun X c0 => ?_⟩
  simp only [RUN, core, T.c, T.s, T.b, T.i, sBin, sInt, sUn, isShift, asInt, P1.cells, loadT, ptrC, storeT, putC, fillP, Nat.reduceAdd, reduceIte, Nat.reduceEqDiff, Nat.reduceLT, Nat.reduceLeDiff, reduceCtorEq, eq_self, FIT, lendCs_map, verC_map, FinC, resPs, resP, lendPl, lendCs, lendC, sealC, partsT, finHs, tupT, verT, verP, verC, verB, verAt, Blk.ver, handsAre, forall_const, rH, rdr, UKj_1]
  refine callR hC rfl rfl rfl rfl rfl ⟨rfl, ?_⟩
  simp only [RUN, core, T.c, T.s, T.b, T.i, sBin, sInt, sUn, isShift, asInt, P1.cells, loadT, ptrC, storeT, putC, fillP, Nat.reduceAdd, reduceIte, Nat.reduceEqDiff, Nat.reduceLT, Nat.reduceLeDiff, reduceCtorEq, eq_self, FIT, lendCs_map, verC_map, FinC, resPs, resP, lendPl, lendCs, lendC, sealC, partsT, finHs, tupT, verT, verP, verC, verB, verAt, Blk.ver, handsAre, forall_const, UKj_1]
  refine callRc hC1 rfl rfl rfl (closed_map _) rfl ⟨rfl, ?_⟩
  simp only [RUN, core, T.c, T.s, T.b, T.i, sBin, sInt, sUn, isShift, asInt, P1.cells, loadT, ptrC, storeT, putC, fillP, Nat.reduceAdd, reduceIte, Nat.reduceEqDiff, Nat.reduceLT, Nat.reduceLeDiff, reduceCtorEq, eq_self, FIT, lendCs_map, verC_map, FinC, resPs, resP, lendPl, lendCs, lendC, sealC, partsT, finHs, tupT, verT, verP, verC, verB, verAt, Blk.ver, handsAre, forall_const, rH, rdr, UKj_1, List.length_map, encK_len, takeK, Nat.le_refl]
  refine AW.upto 3 (inv34 v bs a f) ?_ fun i t H c hi h => ?_
  · unfold inv34
    rw [f0]
    exact ⟨fun j _ hj => absurd hj (Nat.not_lt_zero j), rfl, rfl, ⟨_, rfl, rfl⟩, ⟨_, rfl, rfl⟩, ⟨_, rfl, rfl⟩, rfl⟩
  obtain ⟨g0, e0, e5, ⟨u2, e2, eH2⟩, ⟨u3, e3, eH3⟩, ⟨u4, e4, eH4⟩, eH⟩ := h
  simp only [T.c, T.i] at e0 e5 e2 eH2 e3 eH3 e4 eH4 eH
  by_cases hlt : i < 3
  · have k1 : (i : Int) < 3 := by omega
    have gw : IntKind.i64.wrap ((i : Int) + 1) = ((i + 1 : Nat) : Int) := wrap64 (x := (i : Int) + 1) ⟨by omega, by omega⟩
    obtain ⟨q, k, hC2, hBk, he⟩ := f2 i hlt
    have hf2 : (f (i + 1)).2 = some k := by rw [he]
    have hf1 : (f (i + 1)).1 = q := by rw [he]
    simp only [RUN, core, T.c, T.s, T.b, T.i, sBin, sInt, sUn, isShift, asInt, P1.cells, loadT, ptrC, storeT, putC, fillP, Nat.reduceAdd, reduceIte, Nat.reduceEqDiff, Nat.reduceLT, Nat.reduceLeDiff, reduceCtorEq, eq_self, FIT, lendCs_map, verC_map, FinC, resPs, resP, lendPl, lendCs, lendC, sealC, partsT, finHs, tupT, verT, verP, verC, verB, verAt, Blk.ver, handsAre, forall_const, UKj_2, e0, e5, e4, eH4, k1, List.length_map, encK_len, takeK, Nat.le_refl]
    refine callRc hC2 rfl rfl (by simp [closedA, closedP, closedC]) (closed_map _) eH ⟨rfl, ?_⟩
    simp only [RUN, core, T.c, T.s, T.b, T.i, sBin, sInt, sUn, isShift, asInt, P1.cells, loadT, ptrC, storeT, putC, fillP, Nat.reduceAdd, reduceIte, Nat.reduceEqDiff, Nat.reduceLT, Nat.reduceLeDiff, reduceCtorEq, eq_self, FIT, lendCs_map, verC_map, FinC, resPs, resP, lendPl, lendCs, lendC, sealC, partsT, finHs, tupT, verT, verP, verC, verB, verAt, Blk.ver, handsAre, forall_const, UKj_2, List.length_map, encK_len, takeK, Nat.le_refl]
    refine callC (kindOkS_ok k (hBk.le (by omega))) rfl rfl (by simp [closedA, closedP, closedC]) rfl ?_
    cases hk : okK k with
    | true =>
      obtain ⟨r1, r2⟩ := hres i k hlt g0 hf2 hk
      subst r1 r2
      simp only [RUN, core, T.c, T.s, T.b, T.i, sBin, sInt, sUn, isShift, asInt, P1.cells, loadT, ptrC, storeT, putC, fillP, Nat.reduceAdd, reduceIte, Nat.reduceEqDiff, Nat.reduceLT, Nat.reduceLeDiff, reduceCtorEq, eq_self, FIT, lendCs_map, verC_map, FinC, resPs, resP, lendPl, lendCs, lendC, sealC, partsT, finHs, tupT, verT, verP, verC, verB, verAt, Blk.ver, handsAre, forall_const, CHT, disj, Nat.reduceBEq, beq_self_eq_true, UKj_2, e2, eH2, e3, eH3, e4, eH4, rdr, hf1, List.length_map, encK_len, takeK, Nat.le_refl]
    | false =>
      simp only [RUN, core, T.c, T.s, T.b, T.i, sBin, sInt, sUn, isShift, asInt, P1.cells, loadT, ptrC, storeT, putC, fillP, Nat.reduceAdd, reduceIte, Nat.reduceEqDiff, Nat.reduceLT, Nat.reduceLeDiff, reduceCtorEq, eq_self, FIT, lendCs_map, verC_map, FinC, resPs, resP, lendPl, lendCs, lendC, sealC, partsT, finHs, tupT, verT, verP, verC, verB, verAt, Blk.ver, handsAre, forall_const, UKj_2, e5, gw]
      refine ⟨hlt, fun j k2 hj hj2 => ?_, e0, rfl, ⟨u2, e2, eH2⟩, ⟨u3, e3, eH3⟩, ⟨u4, e4, eH4⟩, by rw [hf1]; rfl⟩
      rcases Nat.lt_succ_iff_lt_or_eq.1 hj with hj | rfl
      · exact g0 j k2 hj hj2
      · rw [hf2] at hj2; cases hj2; exact hk
  · have hi3 : i = 3 := by omega
    subst hi3
    have k1 : ¬ (((3 : Nat) : Int)) < 3 := by omega
    obtain ⟨r1, r2⟩ := hend g0
    subst r1 r2
    simp only [rdr] at eH
    simp only [RUN, core, T.c, T.s, T.b, T.i, sBin, sInt, sUn, isShift, asInt, P1.cells, loadT, ptrC, storeT, putC, fillP, Nat.reduceAdd, reduceIte, Nat.reduceEqDiff, Nat.reduceLT, Nat.reduceLeDiff, reduceCtorEq, eq_self, FIT, lendCs_map, verC_map, FinC, resPs, resP, lendPl, lendCs, lendC, sealC, partsT, finHs, tupT, verT, verP, verC, verB, verAt, Blk.ver, handsAre, forall_const, CHT, disj, Nat.reduceBEq, beq_self_eq_true, UKj_2, e5, k1, e2, eH2, e3, eH3, e4, eH4, eH, rdr, List.length_map, encK_len, takeK, Nat.le_refl]
end Go.V

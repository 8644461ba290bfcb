/- It is proved that the law FnKindJoin returns true for every input and leaves its input as it was; no condition. -/
import Derived.Test.YtejcaodogbmpdaaJK1
set_option linter.unusedSimpArgs false
namespace Go.V
open Go.Proofs
inductive Tr where
  | mk (sort num : Int) (text : ByteArray) (names : List ByteArray) (kids : List Tr)
mutual
def encT : Tr → List V
  | .mk s n x ns ks => [.s (.int .i64 s), .s (.int .i64 n), .s (.string x), .sl (encS ns), .sl (encTs ks)]
def encTs : List Tr → List (List V)
  | [] => []
  | k :: ks => encT k :: encTs ks
end
theorem encTs_eq : ∀ ks, encTs ks = ks.map encT
  | [] => by simp [encTs]
  | k :: ks => by simp [encTs, encTs_eq ks]
theorem encT_mk (s n : Int) (x : ByteArray) (ns : List ByteArray) (ks : List Tr) : encT (.mk s n x ns ks) = [.s (.int .i64 s), .s (.int .i64 n), .s (.string x), .sl (encS ns), .sl (encTs ks)] := by simp [encT]
theorem encT_len (k : Tr) : (encT k).length = 5 := by cases k; simp [encT]
theorem encTs_len (ks : List Tr) : (encTs ks).length = ks.length := by simp [encTs_eq]
theorem encTs_at {ks : List Tr} {i : Nat} {k : Tr} (h : ks[i]? = some k) : (encTs ks)[i]? = some (encT k) := by simp [encTs_eq, h]
theorem encTs_all (ks : List Tr) : ∀ e ∈ encTs ks, e.length = 5 := by
  intro e he
  rw [encTs_eq, List.mem_map] at he
  obtain ⟨k, _, rfl⟩ := he
  exact encT_len k
theorem encTs_snoc (ks : List Tr) (k : Tr) : encTs (ks ++ [k]) = encTs ks ++ [encT k] := by simp [encTs_eq]
theorem take_encTs (ks : List Tr) : (encTs ks).take ks.length = encTs ks := by rw [← encTs_len ks, List.take_length]
theorem takeT (k : Tr) : List.take 5 (List.map C.v (encT k)) = List.map C.v (encT k) := by
  have h : (List.map C.v (encT k)).length = 5 := by rw [List.length_map, encT_len]
  rw [← h, List.take_length]
abbrev tT (k : Tr) : T := .pt (.agg ((encT k).map .v))
/-- No list and no text is longer than n. -/
inductive TB (n : Nat) : Tr → Prop
  | mk (s m : Int) (x : ByteArray) (ns : List ByteArray) (ks : List Tr) (h0 : x.size ≤ n) (h1 : ns.length ≤ n) (h2 : ks.length ≤ n) (h3 : ∀ x ∈ ns, x.size ≤ n) (h4 : ∀ k ∈ ks, TB n k) : TB n (.mk s m x ns ks)
theorem TB.inv {n : Nat} {s m : Int} {x : ByteArray} {ns : List ByteArray} {ks : List Tr} (h : TB n (.mk s m x ns ks)) : x.size ≤ n ∧ ns.length ≤ n ∧ ks.length ≤ n ∧ (∀ x ∈ ns, x.size ≤ n) ∧ ∀ k ∈ ks, TB n k := by
  cases h with
  | mk _ _ _ _ _ h0 h1 h2 h3 h4 => exact ⟨h0, h1, h2, h3, h4⟩
theorem Tr.ind {P : Tr → Prop} (h : ∀ s n x ns ks, (∀ k ∈ ks, P k) → P (.mk s n x ns ks)) : ∀ k, P k
  | .mk s n x ns ks => h s n x ns ks fun k _hk => Tr.ind h k
termination_by k => SizeOf.sizeOf k
decreasing_by
  have := List.sizeOf_lt_of_mem _hk
  simp
  omega
mutual
def tcost : Kd → Nat
  | .mk _ _ ks => 4 + 3 * tcostL ks
def tcostL : List Kd → Nat
  | [] => 0
  | k :: ks => tcost k + tcostL ks
end
theorem tcostL_snoc (ks : List Kd) (k : Kd) : tcostL (ks ++ [k]) = tcostL ks + tcost k := by
  induction ks with
  | nil => simp [tcostL]
  | cons x xs ih => simp [tcostL, ih]; omega
theorem tcostL_take_le (ks : List Kd) (i : Nat) : tcostL (ks.take i) ≤ tcostL ks := by
  induction ks generalizing i with
  | nil => simp
  | cons k ks ih => cases i with
    | zero => simp [tcostL]
    | succ i => simp only [List.take_succ_cons, tcostL]; have := ih i; omega
theorem tcost_le : ∀ (k : Kd) (d : Nat), KOk d k → tcost k ≤ 4 * 3 ^ (6 - d) * parts k := by
  intro k
  induction k using Kd.ind with
  | _ s ns ks ih =>
    intro d h
    obtain ⟨h1, h2, h3⟩ := h.inv
    have hL : ∀ l : List Kd, (∀ k ∈ l, k ∈ ks) → 3 * tcostL l ≤ 4 * 3 ^ (6 - d) * partsL l := by
      intro l
      induction l with
      | nil => intro _; simp [tcostL]
      | cons x xs ihl =>
        intro hm
        have e1 := ihl fun k hk => hm k (by simp [hk])
        have hx := hm x (by simp)
        have e2 := ih x hx (d + 1) (h3 x hx)
        have hd := (h3 x hx)
        have hd6 : d + 1 ≤ 6 := by
          cases x with
          | mk a b c => exact hd.inv.1
        have e3 : 3 ^ (6 - d) = 3 * 3 ^ (6 - (d + 1)) := by
          rw [show 6 - d = (6 - (d + 1)) + 1 from by omega, Nat.pow_succ, Nat.mul_comm]
        simp only [tcostL, partsL, Nat.mul_add]
        have e4 : 3 * tcost x ≤ 4 * 3 ^ (6 - d) * parts x := by
          rw [e3]
          calc 3 * tcost x ≤ 3 * (4 * 3 ^ (6 - (d + 1)) * parts x) := Nat.mul_le_mul_left _ e2
            _ = 4 * (3 * 3 ^ (6 - (d + 1))) * parts x := by
              rw [← Nat.mul_assoc, ← Nat.mul_assoc, ← Nat.mul_assoc]
        omega
    have e5 := hL ks fun k hk => hk
    have e6 : 1 ≤ 3 ^ (6 - d) := Nat.one_le_pow _ _ (by omega)
    simp only [tcost, parts, Nat.mul_add]
    omega
theorem encTs_nil : encTs [] = [] := by simp [encTs]
end Go.V
set_option linter.unusedSimpArgs false
namespace Go.V
open Go.Proofs
/- loop.example/teagle/spec.l6Dec -/
def r74_0 : List AOper := [ao 0 2 (.mv (.k (.s (.string ⟨#[]⟩))))]
def r74_1 : List AOper := [ao 0 3 (.mv (.t 0)),
  ao 1 4 (.bin .lss (.t 3) (.k (.i (-9223372036854775807))))]
def r74_2 : List AOper := [ao 0 2 (.mv (.k (.s (.string ⟨#[45, 57, 50, 50, 51, 51, 55, 50, 48, 51, 54, 56, 53, 52, 55, 55, 53, 56, 48, 56]⟩))))]
def c74_3 : ACode := .seq (.reg r74_2) .ret
def c74_4 : ACode := .cond (.t 4) c74_3 .skip
def c74_5 : ACode := .seq (.reg r74_1) c74_4
def r74_6 : List AOper := [ao 0 5 (.mv (.t 0)),
  ao 1 6 (.bin .lss (.t 5) (.k (.i 0)))]
def r74_7 : List AOper := [ao 0 7 (.mv (.t 0)),
  ao 1 8 (.un .neg (.t 7)),
  ao 2 9 (.call (.k (.c (.fn 74 []))) [(.t 8)]),
  ao 3 10 (.bin .add (.k (.s (.string ⟨#[45]⟩))) (.t 9)),
  ao 4 2 (.mv (.t 10))]
def c74_8 : ACode := .seq (.reg r74_7) .ret
def c74_9 : ACode := .cond (.t 6) c74_8 .skip
def c74_10 : ACode := .seq (.reg r74_6) c74_9
def r74_11 : List AOper := [ao 0 11 (.mv (.t 0)),
  ao 1 12 (.bin .lss (.t 11) (.k (.i 10)))]
def r74_12 : List AOper := [ao 0 13 (.mv (.t 0)),
  ao 1 14 (.bin .add (.k (.i 48)) (.t 13)),
  ao 2 15 (.cnvI .u8 (.t 14)),
  ao 3 16 (.bsl 1 5 [(.t 15)]),
  ao 4 17 (.cnvBS (.t 16)),
  ao 5 2 (.mv (.t 17))]
def c74_13 : ACode := .seq (.reg r74_12) .ret
def c74_14 : ACode := .cond (.t 12) c74_13 .skip
def c74_15 : ACode := .seq (.reg r74_11) c74_14
def r74_16 : List AOper := [ao 0 18 (.mv (.t 0)),
  ao 1 19 (.bin .quo (.t 18) (.k (.i 10))),
  ao 2 20 (.call (.k (.c (.fn 74 []))) [(.t 19)]),
  au 3 21 (ru 3) (.mv (.t 0)),
  au 4 22 (ru 3) (.bin .rem (.t 21) (.k (.i 10))),
  au 5 23 (ru 3) (.bin .add (.k (.i 48)) (.t 22)),
  au 6 24 (ru 3) (.cnvI .u8 (.t 23)),
  au 7 25 (ru 3) (.bsl 1 5 [(.t 24)]),
  au 8 26 (ru 3) (.cnvBS (.t 25)),
  ao 9 27 (.bin .add (.t 20) (.t 26)),
  ao 10 2 (.mv (.t 27))]
def c74 : ACode := .seq (.reg r74_0) (.seq c74_5 (.seq c74_10 (.seq c74_15 (.seq (.reg r74_16) .ret))))
def s74 : List ARes := [.tmp 2]
theorem ok74 : okF Try.prog 74 28 c74 s74 := ⟨Try.f74, Try.func74, Try.ntmps74, by kernel_rfl, by kernel_rfl, by kernel_rfl⟩
theorem push_size (r : ByteArray) (b : UInt8) : (r.push b).size = r.size + 1 := by cases r; simp [ByteArray.push, ByteArray.size]
theorem UKo_1 : (type_of% (uA c74.eq_1)) ∧ (type_of% (uR r74_0.eq_1)) ∧ (type_of% (uA c74_5.eq_1)) ∧ (type_of% (uR r74_1.eq_1)) ∧ (type_of% (uA c74_4.eq_1)) ∧ (type_of% (uA c74_3.eq_1)) ∧ (type_of% (uR r74_2.eq_1)) ∧ (type_of% (uA c74_10.eq_1)) ∧ (type_of% (uR r74_6.eq_1)) ∧ (type_of% (uA c74_9.eq_1)) ∧ (type_of% (uA c74_8.eq_1)) ∧ (type_of% (uR r74_7.eq_1)) ∧ (type_of% (uA c74_15.eq_1)) ∧ (type_of% (uR r74_11.eq_1)) ∧ (type_of% (uA c74_14.eq_1)) ∧ (type_of% (uA c74_13.eq_1)) ∧ (type_of% (uR r74_12.eq_1)) ∧ (type_of% (uR r74_16.eq_1)) ∧ (type_of% s74.eq_1) :=
  ⟨uA c74.eq_1, uR r74_0.eq_1, uA c74_5.eq_1, uR r74_1.eq_1, uA c74_4.eq_1, uA c74_3.eq_1, uR r74_2.eq_1, uA c74_10.eq_1, uR r74_6.eq_1, uA c74_9.eq_1, uA c74_8.eq_1, uR r74_7.eq_1, uA c74_15.eq_1, uR r74_11.eq_1, uA c74_14.eq_1, uA c74_13.eq_1, uR r74_12.eq_1, uR r74_16.eq_1, s74.eq_1⟩
theorem dec_ok : ∀ n : Nat, n ≤ 1000000 → ∃ s : ByteArray, s.size ≤ n + 1 ∧ ACallsF Try.prog 74 [.i n] [] (.s (.string s)) := by
  intro n
  induction n using Nat.strongRecOn with
  | _ n ih =>
    intro hn
    have k1 : ¬ (n : Int) < -9223372036854775807 := by omega
    have k2 : ¬ (n : Int) < 0 := by omega
    have w1 : IntKind.i64.wrap (48 + (n : Int)) = 48 + (n : Int) := wrap64 ⟨by omega, by omega⟩
    by_cases h : n < 10
    · have k3 : (n : Int) < 10 := by omega
      refine ⟨pushB [IntKind.u8.wrap (48 + (n : Int))], by rw [pushB, List.foldl_cons, List.foldl_nil, push_size]; exact Nat.succ_le_succ (Nat.zero_le _), ACallsF.intro ok74 follows fun X c0 => ?_⟩
      simp only [RUN, core, T.c, T.s, T.b, T.i, sBin, sInt, sUn, isShift, asInt, P1.cells, loadT, ptrC, storeT, putC, fillP, Nat.reduceAdd, reduceIte, Nat.reduceEqDiff, Nat.reduceLT, Nat.reduceLeDiff, reduceCtorEq, eq_self, FIT, lendCs_map, verC_map, FinC, resPs, resP, lendPl, lendCs, lendC, sealC, partsT, finHs, tupT, verT, verP, verC, verB, verAt, Blk.ver, handsAre, forall_const, APT, srcOf, sealPs, sealCs, sealC, List.mem_singleton, forall_eq, UKo_1, k1, k2, k3, w1, bytesOf]
    · have k3 : ¬ (n : Int) < 10 := by omega
      obtain ⟨s, hs, hC⟩ := ih (n / 10) (by omega) (by omega)
      have q1 : IntKind.i64.wrap ((n : Int).tdiv 10) = ((n / 10 : Nat) : Int) := (IntWalk.i64_quo (n : Int) 10 ⟨by omega, by omega, by omega⟩).trans (by omega)
      have q2 : (n : Int).tmod 10 = ((n % 10 : Nat) : Int) := rfl
      have q3 : IntKind.i64.wrap (48 + ((n % 10 : Nat) : Int)) = 48 + ((n % 10 : Nat) : Int) := wrap64 ⟨by omega, by omega⟩
      have h10 : ¬ (10 : Int) = 0 := by omega
      have hsz : (pushB [IntKind.u8.wrap (48 + ((n % 10 : Nat) : Int))]).size = 1 := by rw [pushB, List.foldl_cons, List.foldl_nil, push_size]; rfl
      have hle : s.size + (pushB [IntKind.u8.wrap (48 + ((n % 10 : Nat) : Int))]).size ≤ 9223372036854775807 := by omega
      refine ⟨s ++ pushB [IntKind.u8.wrap (48 + ((n % 10 : Nat) : Int))], by rw [ByteArray.size_append, hsz]; omega, ACallsF.intro ok74 follows fun X c0 => ?_⟩
      simp only [RUN, core, T.c, T.s, T.b, T.i, sBin, sInt, sUn, isShift, asInt, P1.cells, loadT, ptrC, storeT, putC, fillP, Nat.reduceAdd, reduceIte, Nat.reduceEqDiff, Nat.reduceLT, Nat.reduceLeDiff, reduceCtorEq, eq_self, FIT, lendCs_map, verC_map, FinC, resPs, resP, lendPl, lendCs, lendC, sealC, partsT, finHs, tupT, verT, verP, verC, verB, verAt, Blk.ver, handsAre, forall_const, APT, srcOf, sealPs, sealCs, sealC, List.mem_singleton, forall_eq, UKo_1, k1, k2, k3, q1, h10]
      refine callC hC rfl rfl rfl rfl ?_
      simp only [RUN, core, T.c, T.s, T.b, T.i, sBin, sInt, sUn, isShift, asInt, P1.cells, loadT, ptrC, storeT, putC, fillP, Nat.reduceAdd, reduceIte, Nat.reduceEqDiff, Nat.reduceLT, Nat.reduceLeDiff, reduceCtorEq, eq_self, FIT, lendCs_map, verC_map, FinC, resPs, resP, lendPl, lendCs, lendC, sealC, partsT, finHs, tupT, verT, verP, verC, verB, verAt, Blk.ver, handsAre, forall_const, APT, srcOf, sealPs, sealCs, sealC, List.mem_singleton, forall_eq, CHT, disj, Nat.reduceBEq, beq_self_eq_true, UKo_1, q2, q3, h10, bytesOf, sStr, hle]
end Go.V
set_option linter.unusedSimpArgs false
namespace Go.V
open Go.Proofs
/- loop.example/teagle/spec.l5SpoilKind -/
def r38_0 : List AOper := [ao 0 3 (.box 26 (.t 1)),
  ao 1 4 (.alloc 26 [(.v (.s (.int .i64 0))), .nil0, .nil0])]
def r38_1 : List AOper := [ao 0 9 (.fa 2 (.t 3)),
  ao 1 10 (.ld 1 false (.t 9)),
  ao 2 11 (.len (.t 10)),
  ao 3 12 (.bin .gtr (.t 11) (.k (.i 0))),
  ao 4 13 (.mv (.t 12)),
  ag 5 14 13 true [] (.mv (.t 0)),
  ag 6 15 13 true [] (.call (.k (.c (.fn 36 []))) [(.t 14), (.k (.i 3))]),
  ag 7 16 13 true [] (.bin .gtr (.t 15) (.k (.i 0))),
  ao 8 17 (.pick (.t 13) (.t 16) (.k (.b false)))]
def r38_2 : List AOper := [ao 0 18 (.bsl 3 26 []),
  ao 1 19 (.fa 2 (.t 3)),
  ao 2 20 (.ld 1 false (.t 19)),
  ao 3 21 (.app 3 26 56 (.t 18) (.t 20)),
  ao 4 5 (.mv (.t 21))]
def r38_3 : List AOper := [ao 0 22 (.mv (.t 0)),
  ao 1 23 (.mv (.t 5)),
  ao 2 24 (.len (.t 23)),
  ao 3 25 (.call (.k (.c (.fn 36 []))) [(.t 22), (.t 24)]),
  ao 4 6 (.mv (.t 25))]
def r38_4 : List AOper := [ao 0 26 (.mv (.t 5)),
  ao 1 27 (.mv (.t 6)),
  ao 2 28 (.mv (.t 0)),
  ao 3 29 (.mv (.t 5)),
  ao 4 30 (.mv (.t 6)),
  ao 5 31 (.ia 3 (.t 29) (.t 30)),
  ao 6 32 (.ld 3 true (.t 31)),
  ao 7 33 (.call (.k (.c (.fn 38 []))) [(.t 28), (.t 32)]),
  ao 8 34 (.ia 3 (.t 26) (.t 27)),
  an 9 (.st 3 (.t 34) (.t 33))]
def r38_5 : List AOper := [ao 0 35 (.mv (.t 5)),
  ao 1 36 (.fa 2 (.t 3)),
  an 2 (.st 1 (.t 36) (.t 35))]
def r38_6 : List AOper := [ao 0 37 (.ld 3 true (.t 3)),
  an 1 (.st 3 (.t 4) (.t 37))]
def c38_7 : ACode := .seq (.reg r38_2) (.seq (.reg r38_3) (.seq (.reg r38_4) (.seq (.reg r38_5) (.seq (.reg r38_6) .ret))))
def c38_8 : ACode := .cond (.t 17) c38_7 .skip
def c38_9 : ACode := .seq (.reg r38_1) c38_8
def r38_10 : List AOper := [ao 0 38 (.mv (.t 0)),
  ao 1 39 (.call (.k (.c (.fn 36 []))) [(.t 38), (.k (.i 5))])]
def r38_11 : List AOper := [ao 0 57 (.bin .eql (.t 39) (.k (.i 0))),
  ao 1 56 (.mv (.t 57))]
def r38_12 : List AOper := [ao 0 58 (.mv (.t 0)),
  ao 1 59 (.call (.k (.c (.fn 36 []))) [(.t 58), (.k (.i 8))]),
  ao 2 60 (.fa 0 (.t 3)),
  an 3 (.st 1 (.t 60) (.t 59))]
def r38_13 : List AOper := [ao 0 62 (.bin .eql (.t 39) (.k (.i 1))),
  ao 1 61 (.mv (.t 62))]
def r38_14 : List AOper := [ao 0 63 (.bsl 1 9 []),
  ao 1 64 (.fa 1 (.t 3)),
  ao 2 65 (.ld 1 false (.t 64)),
  ao 3 66 (.app 1 9 16 (.t 63) (.t 65)),
  ao 4 67 (.mv (.t 0)),
  ao 5 68 (.bsl 1 9 [(.k (.s (.string ⟨#[97]⟩))), (.k (.s (.string ⟨#[122]⟩))), (.k (.s (.string ⟨#[65]⟩)))]),
  ao 6 69 (.call (.k (.c (.fn 72 []))) [(.t 67), (.t 68)]),
  ao 7 70 (.bsl 1 9 [(.t 69)]),
  ao 8 71 (.app 1 9 16 (.t 66) (.t 70)),
  ao 9 72 (.fa 1 (.t 3)),
  an 10 (.st 1 (.t 72) (.t 71))]
def r38_15 : List AOper := [ao 0 74 (.bin .eql (.t 39) (.k (.i 2))),
  ao 1 73 (.mv (.t 74))]
def r38_16 : List AOper := [ao 0 75 (.bsl 3 26 []),
  ao 1 76 (.fa 2 (.t 3)),
  ao 2 77 (.ld 1 false (.t 76)),
  ao 3 78 (.app 3 26 56 (.t 75) (.t 77)),
  ao 4 79 (.build [(.v (.s (.int .i64 0))), .nil0, .nil0] [(0, 1, (.k (.i 1)))]),
  ao 5 80 (.bsl 3 26 [(.t 79)]),
  ao 6 81 (.app 3 26 56 (.t 78) (.t 80)),
  ao 7 82 (.fa 2 (.t 3)),
  an 8 (.st 1 (.t 82) (.t 81))]
def r38_17 : List AOper := [ao 0 84 (.bin .eql (.t 39) (.k (.i 3))),
  ao 1 83 (.mv (.t 84))]
def r38_18 : List AOper := [ao 0 85 (.build [(.v (.s (.int .i64 0))), .nil0, .nil0] [(0, 1, (.k (.i 5)))]),
  an 1 (.st 3 (.t 3) (.t 85))]
def r38_19 : List AOper := [ao 0 7 (.mv (.k (.i 0)))]
def r38_20 : List AOper := [ao 0 86 (.mv (.t 7)),
  ao 1 87 (.mv (.t 0)),
  ao 2 88 (.call (.k (.c (.fn 36 []))) [(.t 87), (.k (.i 2))]),
  ao 3 89 (.bin .add (.k (.i 39)) (.t 88)),
  ao 4 90 (.bin .lss (.t 86) (.t 89))]
def c38_21 : ACode := .cond (.t 90) .skip (.exit 3)
def c38_22 : ACode := .seq (.reg r38_20) c38_21
def r38_23 : List AOper := [ao 0 93 (.fa 1 (.t 3)),
  ao 1 94 (.ld 1 false (.t 93)),
  au 2 95 [0, 1] (.mv (.t 7)),
  au 3 96 [0, 1] (.bin .add (.k (.i 100)) (.t 95)),
  au 4 97 [0, 1] (.call (.k (.c (.fn 74 []))) [(.t 96)]),
  au 5 98 [0, 1] (.bin .add (.k (.s (.string ⟨#[110]⟩))) (.t 97)),
  au 6 99 [0, 1] (.bsl 1 9 [(.t 98)]),
  ao 7 100 (.app 1 9 16 (.t 94) (.t 99)),
  ao 8 101 (.fa 1 (.t 3)),
  an 9 (.st 1 (.t 101) (.t 100))]
def r38_24 : List AOper := [ao 0 102 (.fa 2 (.t 3)),
  ao 1 103 (.ld 1 false (.t 102)),
  ao 2 104 (.build [(.v (.s (.int .i64 0))), .nil0, .nil0] [(0, 1, (.k (.i 1)))]),
  ao 3 105 (.bsl 3 26 [(.t 104)]),
  ao 4 106 (.app 3 26 56 (.t 103) (.t 105)),
  ao 5 107 (.fa 2 (.t 3)),
  an 6 (.st 1 (.t 107) (.t 106))]
def c38_25 : ACode := .seq (.reg r38_23) (.reg r38_24)
def c38_26 : ACode := .block 4 c38_25
def r38_27 : List AOper := [ao 0 91 (.mv (.t 7)),
  ao 1 92 (.bin .add (.t 91) (.k (.i 1))),
  ao 2 7 (.mv (.t 92))]
def c38_28 : ACode := .seq c38_22 (.seq c38_26 (.reg r38_27))
def c38_29 : ACode := .loop c38_28
def c38_30 : ACode := .block 3 c38_29
def c38_31 : ACode := .seq (.reg r38_18) (.seq (.reg r38_19) c38_30)
def r38_32 : List AOper := [ao 0 40 (.build [(.v (.s (.int .i64 0))), .nil0, .nil0] [(0, 1, (.k (.i 3)))]),
  an 1 (.st 3 (.t 3) (.t 40))]
def r38_33 : List AOper := [ao 0 41 (.mv (.t 0)),
  ao 1 42 (.call (.k (.c (.fn 36 []))) [(.t 41), (.k (.i 2))]),
  ao 2 43 (.bin .add (.k (.i 5)) (.t 42)),
  ao 3 8 (.mv (.t 43))]
def r38_34 : List AOper := [ao 0 44 (.mv (.t 8)),
  ao 1 45 (.bin .gtr (.t 44) (.k (.i 0)))]
def c38_35 : ACode := .cond (.t 45) .skip (.exit 1)
def c38_36 : ACode := .seq (.reg r38_34) c38_35
def r38_37 : List AOper := [ao 0 48 (.bsl 1 3 [(.k (.i 4)), (.k (.i 6))]),
  au 1 49 [0] (.mv (.t 8)),
  au 2 50 [0] (.bin .rem (.t 49) (.k (.i 2))),
  ao 3 51 (.ia 1 (.t 48) (.t 50)),
  ao 4 52 (.ld 1 false (.t 51)),
  au 5 53 (ru 5) (.ld 3 true (.t 3)),
  au 6 54 (ru 5) (.bsl 3 26 [(.t 53)]),
  ao 7 55 (.build [(.v (.s (.int .i64 0))), .nil0, .nil0] [(0, 1, (.t 52)), (2, 1, (.t 54))]),
  an 8 (.st 3 (.t 3) (.t 55))]
def c38_38 : ACode := .block 2 (.reg r38_37)
def r38_39 : List AOper := [ao 0 46 (.mv (.t 8)),
  ao 1 47 (.bin .sub (.t 46) (.k (.i 1))),
  ao 2 8 (.mv (.t 47))]
def c38_40 : ACode := .seq c38_36 (.seq c38_38 (.reg r38_39))
def c38_41 : ACode := .loop c38_40
def c38_42 : ACode := .block 1 c38_41
def c38_43 : ACode := .seq (.reg r38_32) (.seq (.reg r38_33) c38_42)
def c38_44 : ACode := .cond (.t 83) c38_31 c38_43
def c38_45 : ACode := .seq (.reg r38_17) c38_44
def c38_46 : ACode := .cond (.t 73) (.reg r38_16) c38_45
def c38_47 : ACode := .seq (.reg r38_15) c38_46
def c38_48 : ACode := .cond (.t 61) (.reg r38_14) c38_47
def c38_49 : ACode := .seq (.reg r38_13) c38_48
def c38_50 : ACode := .cond (.t 56) (.reg r38_12) c38_49
def c38_51 : ACode := .seq (.reg r38_11) c38_50
def c38_52 : ACode := .block 0 c38_51
def c38_53 : ACode := .seq (.reg r38_10) c38_52
def r38_54 : List AOper := [ao 0 108 (.ld 3 true (.t 3)),
  an 1 (.st 3 (.t 4) (.t 108))]
def c38 : ACode := .seq (.reg r38_0) (.seq c38_9 (.seq c38_53 (.seq (.reg r38_54) .ret)))
def s38 : List ARes := [.cell 4 3 true]
theorem ok38 : okF Try.prog 38 109 c38 s38 := ⟨Try.f38, Try.func38, Try.ntmps38, by kernel_rfl, by kernel_rfl, by kernel_rfl⟩
theorem encS_all1 (ns : List ByteArray) : (∀ e ∈ encS ns, e.length = 1) = True := eq_true fun e he => by simp only [encS, List.mem_map] at he; obtain ⟨_, _, rfl⟩ := he; rfl
theorem encKs_all3 (ks : List Kd) : (∀ e ∈ encKs ks, e.length = 3) = True := eq_true (encKs_all ks)
theorem encTs_all5 (ks : List Tr) : (∀ e ∈ encTs ks, e.length = 5) = True := eq_true (encTs_all ks)
theorem take_encS1 (ns : List ByteArray) (e : List V) : List.take (ns.length + 1) (encS ns ++ [e]) = encS ns ++ [e] := List.take_of_length_le (by simp [encS_len])
theorem take_encKs1 (ks : List Kd) (e : List V) : List.take (ks.length + 1) (encKs ks ++ [e]) = encKs ks ++ [e] := List.take_of_length_le (by simp [encKs_len])
theorem take_encTs1 (ks : List Tr) (e : List V) : List.take (ks.length + 1) (encTs ks ++ [e]) = encTs ks ++ [e] := List.take_of_length_le (by simp [encTs_len])
theorem encKs_nil : encKs [] = [] := by simp [encKs]
theorem drop3K (k : Kd) : List.drop 3 (encK k) = [] := List.drop_of_length_le (by rw [encK_len]; exact Nat.le_refl _)
theorem drop5T (k : Tr) : List.drop 5 (encT k) = [] := List.drop_of_length_le (by rw [encT_len]; exact Nat.le_refl _)
theorem set_encKs (ks : List Kd) (i : Nat) (k : Kd) : (encKs ks).set i (encK k) = encKs (ks.set i k) := by rw [encKs_eq, encKs_eq, List.map_set]
theorem set_encTs (ks : List Tr) (i : Nat) (k : Tr) : (encTs ks).set i (encT k) = encTs (ks.set i k) := by rw [encTs_eq, encTs_eq, List.map_set]
theorem ALT : (type_of% @take_encTs) ∧ (type_of% @toVs_map) ∧ (type_of% @drop3K) ∧ (type_of% @drop5T) ∧ (type_of% @set_encKs) ∧ (type_of% @set_encTs) ∧ (type_of% @List.length_set.{0}) ∧ (type_of% @take_encS1) ∧ (type_of% @take_encKs1) ∧ (type_of% @take_encTs1) ∧ (type_of% @encS_snoc) ∧ (type_of% @encKs_snoc) ∧ (type_of% @encTs_snoc) ∧ (type_of% @encS_nil) ∧ (type_of% @encKs_nil) ∧ (type_of% @encTs_nil) ∧ (type_of% @encS_all1) ∧ (type_of% @encKs_all3) ∧ (type_of% @encTs_all5) ∧ (type_of% @Nat.zero_add) :=
  ⟨@take_encTs, @toVs_map, @drop3K, @drop5T, @set_encKs, @set_encTs, @List.length_set.{0}, @take_encS1, @take_encKs1, @take_encTs1, @encS_snoc, @encKs_snoc, @encTs_snoc, @encS_nil, @encKs_nil, @encTs_nil, @encS_all1, @encKs_all3, @encTs_all5, @Nat.zero_add⟩
def namesZ : List ByteArray := [⟨#[97]⟩, ⟨#[122]⟩, ⟨#[65]⟩]
theorem namesZ_size : ∀ s ∈ namesZ, s.size ≤ 2000 := by decide
def SpoilKT (v : Nat) (bs : List UInt8) (s : Int) (ns : List ByteArray) (ks : List Kd) (p : Int) (p' : Int) (k' : Kd) : Prop :=
  ∀ (X : Ctx) (t : Nat → T) (H : HMap) (c : Nat) (q0 : Int), t 0 = rP v → (∃ u, t 3 = .c (.ptr 3 u 0) ∧ H 3 = some (.var u 26 [.v (.s (.int .i64 s)), .v (.sl (encS ns)), .v (.sl (encKs ks))])) → (∃ u, t 4 = .c (.ptr 4 u 0) ∧ H 4 = some (.var u 26 [.v (.s (.int .i64 0)), .nil0, .nil0])) → H 1000 = some (rdr v bs p) → H 2001 = none → H 2002 = none →
    wpa Try.prog X c38_53 (thenW Try.prog X (.seq (.reg r38_54) .ret) (endA (FinC s38 (tK k') [rH v bs q0 p']))) ⟨t, H, c⟩
theorem UKp_1 : (type_of% (uA c38.eq_1)) ∧ (type_of% (uR r38_0.eq_1)) ∧ (type_of% (uA c38_9.eq_1)) ∧ (type_of% (uR r38_1.eq_1)) ∧ (type_of% (uA c38_8.eq_1)) ∧ (type_of% (uA c38_7.eq_1)) ∧ (type_of% (uR r38_2.eq_1)) ∧ (type_of% (uR r38_3.eq_1)) ∧ (type_of% (uR r38_4.eq_1)) ∧ (type_of% (uR r38_5.eq_1)) ∧ (type_of% (uR r38_6.eq_1)) ∧ (type_of% (uA c38_53.eq_1)) ∧ (type_of% (uR r38_10.eq_1)) ∧ (type_of% (uA c38_52.eq_1)) ∧ (type_of% (uA c38_51.eq_1)) ∧ (type_of% (uR r38_11.eq_1)) ∧ (type_of% (uA c38_50.eq_1)) ∧ (type_of% (uR r38_12.eq_1)) ∧ (type_of% (uA c38_49.eq_1)) ∧ (type_of% (uR r38_13.eq_1)) ∧ (type_of% (uA c38_48.eq_1)) ∧ (type_of% (uR r38_14.eq_1)) ∧ (type_of% (uA c38_47.eq_1)) ∧ (type_of% (uR r38_15.eq_1)) ∧ (type_of% (uA c38_46.eq_1)) ∧ (type_of% (uR r38_16.eq_1)) ∧ (type_of% (uA c38_45.eq_1)) ∧ (type_of% (uR r38_17.eq_1)) ∧ (type_of% (uA c38_44.eq_1)) ∧ (type_of% (uA c38_31.eq_1)) ∧ (type_of% (uR r38_18.eq_1)) ∧ (type_of% (uR r38_19.eq_1)) ∧ (type_of% (uA c38_30.eq_1)) ∧ (type_of% (uA c38_29.eq_1)) ∧ (type_of% (uA c38_43.eq_1)) ∧ (type_of% (uR r38_32.eq_1)) ∧ (type_of% (uR r38_33.eq_1)) ∧ (type_of% (uA c38_42.eq_1)) ∧ (type_of% (uA c38_41.eq_1)) ∧ (type_of% (uR r38_54.eq_1)) ∧ (type_of% s38.eq_1) :=
  ⟨uA c38.eq_1, uR r38_0.eq_1, uA c38_9.eq_1, uR r38_1.eq_1, uA c38_8.eq_1, uA c38_7.eq_1, uR r38_2.eq_1, uR r38_3.eq_1, uR r38_4.eq_1, uR r38_5.eq_1, uR r38_6.eq_1, uA c38_53.eq_1, uR r38_10.eq_1, uA c38_52.eq_1, uA c38_51.eq_1, uR r38_11.eq_1, uA c38_50.eq_1, uR r38_12.eq_1, uA c38_49.eq_1, uR r38_13.eq_1, uA c38_48.eq_1, uR r38_14.eq_1, uA c38_47.eq_1, uR r38_15.eq_1, uA c38_46.eq_1, uR r38_16.eq_1, uA c38_45.eq_1, uR r38_17.eq_1, uA c38_44.eq_1, uA c38_31.eq_1, uR r38_18.eq_1, uR r38_19.eq_1, uA c38_30.eq_1, uA c38_29.eq_1, uA c38_43.eq_1, uR r38_32.eq_1, uR r38_33.eq_1, uA c38_42.eq_1, uA c38_41.eq_1, uR r38_54.eq_1, s38.eq_1⟩
theorem spoilK_0 (v : Nat) (bs : List UInt8) (s : Int) (ns : List ByteArray) (ks : List Kd) (p n m : Int) (hC : ACallsF Try.prog 36 [rP v, .i 5] [rH v bs p (p + 1)] (.i n)) (h : n = 0) (hC2 : ACallsF Try.prog 36 [rP v, .i 8] [rH v bs (p + 1) (p + 1 + 1)] (.i m)) :
    SpoilKT v bs s ns ks p (p + 1 + 1) (.mk m ns ks) := by
  subst h
  rintro X t H c q0 e0 ⟨u3, e3, eH3⟩ ⟨u4, e4, eH4⟩ eH eN1 eN2
  simp only [T.c, T.i, rdr] at e0 e3 eH3 e4 eH4 eH
  simp only [RUN, core, T.c, T.s, T.b, T.i, sBin, sInt, sUn, isShift, asInt, P1.cells, loadT, ptrC, storeT, putC, fillP, Nat.reduceAdd, reduceIte, Nat.reduceEqDiff, Nat.reduceLT, Nat.reduceLeDiff, reduceCtorEq, eq_self, FIT, lendCs_map, verC_map, FinC, resPs, resP, lendPl, lendCs, lendC, sealC, partsT, finHs, tupT, verT, verP, verC, verB, verAt, Blk.ver, handsAre, forall_const, UKp_1, e0]
  refine callRc hC rfl rfl rfl rfl eH ⟨rfl, ?_⟩
  simp only [RUN, core, T.c, T.s, T.b, T.i, sBin, sInt, sUn, isShift, asInt, P1.cells, loadT, ptrC, storeT, putC, fillP, Nat.reduceAdd, reduceIte, Nat.reduceEqDiff, Nat.reduceLT, Nat.reduceLeDiff, reduceCtorEq, eq_self, FIT, lendCs_map, verC_map, FinC, resPs, resP, lendPl, lendCs, lendC, sealC, partsT, finHs, tupT, verT, verP, verC, verB, verAt, Blk.ver, handsAre, forall_const, UKp_1, e0, Int.reduceBEq]
  refine callRc hC2 rfl rfl rfl rfl rfl ⟨rfl, ?_⟩
  simp only [RUN, core, T.c, T.s, T.b, T.i, sBin, sInt, sUn, isShift, asInt, P1.cells, loadT, ptrC, storeT, putC, fillP, Nat.reduceAdd, reduceIte, Nat.reduceEqDiff, Nat.reduceLT, Nat.reduceLeDiff, reduceCtorEq, eq_self, FIT, lendCs_map, verC_map, FinC, resPs, resP, lendPl, lendCs, lendC, sealC, partsT, finHs, tupT, verT, verP, verC, verB, verAt, Blk.ver, handsAre, forall_const, CHT, disj, Nat.reduceBEq, beq_self_eq_true, APT, srcOf, sealPs, sealCs, sealC, List.mem_singleton, forall_eq, rH, rdr, UKp_1, e3, eH3, e4, eH4, encK_mk]
theorem spoilK_1 (v : Nat) (bs : List UInt8) (s : Int) (ns : List ByteArray) (ks : List Kd) (hl : ns.length ≤ 1000) (p n : Int) (x : ByteArray) (hC : ACallsF Try.prog 36 [rP v, .i 5] [rH v bs p (p + 1)] (.i n)) (h : n = 1) (hC2 : ACallsF Try.prog 72 [rP v, .c (.v (.sl (encS namesZ)))] [rH v bs (p + 1) (p + 1 + 1)] (.s (.string x))) :
    SpoilKT v bs s ns ks p (p + 1 + 1) (.mk s (ns ++ [x]) ks) := by
  subst h
  rintro X t H c q0 e0 ⟨u3, e3, eH3⟩ ⟨u4, e4, eH4⟩ eH eN1 eN2
  simp only [T.c, T.i, rdr] at e0 e3 eH3 e4 eH4 eH
  have q1 : ns.length * 16 ≤ 140737488355328 := by omega
  have q2 : ns.length ≤ 9223372036854775807 := by omega
  have q3 : (ns.length + 1) * 16 ≤ 140737488355328 := by omega
  have q4 : ns.length ≤ 9223372036854775806 := by omega
  simp only [RUN, core, T.c, T.s, T.b, T.i, sBin, sInt, sUn, isShift, asInt, P1.cells, loadT, ptrC, storeT, putC, fillP, Nat.reduceAdd, reduceIte, Nat.reduceEqDiff, Nat.reduceLT, Nat.reduceLeDiff, reduceCtorEq, eq_self, FIT, lendCs_map, verC_map, FinC, resPs, resP, lendPl, lendCs, lendC, sealC, partsT, finHs, tupT, verT, verP, verC, verB, verAt, Blk.ver, handsAre, forall_const, UKp_1, e0]
  refine callRc hC rfl rfl rfl rfl eH ⟨rfl, ?_⟩
  simp only [RUN, core, T.c, T.s, T.b, T.i, sBin, sInt, sUn, isShift, asInt, P1.cells, loadT, ptrC, storeT, putC, fillP, Nat.reduceAdd, reduceIte, Nat.reduceEqDiff, Nat.reduceLT, Nat.reduceLeDiff, reduceCtorEq, eq_self, FIT, lendCs_map, verC_map, FinC, resPs, resP, lendPl, lendCs, lendC, sealC, partsT, finHs, tupT, verT, verP, verC, verB, verAt, Blk.ver, handsAre, forall_const, CHT, disj, Nat.reduceBEq, beq_self_eq_true, APT, srcOf, sealPs, sealCs, sealC, List.mem_singleton, forall_eq, ALT, UKp_1, e0, e3, eH3, Int.reduceBEq, encS_len, q1, q2]
  refine callR (ws := [(68, .arr (c + 2 + 2 + 2 + 5) false 1 9 (encS namesZ))]) (ns := [68]) hC2 rfl ?_ rfl rfl rfl ⟨?_, ?_⟩
  · simp only [RUN, core, T.c, T.s, T.b, T.i, sBin, sInt, sUn, isShift, asInt, P1.cells, loadT, ptrC, storeT, putC, fillP, Nat.reduceAdd, reduceIte, Nat.reduceEqDiff, Nat.reduceLT, Nat.reduceLeDiff, reduceCtorEq, eq_self, FIT, lendCs_map, verC_map, FinC, resPs, resP, lendPl, lendCs, lendC, sealC, partsT, finHs, tupT, verT, verP, verC, verB, verAt, Blk.ver, handsAre, forall_const, APT, srcOf, sealPs, sealCs, sealC, List.mem_singleton, forall_eq, lendTs, lendT, rP, Nat.le_refl, List.take]
    rfl
  · simp only [RUN, core, T.c, T.s, T.b, T.i, sBin, sInt, sUn, isShift, asInt, P1.cells, loadT, ptrC, storeT, putC, fillP, Nat.reduceAdd, reduceIte, Nat.reduceEqDiff, Nat.reduceLT, Nat.reduceLeDiff, reduceCtorEq, eq_self, FIT, lendCs_map, verC_map, FinC, resPs, resP, lendPl, lendCs, lendC, sealC, partsT, finHs, tupT, verT, verP, verC, verB, verAt, Blk.ver, handsAre, forall_const, CHT, disj, Nat.reduceBEq, beq_self_eq_true, APT, srcOf, sealPs, sealCs, sealC, List.mem_singleton, forall_eq]
  simp only [RUN, core, T.c, T.s, T.b, T.i, sBin, sInt, sUn, isShift, asInt, P1.cells, loadT, ptrC, storeT, putC, fillP, Nat.reduceAdd, reduceIte, Nat.reduceEqDiff, Nat.reduceLT, Nat.reduceLeDiff, reduceCtorEq, eq_self, FIT, lendCs_map, verC_map, FinC, resPs, resP, lendPl, lendCs, lendC, sealC, partsT, finHs, tupT, verT, verP, verC, verB, verAt, Blk.ver, handsAre, forall_const, CHT, disj, Nat.reduceBEq, beq_self_eq_true, APT, srcOf, sealPs, sealCs, sealC, List.mem_singleton, forall_eq, ALT, rH, rdr, UKp_1, e3, eH3, e4, eH4, encK_mk, encS_len, q3, q4]
theorem spoilK_2 (v : Nat) (bs : List UInt8) (s : Int) (ns : List ByteArray) (ks : List Kd) (hl : ks.length ≤ 1000) (p n : Int) (hC : ACallsF Try.prog 36 [rP v, .i 5] [rH v bs p (p + 1)] (.i n)) (h : n = 2) :
    SpoilKT v bs s ns ks p (p + 1) (.mk s ns (ks ++ [.mk 1 [] []])) := by
  subst h
  rintro X t H c q0 e0 ⟨u3, e3, eH3⟩ ⟨u4, e4, eH4⟩ eH eN1 eN2
  simp only [T.c, T.i, rdr] at e0 e3 eH3 e4 eH4 eH
  have q1 : ks.length * 56 ≤ 140737488355328 := by omega
  have q2 : ks.length ≤ 9223372036854775807 := by omega
  have q3 : (ks.length + 1) * 56 ≤ 140737488355328 := by omega
  have q4 : ks.length ≤ 9223372036854775806 := by omega
  simp only [RUN, core, T.c, T.s, T.b, T.i, sBin, sInt, sUn, isShift, asInt, P1.cells, loadT, ptrC, storeT, putC, fillP, Nat.reduceAdd, reduceIte, Nat.reduceEqDiff, Nat.reduceLT, Nat.reduceLeDiff, reduceCtorEq, eq_self, FIT, lendCs_map, verC_map, FinC, resPs, resP, lendPl, lendCs, lendC, sealC, partsT, finHs, tupT, verT, verP, verC, verB, verAt, Blk.ver, handsAre, forall_const, UKp_1, e0]
  refine callRc hC rfl rfl rfl rfl eH ⟨rfl, ?_⟩
  simp only [RUN, core, T.c, T.s, T.b, T.i, sBin, sInt, sUn, isShift, asInt, P1.cells, loadT, ptrC, storeT, putC, fillP, Nat.reduceAdd, reduceIte, Nat.reduceEqDiff, Nat.reduceLT, Nat.reduceLeDiff, reduceCtorEq, eq_self, FIT, lendCs_map, verC_map, FinC, resPs, resP, lendPl, lendCs, lendC, sealC, partsT, finHs, tupT, verT, verP, verC, verB, verAt, Blk.ver, handsAre, forall_const, CHT, disj, Nat.reduceBEq, beq_self_eq_true, APT, srcOf, sealPs, sealCs, sealC, List.mem_singleton, forall_eq, ALT, rH, rdr, UKp_1, e0, e3, eH3, e4, eH4, Int.reduceBEq, encKs_len, encK_mk, q1, q2, q3, q4]
end Go.V
set_option linter.unusedSimpArgs false
namespace Go.V
open Go.Proofs
structure S3 where
  p : Int
  ns : List ByteArray
  ks : List Kd
def S3Step (v : Nat) (bs : List UInt8) (i : Nat) (s s' : S3) : Prop :=
  ∃ (n : Int) (x : ByteArray), 0 ≤ n ∧ n < 2 ∧ x.size ≤ 1000 ∧ ACallsF Try.prog 36 [rP v, .i 2] [rH v bs s.p (s.p + 1)] (.i n) ∧ ACallsF Try.prog 74 [.i ((100 + i : Nat) : Int)] [] (.s (.string x)) ∧ s' = ⟨s.p + 1, s.ns ++ [⟨#[110]⟩ ++ x], s.ks ++ [.mk 1 [] []]⟩
def S3Inv (p : Int) (i : Nat) (s : S3) : Prop := s.p = p + i ∧ s.ns.length = i ∧ s.ks.length = i ∧ (∀ x ∈ s.ns, x.size ≤ 2000) ∧ ∀ k ∈ s.ks, KB 2000 k
def S3KI (v : Nat) (bs : List UInt8) (f : Nat → S3) (i : Nat) (σ : St) : Prop :=
  σ.t 0 = rP v ∧ (∃ u a b, σ.t 3 = .c (.ptr 3 u 0) ∧ σ.H 3 = some (.var u 26 [.v (.s (.int .i64 5)), .own 2001 a (f i).ns.length, .own 2002 b (f i).ks.length]) ∧ σ.H 2001 = some (.arr a true 1 9 (encS (f i).ns)) ∧ σ.H 2002 = some (.arr b true 3 26 (encKs (f i).ks))) ∧
  (∃ u, σ.t 4 = .c (.ptr 4 u 0) ∧ σ.H 4 = some (.var u 26 [.v (.s (.int .i64 0)), .nil0, .nil0])) ∧ σ.t 7 = .i i ∧ σ.H 1000 = some (rdr v bs (f i).p)
theorem UKq_1 : (type_of% (uA c38_28.eq_1)) ∧ (type_of% (uA c38_22.eq_1)) ∧ (type_of% (uR r38_20.eq_1)) ∧ (type_of% (uA c38_21.eq_1)) ∧ (type_of% (uA c38_26.eq_1)) ∧ (type_of% (uA c38_25.eq_1)) ∧ (type_of% (uR r38_23.eq_1)) ∧ (type_of% (uR r38_24.eq_1)) ∧ (type_of% (uR r38_27.eq_1)) ∧ (type_of% (uA c38.eq_1)) ∧ (type_of% (uR r38_0.eq_1)) ∧ (type_of% (uA c38_9.eq_1)) ∧ (type_of% (uR r38_1.eq_1)) ∧ (type_of% (uA c38_8.eq_1)) ∧ (type_of% (uA c38_7.eq_1)) ∧ (type_of% (uR r38_2.eq_1)) ∧ (type_of% (uR r38_3.eq_1)) ∧ (type_of% (uR r38_4.eq_1)) ∧ (type_of% (uR r38_5.eq_1)) ∧ (type_of% (uR r38_6.eq_1)) ∧ (type_of% (uA c38_53.eq_1)) ∧ (type_of% (uR r38_10.eq_1)) ∧ (type_of% (uA c38_52.eq_1)) ∧ (type_of% (uA c38_51.eq_1)) ∧ (type_of% (uR r38_11.eq_1)) ∧ (type_of% (uA c38_50.eq_1)) ∧ (type_of% (uR r38_12.eq_1)) ∧ (type_of% (uA c38_49.eq_1)) ∧ (type_of% (uR r38_13.eq_1)) ∧ (type_of% (uA c38_48.eq_1)) ∧ (type_of% (uR r38_14.eq_1)) ∧ (type_of% (uA c38_47.eq_1)) ∧ (type_of% (uR r38_15.eq_1)) ∧ (type_of% (uA c38_46.eq_1)) ∧ (type_of% (uR r38_16.eq_1)) ∧ (type_of% (uA c38_45.eq_1)) ∧ (type_of% (uR r38_17.eq_1)) ∧ (type_of% (uA c38_44.eq_1)) ∧ (type_of% (uA c38_31.eq_1)) ∧ (type_of% (uR r38_18.eq_1)) ∧ (type_of% (uR r38_19.eq_1)) ∧ (type_of% (uA c38_30.eq_1)) ∧ (type_of% (uA c38_29.eq_1)) ∧ (type_of% (uA c38_43.eq_1)) ∧ (type_of% (uR r38_32.eq_1)) ∧ (type_of% (uR r38_33.eq_1)) ∧ (type_of% (uA c38_42.eq_1)) ∧ (type_of% (uA c38_41.eq_1)) ∧ (type_of% (uR r38_54.eq_1)) ∧ (type_of% s38.eq_1) :=
  ⟨uA c38_28.eq_1, uA c38_22.eq_1, uR r38_20.eq_1, uA c38_21.eq_1, uA c38_26.eq_1, uA c38_25.eq_1, uR r38_23.eq_1, uR r38_24.eq_1, uR r38_27.eq_1, uA c38.eq_1, uR r38_0.eq_1, uA c38_9.eq_1, uR r38_1.eq_1, uA c38_8.eq_1, uA c38_7.eq_1, uR r38_2.eq_1, uR r38_3.eq_1, uR r38_4.eq_1, uR r38_5.eq_1, uR r38_6.eq_1, uA c38_53.eq_1, uR r38_10.eq_1, uA c38_52.eq_1, uA c38_51.eq_1, uR r38_11.eq_1, uA c38_50.eq_1, uR r38_12.eq_1, uA c38_49.eq_1, uR r38_13.eq_1, uA c38_48.eq_1, uR r38_14.eq_1, uA c38_47.eq_1, uR r38_15.eq_1, uA c38_46.eq_1, uR r38_16.eq_1, uA c38_45.eq_1, uR r38_17.eq_1, uA c38_44.eq_1, uA c38_31.eq_1, uR r38_18.eq_1, uR r38_19.eq_1, uA c38_30.eq_1, uA c38_29.eq_1, uA c38_43.eq_1, uR r38_32.eq_1, uR r38_33.eq_1, uA c38_42.eq_1, uA c38_41.eq_1, uR r38_54.eq_1, s38.eq_1⟩
theorem spoilK_loop3 (v : Nat) (bs : List UInt8) (f : Nat → S3) (N : Nat) (hN : N ≤ 40) (p : Int) (f1 : ∀ i, i ≤ 40 → S3Inv p i (f i)) (f2 : ∀ i, i < 40 → S3Step v bs i (f i) (f (i + 1)))
    (hgo : ∀ i, i < N → ∀ n, 0 ≤ n → n < 2 → ACallsF Try.prog 36 [rP v, .i 2] [rH v bs (f i).p ((f i).p + 1)] (.i n) → (∃ m, ACallsF Try.prog 36 [rP v, .i 2] [rH v bs (f i).p ((f i).p + 1)] (.i m) ∧ (i : Int) < 39 + m ∧ 0 ≤ m ∧ m < 2))
    (m : Int) (hm : 0 ≤ m ∧ m < 2 ∧ ¬ (N : Int) < 39 + m) (hC : ACallsF Try.prog 36 [rP v, .i 2] [rH v bs (f N).p ((f N).p + 1)] (.i m)) {X : Ctx} {Q : Exit → St → Prop} {t : Nat → T} {H : HMap} {c : Nat}
    (h : S3KI v bs f 0 ⟨t, H, c⟩) (hQ : ∀ t H c, (∃ u a b, t 3 = .c (.ptr 3 u 0) ∧ H 3 = some (.var u 26 [.v (.s (.int .i64 5)), .own 2001 a (f N).ns.length, .own 2002 b (f N).ks.length]) ∧ H 2001 = some (.arr a true 1 9 (encS (f N).ns)) ∧ H 2002 = some (.arr b true 3 26 (encKs (f N).ks))) → (∃ u, t 4 = .c (.ptr 4 u 0) ∧ H 4 = some (.var u 26 [.v (.s (.int .i64 0)), .nil0, .nil0])) → H 1000 = some (rdr v bs ((f N).p + 1)) → Q (.exit 3) ⟨t, H, c⟩) : AW Try.prog X (.loop c38_28) Q ⟨t, H, c⟩ := by
  refine AW.upto N (S3KI v bs f) h fun i t H c hi h => ?_
  obtain ⟨e0, ⟨u3, a, b, e3, eH3, eHa, eHb⟩, ⟨u4, e4, eH4⟩, e7, eH⟩ := h
  simp only [T.c, T.i, rdr] at e0 e3 eH3 e4 eH4 eHa eHb e7 eH
  by_cases hlt : i < N
  · obtain ⟨n0, x, n1, n2, hx, hC1, hC2, he⟩ := f2 i (by omega)
    obtain ⟨n, hCn, hn39, hn0, hn2⟩ := hgo i hlt n0 n1 n2 hC1
    have gw : IntKind.i64.wrap (39 + n) = 39 + n := wrap64 ⟨by omega, by omega⟩
    have gw2 : IntKind.i64.wrap ((i : Int) + 1) = ((i + 1 : Nat) : Int) := wrap64 (x := (i : Int) + 1) ⟨by omega, by omega⟩
    have gw3 : IntKind.i64.wrap (100 + (i : Int)) = ((100 + i : Nat) : Int) := (wrap64 (x := 100 + (i : Int)) ⟨by omega, by omega⟩).trans (by omega)
    obtain ⟨g1, g2, g3, g4, g5⟩ := f1 i (by omega)
    have q1 : ((f i).ns.length + 1) * 16 ≤ 140737488355328 := by omega
    have q2 : (f i).ns.length ≤ 9223372036854775806 := by omega
    have q3 : ((f i).ks.length + 1) * 56 ≤ 140737488355328 := by omega
    have q4 : (f i).ks.length ≤ 9223372036854775806 := by omega
    have q5 : (⟨#[110]⟩ : ByteArray).size + x.size ≤ 9223372036854775807 := by
      have : (⟨#[110]⟩ : ByteArray).size = 1 := rfl
      omega
    simp only [RUN, core, T.c, T.s, T.b, T.i, sBin, sInt, sUn, isShift, asInt, P1.cells, loadT, ptrC, storeT, putC, fillP, Nat.reduceAdd, reduceIte, Nat.reduceEqDiff, Nat.reduceLT, Nat.reduceLeDiff, reduceCtorEq, eq_self, FIT, lendCs_map, verC_map, FinC, resPs, resP, lendPl, lendCs, lendC, sealC, partsT, finHs, tupT, verT, verP, verC, verB, verAt, Blk.ver, handsAre, forall_const, UKq_1, e0, e7]
    refine callRc hCn rfl rfl rfl rfl eH ⟨rfl, ?_⟩
    simp only [RUN, core, T.c, T.s, T.b, T.i, sBin, sInt, sUn, isShift, asInt, P1.cells, loadT, ptrC, storeT, putC, fillP, Nat.reduceAdd, reduceIte, Nat.reduceEqDiff, Nat.reduceLT, Nat.reduceLeDiff, reduceCtorEq, eq_self, FIT, lendCs_map, verC_map, FinC, resPs, resP, lendPl, lendCs, lendC, sealC, partsT, finHs, tupT, verT, verP, verC, verB, verAt, Blk.ver, handsAre, forall_const, CHT, disj, Nat.reduceBEq, beq_self_eq_true, APT, srcOf, sealPs, sealCs, sealC, List.mem_singleton, forall_eq, ALT, UKq_1, gw, hn39, e3, eH3, e7, gw3, eHa, encS_len]
    refine callC hC2 rfl rfl rfl rfl ?_
    simp only [RUN, core, T.c, T.s, T.b, T.i, sBin, sInt, sUn, isShift, asInt, P1.cells, loadT, ptrC, storeT, putC, fillP, Nat.reduceAdd, reduceIte, Nat.reduceEqDiff, Nat.reduceLT, Nat.reduceLeDiff, reduceCtorEq, eq_self, FIT, lendCs_map, verC_map, FinC, resPs, resP, lendPl, lendCs, lendC, sealC, partsT, finHs, tupT, verT, verP, verC, verB, verAt, Blk.ver, handsAre, forall_const, CHT, disj, Nat.reduceBEq, beq_self_eq_true, APT, srcOf, sealPs, sealCs, sealC, List.mem_singleton, forall_eq, ALT, UKq_1, gw2, e3, eH3, e7, eHa, eHb, encS_len, encKs_len, encK_mk, q1, q2, q3, q4, sStr, q5]
    have k1 : (f (i + 1)).ns = (f i).ns ++ [⟨#[110]⟩ ++ x] := congrArg S3.ns he
    have k2 : (f (i + 1)).ks = (f i).ks ++ [.mk 1 [] []] := congrArg S3.ks he
    have k3 : (f (i + 1)).ns.length = (f i).ns.length + 1 := by rw [k1]; simp
    have k4 : (f (i + 1)).ks.length = (f i).ks.length + 1 := by rw [k2]; simp
    have k5 : encS (f (i + 1)).ns = encS (f i).ns ++ [[.s (.string (⟨#[110]⟩ ++ x))]] := by rw [k1, encS_snoc]
    have k6 : encKs (f (i + 1)).ks = encKs (f i).ks ++ [[.s (.int .i64 1), .sl [], .sl []]] := by rw [k2, encKs_snoc, encK_mk, encS_nil, encKs_nil]
    have k7 : (f (i + 1)).p = (f i).p + 1 := congrArg S3.p he
    unfold S3KI
    rw [k3, k4, k5, k6, k7]
    exact ⟨hlt, e0, ⟨u3, _, _, e3, rfl, rfl, rfl⟩, ⟨u4, e4, eH4⟩, rfl, rfl⟩
  · have hiN : i = N := by omega
    subst hiN
    have gw : IntKind.i64.wrap (39 + m) = 39 + m := wrap64 ⟨by omega, by omega⟩
    have hm39 := hm.2.2
    simp only [RUN, core, T.c, T.s, T.b, T.i, sBin, sInt, sUn, isShift, asInt, P1.cells, loadT, ptrC, storeT, putC, fillP, Nat.reduceAdd, reduceIte, Nat.reduceEqDiff, Nat.reduceLT, Nat.reduceLeDiff, reduceCtorEq, eq_self, FIT, lendCs_map, verC_map, FinC, resPs, resP, lendPl, lendCs, lendC, sealC, partsT, finHs, tupT, verT, verP, verC, verB, verAt, Blk.ver, handsAre, forall_const, UKq_1, e0, e7]
    refine callRc hC rfl rfl rfl rfl eH ⟨rfl, ?_⟩
    simp only [RUN, core, T.c, T.s, T.b, T.i, sBin, sInt, sUn, isShift, asInt, P1.cells, loadT, ptrC, storeT, putC, fillP, Nat.reduceAdd, reduceIte, Nat.reduceEqDiff, Nat.reduceLT, Nat.reduceLeDiff, reduceCtorEq, eq_self, FIT, lendCs_map, verC_map, FinC, resPs, resP, lendPl, lendCs, lendC, sealC, partsT, finHs, tupT, verT, verP, verC, verB, verAt, Blk.ver, handsAre, forall_const, CHT, disj, Nat.reduceBEq, beq_self_eq_true, APT, srcOf, sealPs, sealCs, sealC, List.mem_singleton, forall_eq, ALT, UKq_1, gw, hm39, e7]
    exact hQ _ _ _ ⟨u3, a, b, e3, eH3, eHa, eHb⟩ ⟨u4, e4, eH4⟩ rfl
def wrapN (N : Nat) : Nat → Kd
  | 0 => .mk 3 [] []
  | i + 1 => .mk (if (N - i) % 2 = 0 then 4 else 6) [] [wrapN N i]
theorem wrapN_KB (N : Nat) : ∀ i, KB 2000 (wrapN N i)
  | 0 => .mk _ _ _ (by simp) (by simp) (by simp) (by simp)
  | i + 1 => .mk _ _ _ (by simp) (by simp) (by simp) (by simpa using wrapN_KB N i)
def S4KI (v : Nat) (bs : List UInt8) (p : Int) (N i : Nat) (σ : St) : Prop :=
  (∃ u, σ.t 3 = .c (.ptr 3 u 0) ∧ ((i = 0 ∧ σ.H 3 = some (.var u 26 [.v (.s (.int .i64 3)), .nil0, .nil0])) ∨
    ∃ b j, i = j + 1 ∧ σ.H 3 = some (.var u 26 [.v (.s (.int .i64 (if (N - j) % 2 = 0 then 4 else 6))), .nil0, .own 54 b 1]) ∧ σ.H 54 = some (.arr b true 3 26 [encK (wrapN N j)]))) ∧
  (∃ u, σ.t 4 = .c (.ptr 4 u 0) ∧ σ.H 4 = some (.var u 26 [.v (.s (.int .i64 0)), .nil0, .nil0])) ∧ σ.t 8 = .i ((N - i : Nat) : Int) ∧ σ.H 1000 = some (rdr v bs p)
theorem UKq_2 : (type_of% (uA c38_40.eq_1)) ∧ (type_of% (uA c38_36.eq_1)) ∧ (type_of% (uR r38_34.eq_1)) ∧ (type_of% (uA c38_35.eq_1)) ∧ (type_of% (uA c38_38.eq_1)) ∧ (type_of% (uR r38_37.eq_1)) ∧ (type_of% (uR r38_39.eq_1)) ∧ (type_of% (uA c38.eq_1)) ∧ (type_of% (uR r38_0.eq_1)) ∧ (type_of% (uA c38_9.eq_1)) ∧ (type_of% (uR r38_1.eq_1)) ∧ (type_of% (uA c38_8.eq_1)) ∧ (type_of% (uA c38_7.eq_1)) ∧ (type_of% (uR r38_2.eq_1)) ∧ (type_of% (uR r38_3.eq_1)) ∧ (type_of% (uR r38_4.eq_1)) ∧ (type_of% (uR r38_5.eq_1)) ∧ (type_of% (uR r38_6.eq_1)) ∧ (type_of% (uA c38_53.eq_1)) ∧ (type_of% (uR r38_10.eq_1)) ∧ (type_of% (uA c38_52.eq_1)) ∧ (type_of% (uA c38_51.eq_1)) ∧ (type_of% (uR r38_11.eq_1)) ∧ (type_of% (uA c38_50.eq_1)) ∧ (type_of% (uR r38_12.eq_1)) ∧ (type_of% (uA c38_49.eq_1)) ∧ (type_of% (uR r38_13.eq_1)) ∧ (type_of% (uA c38_48.eq_1)) ∧ (type_of% (uR r38_14.eq_1)) ∧ (type_of% (uA c38_47.eq_1)) ∧ (type_of% (uR r38_15.eq_1)) ∧ (type_of% (uA c38_46.eq_1)) ∧ (type_of% (uR r38_16.eq_1)) ∧ (type_of% (uA c38_45.eq_1)) ∧ (type_of% (uR r38_17.eq_1)) ∧ (type_of% (uA c38_44.eq_1)) ∧ (type_of% (uA c38_31.eq_1)) ∧ (type_of% (uR r38_18.eq_1)) ∧ (type_of% (uR r38_19.eq_1)) ∧ (type_of% (uA c38_30.eq_1)) ∧ (type_of% (uA c38_29.eq_1)) ∧ (type_of% (uA c38_43.eq_1)) ∧ (type_of% (uR r38_32.eq_1)) ∧ (type_of% (uR r38_33.eq_1)) ∧ (type_of% (uA c38_42.eq_1)) ∧ (type_of% (uA c38_41.eq_1)) ∧ (type_of% (uR r38_54.eq_1)) ∧ (type_of% s38.eq_1) :=
  ⟨uA c38_40.eq_1, uA c38_36.eq_1, uR r38_34.eq_1, uA c38_35.eq_1, uA c38_38.eq_1, uR r38_37.eq_1, uR r38_39.eq_1, uA c38.eq_1, uR r38_0.eq_1, uA c38_9.eq_1, uR r38_1.eq_1, uA c38_8.eq_1, uA c38_7.eq_1, uR r38_2.eq_1, uR r38_3.eq_1, uR r38_4.eq_1, uR r38_5.eq_1, uR r38_6.eq_1, uA c38_53.eq_1, uR r38_10.eq_1, uA c38_52.eq_1, uA c38_51.eq_1, uR r38_11.eq_1, uA c38_50.eq_1, uR r38_12.eq_1, uA c38_49.eq_1, uR r38_13.eq_1, uA c38_48.eq_1, uR r38_14.eq_1, uA c38_47.eq_1, uR r38_15.eq_1, uA c38_46.eq_1, uR r38_16.eq_1, uA c38_45.eq_1, uR r38_17.eq_1, uA c38_44.eq_1, uA c38_31.eq_1, uR r38_18.eq_1, uR r38_19.eq_1, uA c38_30.eq_1, uA c38_29.eq_1, uA c38_43.eq_1, uR r38_32.eq_1, uR r38_33.eq_1, uA c38_42.eq_1, uA c38_41.eq_1, uR r38_54.eq_1, s38.eq_1⟩
theorem spoilK_loop4 (v : Nat) (bs : List UInt8) (p : Int) (N : Nat) (hN : N ≤ 6) {X : Ctx} {Q : Exit → St → Prop} {t : Nat → T} {H : HMap} {c : Nat}
    (h : S4KI v bs p N 0 ⟨t, H, c⟩) (hQ : ∀ t H c, S4KI v bs p N N ⟨t, H, c⟩ → Q (.exit 1) ⟨t, H, c⟩) : AW Try.prog X (.loop c38_40) Q ⟨t, H, c⟩ := by
  refine AW.upto N (S4KI v bs p N) h fun i t H c hi h => ?_
  have hKI := h
  obtain ⟨⟨u3, e3, h3⟩, ⟨u4, e4, eH4⟩, e8, eH⟩ := h
  simp only [T.c, T.i, rdr] at e3 h3 e4 eH4 e8 eH
  by_cases hlt : i < N
  · have k1 : ((N - i : Nat) : Int) > 0 := by omega
    have gw : IntKind.i64.wrap (((N - i : Nat) : Int) - 1) = ((N - (i + 1) : Nat) : Int) := (wrap64 (x := ((N - i : Nat) : Int) - 1) ⟨by omega, by omega⟩).trans (by omega)
    have g2 : ¬ (2 : Int) = 0 := by omega
    obtain ⟨r, hr, hrs⟩ : ∃ r : Int, ((N - i : Nat) : Int).tmod 2 = r ∧ ((r = 0 ∧ (if (N - i) % 2 = 0 then (4 : Int) else 6) = 4) ∨ (r = 1 ∧ (if (N - i) % 2 = 0 then (4 : Int) else 6) = 6)) := by
      have e1 : ((N - i : Nat) : Int).tmod 2 = (((N - i) % 2 : Nat) : Int) := rfl
      by_cases h2 : (N - i) % 2 = 0
      · exact ⟨0, by rw [e1, h2]; rfl, .inl ⟨rfl, if_pos h2⟩⟩
      · exact ⟨1, by rw [e1, show (N - i) % 2 = 1 from by omega]; rfl, .inr ⟨rfl, if_neg h2⟩⟩
    have hfin : ∀ t' H' c', (t' 3 = t 3) → (∃ b, H' 3 = some (.var u3 26 [.v (.s (.int .i64 (if (N - i) % 2 = 0 then 4 else 6))), .nil0, .own 54 b 1]) ∧ H' 54 = some (.arr b true 3 26 [encK (wrapN N i)])) → t' 4 = t 4 → H' 4 = H 4 → H' 1000 = H 1000 → t' 8 = .i ((N - (i + 1) : Nat) : Int) → i < N ∧ S4KI v bs p N (i + 1) ⟨t', H', c'⟩ := by
      rintro t' H' c' r1 ⟨b, r2, r3⟩ r4 r5 r6 r7
      exact ⟨hlt, ⟨u3, r1.trans e3, .inr ⟨b, i, rfl, r2, r3⟩⟩, ⟨u4, r4.trans e4, r5.trans eH4⟩, r7, r6.trans eH⟩
    have z0 : (0 : Int).toNat = 0 := rfl
    have z1 : (1 : Int).toNat = 1 := rfl
    have z2 : (0 : Int) < ((2 : Nat) : Int) := by omega
    have z3 : (1 : Int) < ((2 : Nat) : Int) := by omega
    have z4 : (0 : Int) ≤ 1 := by omega
    rcases h3 with ⟨rfl, eH3⟩ | ⟨b, j, rfl, eH3, eH54⟩
    · have ew : encK (wrapN N 0) = [.s (.int .i64 3), .sl [], .sl []] := by rw [wrapN, encK_mk, encS_nil, encKs_nil]
      rcases hrs with ⟨rfl, hs⟩ | ⟨rfl, hs⟩
      all_goals
        simp only [RUN, core, T.c, T.s, T.b, T.i, sBin, sInt, sUn, isShift, asInt, P1.cells, loadT, ptrC, storeT, putC, fillP, Nat.reduceAdd, reduceIte, Nat.reduceEqDiff, Nat.reduceLT, Nat.reduceLeDiff, reduceCtorEq, eq_self, FIT, lendCs_map, verC_map, FinC, resPs, resP, lendPl, lendCs, lendC, sealC, partsT, finHs, tupT, verT, verP, verC, verB, verAt, Blk.ver, handsAre, forall_const, CHT, disj, Nat.reduceBEq, beq_self_eq_true, APT, srcOf, sealPs, sealCs, sealC, List.mem_singleton, forall_eq, ALT, UKq_2, e3, eH3, e8, k1, hr, g2, gw, Int.le_refl, z0, z1, z2, z3, z4]
        refine hfin _ _ _ ?_ ?_ ?_ ?_ ?_ ?_
        · rfl
        rotate_left
        · rfl
        · rfl
        · rfl
        · rfl
        exact ⟨_, by rw [hs]; rfl, by rw [ew]; rfl⟩
    · have ew : encK (wrapN N (j + 1)) = [.s (.int .i64 (if (N - j) % 2 = 0 then 4 else 6)), .sl [], .sl [encK (wrapN N j)]] := by rw [wrapN, encK_mk, encS_nil]; simp [encKs]
      generalize hz : (if (N - j) % 2 = 0 then (4 : Int) else 6) = z at eH3 ew
      rcases hrs with ⟨rfl, hs⟩ | ⟨rfl, hs⟩
      all_goals
        simp only [RUN, core, T.c, T.s, T.b, T.i, sBin, sInt, sUn, isShift, asInt, P1.cells, loadT, ptrC, storeT, putC, fillP, Nat.reduceAdd, reduceIte, Nat.reduceEqDiff, Nat.reduceLT, Nat.reduceLeDiff, reduceCtorEq, eq_self, FIT, lendCs_map, verC_map, FinC, resPs, resP, lendPl, lendCs, lendC, sealC, partsT, finHs, tupT, verT, verP, verC, verB, verAt, Blk.ver, handsAre, forall_const, CHT, disj, Nat.reduceBEq, beq_self_eq_true, APT, srcOf, sealPs, sealCs, sealC, List.mem_singleton, forall_eq, ALT, UKq_2, e3, eH3, eH54, e8, k1, hr, g2, gw, Int.le_refl, z0, z1, z2, z3, z4]
        refine hfin _ _ _ ?_ ?_ ?_ ?_ ?_ ?_
        · rfl
        rotate_left
        · rfl
        · rfl
        · rfl
        · rfl
        exact ⟨_, by rw [hs]; rfl, by rw [ew]; rfl⟩
  · have hiN : i = N := by omega
    subst hiN
    have k1 : ¬ ((i - i : Nat) : Int) > 0 := by omega
    simp only [RUN, core, T.c, T.s, T.b, T.i, sBin, sInt, sUn, isShift, asInt, P1.cells, loadT, ptrC, storeT, putC, fillP, Nat.reduceAdd, reduceIte, Nat.reduceEqDiff, Nat.reduceLT, Nat.reduceLeDiff, reduceCtorEq, eq_self, FIT, lendCs_map, verC_map, FinC, resPs, resP, lendPl, lendCs, lendC, sealC, partsT, finHs, tupT, verT, verP, verC, verB, verAt, Blk.ver, handsAre, forall_const, UKq_2, e8, k1]
    exact hQ _ _ _ hKI
end Go.V
set_option linter.unusedSimpArgs false
namespace Go.V
open Go.Proofs
theorem UKr_1 : (type_of% (uA c38.eq_1)) ∧ (type_of% (uR r38_0.eq_1)) ∧ (type_of% (uA c38_9.eq_1)) ∧ (type_of% (uR r38_1.eq_1)) ∧ (type_of% (uA c38_8.eq_1)) ∧ (type_of% (uA c38_7.eq_1)) ∧ (type_of% (uR r38_2.eq_1)) ∧ (type_of% (uR r38_3.eq_1)) ∧ (type_of% (uR r38_4.eq_1)) ∧ (type_of% (uR r38_5.eq_1)) ∧ (type_of% (uR r38_6.eq_1)) ∧ (type_of% (uA c38_53.eq_1)) ∧ (type_of% (uR r38_10.eq_1)) ∧ (type_of% (uA c38_52.eq_1)) ∧ (type_of% (uA c38_51.eq_1)) ∧ (type_of% (uR r38_11.eq_1)) ∧ (type_of% (uA c38_50.eq_1)) ∧ (type_of% (uR r38_12.eq_1)) ∧ (type_of% (uA c38_49.eq_1)) ∧ (type_of% (uR r38_13.eq_1)) ∧ (type_of% (uA c38_48.eq_1)) ∧ (type_of% (uR r38_14.eq_1)) ∧ (type_of% (uA c38_47.eq_1)) ∧ (type_of% (uR r38_15.eq_1)) ∧ (type_of% (uA c38_46.eq_1)) ∧ (type_of% (uR r38_16.eq_1)) ∧ (type_of% (uA c38_45.eq_1)) ∧ (type_of% (uR r38_17.eq_1)) ∧ (type_of% (uA c38_44.eq_1)) ∧ (type_of% (uA c38_31.eq_1)) ∧ (type_of% (uR r38_18.eq_1)) ∧ (type_of% (uR r38_19.eq_1)) ∧ (type_of% (uA c38_30.eq_1)) ∧ (type_of% (uA c38_29.eq_1)) ∧ (type_of% (uA c38_43.eq_1)) ∧ (type_of% (uR r38_32.eq_1)) ∧ (type_of% (uR r38_33.eq_1)) ∧ (type_of% (uA c38_42.eq_1)) ∧ (type_of% (uA c38_41.eq_1)) ∧ (type_of% (uR r38_54.eq_1)) ∧ (type_of% s38.eq_1) :=
  ⟨uA c38.eq_1, uR r38_0.eq_1, uA c38_9.eq_1, uR r38_1.eq_1, uA c38_8.eq_1, uA c38_7.eq_1, uR r38_2.eq_1, uR r38_3.eq_1, uR r38_4.eq_1, uR r38_5.eq_1, uR r38_6.eq_1, uA c38_53.eq_1, uR r38_10.eq_1, uA c38_52.eq_1, uA c38_51.eq_1, uR r38_11.eq_1, uA c38_50.eq_1, uR r38_12.eq_1, uA c38_49.eq_1, uR r38_13.eq_1, uA c38_48.eq_1, uR r38_14.eq_1, uA c38_47.eq_1, uR r38_15.eq_1, uA c38_46.eq_1, uR r38_16.eq_1, uA c38_45.eq_1, uR r38_17.eq_1, uA c38_44.eq_1, uA c38_31.eq_1, uR r38_18.eq_1, uR r38_19.eq_1, uA c38_30.eq_1, uA c38_29.eq_1, uA c38_43.eq_1, uR r38_32.eq_1, uR r38_33.eq_1, uA c38_42.eq_1, uA c38_41.eq_1, uR r38_54.eq_1, s38.eq_1⟩
theorem spoilK_tail (v : Nat) (bs : List UInt8) (hb : bs.length ≤ 2000) (s : Int) (ns : List ByteArray) (ks : List Kd) (hB : KB 1000 (.mk s ns ks)) (p : Int) (hp : 0 ≤ p ∧ p ≤ 900000000000) :
    ∃ (p' : Int) (k' : Kd), p ≤ p' ∧ p' ≤ p + 100 ∧ KB 2000 k' ∧ SpoilKT v bs s ns ks p p' k' := by
  obtain ⟨b1, b2, b3, b4⟩ := hB.inv
  have b3' : ∀ x ∈ ns, x.size ≤ 2000 := fun x hx => by have := b3 x hx; omega
  have b4' : ∀ k ∈ ks, KB 2000 k := fun k hk => (b4 k hk).le (by omega)
  obtain ⟨n, n0, n1, hC⟩ := pick_ok v bs hb p 5 (by omega) (by omega)
  rcases (by omega : n = 0 ∨ n = 1 ∨ n = 2 ∨ n = 3 ∨ n = 4) with h | h | h | h | h
  · obtain ⟨m, m0, m1, hC2⟩ := pick_ok v bs hb (p + 1) 8 (by omega) (by omega)
    exact ⟨_, _, by omega, by omega, .mk _ _ _ (by omega) (by omega) b3' b4', spoilK_0 v bs s ns ks p n m hC h hC2⟩
  · obtain ⟨x, hx, hC2⟩ := of_ok v bs hb (p + 1) (by omega) namesZ (by decide)
    refine ⟨_, _, by omega, by omega, .mk _ _ _ (by simp; omega) (by omega) (fun y hy => ?_) b4', spoilK_1 v bs s ns ks b1 p n x hC h hC2⟩
    rcases List.mem_append.1 hy with h | h
    · exact b3' y h
    · simp at h; subst h; exact namesZ_size _ hx
  · refine ⟨_, _, by omega, by omega, .mk _ _ _ (by omega) (by simp; omega) b3' (fun y hy => ?_), spoilK_2 v bs s ns ks b2 p n hC h⟩
    rcases List.mem_append.1 hy with h | h
    · exact b4' y h
    · simp at h; subst h; exact .mk _ _ _ (by simp) (by simp) (by simp) (by simp)
  · subst h
    obtain ⟨f, f0, f1, f2⟩ := trace (S3Inv (p + 1)) (S3Step v bs) ⟨p + 1, [], []⟩ ⟨by simp, rfl, rfl, fun x hx => (by cases hx), fun x hx => (by cases hx)⟩ 40 (by
      rintro i hi ⟨q, ns, ks⟩ ⟨g1, g2, g3, g4, g5⟩
      simp only at g1 g2 g3 g4 g5
      obtain ⟨m, m0, m1, hC2⟩ := pick_ok v bs hb q 2 (by omega) (by omega)
      obtain ⟨x, hx, hC3⟩ := dec_ok (100 + i) (by omega)
      refine ⟨⟨q + 1, ns ++ [⟨#[110]⟩ ++ x], ks ++ [.mk 1 [] []]⟩, ⟨m, x, m0, m1, by omega, hC2, hC3, rfl⟩, by simp only; omega, by simp [g2], by simp [g3], fun y hy => ?_, fun y hy => ?_⟩
      · rcases List.mem_append.1 hy with h | h
        · exact g4 y h
        · simp at h; subst h; rw [ByteArray.size_append]; have : (⟨#[110]⟩ : ByteArray).size = 1 := rfl; omega
      · rcases List.mem_append.1 hy with h | h
        · exact g5 y h
        · simp at h; subst h; exact .mk _ _ _ (by simp) (by simp) (by simp) (by simp))
    obtain ⟨n9, x9, m0, m1, _, hC9, _⟩ := f2 39 (by omega)
    have I40 := f1 40 (by omega)
    obtain ⟨n10, l0, l1, hC10⟩ := pick_ok v bs hb (f 40).p 2 (by have := I40.1; omega) (by omega)
    obtain ⟨N, m, hN, hm, hCm, hgo⟩ : ∃ (N : Nat) (m : Int), (N = 39 ∨ N = 40) ∧ (0 ≤ m ∧ m < 2 ∧ ¬ (N : Int) < 39 + m) ∧ ACallsF Try.prog 36 [rP v, .i 2] [rH v bs (f N).p ((f N).p + 1)] (.i m) ∧ (N = 40 → n9 = 1) := by
      by_cases h9 : n9 = 0
      · exact ⟨39, n9, .inl rfl, ⟨m0, m1, by omega⟩, hC9, fun h => by omega⟩
      · exact ⟨40, n10, .inr rfl, ⟨l0, l1, by omega⟩, hC10, fun _ => by omega⟩
    have IN := f1 N (by omega)
    refine ⟨(f N).p + 1, .mk 5 (f N).ns (f N).ks, by have := IN.1; omega, by have := IN.1; omega, .mk _ _ _ (by have := IN.2.1; omega) (by have := IN.2.2.1; omega) IN.2.2.2.1 IN.2.2.2.2, ?_⟩
    rintro X t H c q0 e0 ⟨u3, e3, eH3⟩ ⟨u4, e4, eH4⟩ eH eN1 eN2
    simp only [T.c, T.i, rdr] at e0 e3 eH3 e4 eH4 eH
    simp only [RUN, core, T.c, T.s, T.b, T.i, sBin, sInt, sUn, isShift, asInt, P1.cells, loadT, ptrC, storeT, putC, fillP, Nat.reduceAdd, reduceIte, Nat.reduceEqDiff, Nat.reduceLT, Nat.reduceLeDiff, reduceCtorEq, eq_self, FIT, lendCs_map, verC_map, FinC, resPs, resP, lendPl, lendCs, lendC, sealC, partsT, finHs, tupT, verT, verP, verC, verB, verAt, Blk.ver, handsAre, forall_const, UKr_1, e0]
    refine callRc hC rfl rfl rfl rfl eH ⟨rfl, ?_⟩
    simp only [RUN, core, T.c, T.s, T.b, T.i, sBin, sInt, sUn, isShift, asInt, P1.cells, loadT, ptrC, storeT, putC, fillP, Nat.reduceAdd, reduceIte, Nat.reduceEqDiff, Nat.reduceLT, Nat.reduceLeDiff, reduceCtorEq, eq_self, FIT, lendCs_map, verC_map, FinC, resPs, resP, lendPl, lendCs, lendC, sealC, partsT, finHs, tupT, verT, verP, verC, verB, verAt, Blk.ver, handsAre, forall_const, CHT, disj, Nat.reduceBEq, beq_self_eq_true, APT, srcOf, sealPs, sealCs, sealC, List.mem_singleton, forall_eq, ALT, UKr_1, Int.reduceBEq, e3, eH3]
    refine AW.reify 3 1 2001 1 9 rfl rfl eN1 (by decide) ?_
    refine AW.reify 3 2 2002 3 26 rfl rfl eN2 (by decide) ?_
    refine spoilK_loop3 v bs f N (by omega) (p + 1) f1 f2 (fun i hi m2 a1 a2 a3 => ?_) m hm hCm ?_ fun t H c h3 h4 hH => ?_
    · by_cases hi39 : i = 39
      · subst hi39; exact ⟨n9, hC9, by have := hgo (by omega); omega, m0, m1⟩
      · exact ⟨m2, a3, by omega, a1, a2⟩
    · unfold S3KI
      rw [f0]
      exact ⟨e0, ⟨u3, _, _, e3, rfl, rfl, rfl⟩, ⟨u4, e4, eH4⟩, rfl, rfl⟩
    clear e0 e3 eH3 e4 eH4 eH eN1 eN2
    obtain ⟨u3, a, b, e3, eH3, eHa, eHb⟩ := h3
    obtain ⟨u4, e4, eH4⟩ := h4
    simp only [T.c, T.i, rdr] at e3 eH3 e4 eH4 hH eHa eHb
    simp only [RUN, core, T.c, T.s, T.b, T.i, sBin, sInt, sUn, isShift, asInt, P1.cells, loadT, ptrC, storeT, putC, fillP, Nat.reduceAdd, reduceIte, Nat.reduceEqDiff, Nat.reduceLT, Nat.reduceLeDiff, reduceCtorEq, eq_self, FIT, lendCs_map, verC_map, FinC, resPs, resP, lendPl, lendCs, lendC, sealC, partsT, finHs, tupT, verT, verP, verC, verB, verAt, Blk.ver, handsAre, forall_const, CHT, disj, Nat.reduceBEq, beq_self_eq_true, APT, srcOf, sealPs, sealCs, sealC, List.mem_singleton, forall_eq, ALT, rH, rdr, UKr_1, e3, eH3, e4, eH4, hH, eHa, eHb, encK_mk, encS_len, encKs_len, take_encS, take_encKs]
  · subst h
    obtain ⟨m, m0, m1, hC2⟩ := pick_ok v bs hb (p + 1) 2 (by omega) (by omega)
    obtain ⟨N, hN⟩ : ∃ N : Nat, (N : Int) = 5 + m := ⟨(5 + m).toNat, by omega⟩
    have gw : IntKind.i64.wrap (5 + m) = (N : Int) := (wrap64 ⟨by omega, by omega⟩).trans hN.symm
    refine ⟨p + 1 + 1, wrapN N N, by omega, by omega, wrapN_KB N N, ?_⟩
    rintro X t H c q0 e0 ⟨u3, e3, eH3⟩ ⟨u4, e4, eH4⟩ eH eN1 eN2
    simp only [T.c, T.i, rdr] at e0 e3 eH3 e4 eH4 eH
    simp only [RUN, core, T.c, T.s, T.b, T.i, sBin, sInt, sUn, isShift, asInt, P1.cells, loadT, ptrC, storeT, putC, fillP, Nat.reduceAdd, reduceIte, Nat.reduceEqDiff, Nat.reduceLT, Nat.reduceLeDiff, reduceCtorEq, eq_self, FIT, lendCs_map, verC_map, FinC, resPs, resP, lendPl, lendCs, lendC, sealC, partsT, finHs, tupT, verT, verP, verC, verB, verAt, Blk.ver, handsAre, forall_const, UKr_1, e0]
    refine callRc hC rfl rfl rfl rfl eH ⟨rfl, ?_⟩
    simp only [RUN, core, T.c, T.s, T.b, T.i, sBin, sInt, sUn, isShift, asInt, P1.cells, loadT, ptrC, storeT, putC, fillP, Nat.reduceAdd, reduceIte, Nat.reduceEqDiff, Nat.reduceLT, Nat.reduceLeDiff, reduceCtorEq, eq_self, FIT, lendCs_map, verC_map, FinC, resPs, resP, lendPl, lendCs, lendC, sealC, partsT, finHs, tupT, verT, verP, verC, verB, verAt, Blk.ver, handsAre, forall_const, CHT, disj, Nat.reduceBEq, beq_self_eq_true, APT, srcOf, sealPs, sealCs, sealC, List.mem_singleton, forall_eq, ALT, UKr_1, Int.reduceBEq, e0, e3, eH3]
    refine callRc hC2 rfl rfl rfl rfl rfl ⟨rfl, ?_⟩
    simp only [RUN, core, T.c, T.s, T.b, T.i, sBin, sInt, sUn, isShift, asInt, P1.cells, loadT, ptrC, storeT, putC, fillP, Nat.reduceAdd, reduceIte, Nat.reduceEqDiff, Nat.reduceLT, Nat.reduceLeDiff, reduceCtorEq, eq_self, FIT, lendCs_map, verC_map, FinC, resPs, resP, lendPl, lendCs, lendC, sealC, partsT, finHs, tupT, verT, verP, verC, verB, verAt, Blk.ver, handsAre, forall_const, CHT, disj, Nat.reduceBEq, beq_self_eq_true, APT, srcOf, sealPs, sealCs, sealC, List.mem_singleton, forall_eq, ALT, UKr_1, gw]
    refine spoilK_loop4 v bs (p + 1 + 1) N (by omega) ?_ fun t H c h => ?_
    · unfold S4KI
      exact ⟨⟨u3, e3, .inl ⟨rfl, rfl⟩⟩, ⟨u4, e4, eH4⟩, rfl, rfl⟩
    clear e0 e3 eH3 e4 eH4 eH eN1 eN2
    obtain ⟨⟨u3, e3, h3⟩, ⟨u4, e4, eH4⟩, e8, eH⟩ := h
    rcases h3 with ⟨h0, _⟩ | ⟨b, j, hj, eH3, eH54⟩
    · omega
    simp only [T.c, T.i, rdr] at e3 eH3 e4 eH4 eH eH54
    have ew : encK (wrapN N N) = [.s (.int .i64 (if (N - j) % 2 = 0 then 4 else 6)), .sl [], .sl [encK (wrapN N j)]] := by rw [hj, wrapN, encK_mk, encS_nil, ← hj]; simp [encKs]
    generalize (if (N - j) % 2 = 0 then (4 : Int) else 6) = z at eH3 ew
    simp only [RUN, core, T.c, T.s, T.b, T.i, sBin, sInt, sUn, isShift, asInt, P1.cells, loadT, ptrC, storeT, putC, fillP, Nat.reduceAdd, reduceIte, Nat.reduceEqDiff, Nat.reduceLT, Nat.reduceLeDiff, reduceCtorEq, eq_self, FIT, lendCs_map, verC_map, FinC, resPs, resP, lendPl, lendCs, lendC, sealC, partsT, finHs, tupT, verT, verP, verC, verB, verAt, Blk.ver, handsAre, forall_const, CHT, disj, Nat.reduceBEq, beq_self_eq_true, APT, srcOf, sealPs, sealCs, sealC, List.mem_singleton, forall_eq, ALT, rH, rdr, UKr_1, e3, eH3, eH54, e4, eH4, eH, ew, Nat.le_refl]
theorem UKr_2 : (type_of% (uA c38.eq_1)) ∧ (type_of% (uR r38_0.eq_1)) ∧ (type_of% (uA c38_9.eq_1)) ∧ (type_of% (uR r38_1.eq_1)) ∧ (type_of% (uA c38_8.eq_1)) ∧ (type_of% (uA c38_7.eq_1)) ∧ (type_of% (uR r38_2.eq_1)) ∧ (type_of% (uR r38_3.eq_1)) ∧ (type_of% (uR r38_4.eq_1)) ∧ (type_of% (uR r38_5.eq_1)) ∧ (type_of% (uR r38_6.eq_1)) ∧ (type_of% (uR r38_54.eq_1)) ∧ (type_of% s38.eq_1) :=
  ⟨uA c38.eq_1, uR r38_0.eq_1, uA c38_9.eq_1, uR r38_1.eq_1, uA c38_8.eq_1, uA c38_7.eq_1, uR r38_2.eq_1, uR r38_3.eq_1, uR r38_4.eq_1, uR r38_5.eq_1, uR r38_6.eq_1, uR r38_54.eq_1, s38.eq_1⟩
theorem spoilD_ok (v : Nat) (bs : List UInt8) (hb : bs.length ≤ 2000) : ∀ k : Kd, ∀ d, Dp d k → KB 1000 k → ∀ p : Int, 0 ≤ p ∧ p + 10 * d ≤ 800000000000 →
    ∃ (p' : Int) (k' : Kd), p ≤ p' ∧ p' ≤ p + 100 + 102 * d ∧ KB 2000 k' ∧ ACallsF Try.prog 38 [rP v, tK k] [rH v bs p p'] (tK k') := by
  intro k
  induction k using Kd.ind with
  | _ s ns ks ih =>
    intro d hO hB p hp
    obtain ⟨hd1, hK⟩ := hO.inv
    obtain ⟨b1, b2, b3, b4⟩ := hB.inv
    have b3' : ∀ x ∈ ns, x.size ≤ 2000 := fun x hx => by have := b3 x hx; omega
    have b4' : ∀ k ∈ ks, KB 2000 k := fun k hk => (b4 k hk).le (by omega)
    by_cases hl : (ks.length : Int) > 0
    · obtain ⟨n, n0, n1, hC⟩ := pick_ok v bs hb p 3 (by omega) (by omega)
      by_cases hn : n > 0
      · obtain ⟨m, m0, m1, hC2⟩ := pick_ok v bs hb (p + 1) ks.length (by omega) (by omega)
        obtain ⟨i, rfl⟩ : ∃ i : Nat, m = i := ⟨m.toNat, (Int.toNat_of_nonneg m0).symm⟩
        obtain ⟨k, hk⟩ : ∃ k, ks[i]? = some k := ⟨_, List.getElem?_eq_getElem (by omega)⟩
        have hmem := List.mem_of_getElem? hk
        have hO' := hK k hmem
        obtain ⟨p', k', i1, i2, i3, hC3⟩ := ih k hmem (d - 1) hO' (b4 k hmem) (p + 1 + 1) (by omega)
        refine ⟨p', .mk s ns (ks.set i k'), by omega, by omega, .mk _ _ _ (by omega) (by simp; omega) b3' (fun y hy => ?_), ACallsF.intro ok38 follows fun X c0 => ?_⟩
        · rcases List.mem_or_eq_of_mem_set hy with h | h
          · exact b4' y h
          · subst h; exact i3
        have q1 : ks.length * 56 ≤ 140737488355328 := by omega
        have q2 : ks.length ≤ 9223372036854775807 := by omega
        have ek := encKs_at hk
        have hts : List.take ks.length (encKs (ks.set i k')) = encKs (ks.set i k') := List.take_of_length_le (by rw [encKs_len, List.length_set]; exact Nat.le_refl _)
        have gi : (i : Int) < ((ks.length : Nat) : Int) := m1
        have g0 : (0 : Int) ≤ i := m0
        simp only [RUN, core, T.c, T.s, T.b, T.i, sBin, sInt, sUn, isShift, asInt, P1.cells, loadT, ptrC, storeT, putC, fillP, Nat.reduceAdd, reduceIte, Nat.reduceEqDiff, Nat.reduceLT, Nat.reduceLeDiff, reduceCtorEq, eq_self, FIT, lendCs_map, verC_map, FinC, resPs, resP, lendPl, lendCs, lendC, sealC, partsT, finHs, tupT, verT, verP, verC, verB, verAt, Blk.ver, handsAre, forall_const, CHT, disj, Nat.reduceBEq, beq_self_eq_true, APT, srcOf, sealPs, sealCs, sealC, List.mem_singleton, forall_eq, ALT, rH, rdr, UKr_1, encK_mk, encKs_len, hl]
        refine callRc hC rfl rfl rfl rfl rfl ⟨rfl, ?_⟩
        simp only [RUN, core, T.c, T.s, T.b, T.i, sBin, sInt, sUn, isShift, asInt, P1.cells, loadT, ptrC, storeT, putC, fillP, Nat.reduceAdd, reduceIte, Nat.reduceEqDiff, Nat.reduceLT, Nat.reduceLeDiff, reduceCtorEq, eq_self, FIT, lendCs_map, verC_map, FinC, resPs, resP, lendPl, lendCs, lendC, sealC, partsT, finHs, tupT, verT, verP, verC, verB, verAt, Blk.ver, handsAre, forall_const, CHT, disj, Nat.reduceBEq, beq_self_eq_true, APT, srcOf, sealPs, sealCs, sealC, List.mem_singleton, forall_eq, ALT, rH, rdr, UKr_1, encK_mk, encKs_len, hn, q1, q2]
        refine callRc hC2 rfl rfl rfl rfl rfl ⟨rfl, ?_⟩
        simp only [RUN, core, T.c, T.s, T.b, T.i, sBin, sInt, sUn, isShift, asInt, P1.cells, loadT, ptrC, storeT, putC, fillP, Nat.reduceAdd, reduceIte, Nat.reduceEqDiff, Nat.reduceLT, Nat.reduceLeDiff, reduceCtorEq, eq_self, FIT, lendCs_map, verC_map, FinC, resPs, resP, lendPl, lendCs, lendC, sealC, partsT, finHs, tupT, verT, verP, verC, verB, verAt, Blk.ver, handsAre, forall_const, CHT, disj, Nat.reduceBEq, beq_self_eq_true, APT, srcOf, sealPs, sealCs, sealC, List.mem_singleton, forall_eq, ALT, rH, rdr, UKr_1, encK_mk, encKs_len, gi, g0, Int.toNat_natCast, ek, List.length_map, encK_len, takeK]
        refine callRc hC3 rfl rfl (by simp [closedA, closedP, closedC]) (closed_map _) rfl ⟨?_, ?_⟩
        · simp only [RUN, core, T.c, T.s, T.b, T.i, sBin, sInt, sUn, isShift, asInt, P1.cells, loadT, ptrC, storeT, putC, fillP, Nat.reduceAdd, reduceIte, Nat.reduceEqDiff, Nat.reduceLT, Nat.reduceLeDiff, reduceCtorEq, eq_self, FIT, lendCs_map, verC_map, FinC, resPs, resP, lendPl, lendCs, lendC, sealC, partsT, finHs, tupT, verT, verP, verC, verB, verAt, Blk.ver, handsAre, forall_const, CHT, disj, Nat.reduceBEq, beq_self_eq_true]
        simp only [RUN, core, T.c, T.s, T.b, T.i, sBin, sInt, sUn, isShift, asInt, P1.cells, loadT, ptrC, storeT, putC, fillP, Nat.reduceAdd, reduceIte, Nat.reduceEqDiff, Nat.reduceLT, Nat.reduceLeDiff, reduceCtorEq, eq_self, FIT, lendCs_map, verC_map, FinC, resPs, resP, lendPl, lendCs, lendC, sealC, partsT, finHs, tupT, verT, verP, verC, verB, verAt, Blk.ver, handsAre, forall_const, CHT, disj, Nat.reduceBEq, beq_self_eq_true, APT, srcOf, sealPs, sealCs, sealC, List.mem_singleton, forall_eq, ALT, rH, rdr, UKr_1, encK_mk, encKs_len, gi, g0, Int.toNat_natCast, ek, List.length_map, encK_len, takeK, hts]
      · obtain ⟨p', k', i1, i2, i3, hT⟩ := spoilK_tail v bs hb s ns ks hB (p + 1) (by omega)
        refine ⟨p', k', by omega, by omega, i3, ACallsF.intro ok38 follows fun X c0 => ?_⟩
        simp only [RUN, core, T.c, T.s, T.b, T.i, sBin, sInt, sUn, isShift, asInt, P1.cells, loadT, ptrC, storeT, putC, fillP, Nat.reduceAdd, reduceIte, Nat.reduceEqDiff, Nat.reduceLT, Nat.reduceLeDiff, reduceCtorEq, eq_self, FIT, lendCs_map, verC_map, FinC, resPs, resP, lendPl, lendCs, lendC, sealC, partsT, finHs, tupT, verT, verP, verC, verB, verAt, Blk.ver, handsAre, forall_const, CHT, disj, Nat.reduceBEq, beq_self_eq_true, APT, srcOf, sealPs, sealCs, sealC, List.mem_singleton, forall_eq, ALT, rH, rdr, UKr_2, encK_mk, encKs_len, hl]
        refine callRc hC rfl rfl rfl rfl rfl ⟨rfl, ?_⟩
        simp only [RUN, core, T.c, T.s, T.b, T.i, sBin, sInt, sUn, isShift, asInt, P1.cells, loadT, ptrC, storeT, putC, fillP, Nat.reduceAdd, reduceIte, Nat.reduceEqDiff, Nat.reduceLT, Nat.reduceLeDiff, reduceCtorEq, eq_self, FIT, lendCs_map, verC_map, FinC, resPs, resP, lendPl, lendCs, lendC, sealC, partsT, finHs, tupT, verT, verP, verC, verB, verAt, Blk.ver, handsAre, forall_const, CHT, disj, Nat.reduceBEq, beq_self_eq_true, APT, srcOf, sealPs, sealCs, sealC, List.mem_singleton, forall_eq, ALT, rH, rdr, UKr_2, hn]
        exact hT X _ _ _ p rfl ⟨_, rfl, rfl⟩ ⟨_, rfl, rfl⟩ rfl rfl rfl
    · obtain ⟨p', k', i1, i2, i3, hT⟩ := spoilK_tail v bs hb s ns ks hB p (by omega)
      refine ⟨p', k', by omega, by omega, i3, ACallsF.intro ok38 follows fun X c0 => ?_⟩
      simp only [RUN, core, T.c, T.s, T.b, T.i, sBin, sInt, sUn, isShift, asInt, P1.cells, loadT, ptrC, storeT, putC, fillP, Nat.reduceAdd, reduceIte, Nat.reduceEqDiff, Nat.reduceLT, Nat.reduceLeDiff, reduceCtorEq, eq_self, FIT, lendCs_map, verC_map, FinC, resPs, resP, lendPl, lendCs, lendC, sealC, partsT, finHs, tupT, verT, verP, verC, verB, verAt, Blk.ver, handsAre, forall_const, CHT, disj, Nat.reduceBEq, beq_self_eq_true, APT, srcOf, sealPs, sealCs, sealC, List.mem_singleton, forall_eq, ALT, rH, rdr, UKr_2, encK_mk, encKs_len, hl]
      exact hT X _ _ _ p rfl ⟨_, rfl, rfl⟩ ⟨_, rfl, rfl⟩ rfl rfl rfl
theorem KOk.dp {d : Nat} {k : Kd} (h : KOk d k) : Dp (7 - d) k := by
  induction h with
  | mk d s ns ks h1 _ _ ih =>
    have e : 7 - d = (7 - (d + 1)) + 1 := by omega
    rw [e]; exact .mk _ _ _ _ ih
theorem spoilK_ok (v : Nat) (bs : List UInt8) (hb : bs.length ≤ 2000) (k : Kd) (d : Nat) (hO : KOk d k) (hB : KB 1000 k) (p : Int) (hp : 0 ≤ p ∧ p ≤ 790000000000) :
    ∃ (p' : Int) (k' : Kd), p ≤ p' ∧ p' ≤ p + 1000 - 102 * d ∧ KB 2000 k' ∧ ACallsF Try.prog 38 [rP v, tK k] [rH v bs p p'] (tK k') := by
  have hd : d ≤ 6 := by cases k; exact hO.inv.1
  obtain ⟨p', k', h1, h2, h3, h4⟩ := spoilD_ok v bs hb k (7 - d) hO.dp hB p (by omega)
  exact ⟨p', k', h1, by omega, h3, h4⟩
end Go.V
set_option linter.unusedSimpArgs false
namespace Go.V
open Go.Proofs
/- loop.example/teagle/spec.l6Open -/
def r33_0 : List AOper := [ao 0 2 (.mv (.k (.s (.pointer none))))]
def r33_1 : List AOper := [ao 0 3 (.mv (.t 0)),
  ao 1 4 (.len (.t 3)),
  ao 2 5 (.bin .gtr (.t 4) (.k (.i 2000)))]
def r33_2 : List AOper := [ao 0 6 (.mv (.t 0)),
  ao 1 7 (.slc 1 (.t 6) none (some (.k (.i 2000)))),
  ao 2 0 (.mv (.t 7))]
def c33_3 : ACode := .cond (.t 5) (.reg r33_2) .skip
def c33_4 : ACode := .seq (.reg r33_1) c33_3
def r33_5 : List AOper := [ao 0 8 (.mv (.t 0)),
  ao 1 9 (.build [.nil0, (.v (.s (.int .i64 0)))] [(0, 1, (.t 8))]),
  ao 2 10 (.box 85 (.t 9)),
  ao 3 2 (.mv (.t 10))]
def c33 : ACode := .seq (.reg r33_0) (.seq c33_4 (.seq (.reg r33_5) .ret))
def s33 : List ARes := [.tmp 2]
theorem ok33 : okF Try.prog 33 11 c33 s33 := ⟨Try.f33, Try.func33, Try.ntmps33, by kernel_rfl, by kernel_rfl, by kernel_rfl⟩
theorem encB_all1 (bs : List UInt8) : (∀ e ∈ encB bs, e.length = 1) = True := eq_true fun e he => by simp only [encB, List.mem_map] at he; obtain ⟨_, _, rfl⟩ := he; rfl
theorem take_encB (bs : List UInt8) (n : Nat) : (encB bs).take n = encB (bs.take n) := by simp [encB, List.map_take]
theorem UKv_1 : (type_of% (uA c33.eq_1)) ∧ (type_of% (uR r33_0.eq_1)) ∧ (type_of% (uA c33_4.eq_1)) ∧ (type_of% (uR r33_1.eq_1)) ∧ (type_of% (uA c33_3.eq_1)) ∧ (type_of% (uR r33_2.eq_1)) ∧ (type_of% (uR r33_5.eq_1)) ∧ (type_of% s33.eq_1) :=
  ⟨uA c33.eq_1, uR r33_0.eq_1, uA c33_4.eq_1, uR r33_1.eq_1, uA c33_3.eq_1, uR r33_2.eq_1, uR r33_5.eq_1, s33.eq_1⟩
theorem open_ok (bs : List UInt8) : ACallsF Try.prog 33 [.c (.v (.sl (encB bs)))] [⟨10, 1000, none, rdr 0 (bs.take 2000) 0, false⟩] (.c (.ptr 10 0 0)) := by
  refine ACallsF.intro ok33 follows fun X c0 => ?_
  by_cases h : (bs.length : Int) > 2000
  · have h0 : (0 : Int) ≤ 2000 := by omega
    have h1 : (2000 : Int) ≤ bs.length := by omega
    simp only [RUN, core, T.c, T.s, T.b, T.i, sBin, sInt, sUn, isShift, asInt, P1.cells, loadT, ptrC, storeT, putC, fillP, Nat.reduceAdd, reduceIte, Nat.reduceEqDiff, Nat.reduceLT, Nat.reduceLeDiff, reduceCtorEq, eq_self, FIT, lendCs_map, verC_map, FinC, resPs, resP, lendPl, lendCs, lendC, sealC, partsT, finHs, tupT, verT, verP, verC, verB, verAt, Blk.ver, handsAre, forall_const, CHT, disj, Nat.reduceBEq, beq_self_eq_true, APT, srcOf, sealPs, sealCs, sealC, List.mem_singleton, forall_eq, ALT, UKv_1, encB_len, h, lohi, h0, h1, encB_all1, Int.reduceToNat, Nat.sub_zero, take_encB, rdr, Int.le_refl, List.drop_zero]
    exact id
  · have ht : bs.take 2000 = bs := List.take_of_length_le (by omega)
    simp only [RUN, core, T.c, T.s, T.b, T.i, sBin, sInt, sUn, isShift, asInt, P1.cells, loadT, ptrC, storeT, putC, fillP, Nat.reduceAdd, reduceIte, Nat.reduceEqDiff, Nat.reduceLT, Nat.reduceLeDiff, reduceCtorEq, eq_self, FIT, lendCs_map, verC_map, FinC, resPs, resP, lendPl, lendCs, lendC, sealC, partsT, finHs, tupT, verT, verP, verC, verB, verAt, Blk.ver, handsAre, forall_const, CHT, disj, Nat.reduceBEq, beq_self_eq_true, APT, srcOf, sealPs, sealCs, sealC, List.mem_singleton, forall_eq, ALT, UKv_1, encB_len, h, ht, rdr]
    exact id
/-- A call of l6Open. -/
theorem callOpen {t : Nat → T} {H : HMap} {c : Nat} {f : Opd} {args : List Opd} {bs : List UInt8} {k : Nat} {d : Option Nat} {un : List Nat} {l : List AOper} {prev : List (Nat × List Nat × List Nat)} {K : St → Prop}
    (hf : ev t f = .pt (.one (.fn 33 []))) (hl : args.map (ev t) = [.c (.v (.sl (encB bs)))])
    (hk : chk prev un ⟨rP (c + k), [(1000, rdr (c + k) (bs.take 2000) 0)], [1000], [1000]⟩ = true ∧ DRun Try.prog l ((k, [1000], [1000]) :: prev) K ⟨updD t d (rP (c + k)), upd H 1000 (some (rdr (c + k) (bs.take 2000) 0)), c⟩) :
    step Try.prog k d un (.call f args) l prev K t H c :=
  callW (r' := rP (c + k)) (ob := [(1000, rdr (c + k) (bs.take 2000) 0)]) [⟨10, 1000, none, rdr 0 (bs.take 2000) 0, false⟩] (open_ok bs) hf (show lendTs H [.c (.v (.sl (encB bs)))] (args.map (ev t) ++ [].map capT) = some ([.c (.v (.sl (encB bs)))], [], []) from by rw [hl]; rfl) rfl (by simp [handsIn]) (by simp) (by simp) rfl rfl hk

theorem closedC_rep {w : World} {imm : Imm} {H H' : HMap} {L L' : Locs} {U U' : Nat → Prop} {x : Value} {c : C} (hc : closedC c = true) (h : CRep w imm H L U x c) : CRep w imm H' L' U' x c := by
  cases c <;> simp [closedC] at hc
  exact h
theorem closedCs_rep {w : World} {imm : Imm} {H H' : HMap} {L L' : Locs} {U U' : Nat → Prop} {xs : List Value} {cs : List C} (hc : cs.all closedC = true) (h : CsRep w imm H L U xs cs) : CsRep w imm H' L' U' xs cs :=
  ⟨h.1, fun k x y hx hy => closedC_rep (List.all_eq_true.1 hc y (List.mem_of_getElem? hy)) (h.2 k x y hx hy)⟩
theorem closedP_rep {w : World} {imm : Imm} {H H' : HMap} {L L' : Locs} {U U' : Nat → Prop} {x : Value} {p : P1} (hc : closedP p = true) (h : PRep w imm H L U x p) : PRep w imm H' L' U' x p := by
  cases p with
  | one c => exact closedC_rep hc h
  | agg cs => obtain ⟨xs, hx, h⟩ := h; exact ⟨xs, hx, closedCs_rep hc h⟩
theorem closedT_rep {w : World} {imm : Imm} {H H' : HMap} {L L' : Locs} {U U' : Nat → Prop} {x : Value} {t : T} (hc : closedT t = true) (h : TRep w imm H L U x t) : TRep w imm H' L' U' x t := by
  cases t with
  | junk => trivial
  | undef => exact h
  | pt p => exact closedP_rep hc h
  | tup ps => obtain ⟨xs, hx, hl, h⟩ := h; exact ⟨xs, hx, hl, fun k u y hu hy => closedP_rep (List.all_eq_true.1 hc y (List.mem_of_getElem? hy)) (h k u y hu hy)⟩
theorem closedC_ver (ν : Nat → Nat) {c : C} (hc : closedC c = true) : verC ν c = c := by cases c <;> simp [closedC] at hc; rfl
theorem closedCs_ver (ν : Nat → Nat) {cs : List C} (hc : cs.all closedC = true) : cs.map (verC ν) = cs := by
  conv => rhs; rw [← List.map_id cs]
  exact List.map_congr_left fun c h => closedC_ver ν (List.all_eq_true.1 hc c h)
theorem closedP_ver (ν : Nat → Nat) {p : P1} (hc : closedP p = true) : verP ν p = p := by
  cases p with
  | one c => exact congrArg P1.one (closedC_ver ν hc)
  | agg cs => exact congrArg P1.agg (closedCs_ver ν hc)
theorem closedT_ver (ν : Nat → Nat) {t : T} (hc : closedT t = true) : verT ν t = t := by
  cases t with
  | junk => rfl
  | undef => rfl
  | pt p => exact congrArg T.pt (closedP_ver ν hc)
  | tup ps =>
    refine congrArg T.tup ?_
    conv => rhs; rw [← List.map_id ps]
    exact List.map_congr_left fun c h => closedP_ver ν (List.all_eq_true.1 hc c h)
theorem hin_r (v : Nat) (bs : List UInt8) (p p' : Int) (n : Nat) : hinOf [rH v bs p p'] n = if n = 1000 then some (rdr v bs p) else none := by
  simp only [hinOf, renN, List.find?]
  by_cases h : n = 1000
  · subst h; simp
  · have : (1000 == n) = false := beq_eq_false_iff_ne.2 fun e => h e.symm
    simp [this, h]
/-- The mark of the reader's version is of no matter. -/
theorem anyV {P : Program} {f : FuncId} {v : Nat} {bs : List UInt8} {p p' : Int} {args : List T} {r : T} (hC : ACallsF P f (rP v :: args) [rH v bs p p'] r) (ha : args.all closedA = true) (hr : closedT r = true) (v' : Nat) : ACallsF P f (rP v' :: args) [rH v' bs p p'] r := by
  obtain ⟨hfn, hA⟩ := hC
  refine ⟨hfn, fun w imm L c vs hH hT => ?_⟩
  have hrd : ∀ (_ : Nat) (p : Int), ([C.v (.sl (encB bs)), .v (.s (.int .i64 p))].all closedC) = true := fun _ _ => rfl
  have hfoot : foot (hinOf [rH v bs p p']) L = foot (hinOf [rH v' bs p p']) L := by
    funext b
    simp only [foot, hin_r]
    apply propext
    constructor <;> rintro ⟨n, h1, h2⟩ <;> refine ⟨n, ?_, h2⟩ <;> by_cases h : n = 1000 <;> simp [h] at h1 ⊢
  have hB0 := hH.blk 1000 (rdr v' bs p) (by simp [hin_r])
  obtain ⟨hv', g, cur, hL, hg, hcs, himm⟩ := hB0
  have hH1 : HOk w imm (hinOf [rH v bs p p']) L (· < max c (v + 1)) := by
    refine ⟨fun n B hB => ?_, fun n m g hn hm => ?_, hH.imm⟩
    · rw [hin_r] at hB
      split at hB
      · rename_i hn; subst hn; cases hB
        exact ⟨by omega, g, cur, hL, hg, closedCs_rep (hrd v p) hcs, himm⟩
      · cases hB
    · rw [hin_r] at hn hm
      have e1 : n = 1000 := by by_cases h : n = 1000; exact h; simp [h] at hn
      have e2 : m = 1000 := by by_cases h : m = 1000; exact h; simp [h] at hm
      intro _ _; rw [e1, e2]
  have hT1 : TsRep w imm (hinOf [rH v bs p p']) L (· < max c (v + 1)) vs (rP v :: args) := by
    refine ⟨by simpa using hT.1, fun k x y hx hy => ?_⟩
    cases k with
    | zero =>
      simp at hy; subst hy
      obtain ⟨h1, h2, h3⟩ := (show CRep w imm _ L (· < c) x (.ptr 1000 v' 0) from hT.2 0 x (rP v') hx (by simp))
      refine ⟨by omega, h2, fun ty cs hB => ?_⟩
      rw [hin_r] at hB
      exact h3 85 [.v (.sl (encB bs)), .v (.s (.int .i64 p))] (by rw [hin_r]; rfl)
    | succ k =>
      have hy' : args[k]? = some y := by simpa using hy
      have hcl := List.all_eq_true.1 ha y (List.mem_of_getElem? hy')
      have := hT.2 (k + 1) x y hx (by simpa using hy')
      cases y with
      | pt q => exact closedP_rep hcl this
      | junk => simp [closedA] at hcl
      | undef => simp [closedA] at hcl
      | tup ps => simp [closedA] at hcl
  refine (hA w imm L (max c (v + 1)) vs hH1 hT1).mono fun e w' h => ?_
  obtain ⟨x, r1, h, imm', L', c', he, ⟨ν, hr1, hh⟩, hx, hH', hS, hN, hE⟩ := h
  obtain ⟨h1, h2⟩ := hh 1000 (rH v bs p p') (by simp [renN])
  obtain ⟨b, hb, h2⟩ := h2 rfl
  cases hb
  have hνv : ν 1000 = v := h2
  have h1' : h 1000 = some (rdr v bs p') := by rw [h1, hνv]; rfl
  obtain ⟨_, g', cur', hL', hg', hcs', himm'⟩ := hH'.blk 1000 _ h1'
  have hcc : v' < c' := hE.use v' (by omega)
  let h3 : HMap := fun n => if n = 1000 then some (rdr v' bs p') else none
  have e3 : ∀ n B, h3 n = some B → n = 1000 ∧ B = rdr v' bs p' := by
    intro n B hB
    by_cases hn : n = 1000
    · simp [h3, hn] at hB; exact ⟨hn, hB.symm⟩
    · simp [h3, hn] at hB
  have e4 : ∀ n, h3 n ≠ none → n = 1000 := by
    intro n hn
    by_cases h : n = 1000
    · exact h
    · simp [h3, h] at hn
  have hE1 := hE.var 1000 v 85 [.v (.sl (encB bs)), .v (.s (.int .i64 p'))] (by omega) h1'
  obtain ⟨_, _, _, hLL⟩ := hE1
  refine ⟨x, r, h3, imm', L', c', he, ⟨fun _ => v', (closedT_ver _ hr).symm, fun n q hn => ?_⟩, closedT_rep hr (by rw [hr1, closedT_ver ν hr] at hx; exact hx), ⟨fun n B hB => ?_, fun n m g hn hm _ _ => (e4 n hn).trans (e4 m hm).symm, hH'.imm⟩, hfoot ▸ hS, ?_, ?_⟩
  · simp only [renN, List.find?] at hn
    split at hn
    · cases hn
      rename_i h1000
      have : n = 1000 := (beq_iff_eq.1 h1000).symm
      subst this
      exact ⟨rfl, fun _ => ⟨_, rfl, rfl⟩⟩
    · cases hn
  · obtain ⟨rfl, rfl⟩ := e3 n B hB
    exact ⟨hcc, g', cur', hL', hg', closedCs_rep (hrd v p') hcs', himm'⟩
  · intro n g hn hg
    have := e4 n hn
    subst this
    rw [← hfoot]
    exact hN 1000 g (by rw [h1']; simp) hg
  · refine ⟨fun u hu => hE.use u (by omega), fun n ver ty cs hu hB => ?_, fun n ver wr st ty es hu hB => ?_, fun n ver wr st ty es g cur hu hB => ?_⟩
    · obtain ⟨rfl, hB2⟩ := e3 n _ hB
      cases hB2
      exact ⟨85, _, by rw [hin_r]; rfl, hLL⟩
    · obtain ⟨_, hB2⟩ := e3 n _ hB; cases hB2
    · obtain ⟨_, hB2⟩ := e3 n _ hB; cases hB2
/- loop.example/teagle/spec.DrawKindWay -/
def r9_0 : List AOper := [ao 0 2 (.box 26 (.t 0)),
  ao 1 4 (.alloc 26 [(.v (.s (.int .i64 0))), .nil0, .nil0])]
def r9_1 : List AOper := [ao 0 8 (.mv (.t 1)),
  ao 1 9 (.call (.k (.c (.fn 33 []))) [(.t 8)]),
  ao 2 5 (.mv (.t 9))]
def r9_2 : List AOper := [ao 0 10 (.ld 3 true (.t 2)),
  ao 1 11 (.call (.k (.c (.fn 25 []))) [(.t 10)]),
  ao 2 12 (.un .not (.t 11))]
def r9_3 : List AOper := [ao 0 13 (.ld 3 true (.t 2)),
  an 1 (.st 3 (.t 4) (.t 13))]
def c9_4 : ACode := .seq (.reg r9_3) .ret
def c9_5 : ACode := .cond (.t 12) c9_4 .skip
def c9_6 : ACode := .seq (.reg r9_2) c9_5
def r9_7 : List AOper := [ao 0 6 (.mv (.k (.i 0)))]
def r9_8 : List AOper := [ao 0 14 (.mv (.t 6)),
  ao 1 15 (.bin .lss (.t 14) (.k (.i 3)))]
def c9_9 : ACode := .cond (.t 15) .skip (.exit 0)
def c9_10 : ACode := .seq (.reg r9_8) c9_9
def r9_11 : List AOper := [ao 0 18 (.mv (.t 5)),
  ao 1 19 (.ld 3 true (.t 2)),
  ao 2 20 (.call (.k (.c (.fn 40 []))) [(.t 18), (.t 19)]),
  ao 3 7 (.alloc 26 [(.v (.s (.int .i64 0))), .nil0, .nil0]),
  an 4 (.st 3 (.t 7) (.t 20))]
def r9_12 : List AOper := [ao 0 21 (.ld 3 true (.t 7)),
  ao 1 22 (.call (.k (.c (.fn 25 []))) [(.t 21)])]
def r9_13 : List AOper := [ao 0 23 (.ld 3 true (.t 7)),
  an 1 (.st 3 (.t 4) (.t 23))]
def c9_14 : ACode := .seq (.reg r9_13) .ret
def c9_15 : ACode := .cond (.t 22) c9_14 .skip
def c9_16 : ACode := .seq (.reg r9_11) (.seq (.reg r9_12) c9_15)
def c9_17 : ACode := .block 1 c9_16
def r9_18 : List AOper := [ao 0 16 (.mv (.t 6)),
  ao 1 17 (.bin .add (.t 16) (.k (.i 1))),
  ao 2 6 (.mv (.t 17))]
def c9_19 : ACode := .seq c9_10 (.seq c9_17 (.reg r9_18))
def c9_20 : ACode := .loop c9_19
def c9_21 : ACode := .block 0 c9_20
def c9_22 : ACode := .seq (.reg r9_7) c9_21
def r9_23 : List AOper := [ao 0 24 (.ld 3 true (.t 2)),
  an 1 (.st 3 (.t 4) (.t 24))]
def c9 : ACode := .seq (.reg r9_0) (.seq (.reg r9_1) (.seq c9_6 (.seq c9_22 (.seq (.reg r9_23) .ret))))
def s9 : List ARes := [.cell 4 3 true]
theorem ok9 : okF Try.prog 9 25 c9 s9 := ⟨Try.f9, Try.func9, Try.ntmps9, by kernel_rfl, by kernel_rfl, by kernel_rfl⟩
def inv9 (v : Nat) (bs : List UInt8) (a : Kd) (f : Nat → Int × Option Kd) (i : Nat) (σ : St) : Prop :=
  badK f i ∧ (∃ u, σ.t 2 = .c (.ptr 2 u 0) ∧ σ.H 2 = some (.var u 26 ((encK a).map .v))) ∧ (∃ u, σ.t 4 = .c (.ptr 4 u 0) ∧ σ.H 4 = some (.var u 26 [.v (.s (.int .i64 0)), .nil0, .nil0])) ∧ σ.t 5 = rP v ∧ σ.t 6 = .i i ∧ σ.H 1000 = some (rdr v bs (f i).1)
theorem partsL_len (ks : List Kd) : ks.length ≤ partsL ks := by
  induction ks with
  | nil => simp
  | cons x xs ih => have := parts_pos x; simp only [partsL, List.length_cons]; omega
theorem nameOk_size {s : ByteArray} (h : nameOk s = true) : s.size ≤ 8 := by
  simp only [nameOk, Bool.and_eq_true, decide_eq_true_eq] at h
  exact h.1.1.2
theorem KOk_KB : ∀ (k : Kd) (d : Nat), KOk d k → parts k ≤ 1000 → KB 1000 k := by
  intro k
  induction k using Kd.ind with
  | _ s ns ks ih =>
    intro d h hp
    obtain ⟨h1, h2, h3⟩ := h.inv
    simp only [parts] at hp
    have hl := partsL_len ks
    refine .mk _ _ _ ?_ (by omega) ?_ fun k hk => ih k hk (d + 1) (h3 k hk) (by have := partsL_mem hk; omega)
    · by_cases h5 : s = 5
      · have := (h2.form h5).1; omega
      · have := h2.other h5; omega
    · intro x hx
      by_cases h5 : s = 5
      · obtain ⟨i, hi⟩ := List.mem_iff_getElem?.1 hx
        have := nameOk_size ((rise_true.1 (h2.form h5).2) i x hi).1
        omega
      · have := h2.other h5
        rw [List.length_eq_zero_iff.1 this] at hx; cases hx
theorem okK_KB {k : Kd} (h : okK k = true) : KB 1000 k := KOk_KB k 1 (okK_true.1 h).1 (by have := (okK_true.1 h).2; omega)
theorem UKv_2 : (type_of% (uA c9.eq_1)) ∧ (type_of% (uR r9_0.eq_1)) ∧ (type_of% (uR r9_1.eq_1)) ∧ (type_of% (uA c9_6.eq_1)) ∧ (type_of% (uR r9_2.eq_1)) ∧ (type_of% (uA c9_5.eq_1)) ∧ (type_of% (uA c9_4.eq_1)) ∧ (type_of% (uR r9_3.eq_1)) ∧ (type_of% (uA c9_22.eq_1)) ∧ (type_of% (uR r9_7.eq_1)) ∧ (type_of% (uA c9_21.eq_1)) ∧ (type_of% (uA c9_20.eq_1)) ∧ (type_of% (uR r9_23.eq_1)) ∧ (type_of% s9.eq_1) :=
  ⟨uA c9.eq_1, uR r9_0.eq_1, uR r9_1.eq_1, uA c9_6.eq_1, uR r9_2.eq_1, uA c9_5.eq_1, uA c9_4.eq_1, uR r9_3.eq_1, uA c9_22.eq_1, uR r9_7.eq_1, uA c9_21.eq_1, uA c9_20.eq_1, uR r9_23.eq_1, s9.eq_1⟩
theorem UKv_3 : (type_of% (uA c9_19.eq_1)) ∧ (type_of% (uA c9_10.eq_1)) ∧ (type_of% (uR r9_8.eq_1)) ∧ (type_of% (uA c9_9.eq_1)) ∧ (type_of% (uA c9_17.eq_1)) ∧ (type_of% (uA c9_16.eq_1)) ∧ (type_of% (uR r9_11.eq_1)) ∧ (type_of% (uR r9_12.eq_1)) ∧ (type_of% (uA c9_15.eq_1)) ∧ (type_of% (uA c9_14.eq_1)) ∧ (type_of% (uR r9_13.eq_1)) ∧ (type_of% (uR r9_18.eq_1)) ∧ (type_of% (uA c9.eq_1)) ∧ (type_of% (uR r9_0.eq_1)) ∧ (type_of% (uR r9_1.eq_1)) ∧ (type_of% (uA c9_6.eq_1)) ∧ (type_of% (uR r9_2.eq_1)) ∧ (type_of% (uA c9_5.eq_1)) ∧ (type_of% (uA c9_4.eq_1)) ∧ (type_of% (uR r9_3.eq_1)) ∧ (type_of% (uA c9_22.eq_1)) ∧ (type_of% (uR r9_7.eq_1)) ∧ (type_of% (uA c9_21.eq_1)) ∧ (type_of% (uA c9_20.eq_1)) ∧ (type_of% (uR r9_23.eq_1)) ∧ (type_of% s9.eq_1) :=
  ⟨uA c9_19.eq_1, uA c9_10.eq_1, uR r9_8.eq_1, uA c9_9.eq_1, uA c9_17.eq_1, uA c9_16.eq_1, uR r9_11.eq_1, uR r9_12.eq_1, uA c9_15.eq_1, uA c9_14.eq_1, uR r9_13.eq_1, uR r9_18.eq_1, uA c9.eq_1, uR r9_0.eq_1, uR r9_1.eq_1, uA c9_6.eq_1, uR r9_2.eq_1, uA c9_5.eq_1, uA c9_4.eq_1, uR r9_3.eq_1, uA c9_22.eq_1, uR r9_7.eq_1, uA c9_21.eq_1, uA c9_20.eq_1, uR r9_23.eq_1, s9.eq_1⟩
theorem way_ok (bs0 : List UInt8) (a : Kd) (hB : KB 2000 a) : ∃ k, KB 2000 k ∧ ACallsF Try.prog 9 [tK a, .c (.v (.sl (encB bs0)))] [] (tK k) := by
  cases hOa : okK a with
  | false =>
    refine ⟨a, hB, ACallsF.intro ok9 follows fun X c0 => ?_⟩
    simp only [RUN, core, T.c, T.s, T.b, T.i, sBin, sInt, sUn, isShift, asInt, P1.cells, loadT, ptrC, storeT, putC, fillP, Nat.reduceAdd, reduceIte, Nat.reduceEqDiff, Nat.reduceLT, Nat.reduceLeDiff, reduceCtorEq, eq_self, FIT, lendCs_map, verC_map, FinC, resPs, resP, lendPl, lendCs, lendC, sealC, partsT, finHs, tupT, verT, verP, verC, verB, verAt, Blk.ver, handsAre, forall_const, CHT, disj, Nat.reduceBEq, beq_self_eq_true, APT, srcOf, sealPs, sealCs, sealC, List.mem_singleton, forall_eq, ALT, UKv_2, rdr]
    refine callOpen rfl rfl ⟨rfl, ?_⟩
    simp only [RUN, core, T.c, T.s, T.b, T.i, sBin, sInt, sUn, isShift, asInt, P1.cells, loadT, ptrC, storeT, putC, fillP, Nat.reduceAdd, reduceIte, Nat.reduceEqDiff, Nat.reduceLT, Nat.reduceLeDiff, reduceCtorEq, eq_self, FIT, lendCs_map, verC_map, FinC, resPs, resP, lendPl, lendCs, lendC, sealC, partsT, finHs, tupT, verT, verP, verC, verB, verAt, Blk.ver, handsAre, forall_const, CHT, disj, Nat.reduceBEq, beq_self_eq_true, APT, srcOf, sealPs, sealCs, sealC, List.mem_singleton, forall_eq, ALT, UKv_2, rdr, List.length_map, encK_len, takeK, Nat.le_refl]
    refine callC (kindOkS_ok a (hB.le (by omega))) rfl rfl (by simp [closedA, closedP, closedC]) rfl ?_
    simp only [RUN, core, T.c, T.s, T.b, T.i, sBin, sInt, sUn, isShift, asInt, P1.cells, loadT, ptrC, storeT, putC, fillP, Nat.reduceAdd, reduceIte, Nat.reduceEqDiff, Nat.reduceLT, Nat.reduceLeDiff, reduceCtorEq, eq_self, FIT, lendCs_map, verC_map, FinC, resPs, resP, lendPl, lendCs, lendC, sealC, partsT, finHs, tupT, verT, verP, verC, verB, verAt, Blk.ver, handsAre, forall_const, CHT, disj, Nat.reduceBEq, beq_self_eq_true, APT, srcOf, sealPs, sealCs, sealC, List.mem_singleton, forall_eq, ALT, UKv_2, hOa, List.length_map, encK_len, takeK, Nat.le_refl]
  | true =>
    have hOk := okK_true.1 hOa
    have hbt : (bs0.take 2000).length ≤ 2000 := by rw [List.length_take]; omega
    have hBa := okK_KB hOa
    obtain ⟨f, f0, f1, f2⟩ := trace (fun i (s : Int × Option Kd) => 0 ≤ s.1 ∧ s.1 ≤ i * 4000000) (fun _ => PairStep 0 (bs0.take 2000) a) (0, none) ⟨Int.le_refl _, by simp⟩ 3 (by
      rintro i hi ⟨q, o⟩ ⟨g1, g2⟩
      simp only at g1 g2
      obtain ⟨p', k, i1, i2, i3, i4⟩ := wider_ok 0 (bs0.take 2000) hbt a 1 hOk.1 hBa q ⟨by omega, by omega⟩
      exact ⟨(p', some k), ⟨p', k, i4, i3.1, rfl⟩, by simp only; omega, by simp only; omega⟩)
    obtain ⟨m, K, hm, hBK, hOK, hres, hend⟩ := retry 3 f (KB 1000) (fun i hi => by obtain ⟨p', k, _, h2, h3⟩ := f2 i hi; exact ⟨k, by rw [h3], h2⟩) a hBa hOa
    refine ⟨K, hBK.le (by omega), ACallsF.intro ok9 follows fun X c0 => ?_⟩
    simp only [RUN, core, T.c, T.s, T.b, T.i, sBin, sInt, sUn, isShift, asInt, P1.cells, loadT, ptrC, storeT, putC, fillP, Nat.reduceAdd, reduceIte, Nat.reduceEqDiff, Nat.reduceLT, Nat.reduceLeDiff, reduceCtorEq, eq_self, FIT, lendCs_map, verC_map, FinC, resPs, resP, lendPl, lendCs, lendC, sealC, partsT, finHs, tupT, verT, verP, verC, verB, verAt, Blk.ver, handsAre, forall_const, CHT, disj, Nat.reduceBEq, beq_self_eq_true, APT, srcOf, sealPs, sealCs, sealC, List.mem_singleton, forall_eq, ALT, UKv_2, rdr]
    refine callOpen rfl rfl ⟨rfl, ?_⟩
    simp only [RUN, core, T.c, T.s, T.b, T.i, sBin, sInt, sUn, isShift, asInt, P1.cells, loadT, ptrC, storeT, putC, fillP, Nat.reduceAdd, reduceIte, Nat.reduceEqDiff, Nat.reduceLT, Nat.reduceLeDiff, reduceCtorEq, eq_self, FIT, lendCs_map, verC_map, FinC, resPs, resP, lendPl, lendCs, lendC, sealC, partsT, finHs, tupT, verT, verP, verC, verB, verAt, Blk.ver, handsAre, forall_const, CHT, disj, Nat.reduceBEq, beq_self_eq_true, APT, srcOf, sealPs, sealCs, sealC, List.mem_singleton, forall_eq, ALT, UKv_2, rdr, List.length_map, encK_len, takeK, Nat.le_refl]
    refine callC (kindOkS_ok a (hB.le (by omega))) rfl rfl (by simp [closedA, closedP, closedC]) rfl ?_
    simp only [RUN, core, T.c, T.s, T.b, T.i, sBin, sInt, sUn, isShift, asInt, P1.cells, loadT, ptrC, storeT, putC, fillP, Nat.reduceAdd, reduceIte, Nat.reduceEqDiff, Nat.reduceLT, Nat.reduceLeDiff, reduceCtorEq, eq_self, FIT, lendCs_map, verC_map, FinC, resPs, resP, lendPl, lendCs, lendC, sealC, partsT, finHs, tupT, verT, verP, verC, verB, verAt, Blk.ver, handsAre, forall_const, CHT, disj, Nat.reduceBEq, beq_self_eq_true, APT, srcOf, sealPs, sealCs, sealC, List.mem_singleton, forall_eq, ALT, UKv_2, hOa, List.length_map, encK_len, takeK, Nat.le_refl]
    generalize hv : c0 + 2 + 1 = v
    refine AW.upto 3 (inv9 v (bs0.take 2000) a f) ?_ fun i t H c hi h => ?_
    · unfold inv9
      rw [f0]
      exact ⟨fun j _ hj => absurd hj (Nat.not_lt_zero j), ⟨_, rfl, rfl⟩, ⟨_, rfl, rfl⟩, rfl, rfl, rfl⟩
    obtain ⟨g0, ⟨u2, e2, eH2⟩, ⟨u4, e4, eH4⟩, e5, e6, eH⟩ := h
    simp only [T.c, T.i, rdr] at e2 eH2 e4 eH4 e5 e6 eH
    by_cases hlt : i < 3
    · have k1 : (i : Int) < 3 := by omega
      have gw : IntKind.i64.wrap ((i : Int) + 1) = ((i + 1 : Nat) : Int) := wrap64 (x := (i : Int) + 1) ⟨by omega, by omega⟩
      obtain ⟨q, k, hC2, hBk, he⟩ := f2 i hlt
      have hC2 := anyV hC2 (by simp [closedA, closedP, closedC]) (closed_map _) v
      have hf2 : (f (i + 1)).2 = some k := by rw [he]
      have hf1 : (f (i + 1)).1 = q := by rw [he]
      simp only [RUN, core, T.c, T.s, T.b, T.i, sBin, sInt, sUn, isShift, asInt, P1.cells, loadT, ptrC, storeT, putC, fillP, Nat.reduceAdd, reduceIte, Nat.reduceEqDiff, Nat.reduceLT, Nat.reduceLeDiff, reduceCtorEq, eq_self, FIT, lendCs_map, verC_map, FinC, resPs, resP, lendPl, lendCs, lendC, sealC, partsT, finHs, tupT, verT, verP, verC, verB, verAt, Blk.ver, handsAre, forall_const, UKv_3, e5, e6, e2, eH2, k1, List.length_map, encK_len, takeK, Nat.le_refl]
      refine callRc hC2 rfl rfl (by simp [closedA, closedP, closedC]) (closed_map _) eH ⟨rfl, ?_⟩
      simp only [RUN, core, T.c, T.s, T.b, T.i, sBin, sInt, sUn, isShift, asInt, P1.cells, loadT, ptrC, storeT, putC, fillP, Nat.reduceAdd, reduceIte, Nat.reduceEqDiff, Nat.reduceLT, Nat.reduceLeDiff, reduceCtorEq, eq_self, FIT, lendCs_map, verC_map, FinC, resPs, resP, lendPl, lendCs, lendC, sealC, partsT, finHs, tupT, verT, verP, verC, verB, verAt, Blk.ver, handsAre, forall_const, UKv_3, List.length_map, encK_len, takeK, Nat.le_refl]
      refine callC (kindOkS_ok k (hBk.le (by omega))) rfl rfl (by simp [closedA, closedP, closedC]) rfl ?_
      cases hk : okK k with
      | true =>
        obtain ⟨r1, r2⟩ := hres i k hlt g0 hf2 hk
        subst r1 r2
        simp only [RUN, core, T.c, T.s, T.b, T.i, sBin, sInt, sUn, isShift, asInt, P1.cells, loadT, ptrC, storeT, putC, fillP, Nat.reduceAdd, reduceIte, Nat.reduceEqDiff, Nat.reduceLT, Nat.reduceLeDiff, reduceCtorEq, eq_self, FIT, lendCs_map, verC_map, FinC, resPs, resP, lendPl, lendCs, lendC, sealC, partsT, finHs, tupT, verT, verP, verC, verB, verAt, Blk.ver, handsAre, forall_const, CHT, disj, Nat.reduceBEq, beq_self_eq_true, UKv_3, e2, eH2, e4, eH4, rdr, hf1, List.length_map, encK_len, takeK, Nat.le_refl]
      | false =>
        simp only [RUN, core, T.c, T.s, T.b, T.i, sBin, sInt, sUn, isShift, asInt, P1.cells, loadT, ptrC, storeT, putC, fillP, Nat.reduceAdd, reduceIte, Nat.reduceEqDiff, Nat.reduceLT, Nat.reduceLeDiff, reduceCtorEq, eq_self, FIT, lendCs_map, verC_map, FinC, resPs, resP, lendPl, lendCs, lendC, sealC, partsT, finHs, tupT, verT, verP, verC, verB, verAt, Blk.ver, handsAre, forall_const, UKv_3, e6, gw]
        refine ⟨hlt, fun j k2 hj hj2 => ?_, ⟨u2, e2, eH2⟩, ⟨u4, e4, eH4⟩, e5, rfl, by rw [hf1]; rfl⟩
        rcases Nat.lt_succ_iff_lt_or_eq.1 hj with hj | rfl
        · exact g0 j k2 hj hj2
        · rw [hf2] at hj2; cases hj2; exact hk
    · have hi3 : i = 3 := by omega
      subst hi3
      have k1 : ¬ (((3 : Nat) : Int)) < 3 := by omega
      obtain ⟨r1, r2⟩ := hend g0
      subst r1 r2
      simp only [RUN, core, T.c, T.s, T.b, T.i, sBin, sInt, sUn, isShift, asInt, P1.cells, loadT, ptrC, storeT, putC, fillP, Nat.reduceAdd, reduceIte, Nat.reduceEqDiff, Nat.reduceLT, Nat.reduceLeDiff, reduceCtorEq, eq_self, FIT, lendCs_map, verC_map, FinC, resPs, resP, lendPl, lendCs, lendC, sealC, partsT, finHs, tupT, verT, verP, verC, verB, verAt, Blk.ver, handsAre, forall_const, CHT, disj, Nat.reduceBEq, beq_self_eq_true, UKv_3, UKv_2, e6, k1, e2, eH2, e4, eH4, eH, rdr, List.length_map, encK_len, takeK, Nat.le_refl]
end Go.V
set_option linter.unusedSimpArgs false
namespace Go.V
open Go.Proofs
/- loop.example/teagle/spec.DrawKindJoin -/
def r31_0 : List AOper := [ao 0 2 (.alloc 26 [(.v (.s (.int .i64 0))), .nil0, .nil0]),
  ao 1 3 (.alloc 26 [(.v (.s (.int .i64 0))), .nil0, .nil0])]
def r31_1 : List AOper := [ao 0 8 (.mv (.t 0)),
  ao 1 9 (.call (.k (.c (.fn 33 []))) [(.t 8)]),
  ao 2 4 (.mv (.t 9))]
def r31_2 : List AOper := [ao 0 10 (.mv (.t 4)),
  ao 1 11 (.mv (.t 4)),
  ao 2 12 (.call (.k (.c (.fn 36 []))) [(.t 11), (.k (.i 3))]),
  ao 3 13 (.bin .gtr (.t 12) (.k (.i 0))),
  ao 4 14 (.call (.k (.c (.fn 69 []))) [(.t 10), (.t 13)]),
  ao 5 5 (.alloc 26 [(.v (.s (.int .i64 0))), .nil0, .nil0]),
  an 6 (.st 3 (.t 5) (.t 14))]
def r31_3 : List AOper := [ao 0 15 (.mv (.t 4)),
  ao 1 16 (.ld 3 true (.t 5)),
  ao 2 17 (.call (.k (.c (.fn 40 []))) [(.t 15), (.t 16)]),
  ao 3 6 (.alloc 26 [(.v (.s (.int .i64 0))), .nil0, .nil0]),
  an 4 (.st 3 (.t 6) (.t 17))]
def r31_4 : List AOper := [ao 0 18 (.mv (.t 4)),
  ao 1 19 (.ld 3 true (.t 5)),
  ao 2 20 (.call (.k (.c (.fn 40 []))) [(.t 18), (.t 19)]),
  ao 3 7 (.alloc 26 [(.v (.s (.int .i64 0))), .nil0, .nil0]),
  an 4 (.st 3 (.t 7) (.t 20))]
def r31_5 : List AOper := [ao 0 21 (.mv (.t 4)),
  ao 1 22 (.call (.k (.c (.fn 36 []))) [(.t 21), (.k (.i 10))])]
def r31_6 : List AOper := [ao 0 24 (.bin .eql (.t 22) (.k (.i 0))),
  ao 1 23 (.mv (.t 24))]
def r31_7 : List AOper := [ao 0 25 (.ld 3 true (.t 6)),
  au 1 26 [0] (.mv (.t 4)),
  au 2 27 [0] (.call (.k (.c (.fn 69 []))) [(.t 26), (.k (.b true))]),
  an 3 (.st 3 (.t 2) (.t 25)),
  an 4 (.st 3 (.t 3) (.t 27))]
def c31_8 : ACode := .seq (.reg r31_7) .ret
def r31_9 : List AOper := [ao 0 29 (.bin .eql (.t 22) (.k (.i 1))),
  ao 1 28 (.mv (.t 29))]
def r31_10 : List AOper := [ao 0 30 (.mv (.t 4)),
  au 1 31 [0] (.ld 3 true (.t 6)),
  ao 2 32 (.call (.k (.c (.fn 38 []))) [(.t 30), (.t 31)]),
  au 3 33 (ru 3) (.ld 3 true (.t 7)),
  ax 4 none none [3] (.st 3 (.t 2) (.t 32)),
  an 5 (.st 3 (.t 3) (.t 33))]
def c31_11 : ACode := .seq (.reg r31_10) .ret
def r31_12 : List AOper := [ao 0 35 (.bin .eql (.t 22) (.k (.i 2))),
  ao 1 34 (.mv (.t 35))]
def r31_13 : List AOper := [ao 0 36 (.ld 3 true (.t 6)),
  au 1 37 [0] (.mv (.t 4)),
  au 2 38 [0, 1] (.ld 3 true (.t 7)),
  au 3 39 [0] (.call (.k (.c (.fn 38 []))) [(.t 37), (.t 38)]),
  an 4 (.st 3 (.t 2) (.t 36)),
  an 5 (.st 3 (.t 3) (.t 39))]
def c31_14 : ACode := .seq (.reg r31_13) .ret
def c31_15 : ACode := .cond (.t 34) c31_14 .skip
def c31_16 : ACode := .seq (.reg r31_12) c31_15
def c31_17 : ACode := .cond (.t 28) c31_11 c31_16
def c31_18 : ACode := .seq (.reg r31_9) c31_17
def c31_19 : ACode := .cond (.t 23) c31_8 c31_18
def c31_20 : ACode := .seq (.reg r31_6) c31_19
def c31_21 : ACode := .block 0 c31_20
def c31_22 : ACode := .seq (.reg r31_5) c31_21
def r31_23 : List AOper := [ao 0 40 (.ld 3 true (.t 6)),
  au 1 41 [0] (.ld 3 true (.t 7)),
  ax 2 none none [1] (.st 3 (.t 2) (.t 40)),
  an 3 (.st 3 (.t 3) (.t 41))]
def c31 : ACode := .seq (.reg r31_0) (.seq (.reg r31_1) (.seq (.reg r31_2) (.seq (.reg r31_3) (.seq (.reg r31_4) (.seq c31_22 (.seq (.reg r31_23) .ret))))))
def s31 : List ARes := [.cell 2 3 true, .cell 3 3 true]
theorem ok31 : okF Try.prog 31 42 c31 s31 := ⟨Try.f31, Try.func31, Try.ntmps31, by kernel_rfl, by kernel_rfl, by kernel_rfl⟩
theorem UMw_1 : (type_of% (uA c31.eq_1)) ∧ (type_of% (uR r31_0.eq_1)) ∧ (type_of% (uR r31_1.eq_1)) ∧ (type_of% (uR r31_2.eq_1)) ∧ (type_of% (uR r31_3.eq_1)) ∧ (type_of% (uR r31_4.eq_1)) ∧ (type_of% (uA c31_22.eq_1)) ∧ (type_of% (uR r31_5.eq_1)) ∧ (type_of% (uA c31_21.eq_1)) ∧ (type_of% (uR r31_23.eq_1)) ∧ (type_of% s31.eq_1) :=
  ⟨uA c31.eq_1, uR r31_0.eq_1, uR r31_1.eq_1, uR r31_2.eq_1, uR r31_3.eq_1, uR r31_4.eq_1, uA c31_22.eq_1, uR r31_5.eq_1, uA c31_21.eq_1, uR r31_23.eq_1, s31.eq_1⟩
theorem UMw_2 : (type_of% (uA c31.eq_1)) ∧ (type_of% (uR r31_0.eq_1)) ∧ (type_of% (uR r31_1.eq_1)) ∧ (type_of% (uR r31_2.eq_1)) ∧ (type_of% (uR r31_3.eq_1)) ∧ (type_of% (uR r31_4.eq_1)) ∧ (type_of% (uA c31_22.eq_1)) ∧ (type_of% (uR r31_5.eq_1)) ∧ (type_of% (uA c31_21.eq_1)) ∧ (type_of% (uA c31_20.eq_1)) ∧ (type_of% (uR r31_6.eq_1)) ∧ (type_of% (uA c31_19.eq_1)) ∧ (type_of% (uA c31_8.eq_1)) ∧ (type_of% (uR r31_7.eq_1)) ∧ (type_of% (uA c31_18.eq_1)) ∧ (type_of% (uR r31_9.eq_1)) ∧ (type_of% (uA c31_17.eq_1)) ∧ (type_of% (uA c31_11.eq_1)) ∧ (type_of% (uR r31_10.eq_1)) ∧ (type_of% (uA c31_16.eq_1)) ∧ (type_of% (uR r31_12.eq_1)) ∧ (type_of% (uA c31_15.eq_1)) ∧ (type_of% (uA c31_14.eq_1)) ∧ (type_of% (uR r31_13.eq_1)) ∧ (type_of% (uR r31_23.eq_1)) ∧ (type_of% s31.eq_1) :=
  ⟨uA c31.eq_1, uR r31_0.eq_1, uR r31_1.eq_1, uR r31_2.eq_1, uR r31_3.eq_1, uR r31_4.eq_1, uA c31_22.eq_1, uR r31_5.eq_1, uA c31_21.eq_1, uA c31_20.eq_1, uR r31_6.eq_1, uA c31_19.eq_1, uA c31_8.eq_1, uR r31_7.eq_1, uA c31_18.eq_1, uR r31_9.eq_1, uA c31_17.eq_1, uA c31_11.eq_1, uR r31_10.eq_1, uA c31_16.eq_1, uR r31_12.eq_1, uA c31_15.eq_1, uA c31_14.eq_1, uR r31_13.eq_1, uR r31_23.eq_1, s31.eq_1⟩
theorem drawJoin_ok (bs0 : List UInt8) : ∃ a b, KB 2000 a ∧ KB 2000 b ∧ ACallsF Try.prog 31 [.c (.v (.sl (encB bs0)))] [] (tKK a b) := by
  have hbt : (bs0.take 2000).length ≤ 2000 := by rw [List.length_take]; omega
  obtain ⟨n0, h01, h02, hC0⟩ := pick_ok 0 (bs0.take 2000) hbt 0 3 (by omega) (by omega)
  obtain ⟨p1, a, i1, i2, hBa, hOa, hC1⟩ := some_ok 0 (bs0.take 2000) hbt (0 + 1) (decide (n0 > 0)) (by omega)
  have ha := okK_true.1 hOa
  have hpa : (parts a : Int) * 100000 ≤ 4000000 := by have := ha.2; omega
  obtain ⟨p2, x, i3, i4, hBx, hC2⟩ := wider_ok 0 (bs0.take 2000) hbt a 1 ha.1 hBa p1 (by omega)
  obtain ⟨p3, y, i5, i6, hBy, hC3⟩ := wider_ok 0 (bs0.take 2000) hbt a 1 ha.1 hBa p2 (by omega)
  obtain ⟨n, g1, g2, hC4⟩ := pick_ok 0 (bs0.take 2000) hbt p3 10 (by omega) (by omega)
  have hBx2 := hBx.1.le (show 1000 ≤ 2000 by omega)
  have hBy2 := hBy.1.le (show 1000 ≤ 2000 by omega)
  have pre : ∀ (a' b' : Kd), (∀ (X : Ctx) (t1 : Nat → T) (H : HMap) (c v : Nat), (∃ u, t1 2 = .c (.ptr 2 u 0) ∧ H 2 = some (.var u 26 [.v (.s (.int .i64 0)), .nil0, .nil0])) → (∃ u, t1 3 = .c (.ptr 3 u 0) ∧ H 3 = some (.var u 26 [.v (.s (.int .i64 0)), .nil0, .nil0])) → t1 4 = rP v →
      (∃ u, t1 6 = .c (.ptr 6 u 0) ∧ H 6 = some (.var u 26 ((encK x).map .v))) → (∃ u, t1 7 = .c (.ptr 7 u 0) ∧ H 7 = some (.var u 26 ((encK y).map .v))) → t1 22 = .i n → H 1000 = some (rdr v (bs0.take 2000) (p3 + 1)) →
      wpa Try.prog X c31_20 (inW 0 (thenW Try.prog X (.seq (.reg r31_23) .ret) (endA (FinC s31 (tKK a' b') [])))) ⟨t1, H, c⟩) → ACallsF Try.prog 31 [.c (.v (.sl (encB bs0)))] [] (tKK a' b') := by
    intro a' b' hrest
    refine ACallsF.intro ok31 follows fun X c0 => ?_
    simp only [RUN, core, T.c, T.s, T.b, T.i, sBin, sInt, sUn, isShift, asInt, P1.cells, loadT, ptrC, storeT, putC, fillP, Nat.reduceAdd, reduceIte, Nat.reduceEqDiff, Nat.reduceLT, Nat.reduceLeDiff, reduceCtorEq, eq_self, FIT, lendCs_map, verC_map, FinC, resPs, resP, lendPl, lendCs, lendC, sealC, partsT, finHs, tupT, verT, verP, verC, verB, verAt, Blk.ver, handsAre, forall_const, CHT, disj, Nat.reduceBEq, beq_self_eq_true, APT, srcOf, sealPs, sealCs, sealC, List.mem_singleton, forall_eq, ALT, UMw_1, rdr]
    refine callOpen rfl rfl ⟨rfl, ?_⟩
    simp only [RUN, core, T.c, T.s, T.b, T.i, sBin, sInt, sUn, isShift, asInt, P1.cells, loadT, ptrC, storeT, putC, fillP, Nat.reduceAdd, reduceIte, Nat.reduceEqDiff, Nat.reduceLT, Nat.reduceLeDiff, reduceCtorEq, eq_self, FIT, lendCs_map, verC_map, FinC, resPs, resP, lendPl, lendCs, lendC, sealC, partsT, finHs, tupT, verT, verP, verC, verB, verAt, Blk.ver, handsAre, forall_const, CHT, disj, Nat.reduceBEq, beq_self_eq_true, APT, srcOf, sealPs, sealCs, sealC, List.mem_singleton, forall_eq, ALT, UMw_1, rdr]
    generalize hv : c0 + 2 + 1 = v
    refine callRc (anyV hC0 rfl rfl v) rfl rfl rfl rfl rfl ⟨rfl, ?_⟩
    simp only [RUN, core, T.c, T.s, T.b, T.i, sBin, sInt, sUn, isShift, asInt, P1.cells, loadT, ptrC, storeT, putC, fillP, Nat.reduceAdd, reduceIte, Nat.reduceEqDiff, Nat.reduceLT, Nat.reduceLeDiff, reduceCtorEq, eq_self, FIT, lendCs_map, verC_map, FinC, resPs, resP, lendPl, lendCs, lendC, sealC, partsT, finHs, tupT, verT, verP, verC, verB, verAt, Blk.ver, handsAre, forall_const, CHT, disj, Nat.reduceBEq, beq_self_eq_true, APT, srcOf, sealPs, sealCs, sealC, List.mem_singleton, forall_eq, ALT, UMw_1, rdr]
    refine callRc (anyV hC1 rfl (by simp [closedT, closedP, closedC]) v) rfl rfl rfl (by simp [closedT, closedP, closedC]) rfl ⟨?_, ?_⟩
    · simp only [RUN, core, T.c, T.s, T.b, T.i, sBin, sInt, sUn, isShift, asInt, P1.cells, loadT, ptrC, storeT, putC, fillP, Nat.reduceAdd, reduceIte, Nat.reduceEqDiff, Nat.reduceLT, Nat.reduceLeDiff, reduceCtorEq, eq_self, FIT, lendCs_map, verC_map, FinC, resPs, resP, lendPl, lendCs, lendC, sealC, partsT, finHs, tupT, verT, verP, verC, verB, verAt, Blk.ver, handsAre, forall_const, CHT, disj, Nat.reduceBEq, beq_self_eq_true, APT, srcOf, sealPs, sealCs, sealC, List.mem_singleton, forall_eq]
    simp only [RUN, core, T.c, T.s, T.b, T.i, sBin, sInt, sUn, isShift, asInt, P1.cells, loadT, ptrC, storeT, putC, fillP, Nat.reduceAdd, reduceIte, Nat.reduceEqDiff, Nat.reduceLT, Nat.reduceLeDiff, reduceCtorEq, eq_self, FIT, lendCs_map, verC_map, FinC, resPs, resP, lendPl, lendCs, lendC, sealC, partsT, finHs, tupT, verT, verP, verC, verB, verAt, Blk.ver, handsAre, forall_const, CHT, disj, Nat.reduceBEq, beq_self_eq_true, APT, srcOf, sealPs, sealCs, sealC, List.mem_singleton, forall_eq, ALT, UMw_1, rdr, List.length_map, encK_len, takeK, Nat.le_refl]
    refine callRc (anyV hC2 (by simp [closedA, closedP, closedC]) (closed_map _) v) rfl rfl (by simp [closedA, closedP, closedC]) (closed_map _) rfl ⟨?_, ?_⟩
    · simp only [RUN, core, T.c, T.s, T.b, T.i, sBin, sInt, sUn, isShift, asInt, P1.cells, loadT, ptrC, storeT, putC, fillP, Nat.reduceAdd, reduceIte, Nat.reduceEqDiff, Nat.reduceLT, Nat.reduceLeDiff, reduceCtorEq, eq_self, FIT, lendCs_map, verC_map, FinC, resPs, resP, lendPl, lendCs, lendC, sealC, partsT, finHs, tupT, verT, verP, verC, verB, verAt, Blk.ver, handsAre, forall_const, CHT, disj, Nat.reduceBEq, beq_self_eq_true, APT, srcOf, sealPs, sealCs, sealC, List.mem_singleton, forall_eq]
    simp only [RUN, core, T.c, T.s, T.b, T.i, sBin, sInt, sUn, isShift, asInt, P1.cells, loadT, ptrC, storeT, putC, fillP, Nat.reduceAdd, reduceIte, Nat.reduceEqDiff, Nat.reduceLT, Nat.reduceLeDiff, reduceCtorEq, eq_self, FIT, lendCs_map, verC_map, FinC, resPs, resP, lendPl, lendCs, lendC, sealC, partsT, finHs, tupT, verT, verP, verC, verB, verAt, Blk.ver, handsAre, forall_const, CHT, disj, Nat.reduceBEq, beq_self_eq_true, APT, srcOf, sealPs, sealCs, sealC, List.mem_singleton, forall_eq, ALT, UMw_1, rdr, List.length_map, encK_len, takeK, Nat.le_refl]
    refine callRc (anyV hC3 (by simp [closedA, closedP, closedC]) (closed_map _) v) rfl rfl (by simp [closedA, closedP, closedC]) (closed_map _) rfl ⟨?_, ?_⟩
    · simp only [RUN, core, T.c, T.s, T.b, T.i, sBin, sInt, sUn, isShift, asInt, P1.cells, loadT, ptrC, storeT, putC, fillP, Nat.reduceAdd, reduceIte, Nat.reduceEqDiff, Nat.reduceLT, Nat.reduceLeDiff, reduceCtorEq, eq_self, FIT, lendCs_map, verC_map, FinC, resPs, resP, lendPl, lendCs, lendC, sealC, partsT, finHs, tupT, verT, verP, verC, verB, verAt, Blk.ver, handsAre, forall_const, CHT, disj, Nat.reduceBEq, beq_self_eq_true, APT, srcOf, sealPs, sealCs, sealC, List.mem_singleton, forall_eq]
    simp only [RUN, core, T.c, T.s, T.b, T.i, sBin, sInt, sUn, isShift, asInt, P1.cells, loadT, ptrC, storeT, putC, fillP, Nat.reduceAdd, reduceIte, Nat.reduceEqDiff, Nat.reduceLT, Nat.reduceLeDiff, reduceCtorEq, eq_self, FIT, lendCs_map, verC_map, FinC, resPs, resP, lendPl, lendCs, lendC, sealC, partsT, finHs, tupT, verT, verP, verC, verB, verAt, Blk.ver, handsAre, forall_const, CHT, disj, Nat.reduceBEq, beq_self_eq_true, APT, srcOf, sealPs, sealCs, sealC, List.mem_singleton, forall_eq, ALT, UMw_1, rdr, List.length_map, encK_len, takeK, Nat.le_refl]
    refine callRc (anyV hC4 rfl rfl v) rfl rfl rfl rfl rfl ⟨rfl, ?_⟩
    simp only [RUN, core, T.c, T.s, T.b, T.i, sBin, sInt, sUn, isShift, asInt, P1.cells, loadT, ptrC, storeT, putC, fillP, Nat.reduceAdd, reduceIte, Nat.reduceEqDiff, Nat.reduceLT, Nat.reduceLeDiff, reduceCtorEq, eq_self, FIT, lendCs_map, verC_map, FinC, resPs, resP, lendPl, lendCs, lendC, sealC, partsT, finHs, tupT, verT, verP, verC, verB, verAt, Blk.ver, handsAre, forall_const, CHT, disj, Nat.reduceBEq, beq_self_eq_true, APT, srcOf, sealPs, sealCs, sealC, List.mem_singleton, forall_eq, ALT, UMw_1, rdr]
    exact hrest X _ _ _ v ⟨_, rfl, rfl⟩ ⟨_, rfl, rfl⟩ rfl ⟨_, rfl, rfl⟩ ⟨_, rfl, rfl⟩ rfl rfl
  rcases (by omega : n = 0 ∨ n = 1 ∨ n = 2 ∨ (n ≠ 0 ∧ n ≠ 1 ∧ n ≠ 2)) with rfl | rfl | rfl | h
  · obtain ⟨p4, z, i7, i8, hBz, hOz, hC5⟩ := some_ok 0 (bs0.take 2000) hbt (p3 + 1) true (by omega)
    refine ⟨x, z, hBx2, hBz.le (by omega), pre _ _ fun X t1 H c v h2 h3 e4 h6 h7 e22 eH => ?_⟩
    obtain ⟨u2, e2, eH2⟩ := h2
    obtain ⟨u3, e3, eH3⟩ := h3
    obtain ⟨u6, e6, eH6⟩ := h6
    obtain ⟨u7, e7, eH7⟩ := h7
    simp only [T.c, T.i, rdr] at e2 eH2 e3 eH3 e4 e6 eH6 e7 eH7 e22 eH
    simp only [RUN, core, T.c, T.s, T.b, T.i, sBin, sInt, sUn, isShift, asInt, P1.cells, loadT, ptrC, storeT, putC, fillP, Nat.reduceAdd, reduceIte, Nat.reduceEqDiff, Nat.reduceLT, Nat.reduceLeDiff, reduceCtorEq, eq_self, FIT, lendCs_map, verC_map, FinC, resPs, resP, lendPl, lendCs, lendC, sealC, partsT, finHs, tupT, verT, verP, verC, verB, verAt, Blk.ver, handsAre, forall_const, CHT, disj, Nat.reduceBEq, beq_self_eq_true, APT, srcOf, sealPs, sealCs, sealC, List.mem_singleton, forall_eq, ALT, UMw_2, rdr, e2, eH2, e3, eH3, e4, e6, eH6, e7, eH7, e22, Int.reduceBEq, List.length_map, encK_len, takeK, Nat.le_refl]
    refine callRc (anyV hC5 rfl (closed_map _) v) rfl rfl rfl (closed_map _) eH ⟨?_, ?_⟩
    · simp only [RUN, core, T.c, T.s, T.b, T.i, sBin, sInt, sUn, isShift, asInt, P1.cells, loadT, ptrC, storeT, putC, fillP, Nat.reduceAdd, reduceIte, Nat.reduceEqDiff, Nat.reduceLT, Nat.reduceLeDiff, reduceCtorEq, eq_self, FIT, lendCs_map, verC_map, FinC, resPs, resP, lendPl, lendCs, lendC, sealC, partsT, finHs, tupT, verT, verP, verC, verB, verAt, Blk.ver, handsAre, forall_const, CHT, disj, Nat.reduceBEq, beq_self_eq_true, APT, srcOf, sealPs, sealCs, sealC, List.mem_singleton, forall_eq]
    simp only [RUN, core, T.c, T.s, T.b, T.i, sBin, sInt, sUn, isShift, asInt, P1.cells, loadT, ptrC, storeT, putC, fillP, Nat.reduceAdd, reduceIte, Nat.reduceEqDiff, Nat.reduceLT, Nat.reduceLeDiff, reduceCtorEq, eq_self, FIT, lendCs_map, verC_map, FinC, resPs, resP, lendPl, lendCs, lendC, sealC, partsT, finHs, tupT, verT, verP, verC, verB, verAt, Blk.ver, handsAre, forall_const, CHT, disj, Nat.reduceBEq, beq_self_eq_true, APT, srcOf, sealPs, sealCs, sealC, List.mem_singleton, forall_eq, ALT, UMw_2, rdr, e2, eH2, e3, eH3, e4, e6, eH6, e7, eH7, e22, List.length_map, encK_len, takeK, Nat.le_refl]
  · obtain ⟨p4, z, i7, i8, hBz, hC5⟩ := spoilD_ok 0 (bs0.take 2000) hbt x 24 hBx.2 hBx.1 (p3 + 1) (by omega)
    refine ⟨z, y, hBz, hBy2, pre _ _ fun X t1 H c v h2 h3 e4 h6 h7 e22 eH => ?_⟩
    obtain ⟨u2, e2, eH2⟩ := h2
    obtain ⟨u3, e3, eH3⟩ := h3
    obtain ⟨u6, e6, eH6⟩ := h6
    obtain ⟨u7, e7, eH7⟩ := h7
    simp only [T.c, T.i, rdr] at e2 eH2 e3 eH3 e4 e6 eH6 e7 eH7 e22 eH
    simp only [RUN, core, T.c, T.s, T.b, T.i, sBin, sInt, sUn, isShift, asInt, P1.cells, loadT, ptrC, storeT, putC, fillP, Nat.reduceAdd, reduceIte, Nat.reduceEqDiff, Nat.reduceLT, Nat.reduceLeDiff, reduceCtorEq, eq_self, FIT, lendCs_map, verC_map, FinC, resPs, resP, lendPl, lendCs, lendC, sealC, partsT, finHs, tupT, verT, verP, verC, verB, verAt, Blk.ver, handsAre, forall_const, CHT, disj, Nat.reduceBEq, beq_self_eq_true, APT, srcOf, sealPs, sealCs, sealC, List.mem_singleton, forall_eq, ALT, UMw_2, rdr, e2, eH2, e3, eH3, e4, e6, eH6, e7, eH7, e22, Int.reduceBEq, List.length_map, encK_len, takeK, Nat.le_refl]
    refine callRc (anyV hC5 (by simp [closedA, closedP, closedC]) (closed_map _) v) rfl rfl (by simp [closedA, closedP, closedC]) (closed_map _) eH ⟨?_, ?_⟩
    · simp only [RUN, core, T.c, T.s, T.b, T.i, sBin, sInt, sUn, isShift, asInt, P1.cells, loadT, ptrC, storeT, putC, fillP, Nat.reduceAdd, reduceIte, Nat.reduceEqDiff, Nat.reduceLT, Nat.reduceLeDiff, reduceCtorEq, eq_self, FIT, lendCs_map, verC_map, FinC, resPs, resP, lendPl, lendCs, lendC, sealC, partsT, finHs, tupT, verT, verP, verC, verB, verAt, Blk.ver, handsAre, forall_const, CHT, disj, Nat.reduceBEq, beq_self_eq_true, APT, srcOf, sealPs, sealCs, sealC, List.mem_singleton, forall_eq]
    simp only [RUN, core, T.c, T.s, T.b, T.i, sBin, sInt, sUn, isShift, asInt, P1.cells, loadT, ptrC, storeT, putC, fillP, Nat.reduceAdd, reduceIte, Nat.reduceEqDiff, Nat.reduceLT, Nat.reduceLeDiff, reduceCtorEq, eq_self, FIT, lendCs_map, verC_map, FinC, resPs, resP, lendPl, lendCs, lendC, sealC, partsT, finHs, tupT, verT, verP, verC, verB, verAt, Blk.ver, handsAre, forall_const, CHT, disj, Nat.reduceBEq, beq_self_eq_true, APT, srcOf, sealPs, sealCs, sealC, List.mem_singleton, forall_eq, ALT, UMw_2, rdr, e2, eH2, e3, eH3, e4, e6, eH6, e7, eH7, e22, List.length_map, encK_len, takeK, Nat.le_refl]
  · obtain ⟨p4, z, i7, i8, hBz, hC5⟩ := spoilD_ok 0 (bs0.take 2000) hbt y 24 hBy.2 hBy.1 (p3 + 1) (by omega)
    refine ⟨x, z, hBx2, hBz, pre _ _ fun X t1 H c v h2 h3 e4 h6 h7 e22 eH => ?_⟩
    obtain ⟨u2, e2, eH2⟩ := h2
    obtain ⟨u3, e3, eH3⟩ := h3
    obtain ⟨u6, e6, eH6⟩ := h6
    obtain ⟨u7, e7, eH7⟩ := h7
    simp only [T.c, T.i, rdr] at e2 eH2 e3 eH3 e4 e6 eH6 e7 eH7 e22 eH
    simp only [RUN, core, T.c, T.s, T.b, T.i, sBin, sInt, sUn, isShift, asInt, P1.cells, loadT, ptrC, storeT, putC, fillP, Nat.reduceAdd, reduceIte, Nat.reduceEqDiff, Nat.reduceLT, Nat.reduceLeDiff, reduceCtorEq, eq_self, FIT, lendCs_map, verC_map, FinC, resPs, resP, lendPl, lendCs, lendC, sealC, partsT, finHs, tupT, verT, verP, verC, verB, verAt, Blk.ver, handsAre, forall_const, CHT, disj, Nat.reduceBEq, beq_self_eq_true, APT, srcOf, sealPs, sealCs, sealC, List.mem_singleton, forall_eq, ALT, UMw_2, rdr, e2, eH2, e3, eH3, e4, e6, eH6, e7, eH7, e22, Int.reduceBEq, List.length_map, encK_len, takeK, Nat.le_refl]
    refine callRc (anyV hC5 (by simp [closedA, closedP, closedC]) (closed_map _) v) rfl rfl (by simp [closedA, closedP, closedC]) (closed_map _) eH ⟨?_, ?_⟩
    · simp only [RUN, core, T.c, T.s, T.b, T.i, sBin, sInt, sUn, isShift, asInt, P1.cells, loadT, ptrC, storeT, putC, fillP, Nat.reduceAdd, reduceIte, Nat.reduceEqDiff, Nat.reduceLT, Nat.reduceLeDiff, reduceCtorEq, eq_self, FIT, lendCs_map, verC_map, FinC, resPs, resP, lendPl, lendCs, lendC, sealC, partsT, finHs, tupT, verT, verP, verC, verB, verAt, Blk.ver, handsAre, forall_const, CHT, disj, Nat.reduceBEq, beq_self_eq_true, APT, srcOf, sealPs, sealCs, sealC, List.mem_singleton, forall_eq]
    simp only [RUN, core, T.c, T.s, T.b, T.i, sBin, sInt, sUn, isShift, asInt, P1.cells, loadT, ptrC, storeT, putC, fillP, Nat.reduceAdd, reduceIte, Nat.reduceEqDiff, Nat.reduceLT, Nat.reduceLeDiff, reduceCtorEq, eq_self, FIT, lendCs_map, verC_map, FinC, resPs, resP, lendPl, lendCs, lendC, sealC, partsT, finHs, tupT, verT, verP, verC, verB, verAt, Blk.ver, handsAre, forall_const, CHT, disj, Nat.reduceBEq, beq_self_eq_true, APT, srcOf, sealPs, sealCs, sealC, List.mem_singleton, forall_eq, ALT, UMw_2, rdr, e2, eH2, e3, eH3, e4, e6, eH6, e7, eH7, e22, List.length_map, encK_len, takeK, Nat.le_refl]
  · have b0 : (n == 0) = false := beq_eq_false_iff_ne.2 h.1
    have b1 : (n == 1) = false := beq_eq_false_iff_ne.2 h.2.1
    have b2 : (n == 2) = false := beq_eq_false_iff_ne.2 h.2.2
    refine ⟨x, y, hBx2, hBy2, pre _ _ fun X t1 H c v h2 h3 e4 h6 h7 e22 eH => ?_⟩
    obtain ⟨u2, e2, eH2⟩ := h2
    obtain ⟨u3, e3, eH3⟩ := h3
    obtain ⟨u6, e6, eH6⟩ := h6
    obtain ⟨u7, e7, eH7⟩ := h7
    simp only [T.c, T.i, rdr] at e2 eH2 e3 eH3 e4 e6 eH6 e7 eH7 e22 eH
    simp only [RUN, core, T.c, T.s, T.b, T.i, sBin, sInt, sUn, isShift, asInt, P1.cells, loadT, ptrC, storeT, putC, fillP, Nat.reduceAdd, reduceIte, Nat.reduceEqDiff, Nat.reduceLT, Nat.reduceLeDiff, reduceCtorEq, eq_self, FIT, lendCs_map, verC_map, FinC, resPs, resP, lendPl, lendCs, lendC, sealC, partsT, finHs, tupT, verT, verP, verC, verB, verAt, Blk.ver, handsAre, forall_const, CHT, disj, Nat.reduceBEq, beq_self_eq_true, APT, srcOf, sealPs, sealCs, sealC, List.mem_singleton, forall_eq, ALT, UMw_2, rdr, e2, eH2, e3, eH3, e4, e6, eH6, e7, eH7, e22, b0, b1, b2, List.length_map, encK_len, takeK, Nat.le_refl]
end Go.V
set_option linter.unusedSimpArgs false
namespace Go.V
open Go.Proofs
/-- The schema of a name. -/
def kid : List ByteArray → List Kd → ByteArray → Option Kd
  | n :: ns, k :: ks, x => if n = x then some k else kid ns ks x
  | _, _, _ => none
theorem kid_at : ∀ {ns : List ByteArray} {ks : List Kd} {x : ByteArray} {i : Nat} {k : Kd}, (∀ j, j < i → ns[j]? ≠ some x) → ns[i]? = some x → ks[i]? = some k → kid ns ks x = some k
  | [], _, _, _, _, _, h, _ => by simp at h
  | _ :: _, [], _, _, _, _, _, h => by simp at h
  | n :: ns, k0 :: ks, x, 0, k, _, h1, h2 => by simp at h1 h2; subst h1 h2; simp [kid]
  | n :: ns, k0 :: ks, x, i + 1, k, h0, h1, h2 => by
    have hn : n ≠ x := fun e => h0 0 (by omega) (by simp [e])
    simp only [kid, if_neg hn]
    exact kid_at (i := i) (fun j hj => by have := h0 (j + 1) (by omega); simpa using this) (by simpa using h1) (by simpa using h2)
theorem kid_none : ∀ {ns : List ByteArray} {ks : List Kd} {x : ByteArray}, (∀ j : Nat, ns[j]? ≠ some x) → kid ns ks x = none
  | [], _, _, _ => by simp [kid]
  | _ :: _, [], _, _ => by simp [kid]
  | n :: ns, k0 :: ks, x, h => by
    have hn : n ≠ x := fun e => h 0 (by simp [e])
    simp only [kid, if_neg hn]
    exact kid_none fun j => by have := h (j + 1); simpa using this
theorem kid_mem : ∀ {ns : List ByteArray} {ks : List Kd} {x : ByteArray} {k : Kd}, kid ns ks x = some k → ∃ i : Nat, ns[i]? = some x ∧ ks[i]? = some k
  | [], _, _, _, h => by simp [kid] at h
  | _ :: _, [], _, _, h => by simp [kid] at h
  | n :: ns, k0 :: ks, x, k, h => by
    simp only [kid] at h
    split at h
    · rename_i e; subst e; cases h; exact ⟨0, rfl, rfl⟩
    · obtain ⟨i, h1, h2⟩ := kid_mem h; exact ⟨i + 1, by simpa using h1, by simpa using h2⟩
def kidR (ns : List ByteArray) (ks : List Kd) (x : ByteArray) : Kd × Bool := match kid ns ks x with
  | some k => (k, true)
  | none => (.mk 0 [] [], false)
abbrev tKB (q : Kd × Bool) : T := .tup [.agg ((encK q.1).map .v), .one (.v (.s (.bool q.2)))]
/- loop.example/teagle/spec.l3Kid -/
def r77_0 : List AOper := [ao 0 2 (.box 26 (.t 0)),
  ao 1 4 (.alloc 26 [(.v (.s (.int .i64 0))), .nil0, .nil0]),
  ao 2 5 (.mv (.k (.b false)))]
def r77_1 : List AOper := [ao 0 6 (.mv (.k (.i 0)))]
def r77_2 : List AOper := [ao 0 7 (.mv (.t 6)),
  ao 1 8 (.fa 1 (.t 2)),
  ao 2 9 (.ld 1 false (.t 8)),
  ao 3 10 (.len (.t 9)),
  ao 4 11 (.bin .lss (.t 7) (.t 10))]
def c77_3 : ACode := .cond (.t 11) .skip (.exit 0)
def c77_4 : ACode := .seq (.reg r77_2) c77_3
def r77_5 : List AOper := [ao 0 14 (.fa 1 (.t 2)),
  ao 1 15 (.ld 1 false (.t 14)),
  ao 2 16 (.mv (.t 6)),
  ao 3 17 (.ia 1 (.t 15) (.t 16)),
  ao 4 18 (.ld 1 false (.t 17)),
  ao 5 19 (.mv (.t 1)),
  ao 6 20 (.bin .eql (.t 18) (.t 19))]
def r77_6 : List AOper := [ao 0 21 (.fa 2 (.t 2)),
  ao 1 22 (.ld 1 false (.t 21)),
  ao 2 23 (.mv (.t 6)),
  ao 3 24 (.ia 3 (.t 22) (.t 23)),
  ao 4 25 (.ld 3 true (.t 24)),
  an 5 (.st 3 (.t 4) (.t 25)),
  ao 6 5 (.mv (.k (.b true)))]
def c77_7 : ACode := .seq (.reg r77_6) .ret
def c77_8 : ACode := .cond (.t 20) c77_7 .skip
def c77_9 : ACode := .seq (.reg r77_5) c77_8
def c77_10 : ACode := .block 1 c77_9
def r77_11 : List AOper := [ao 0 12 (.mv (.t 6)),
  ao 1 13 (.bin .add (.t 12) (.k (.i 1))),
  ao 2 6 (.mv (.t 13))]
def c77_12 : ACode := .seq c77_4 (.seq c77_10 (.reg r77_11))
def c77_13 : ACode := .loop c77_12
def c77_14 : ACode := .block 0 c77_13
def c77_15 : ACode := .seq (.reg r77_1) c77_14
def r77_16 : List AOper := [ao 0 26 (.build [(.v (.s (.int .i64 0))), .nil0, .nil0] []),
  an 1 (.st 3 (.t 4) (.t 26)),
  ao 2 5 (.mv (.k (.b false)))]
def c77 : ACode := .seq (.reg r77_0) (.seq c77_15 (.seq (.reg r77_16) .ret))
def s77 : List ARes := [.cell 4 3 true, .tmp 5]
theorem ok77 : okF Try.prog 77 27 c77 s77 := ⟨Try.f77, Try.func77, Try.ntmps77, by kernel_rfl, by kernel_rfl, by kernel_rfl⟩
def inv77 (s : Int) (ns : List ByteArray) (ks : List Kd) (x : ByteArray) (i : Nat) (σ : St) : Prop :=
  (∀ j, j < i → ns[j]? ≠ some x) ∧ σ.t 1 = .s (.string x) ∧ σ.t 6 = .i i ∧ (∃ u, σ.t 2 = .c (.ptr 2 u 0) ∧ σ.H 2 = some (.var u 26 [.v (.s (.int .i64 s)), .v (.sl (encS ns)), .v (.sl (encKs ks))])) ∧ (∃ u, σ.t 4 = .c (.ptr 4 u 0) ∧ σ.H 4 = some (.var u 26 [.v (.s (.int .i64 0)), .nil0, .nil0]))
theorem UKx_1 : (type_of% (uA c77.eq_1)) ∧ (type_of% (uR r77_0.eq_1)) ∧ (type_of% (uA c77_15.eq_1)) ∧ (type_of% (uR r77_1.eq_1)) ∧ (type_of% (uA c77_14.eq_1)) ∧ (type_of% (uA c77_13.eq_1)) ∧ (type_of% (uR r77_16.eq_1)) ∧ (type_of% s77.eq_1) :=
  ⟨uA c77.eq_1, uR r77_0.eq_1, uA c77_15.eq_1, uR r77_1.eq_1, uA c77_14.eq_1, uA c77_13.eq_1, uR r77_16.eq_1, s77.eq_1⟩
theorem UKx_2 : (type_of% (uA c77_12.eq_1)) ∧ (type_of% (uA c77_4.eq_1)) ∧ (type_of% (uR r77_2.eq_1)) ∧ (type_of% (uA c77_3.eq_1)) ∧ (type_of% (uA c77_10.eq_1)) ∧ (type_of% (uA c77_9.eq_1)) ∧ (type_of% (uR r77_5.eq_1)) ∧ (type_of% (uA c77_8.eq_1)) ∧ (type_of% (uA c77_7.eq_1)) ∧ (type_of% (uR r77_6.eq_1)) ∧ (type_of% (uR r77_11.eq_1)) ∧ (type_of% (uA c77.eq_1)) ∧ (type_of% (uR r77_0.eq_1)) ∧ (type_of% (uA c77_15.eq_1)) ∧ (type_of% (uR r77_1.eq_1)) ∧ (type_of% (uA c77_14.eq_1)) ∧ (type_of% (uA c77_13.eq_1)) ∧ (type_of% (uR r77_16.eq_1)) ∧ (type_of% s77.eq_1) :=
  ⟨uA c77_12.eq_1, uA c77_4.eq_1, uR r77_2.eq_1, uA c77_3.eq_1, uA c77_10.eq_1, uA c77_9.eq_1, uR r77_5.eq_1, uA c77_8.eq_1, uA c77_7.eq_1, uR r77_6.eq_1, uR r77_11.eq_1, uA c77.eq_1, uR r77_0.eq_1, uA c77_15.eq_1, uR r77_1.eq_1, uA c77_14.eq_1, uA c77_13.eq_1, uR r77_16.eq_1, s77.eq_1⟩
theorem kid_ok (s : Int) (ns : List ByteArray) (ks : List Kd) (x : ByteArray) (hl : ns.length ≤ ks.length) (hn : ns.length ≤ 1000000) : ACallsF Try.prog 77 [tK (.mk s ns ks), .s (.string x)] [] (tKB (kidR ns ks x)) := by
  refine ACallsF.intro ok77 follows fun X c0 => ?_
  simp only [RUN, core, T.c, T.s, T.b, T.i, sBin, sInt, sUn, isShift, asInt, P1.cells, loadT, ptrC, storeT, putC, fillP, Nat.reduceAdd, reduceIte, Nat.reduceEqDiff, Nat.reduceLT, Nat.reduceLeDiff, reduceCtorEq, eq_self, FIT, lendCs_map, verC_map, FinC, resPs, resP, lendPl, lendCs, lendC, sealC, partsT, finHs, tupT, verT, verP, verC, verB, verAt, Blk.ver, handsAre, forall_const, APT, srcOf, sealPs, sealCs, sealC, List.mem_singleton, forall_eq, ALT, UKx_1, encK_mk]
  refine AW.upto ns.length (inv77 s ns ks x) ⟨fun j hj => absurd hj (Nat.not_lt_zero j), rfl, rfl, ⟨_, rfl, rfl⟩, ⟨_, rfl, rfl⟩⟩ fun i t H c hi h => ?_
  obtain ⟨g0, e1, e6, ⟨u2, e2, eH2⟩, ⟨u4, e4, eH4⟩⟩ := h
  simp only [T.c, T.i, T.s] at e1 e6 e2 eH2 e4 eH4
  by_cases hlt : i < ns.length
  · have k1 : (i : Int) < ns.length := by omega
    have gz : (0 : Int) ≤ i := by omega
    have gw : IntKind.i64.wrap ((i : Int) + 1) = ((i + 1 : Nat) : Int) := wrap64 (x := (i : Int) + 1) ⟨by omega, by omega⟩
    obtain ⟨y, hy⟩ : ∃ y, ns[i]? = some y := ⟨_, List.getElem?_eq_getElem hlt⟩
    obtain ⟨k, hk⟩ : ∃ k, ks[i]? = some k := ⟨_, List.getElem?_eq_getElem (by omega)⟩
    have es := encS_at hy
    have ek := encKs_at hk
    by_cases hyx : y = x
    · subst hyx
      have hq : kidR ns ks y = (k, true) := by rw [kidR, kid_at g0 hy hk]
      simp only [RUN, core, T.c, T.s, T.b, T.i, sBin, sInt, sUn, isShift, asInt, P1.cells, loadT, ptrC, storeT, putC, fillP, Nat.reduceAdd, reduceIte, Nat.reduceEqDiff, Nat.reduceLT, Nat.reduceLeDiff, reduceCtorEq, eq_self, FIT, lendCs_map, verC_map, FinC, resPs, resP, lendPl, lendCs, lendC, sealC, partsT, finHs, tupT, verT, verP, verC, verB, verAt, Blk.ver, handsAre, forall_const, CHT, disj, Nat.reduceBEq, beq_self_eq_true, APT, srcOf, sealPs, sealCs, sealC, List.mem_singleton, forall_eq, ALT, UKx_2, e1, e6, e2, eH2, e4, eH4, k1, gz, encS_len, es, ek, Int.toNat_natCast, sStr, str_beq, hq, List.length_map, encK_len, takeK, Nat.le_refl]
    · simp only [RUN, core, T.c, T.s, T.b, T.i, sBin, sInt, sUn, isShift, asInt, P1.cells, loadT, ptrC, storeT, putC, fillP, Nat.reduceAdd, reduceIte, Nat.reduceEqDiff, Nat.reduceLT, Nat.reduceLeDiff, reduceCtorEq, eq_self, FIT, lendCs_map, verC_map, FinC, resPs, resP, lendPl, lendCs, lendC, sealC, partsT, finHs, tupT, verT, verP, verC, verB, verAt, Blk.ver, handsAre, forall_const, CHT, disj, Nat.reduceBEq, beq_self_eq_true, APT, srcOf, sealPs, sealCs, sealC, List.mem_singleton, forall_eq, ALT, UKx_2, e1, e6, e2, eH2, e4, eH4, k1, gz, encS_len, es, ek, Int.toNat_natCast, sStr, str_beq, hyx, gw]
      exact ⟨hlt, fun j hj => by
        rcases Nat.lt_succ_iff_lt_or_eq.1 hj with hj | rfl
        · exact g0 j hj
        · rw [hy]; intro e; cases e; exact hyx rfl, e1, rfl, ⟨u2, e2, eH2⟩, ⟨u4, e4, eH4⟩⟩
  · have k1 : ¬ (i : Int) < ns.length := by omega
    have hq : kidR ns ks x = (.mk 0 [] [], false) := by
      rw [kidR, kid_none fun j => ?_]
      by_cases hj : j < ns.length
      · exact g0 j (by omega)
      · rw [List.getElem?_eq_none (by omega)]; simp
    simp only [RUN, core, T.c, T.s, T.b, T.i, sBin, sInt, sUn, isShift, asInt, P1.cells, loadT, ptrC, storeT, putC, fillP, Nat.reduceAdd, reduceIte, Nat.reduceEqDiff, Nat.reduceLT, Nat.reduceLeDiff, reduceCtorEq, eq_self, FIT, lendCs_map, verC_map, FinC, resPs, resP, lendPl, lendCs, lendC, sealC, partsT, finHs, tupT, verT, verP, verC, verB, verAt, Blk.ver, handsAre, forall_const, CHT, disj, Nat.reduceBEq, beq_self_eq_true, APT, srcOf, sealPs, sealCs, sealC, List.mem_singleton, forall_eq, ALT, UKx_2, UKx_1, e1, e6, e2, eH2, e4, eH4, k1, encS_len, hq, encK_mk]
def Kd.sort : Kd → Int
  | .mk s _ _ => s
inductive Fits : Kd → Kd → Prop
  | mm (ns : List ByteArray) (ks : List Kd) (ns' : List ByteArray) (ks' : List Kd) (a b : Kd) (ha : ks[0]? = some a) (hb : ks'[0]? = some b) (h : Fits a b) : Fits (.mk 6 ns ks) (.mk 6 ns' ks')
  | m (s : Int) (ns : List ByteArray) (ks : List Kd) (ns' : List ByteArray) (ks' : List Kd) (b : Kd) (hs : s ≠ 6) (hb : ks'[0]? = some b) (h : Fits (.mk s ns ks) b) : Fits (.mk s ns ks) (.mk 6 ns' ks')
  | l (ns : List ByteArray) (ks : List Kd) (ns' : List ByteArray) (ks' : List Kd) (a b : Kd) (ha : ks[0]? = some a) (hb : ks'[0]? = some b) (h : Fits a b) : Fits (.mk 4 ns ks) (.mk 4 ns' ks')
  | leaf (s : Int) (ns : List ByteArray) (ks : List Kd) (ns' : List ByteArray) (ks' : List Kd) (hs : s < 4) : Fits (.mk s ns ks) (.mk s ns' ks')
  | f (ns : List ByteArray) (ks : List Kd) (ns' : List ByteArray) (ks' : List Kd) (h1 : ∀ (i : Nat) x, ns[i]? = some x → ∃ k', kid ns' ks' x = some k')
      (h2 : ∀ (i : Nat) x k k', ns[i]? = some x → ks[i]? = some k → kid ns' ks' x = some k' → Fits k k') (h3 : ∀ (i : Nat) x (k' : Kd), ns'[i]? = some x → ks'[i]? = some k' → kid ns ks x = none → k'.sort = 6) : Fits (.mk 5 ns ks) (.mk 5 ns' ks')
noncomputable def fits (a b : Kd) : Bool := @decide (Fits a b) (Classical.propDecidable _)
theorem fits_true {a b : Kd} : fits a b = true ↔ Fits a b := by simp [fits]
theorem fits_false {a b : Kd} : fits a b = false ↔ ¬ Fits a b := by simp [fits]
theorem Fits.mm_iff {ns : List ByteArray} {ks : List Kd} {ns' : List ByteArray} {ks' : List Kd} {a b : Kd} (ha : ks[0]? = some a) (hb : ks'[0]? = some b) : Fits (.mk 6 ns ks) (.mk 6 ns' ks') ↔ Fits a b := by
  constructor
  · intro h
    cases h with
    | mm _ _ _ _ a' b' ha' hb' h => rw [ha] at ha'; rw [hb] at hb'; cases ha'; cases hb'; exact h
    | m _ _ _ _ _ _ hs => exact absurd rfl hs
    | leaf _ _ _ _ _ hs => omega
  · exact .mm _ _ _ _ _ _ ha hb
theorem Fits.m_iff {s : Int} {ns : List ByteArray} {ks : List Kd} {ns' : List ByteArray} {ks' : List Kd} {b : Kd} (hs : s ≠ 6) (hb : ks'[0]? = some b) : Fits (.mk s ns ks) (.mk 6 ns' ks') ↔ Fits (.mk s ns ks) b := by
  constructor
  · intro h
    cases h with
    | mm => exact absurd rfl hs
    | m _ _ _ _ _ b' _ hb' h => rw [hb] at hb'; cases hb'; exact h
    | leaf _ _ _ _ _ hs => omega
  · exact .m _ _ _ _ _ _ hs hb
theorem Fits.l_iff {ns : List ByteArray} {ks : List Kd} {ns' : List ByteArray} {ks' : List Kd} {a b : Kd} (ha : ks[0]? = some a) (hb : ks'[0]? = some b) : Fits (.mk 4 ns ks) (.mk 4 ns' ks') ↔ Fits a b := by
  constructor
  · intro h
    cases h with
    | l _ _ _ _ a' b' ha' hb' h => rw [ha] at ha'; rw [hb] at hb'; cases ha'; cases hb'; exact h
    | leaf _ _ _ _ _ hs => omega
  · exact .l _ _ _ _ _ _ ha hb
theorem Fits.sort_eq {s s' : Int} {ns : List ByteArray} {ks : List Kd} {ns' : List ByteArray} {ks' : List Kd} (hs : s' ≠ 6) (h : Fits (.mk s ns ks) (.mk s' ns' ks')) : s = s' := by
  cases h with
  | mm => exact absurd rfl hs
  | m => exact absurd rfl hs
  | l => rfl
  | leaf => rfl
  | f => rfl
end Go.V
set_option linter.unusedSimpArgs false
namespace Go.V
open Go.Proofs
/- loop.example/teagle/spec.l3Fits -/
def r41_0 : List AOper := [ao 0 2 (.box 26 (.t 0)),
  ao 1 3 (.box 26 (.t 1)),
  ao 2 4 (.mv (.k (.b false)))]
def r41_1 : List AOper := [ao 0 11 (.fa 0 (.t 3)),
  ao 1 12 (.ld 1 false (.t 11)),
  ao 2 13 (.bin .eql (.t 12) (.k (.i 6)))]
def r41_2 : List AOper := [ao 0 14 (.fa 0 (.t 2)),
  ao 1 15 (.ld 1 false (.t 14)),
  ao 2 16 (.bin .eql (.t 15) (.k (.i 6)))]
def r41_3 : List AOper := [ao 0 17 (.fa 2 (.t 2)),
  ao 1 18 (.ld 1 false (.t 17)),
  ao 2 19 (.ia 3 (.t 18) (.k (.i 0))),
  ao 3 20 (.ld 3 true (.t 19)),
  au 4 21 (ru 4) (.fa 2 (.t 3)),
  au 5 22 (ru 4) (.ld 1 false (.t 21)),
  au 6 23 (ru 4) (.ia 3 (.t 22) (.k (.i 0))),
  au 7 24 (ru 4) (.ld 3 true (.t 23)),
  ao 8 25 (.call (.k (.c (.fn 41 []))) [(.t 20), (.t 24)]),
  ao 9 4 (.mv (.t 25))]
def c41_4 : ACode := .seq (.reg r41_3) .ret
def c41_5 : ACode := .cond (.t 16) c41_4 .skip
def c41_6 : ACode := .seq (.reg r41_2) c41_5
def r41_7 : List AOper := [ao 0 26 (.ld 3 true (.t 2)),
  au 1 27 [0] (.fa 2 (.t 3)),
  au 2 28 [0] (.ld 1 false (.t 27)),
  au 3 29 [0] (.ia 3 (.t 28) (.k (.i 0))),
  au 4 30 [0] (.ld 3 true (.t 29)),
  ao 5 31 (.call (.k (.c (.fn 41 []))) [(.t 26), (.t 30)]),
  ao 6 4 (.mv (.t 31))]
def c41_8 : ACode := .seq c41_6 (.seq (.reg r41_7) .ret)
def c41_9 : ACode := .cond (.t 13) c41_8 .skip
def c41_10 : ACode := .seq (.reg r41_1) c41_9
def r41_11 : List AOper := [ao 0 32 (.fa 0 (.t 2)),
  ao 1 33 (.ld 1 false (.t 32)),
  ao 2 34 (.fa 0 (.t 3)),
  ao 3 35 (.ld 1 false (.t 34)),
  ao 4 36 (.bin .neq (.t 33) (.t 35))]
def r41_12 : List AOper := [ao 0 4 (.mv (.k (.b false)))]
def c41_13 : ACode := .seq (.reg r41_12) .ret
def c41_14 : ACode := .cond (.t 36) c41_13 .skip
def c41_15 : ACode := .seq (.reg r41_11) c41_14
def r41_16 : List AOper := [ao 0 37 (.fa 0 (.t 2)),
  ao 1 38 (.ld 1 false (.t 37)),
  ao 2 39 (.bin .eql (.t 38) (.k (.i 4)))]
def r41_17 : List AOper := [ao 0 40 (.fa 2 (.t 2)),
  ao 1 41 (.ld 1 false (.t 40)),
  ao 2 42 (.ia 3 (.t 41) (.k (.i 0))),
  ao 3 43 (.ld 3 true (.t 42)),
  au 4 44 (ru 4) (.fa 2 (.t 3)),
  au 5 45 (ru 4) (.ld 1 false (.t 44)),
  au 6 46 (ru 4) (.ia 3 (.t 45) (.k (.i 0))),
  au 7 47 (ru 4) (.ld 3 true (.t 46)),
  ao 8 48 (.call (.k (.c (.fn 41 []))) [(.t 43), (.t 47)]),
  ao 9 4 (.mv (.t 48))]
def c41_18 : ACode := .seq (.reg r41_17) .ret
def c41_19 : ACode := .cond (.t 39) c41_18 .skip
def c41_20 : ACode := .seq (.reg r41_16) c41_19
def r41_21 : List AOper := [ao 0 5 (.mv (.k (.i 0)))]
def r41_22 : List AOper := [ao 0 49 (.mv (.t 5)),
  ao 1 50 (.fa 1 (.t 2)),
  ao 2 51 (.ld 1 false (.t 50)),
  ao 3 52 (.len (.t 51)),
  ao 4 53 (.bin .lss (.t 49) (.t 52))]
def c41_23 : ACode := .cond (.t 53) .skip (.exit 0)
def c41_24 : ACode := .seq (.reg r41_22) c41_23
def r41_25 : List AOper := [ao 0 57 (.ld 3 true (.t 3)),
  au 1 58 [0] (.fa 1 (.t 2)),
  au 2 59 [0] (.ld 1 false (.t 58)),
  au 3 60 (ru 3) (.mv (.t 5)),
  au 4 61 [0] (.ia 1 (.t 59) (.t 60)),
  au 5 62 [0] (.ld 1 false (.t 61)),
  ao 6 63 (.call (.k (.c (.fn 77 []))) [(.t 57), (.t 62)]),
  ao 7 56 (.mv (.t 63)),
  ao 8 64 (.ext 0 (.t 56)),
  au 9 65 [8] (.ext 1 (.t 56)),
  au 10 6 (ru 10) (.alloc 26 [(.v (.s (.int .i64 0))), .nil0, .nil0]),
  ax 11 none none [9] (.st 3 (.t 6) (.t 64)),
  ao 12 7 (.mv (.t 65))]
def r41_26 : List AOper := [ao 0 66 (.mv (.t 7)),
  ao 1 67 (.un .not (.t 66)),
  ao 2 68 (.mv (.t 67)),
  ag 3 69 68 false [] (.fa 2 (.t 2)),
  ag 4 70 68 false [] (.ld 1 false (.t 69)),
  ag 5 71 68 false [3, 4] (.mv (.t 5)),
  ag 6 72 68 false [] (.ia 3 (.t 70) (.t 71)),
  ag 7 73 68 false [] (.ld 3 true (.t 72)),
  ag 8 74 68 false [3, 4, 5, 6, 7] (.ld 3 true (.t 6)),
  ag 9 75 68 false [] (.call (.k (.c (.fn 41 []))) [(.t 73), (.t 74)]),
  ag 10 76 68 false [] (.un .not (.t 75)),
  ao 11 77 (.pick (.t 68) (.k (.b true)) (.t 76))]
def r41_27 : List AOper := [ao 0 4 (.mv (.k (.b false)))]
def c41_28 : ACode := .seq (.reg r41_27) .ret
def c41_29 : ACode := .cond (.t 77) c41_28 .skip
def c41_30 : ACode := .seq (.reg r41_25) (.seq (.reg r41_26) c41_29)
def c41_31 : ACode := .block 1 c41_30
def r41_32 : List AOper := [ao 0 54 (.mv (.t 5)),
  ao 1 55 (.bin .add (.t 54) (.k (.i 1))),
  ao 2 5 (.mv (.t 55))]
def c41_33 : ACode := .seq c41_24 (.seq c41_31 (.reg r41_32))
def c41_34 : ACode := .loop c41_33
def c41_35 : ACode := .block 0 c41_34
def c41_36 : ACode := .seq (.reg r41_21) c41_35
def r41_37 : List AOper := [ao 0 8 (.mv (.k (.i 0)))]
def r41_38 : List AOper := [ao 0 78 (.mv (.t 8)),
  ao 1 79 (.fa 1 (.t 3)),
  ao 2 80 (.ld 1 false (.t 79)),
  ao 3 81 (.len (.t 80)),
  ao 4 82 (.bin .lss (.t 78) (.t 81))]
def c41_39 : ACode := .cond (.t 82) .skip (.exit 2)
def c41_40 : ACode := .seq (.reg r41_38) c41_39
def r41_41 : List AOper := [ao 0 86 (.ld 3 true (.t 2)),
  au 1 87 [0] (.fa 1 (.t 3)),
  au 2 88 [0] (.ld 1 false (.t 87)),
  au 3 89 (ru 3) (.mv (.t 8)),
  au 4 90 [0] (.ia 1 (.t 88) (.t 89)),
  au 5 91 [0] (.ld 1 false (.t 90)),
  ao 6 92 (.call (.k (.c (.fn 77 []))) [(.t 86), (.t 91)]),
  ao 7 85 (.mv (.t 92)),
  ao 8 93 (.ext 0 (.t 85)),
  au 9 94 [8] (.ext 1 (.t 85)),
  au 10 9 (ru 10) (.alloc 26 [(.v (.s (.int .i64 0))), .nil0, .nil0]),
  ax 11 none none [9] (.st 3 (.t 9) (.t 93)),
  ao 12 10 (.mv (.t 94))]
def r41_42 : List AOper := [ao 0 95 (.mv (.t 10)),
  ao 1 96 (.un .not (.t 95)),
  ao 2 97 (.mv (.t 96)),
  ag 3 98 97 true [] (.fa 2 (.t 3)),
  ag 4 99 97 true [] (.ld 1 false (.t 98)),
  ag 5 100 97 true [] (.mv (.t 8)),
  ag 6 101 97 true [] (.ia 3 (.t 99) (.t 100)),
  ag 7 102 97 true [] (.fa 0 (.t 101)),
  ag 8 103 97 true [] (.ld 1 false (.t 102)),
  ag 9 104 97 true [] (.bin .neq (.t 103) (.k (.i 6))),
  ao 10 105 (.pick (.t 97) (.t 104) (.k (.b false)))]
def r41_43 : List AOper := [ao 0 4 (.mv (.k (.b false)))]
def c41_44 : ACode := .seq (.reg r41_43) .ret
def c41_45 : ACode := .cond (.t 105) c41_44 .skip
def c41_46 : ACode := .seq (.reg r41_41) (.seq (.reg r41_42) c41_45)
def c41_47 : ACode := .block 3 c41_46
def r41_48 : List AOper := [ao 0 83 (.mv (.t 8)),
  ao 1 84 (.bin .add (.t 83) (.k (.i 1))),
  ao 2 8 (.mv (.t 84))]
def c41_49 : ACode := .seq c41_40 (.seq c41_47 (.reg r41_48))
def c41_50 : ACode := .loop c41_49
def c41_51 : ACode := .block 2 c41_50
def c41_52 : ACode := .seq (.reg r41_37) c41_51
def r41_53 : List AOper := [ao 0 4 (.mv (.k (.b true)))]
def c41 : ACode := .seq (.reg r41_0) (.seq c41_10 (.seq c41_15 (.seq c41_20 (.seq c41_36 (.seq c41_52 (.seq (.reg r41_53) .ret))))))
def s41 : List ARes := [.tmp 4]
theorem ok41 : okF Try.prog 41 106 c41 s41 := ⟨Try.f41, Try.func41, Try.ntmps41, by kernel_rfl, by kernel_rfl, by kernel_rfl⟩
theorem encK_sort (k : Kd) : ∃ rest, encK k = .s (.int .i64 k.sort) :: rest ∧ rest.length = 2 := by cases k; exact ⟨_, encK_mk _ _ _, rfl⟩
theorem fits_congr {a b c d : Kd} (h : Fits a b ↔ Fits c d) : fits a b = fits c d := by
  cases h1 : fits c d with
  | true => exact fits_true.2 (h.2 (fits_true.1 h1))
  | false => exact fits_false.2 fun h2 => fits_false.1 h1 (h.1 h2)
def FitI1 (ns : List ByteArray) (ks : List Kd) (ns' : List ByteArray) (ks' : List Kd) (i : Nat) : Prop := ∀ j, j < i → ∀ x k, ns[j]? = some x → ks[j]? = some k → ∃ k', kid ns' ks' x = some k' ∧ Fits k k'
def FitI2 (ns : List ByteArray) (ks : List Kd) (ns' : List ByteArray) (ks' : List Kd) (i : Nat) : Prop := ∀ j, j < i → ∀ x (k' : Kd), ns'[j]? = some x → ks'[j]? = some k' → kid ns ks x = none → k'.sort = 6
def inv41a (s : Int) (ns : List ByteArray) (ks : List Kd) (ns' : List ByteArray) (ks' : List Kd) (i : Nat) (σ : St) : Prop :=
  FitI1 ns ks ns' ks' i ∧ (∃ u, σ.t 2 = .c (.ptr 2 u 0) ∧ σ.H 2 = some (.var u 26 [.v (.s (.int .i64 s)), .v (.sl (encS ns)), .v (.sl (encKs ks))])) ∧ (∃ u, σ.t 3 = .c (.ptr 3 u 0) ∧ σ.H 3 = some (.var u 26 [.v (.s (.int .i64 s)), .v (.sl (encS ns')), .v (.sl (encKs ks'))])) ∧ σ.t 5 = .i i
def inv41b (s : Int) (ns : List ByteArray) (ks : List Kd) (ns' : List ByteArray) (ks' : List Kd) (i : Nat) (σ : St) : Prop :=
  FitI2 ns ks ns' ks' i ∧ (∃ u, σ.t 2 = .c (.ptr 2 u 0) ∧ σ.H 2 = some (.var u 26 [.v (.s (.int .i64 s)), .v (.sl (encS ns)), .v (.sl (encKs ks))])) ∧ (∃ u, σ.t 3 = .c (.ptr 3 u 0) ∧ σ.H 3 = some (.var u 26 [.v (.s (.int .i64 s)), .v (.sl (encS ns')), .v (.sl (encKs ks'))])) ∧ σ.t 8 = .i i
theorem kid_len {ns : List ByteArray} {ks : List Kd} (hl : ns.length ≤ ks.length) {x : ByteArray} {i : Nat} (hi : ns[i]? = some x) : ∃ k, kid ns ks x = some k := by
  induction ns generalizing ks i with
  | nil => simp at hi
  | cons n ns ih =>
    cases ks with
    | nil => simp at hl
    | cons k ks =>
      by_cases hn : n = x
      · exact ⟨k, by simp [kid, hn]⟩
      · cases i with
        | zero => simp at hi; exact absurd hi hn
        | succ i => simp only [kid, if_neg hn]; exact ih (by simpa using hl) (by simpa using hi)
theorem UKy_1 : (type_of% (uA c41.eq_1)) ∧ (type_of% (uR r41_0.eq_1)) ∧ (type_of% (uA c41_10.eq_1)) ∧ (type_of% (uR r41_1.eq_1)) ∧ (type_of% (uA c41_9.eq_1)) ∧ (type_of% (uA c41_8.eq_1)) ∧ (type_of% (uA c41_6.eq_1)) ∧ (type_of% (uR r41_2.eq_1)) ∧ (type_of% (uA c41_5.eq_1)) ∧ (type_of% (uA c41_4.eq_1)) ∧ (type_of% (uR r41_3.eq_1)) ∧ (type_of% (uR r41_7.eq_1)) ∧ (type_of% (uA c41_15.eq_1)) ∧ (type_of% (uR r41_11.eq_1)) ∧ (type_of% (uA c41_14.eq_1)) ∧ (type_of% (uA c41_13.eq_1)) ∧ (type_of% (uR r41_12.eq_1)) ∧ (type_of% (uA c41_20.eq_1)) ∧ (type_of% (uR r41_16.eq_1)) ∧ (type_of% (uA c41_19.eq_1)) ∧ (type_of% (uA c41_18.eq_1)) ∧ (type_of% (uR r41_17.eq_1)) ∧ (type_of% (uA c41_36.eq_1)) ∧ (type_of% (uR r41_21.eq_1)) ∧ (type_of% (uA c41_35.eq_1)) ∧ (type_of% (uA c41_34.eq_1)) ∧ (type_of% (uA c41_52.eq_1)) ∧ (type_of% (uR r41_37.eq_1)) ∧ (type_of% (uA c41_51.eq_1)) ∧ (type_of% (uA c41_50.eq_1)) ∧ (type_of% (uR r41_53.eq_1)) ∧ (type_of% s41.eq_1) :=
  ⟨uA c41.eq_1, uR r41_0.eq_1, uA c41_10.eq_1, uR r41_1.eq_1, uA c41_9.eq_1, uA c41_8.eq_1, uA c41_6.eq_1, uR r41_2.eq_1, uA c41_5.eq_1, uA c41_4.eq_1, uR r41_3.eq_1, uR r41_7.eq_1, uA c41_15.eq_1, uR r41_11.eq_1, uA c41_14.eq_1, uA c41_13.eq_1, uR r41_12.eq_1, uA c41_20.eq_1, uR r41_16.eq_1, uA c41_19.eq_1, uA c41_18.eq_1, uR r41_17.eq_1, uA c41_36.eq_1, uR r41_21.eq_1, uA c41_35.eq_1, uA c41_34.eq_1, uA c41_52.eq_1, uR r41_37.eq_1, uA c41_51.eq_1, uA c41_50.eq_1, uR r41_53.eq_1, s41.eq_1⟩
theorem UKy_2 : (type_of% (uA c41_33.eq_1)) ∧ (type_of% (uA c41_24.eq_1)) ∧ (type_of% (uR r41_22.eq_1)) ∧ (type_of% (uA c41_23.eq_1)) ∧ (type_of% (uA c41_31.eq_1)) ∧ (type_of% (uA c41_30.eq_1)) ∧ (type_of% (uR r41_25.eq_1)) ∧ (type_of% (uR r41_26.eq_1)) ∧ (type_of% (uA c41_29.eq_1)) ∧ (type_of% (uA c41_28.eq_1)) ∧ (type_of% (uR r41_27.eq_1)) ∧ (type_of% (uR r41_32.eq_1)) ∧ (type_of% (uA c41.eq_1)) ∧ (type_of% (uR r41_0.eq_1)) ∧ (type_of% (uA c41_10.eq_1)) ∧ (type_of% (uR r41_1.eq_1)) ∧ (type_of% (uA c41_9.eq_1)) ∧ (type_of% (uA c41_8.eq_1)) ∧ (type_of% (uA c41_6.eq_1)) ∧ (type_of% (uR r41_2.eq_1)) ∧ (type_of% (uA c41_5.eq_1)) ∧ (type_of% (uA c41_4.eq_1)) ∧ (type_of% (uR r41_3.eq_1)) ∧ (type_of% (uR r41_7.eq_1)) ∧ (type_of% (uA c41_15.eq_1)) ∧ (type_of% (uR r41_11.eq_1)) ∧ (type_of% (uA c41_14.eq_1)) ∧ (type_of% (uA c41_13.eq_1)) ∧ (type_of% (uR r41_12.eq_1)) ∧ (type_of% (uA c41_20.eq_1)) ∧ (type_of% (uR r41_16.eq_1)) ∧ (type_of% (uA c41_19.eq_1)) ∧ (type_of% (uA c41_18.eq_1)) ∧ (type_of% (uR r41_17.eq_1)) ∧ (type_of% (uA c41_36.eq_1)) ∧ (type_of% (uR r41_21.eq_1)) ∧ (type_of% (uA c41_35.eq_1)) ∧ (type_of% (uA c41_34.eq_1)) ∧ (type_of% (uA c41_52.eq_1)) ∧ (type_of% (uR r41_37.eq_1)) ∧ (type_of% (uA c41_51.eq_1)) ∧ (type_of% (uA c41_50.eq_1)) ∧ (type_of% (uR r41_53.eq_1)) ∧ (type_of% s41.eq_1) :=
  ⟨uA c41_33.eq_1, uA c41_24.eq_1, uR r41_22.eq_1, uA c41_23.eq_1, uA c41_31.eq_1, uA c41_30.eq_1, uR r41_25.eq_1, uR r41_26.eq_1, uA c41_29.eq_1, uA c41_28.eq_1, uR r41_27.eq_1, uR r41_32.eq_1, uA c41.eq_1, uR r41_0.eq_1, uA c41_10.eq_1, uR r41_1.eq_1, uA c41_9.eq_1, uA c41_8.eq_1, uA c41_6.eq_1, uR r41_2.eq_1, uA c41_5.eq_1, uA c41_4.eq_1, uR r41_3.eq_1, uR r41_7.eq_1, uA c41_15.eq_1, uR r41_11.eq_1, uA c41_14.eq_1, uA c41_13.eq_1, uR r41_12.eq_1, uA c41_20.eq_1, uR r41_16.eq_1, uA c41_19.eq_1, uA c41_18.eq_1, uR r41_17.eq_1, uA c41_36.eq_1, uR r41_21.eq_1, uA c41_35.eq_1, uA c41_34.eq_1, uA c41_52.eq_1, uR r41_37.eq_1, uA c41_51.eq_1, uA c41_50.eq_1, uR r41_53.eq_1, s41.eq_1⟩
theorem UKy_3 : (type_of% (uA c41_49.eq_1)) ∧ (type_of% (uA c41_40.eq_1)) ∧ (type_of% (uR r41_38.eq_1)) ∧ (type_of% (uA c41_39.eq_1)) ∧ (type_of% (uA c41_47.eq_1)) ∧ (type_of% (uA c41_46.eq_1)) ∧ (type_of% (uR r41_41.eq_1)) ∧ (type_of% (uR r41_42.eq_1)) ∧ (type_of% (uA c41_45.eq_1)) ∧ (type_of% (uA c41_44.eq_1)) ∧ (type_of% (uR r41_43.eq_1)) ∧ (type_of% (uR r41_48.eq_1)) ∧ (type_of% (uA c41.eq_1)) ∧ (type_of% (uR r41_0.eq_1)) ∧ (type_of% (uA c41_10.eq_1)) ∧ (type_of% (uR r41_1.eq_1)) ∧ (type_of% (uA c41_9.eq_1)) ∧ (type_of% (uA c41_8.eq_1)) ∧ (type_of% (uA c41_6.eq_1)) ∧ (type_of% (uR r41_2.eq_1)) ∧ (type_of% (uA c41_5.eq_1)) ∧ (type_of% (uA c41_4.eq_1)) ∧ (type_of% (uR r41_3.eq_1)) ∧ (type_of% (uR r41_7.eq_1)) ∧ (type_of% (uA c41_15.eq_1)) ∧ (type_of% (uR r41_11.eq_1)) ∧ (type_of% (uA c41_14.eq_1)) ∧ (type_of% (uA c41_13.eq_1)) ∧ (type_of% (uR r41_12.eq_1)) ∧ (type_of% (uA c41_20.eq_1)) ∧ (type_of% (uR r41_16.eq_1)) ∧ (type_of% (uA c41_19.eq_1)) ∧ (type_of% (uA c41_18.eq_1)) ∧ (type_of% (uR r41_17.eq_1)) ∧ (type_of% (uA c41_36.eq_1)) ∧ (type_of% (uR r41_21.eq_1)) ∧ (type_of% (uA c41_35.eq_1)) ∧ (type_of% (uA c41_34.eq_1)) ∧ (type_of% (uA c41_52.eq_1)) ∧ (type_of% (uR r41_37.eq_1)) ∧ (type_of% (uA c41_51.eq_1)) ∧ (type_of% (uA c41_50.eq_1)) ∧ (type_of% (uR r41_53.eq_1)) ∧ (type_of% s41.eq_1) :=
  ⟨uA c41_49.eq_1, uA c41_40.eq_1, uR r41_38.eq_1, uA c41_39.eq_1, uA c41_47.eq_1, uA c41_46.eq_1, uR r41_41.eq_1, uR r41_42.eq_1, uA c41_45.eq_1, uA c41_44.eq_1, uR r41_43.eq_1, uR r41_48.eq_1, uA c41.eq_1, uR r41_0.eq_1, uA c41_10.eq_1, uR r41_1.eq_1, uA c41_9.eq_1, uA c41_8.eq_1, uA c41_6.eq_1, uR r41_2.eq_1, uA c41_5.eq_1, uA c41_4.eq_1, uR r41_3.eq_1, uR r41_7.eq_1, uA c41_15.eq_1, uR r41_11.eq_1, uA c41_14.eq_1, uA c41_13.eq_1, uR r41_12.eq_1, uA c41_20.eq_1, uR r41_16.eq_1, uA c41_19.eq_1, uA c41_18.eq_1, uR r41_17.eq_1, uA c41_36.eq_1, uR r41_21.eq_1, uA c41_35.eq_1, uA c41_34.eq_1, uA c41_52.eq_1, uR r41_37.eq_1, uA c41_51.eq_1, uA c41_50.eq_1, uR r41_53.eq_1, s41.eq_1⟩
set_option maxHeartbeats 1000000 in
theorem fitsS_ok : ∀ (b a : Kd) (d d' : Nat), KOk d a → KOk d' b → KB 2000 a → KB 2000 b → ACallsF Try.prog 41 [tK a, tK b] [] (.b (fits a b)) := by
  intro b
  induction b using Kd.ind with
  | _ s' ns' ks' ih =>
    intro a d d' hOa hOb hBa hBb
    obtain ⟨s, ns, ks⟩ := a
    obtain ⟨_, hSa, hKa⟩ := hOa.inv
    obtain ⟨_, hSb, hKb⟩ := hOb.inv
    obtain ⟨a1, a2, a3, a4⟩ := hBa.inv
    obtain ⟨b1, b2, b3, b4⟩ := hBb.inv
    refine ACallsF.intro ok41 follows fun X c0 => ?_
    by_cases h6' : s' = 6
    · subst h6'
      have hl' := hSb.one (.inr rfl)
      obtain ⟨kb, hkb⟩ : ∃ k, ks'[0]? = some k := ⟨_, List.getElem?_eq_getElem (by omega)⟩
      have hmb := List.mem_of_getElem? hkb
      have ekb := encKs_at hkb
      by_cases h6 : s = 6
      · subst h6
        have hl := hSa.one (.inr rfl)
        obtain ⟨ka, hka⟩ : ∃ k, ks[0]? = some k := ⟨_, List.getElem?_eq_getElem (by omega)⟩
        have hma := List.mem_of_getElem? hka
        have eka := encKs_at hka
        have hC := ih kb hmb ka _ _ (hKa ka hma) (hKb kb hmb) (a4 ka hma) (b4 kb hmb)
        have hF : fits (.mk 6 ns ks) (.mk 6 ns' ks') = fits ka kb := fits_congr (Fits.mm_iff hka hkb)
        simp only [RUN, core, T.c, T.s, T.b, T.i, sBin, sInt, sUn, isShift, asInt, P1.cells, loadT, ptrC, storeT, putC, fillP, Nat.reduceAdd, reduceIte, Nat.reduceEqDiff, Nat.reduceLT, Nat.reduceLeDiff, reduceCtorEq, eq_self, FIT, lendCs_map, verC_map, FinC, resPs, resP, lendPl, lendCs, lendC, sealC, partsT, finHs, tupT, verT, verP, verC, verB, verAt, Blk.ver, handsAre, forall_const, CHT, disj, Nat.reduceBEq, beq_self_eq_true, APT, srcOf, sealPs, sealCs, sealC, List.mem_singleton, forall_eq, ALT, UKy_1, encK_mk, Int.reduceBEq, eka, ekb, Int.le_refl, Int.toNat_zero, List.length_map, encK_len, takeK]
        refine callC hC rfl rfl (by simp [closedA, closedP, closedC]) rfl ?_
        simp only [RUN, core, T.c, T.s, T.b, T.i, sBin, sInt, sUn, isShift, asInt, P1.cells, loadT, ptrC, storeT, putC, fillP, Nat.reduceAdd, reduceIte, Nat.reduceEqDiff, Nat.reduceLT, Nat.reduceLeDiff, reduceCtorEq, eq_self, FIT, lendCs_map, verC_map, FinC, resPs, resP, lendPl, lendCs, lendC, sealC, partsT, finHs, tupT, verT, verP, verC, verB, verAt, Blk.ver, handsAre, forall_const, CHT, disj, Nat.reduceBEq, beq_self_eq_true, APT, srcOf, sealPs, sealCs, sealC, List.mem_singleton, forall_eq, ALT, UKy_1, hF]
      · have h6b : (s == 6) = false := beq_eq_false_iff_ne.2 h6
        have hC := ih kb hmb (.mk s ns ks) _ _ hOa (hKb kb hmb) hBa (b4 kb hmb)
        have hF : fits (.mk s ns ks) (.mk 6 ns' ks') = fits (.mk s ns ks) kb := fits_congr (Fits.m_iff h6 hkb)
        simp only [tK, encK_mk, List.map_cons, List.map_nil] at hC
        simp only [RUN, core, T.c, T.s, T.b, T.i, sBin, sInt, sUn, isShift, asInt, P1.cells, loadT, ptrC, storeT, putC, fillP, Nat.reduceAdd, reduceIte, Nat.reduceEqDiff, Nat.reduceLT, Nat.reduceLeDiff, reduceCtorEq, eq_self, FIT, lendCs_map, verC_map, FinC, resPs, resP, lendPl, lendCs, lendC, sealC, partsT, finHs, tupT, verT, verP, verC, verB, verAt, Blk.ver, handsAre, forall_const, CHT, disj, Nat.reduceBEq, beq_self_eq_true, APT, srcOf, sealPs, sealCs, sealC, List.mem_singleton, forall_eq, ALT, UKy_1, encK_mk, Int.reduceBEq, h6b, ekb, Int.le_refl, Int.toNat_zero, List.length_map, encK_len, takeK]
        refine callC hC rfl rfl (by simp [closedA, closedP, closedC]) rfl ?_
        simp only [RUN, core, T.c, T.s, T.b, T.i, sBin, sInt, sUn, isShift, asInt, P1.cells, loadT, ptrC, storeT, putC, fillP, Nat.reduceAdd, reduceIte, Nat.reduceEqDiff, Nat.reduceLT, Nat.reduceLeDiff, reduceCtorEq, eq_self, FIT, lendCs_map, verC_map, FinC, resPs, resP, lendPl, lendCs, lendC, sealC, partsT, finHs, tupT, verT, verP, verC, verB, verAt, Blk.ver, handsAre, forall_const, CHT, disj, Nat.reduceBEq, beq_self_eq_true, APT, srcOf, sealPs, sealCs, sealC, List.mem_singleton, forall_eq, ALT, UKy_1, hF]
    · have h6b' : (s' == 6) = false := beq_eq_false_iff_ne.2 h6'
      by_cases hss : s = s'
      · subst hss
        have hse : (!(s == s)) = false := by simp
        by_cases h4 : s = 4
        · subst h4
          have hl := hSa.one (.inl rfl)
          have hl' := hSb.one (.inl rfl)
          obtain ⟨kb, hkb⟩ : ∃ k, ks'[0]? = some k := ⟨_, List.getElem?_eq_getElem (by omega)⟩
          have hmb := List.mem_of_getElem? hkb
          have ekb := encKs_at hkb
          obtain ⟨ka, hka⟩ : ∃ k, ks[0]? = some k := ⟨_, List.getElem?_eq_getElem (by omega)⟩
          have hma := List.mem_of_getElem? hka
          have eka := encKs_at hka
          have hC := ih kb hmb ka _ _ (hKa ka hma) (hKb kb hmb) (a4 ka hma) (b4 kb hmb)
          have hF : fits (.mk 4 ns ks) (.mk 4 ns' ks') = fits ka kb := fits_congr (Fits.l_iff hka hkb)
          simp only [RUN, core, T.c, T.s, T.b, T.i, sBin, sInt, sUn, isShift, asInt, P1.cells, loadT, ptrC, storeT, putC, fillP, Nat.reduceAdd, reduceIte, Nat.reduceEqDiff, Nat.reduceLT, Nat.reduceLeDiff, reduceCtorEq, eq_self, FIT, lendCs_map, verC_map, FinC, resPs, resP, lendPl, lendCs, lendC, sealC, partsT, finHs, tupT, verT, verP, verC, verB, verAt, Blk.ver, handsAre, forall_const, CHT, disj, Nat.reduceBEq, beq_self_eq_true, APT, srcOf, sealPs, sealCs, sealC, List.mem_singleton, forall_eq, ALT, UKy_1, encK_mk, Int.reduceBEq, Int.reduceBNe, eka, ekb, Int.le_refl, Int.toNat_zero, List.length_map, encK_len, takeK]
          refine callC hC rfl rfl (by simp [closedA, closedP, closedC]) rfl ?_
          simp only [RUN, core, T.c, T.s, T.b, T.i, sBin, sInt, sUn, isShift, asInt, P1.cells, loadT, ptrC, storeT, putC, fillP, Nat.reduceAdd, reduceIte, Nat.reduceEqDiff, Nat.reduceLT, Nat.reduceLeDiff, reduceCtorEq, eq_self, FIT, lendCs_map, verC_map, FinC, resPs, resP, lendPl, lendCs, lendC, sealC, partsT, finHs, tupT, verT, verP, verC, verB, verAt, Blk.ver, handsAre, forall_const, CHT, disj, Nat.reduceBEq, beq_self_eq_true, APT, srcOf, sealPs, sealCs, sealC, List.mem_singleton, forall_eq, ALT, UKy_1, hF]
        · have h4b : (s == 4) = false := beq_eq_false_iff_ne.2 h4
          have hne : (s != s) = false := by simp
          have hlen : ns.length ≤ ks.length := by
            by_cases h5 : s = 5
            · have := (hSa.form h5).1; omega
            · have := hSa.other h5; omega
          have hlen' : ns'.length ≤ ks'.length := by
            by_cases h5 : s = 5
            · have := (hSb.form h5).1; omega
            · have := hSb.other h5; omega
          have hfin : FitI1 ns ks ns' ks' ns.length → FitI2 ns ks ns' ks' ns'.length → Fits (.mk s ns ks) (.mk s ns' ks') := by
            intro g1 g2
            by_cases h5 : s = 5
            · subst h5
              refine .f _ _ _ _ (fun i x hi => ?_) (fun i x k k' hi hk hk' => ?_) fun i x k' hi hk => ?_
              · have hlt := (List.getElem?_eq_some_iff.1 hi).1
                obtain ⟨k', h1, _⟩ := g1 i hlt x _ hi (List.getElem?_eq_getElem (by omega))
                exact ⟨k', h1⟩
              · have hlt := (List.getElem?_eq_some_iff.1 hi).1
                obtain ⟨k2, h1, h2⟩ := g1 i hlt x k hi hk
                rw [hk'] at h1; cases h1; exact h2
              · exact g2 i (List.getElem?_eq_some_iff.1 hi).1 x k' hi hk
            · have := hSa.lo
              have := hSa.hi
              exact .leaf _ _ _ _ _ (by omega)
          have hbad : Fits (.mk s ns ks) (.mk s ns' ks') → (∀ (i : Nat) x k, ns[i]? = some x → ks[i]? = some k → ∃ k', kid ns' ks' x = some k' ∧ Fits k k') ∧ ∀ (i : Nat) x (k' : Kd), ns'[i]? = some x → ks'[i]? = some k' → kid ns ks x = none → k'.sort = 6 := by
            intro h
            cases h with
            | mm => exact absurd rfl h6'
            | m => exact absurd rfl h6'
            | l => exact absurd rfl h4
            | leaf _ _ _ _ _ hs =>
              have e1 := hSa.other (by omega)
              have e2 := hSb.other (by omega)
              rw [List.length_eq_zero_iff] at e1 e2
              subst e1 e2
              exact ⟨fun i x k h => by simp at h, fun i x k h => by simp at h⟩
            | f _ _ _ _ h1 h2 h3 => exact ⟨fun i x k hi hk => by obtain ⟨k', hk'⟩ := h1 i x hi; exact ⟨k', hk', h2 i x k k' hi hk hk'⟩, h3⟩
          simp only [RUN, core, T.c, T.s, T.b, T.i, sBin, sInt, sUn, isShift, asInt, P1.cells, loadT, ptrC, storeT, putC, fillP, Nat.reduceAdd, reduceIte, Nat.reduceEqDiff, Nat.reduceLT, Nat.reduceLeDiff, reduceCtorEq, eq_self, FIT, lendCs_map, verC_map, FinC, resPs, resP, lendPl, lendCs, lendC, sealC, partsT, finHs, tupT, verT, verP, verC, verB, verAt, Blk.ver, handsAre, forall_const, CHT, disj, Nat.reduceBEq, beq_self_eq_true, APT, srcOf, sealPs, sealCs, sealC, List.mem_singleton, forall_eq, ALT, UKy_1, encK_mk, h6b', h4b, hne]
          refine AW.upto ns.length (inv41a s ns ks ns' ks') ⟨fun j hj => absurd hj (Nat.not_lt_zero j), ⟨_, rfl, rfl⟩, ⟨_, rfl, rfl⟩, rfl⟩ fun i t H c hi h => ?_
          obtain ⟨g0, ⟨u2, e2, eH2⟩, ⟨u3, e3, eH3⟩, e5⟩ := h
          simp only [T.c, T.i] at e2 eH2 e3 eH3 e5
          by_cases hlt : i < ns.length
          · have k1 : (i : Int) < ns.length := by omega
            have gz : (0 : Int) ≤ i := by omega
            have gw : IntKind.i64.wrap ((i : Int) + 1) = ((i + 1 : Nat) : Int) := wrap64 (x := (i : Int) + 1) ⟨by omega, by omega⟩
            obtain ⟨x, hx⟩ : ∃ y, ns[i]? = some y := ⟨_, List.getElem?_eq_getElem hlt⟩
            obtain ⟨k, hk⟩ : ∃ k, ks[i]? = some k := ⟨_, List.getElem?_eq_getElem (by omega)⟩
            have hmk := List.mem_of_getElem? hk
            have es := encS_at hx
            have ek := encKs_at hk
            have hCk := kid_ok s ns' ks' x hlen' (by omega)
            simp only [tK, encK_mk] at hCk
            simp only [List.map_cons, List.map_nil] at hCk
            simp only [RUN, core, T.c, T.s, T.b, T.i, sBin, sInt, sUn, isShift, asInt, P1.cells, loadT, ptrC, storeT, putC, fillP, Nat.reduceAdd, reduceIte, Nat.reduceEqDiff, Nat.reduceLT, Nat.reduceLeDiff, reduceCtorEq, eq_self, FIT, lendCs_map, verC_map, FinC, resPs, resP, lendPl, lendCs, lendC, sealC, partsT, finHs, tupT, verT, verP, verC, verB, verAt, Blk.ver, handsAre, forall_const, CHT, disj, Nat.reduceBEq, beq_self_eq_true, APT, srcOf, sealPs, sealCs, sealC, List.mem_singleton, forall_eq, ALT, UKy_2, e2, eH2, e3, eH3, e5, k1, gz, encS_len, es, ek, Int.toNat_natCast]
            refine callC hCk rfl rfl (by simp [closedA, closedP, closedC]) (by simp [closedT, closedP, closedC]) ?_
            cases hq : kid ns' ks' x with
            | none =>
              have hkr : kidR ns' ks' x = (.mk 0 [] [], false) := by rw [kidR, hq]
              have hF : fits (.mk s ns ks) (.mk s ns' ks') = false := fits_false.2 fun h => by
                obtain ⟨k', h1, _⟩ := (hbad h).1 i x k hx hk
                rw [hq] at h1; cases h1
              simp only [RUN, core, T.c, T.s, T.b, T.i, sBin, sInt, sUn, isShift, asInt, P1.cells, loadT, ptrC, storeT, putC, fillP, Nat.reduceAdd, reduceIte, Nat.reduceEqDiff, Nat.reduceLT, Nat.reduceLeDiff, reduceCtorEq, eq_self, FIT, lendCs_map, verC_map, FinC, resPs, resP, lendPl, lendCs, lendC, sealC, partsT, finHs, tupT, verT, verP, verC, verB, verAt, Blk.ver, handsAre, forall_const, CHT, disj, Nat.reduceBEq, beq_self_eq_true, APT, srcOf, sealPs, sealCs, sealC, List.mem_singleton, forall_eq, ALT, UKy_2, e2, eH2, e3, eH3, e5, hkr, hF, List.length_map, encK_len, takeK, Nat.le_refl]
            | some k' =>
              have hkr : kidR ns' ks' x = (k', true) := by rw [kidR, hq]
              obtain ⟨j', hj1, hj2⟩ := kid_mem hq
              have hmk' := List.mem_of_getElem? hj2
              have hC := ih k' hmk' k _ _ (hKa k hmk) (hKb k' hmk') (a4 k hmk) (b4 k' hmk')
              simp only [RUN, core, T.c, T.s, T.b, T.i, sBin, sInt, sUn, isShift, asInt, P1.cells, loadT, ptrC, storeT, putC, fillP, Nat.reduceAdd, reduceIte, Nat.reduceEqDiff, Nat.reduceLT, Nat.reduceLeDiff, reduceCtorEq, eq_self, FIT, lendCs_map, verC_map, FinC, resPs, resP, lendPl, lendCs, lendC, sealC, partsT, finHs, tupT, verT, verP, verC, verB, verAt, Blk.ver, handsAre, forall_const, CHT, disj, Nat.reduceBEq, beq_self_eq_true, APT, srcOf, sealPs, sealCs, sealC, List.mem_singleton, forall_eq, ALT, UKy_2, e2, eH2, e3, eH3, e5, hkr, k1, gz, encS_len, es, ek, Int.toNat_natCast, List.length_map, encK_len, takeK, Nat.le_refl]
              refine callC hC rfl rfl (by simp [closedA, closedP, closedC]) rfl ?_
              cases hfk : fits k k' with
              | false =>
                have hF : fits (.mk s ns ks) (.mk s ns' ks') = false := fits_false.2 fun h => by
                  obtain ⟨k2, h1, h2⟩ := (hbad h).1 i x k hx hk
                  rw [hq] at h1; cases h1
                  rw [fits_false] at hfk; exact hfk h2
                simp only [RUN, core, T.c, T.s, T.b, T.i, sBin, sInt, sUn, isShift, asInt, P1.cells, loadT, ptrC, storeT, putC, fillP, Nat.reduceAdd, reduceIte, Nat.reduceEqDiff, Nat.reduceLT, Nat.reduceLeDiff, reduceCtorEq, eq_self, FIT, lendCs_map, verC_map, FinC, resPs, resP, lendPl, lendCs, lendC, sealC, partsT, finHs, tupT, verT, verP, verC, verB, verAt, Blk.ver, handsAre, forall_const, CHT, disj, Nat.reduceBEq, beq_self_eq_true, APT, srcOf, sealPs, sealCs, sealC, List.mem_singleton, forall_eq, ALT, UKy_2, hF]
              | true =>
                simp only [RUN, core, T.c, T.s, T.b, T.i, sBin, sInt, sUn, isShift, asInt, P1.cells, loadT, ptrC, storeT, putC, fillP, Nat.reduceAdd, reduceIte, Nat.reduceEqDiff, Nat.reduceLT, Nat.reduceLeDiff, reduceCtorEq, eq_self, FIT, lendCs_map, verC_map, FinC, resPs, resP, lendPl, lendCs, lendC, sealC, partsT, finHs, tupT, verT, verP, verC, verB, verAt, Blk.ver, handsAre, forall_const, CHT, disj, Nat.reduceBEq, beq_self_eq_true, APT, srcOf, sealPs, sealCs, sealC, List.mem_singleton, forall_eq, ALT, UKy_2, e5, gw]
                refine ⟨hlt, fun j hj x2 k2 h1 h2 => ?_, ⟨u2, e2, eH2⟩, ⟨u3, e3, eH3⟩, rfl⟩
                rcases Nat.lt_succ_iff_lt_or_eq.1 hj with hj | rfl
                · exact g0 j hj x2 k2 h1 h2
                · rw [hx] at h1; rw [hk] at h2; cases h1; cases h2
                  exact ⟨k', hq, fits_true.1 hfk⟩
          · have hin : i = ns.length := by omega
            subst hin
            have k1 : ¬ ((ns.length : Nat) : Int) < ns.length := by omega
            simp only [RUN, core, T.c, T.s, T.b, T.i, sBin, sInt, sUn, isShift, asInt, P1.cells, loadT, ptrC, storeT, putC, fillP, Nat.reduceAdd, reduceIte, Nat.reduceEqDiff, Nat.reduceLT, Nat.reduceLeDiff, reduceCtorEq, eq_self, FIT, lendCs_map, verC_map, FinC, resPs, resP, lendPl, lendCs, lendC, sealC, partsT, finHs, tupT, verT, verP, verC, verB, verAt, Blk.ver, handsAre, forall_const, CHT, disj, Nat.reduceBEq, beq_self_eq_true, APT, srcOf, sealPs, sealCs, sealC, List.mem_singleton, forall_eq, ALT, UKy_2, e2, eH2, e3, eH3, e5, k1, encS_len]
            refine AW.upto ns'.length (inv41b s ns ks ns' ks') ⟨fun j hj => absurd hj (Nat.not_lt_zero j), ⟨u2, e2, eH2⟩, ⟨u3, e3, eH3⟩, rfl⟩ fun i t H c hi h => ?_
            clear e2 eH2 e3 eH3 e5
            obtain ⟨g2, ⟨u2, e2, eH2⟩, ⟨u3, e3, eH3⟩, e8⟩ := h
            simp only [T.c, T.i] at e2 eH2 e3 eH3 e8
            by_cases hlt : i < ns'.length
            · have k1 : (i : Int) < ns'.length := by omega
              have gz : (0 : Int) ≤ i := by omega
              have gw : IntKind.i64.wrap ((i : Int) + 1) = ((i + 1 : Nat) : Int) := wrap64 (x := (i : Int) + 1) ⟨by omega, by omega⟩
              obtain ⟨x, hx⟩ : ∃ y, ns'[i]? = some y := ⟨_, List.getElem?_eq_getElem hlt⟩
              obtain ⟨k, hk⟩ : ∃ k, ks'[i]? = some k := ⟨_, List.getElem?_eq_getElem (by omega)⟩
              have es := encS_at hx
              have ek := encKs_at hk
              obtain ⟨rest, erest, hrest⟩ := encK_sort k
              have hCk := kid_ok s ns ks x hlen (by omega)
              simp only [tK, encK_mk] at hCk
              simp only [List.map_cons, List.map_nil] at hCk
              simp only [RUN, core, T.c, T.s, T.b, T.i, sBin, sInt, sUn, isShift, asInt, P1.cells, loadT, ptrC, storeT, putC, fillP, Nat.reduceAdd, reduceIte, Nat.reduceEqDiff, Nat.reduceLT, Nat.reduceLeDiff, reduceCtorEq, eq_self, FIT, lendCs_map, verC_map, FinC, resPs, resP, lendPl, lendCs, lendC, sealC, partsT, finHs, tupT, verT, verP, verC, verB, verAt, Blk.ver, handsAre, forall_const, CHT, disj, Nat.reduceBEq, beq_self_eq_true, APT, srcOf, sealPs, sealCs, sealC, List.mem_singleton, forall_eq, ALT, UKy_3, e2, eH2, e3, eH3, e8, k1, gz, encS_len, es, ek, Int.toNat_natCast]
              refine callC hCk rfl rfl (by simp [closedA, closedP, closedC]) (by simp [closedT, closedP, closedC]) ?_
              have key : (kid ns ks x = none → k.sort = 6) → FitI2 ns ks ns' ks' (i + 1) := by
                intro h j hj x2 k2 h1 h2 h3
                rcases Nat.lt_succ_iff_lt_or_eq.1 hj with hj | rfl
                · exact g2 j hj x2 k2 h1 h2 h3
                · rw [hx] at h1; rw [hk] at h2; cases h1; cases h2; exact h h3
              cases hq : kid ns ks x with
              | some k' =>
                have hkr : kidR ns ks x = (k', true) := by rw [kidR, hq]
                simp only [RUN, core, T.c, T.s, T.b, T.i, sBin, sInt, sUn, isShift, asInt, P1.cells, loadT, ptrC, storeT, putC, fillP, Nat.reduceAdd, reduceIte, Nat.reduceEqDiff, Nat.reduceLT, Nat.reduceLeDiff, reduceCtorEq, eq_self, FIT, lendCs_map, verC_map, FinC, resPs, resP, lendPl, lendCs, lendC, sealC, partsT, finHs, tupT, verT, verP, verC, verB, verAt, Blk.ver, handsAre, forall_const, CHT, disj, Nat.reduceBEq, beq_self_eq_true, APT, srcOf, sealPs, sealCs, sealC, List.mem_singleton, forall_eq, ALT, UKy_3, e8, hkr, gw, List.length_map, encK_len, takeK, Nat.le_refl]
                exact ⟨hlt, key (fun h => by rw [hq] at h; cases h), ⟨u2, e2, eH2⟩, ⟨u3, e3, eH3⟩, rfl⟩
              | none =>
                have hkr : kidR ns ks x = (.mk 0 [] [], false) := by rw [kidR, hq]
                have hr3 : rest.length + 1 = 3 := by omega
                by_cases hs6 : k.sort = 6
                · have hsb : (k.sort != 6) = false := by rw [hs6]; rfl
                  simp only [RUN, core, T.c, T.s, T.b, T.i, sBin, sInt, sUn, isShift, asInt, P1.cells, loadT, ptrC, storeT, putC, fillP, Nat.reduceAdd, reduceIte, Nat.reduceEqDiff, Nat.reduceLT, Nat.reduceLeDiff, reduceCtorEq, eq_self, FIT, lendCs_map, verC_map, FinC, resPs, resP, lendPl, lendCs, lendC, sealC, partsT, finHs, tupT, verT, verP, verC, verB, verAt, Blk.ver, handsAre, forall_const, CHT, disj, Nat.reduceBEq, beq_self_eq_true, APT, srcOf, sealPs, sealCs, sealC, List.mem_singleton, forall_eq, ALT, UKy_3, e3, eH3, e8, hkr, gz, ek, erest, hr3, hsb, gw, Int.toNat_natCast, List.length_map, encK_len, takeK, Nat.le_refl]
                  exact ⟨hlt, key fun _ => hs6, ⟨u2, e2, eH2⟩, ⟨u3, e3, eH3⟩, rfl⟩
                · have hsb : (k.sort != 6) = true := by simp [hs6]
                  have hF : fits (.mk s ns ks) (.mk s ns' ks') = false := fits_false.2 fun h => hs6 ((hbad h).2 i x k hx hk hq)
                  simp only [RUN, core, T.c, T.s, T.b, T.i, sBin, sInt, sUn, isShift, asInt, P1.cells, loadT, ptrC, storeT, putC, fillP, Nat.reduceAdd, reduceIte, Nat.reduceEqDiff, Nat.reduceLT, Nat.reduceLeDiff, reduceCtorEq, eq_self, FIT, lendCs_map, verC_map, FinC, resPs, resP, lendPl, lendCs, lendC, sealC, partsT, finHs, tupT, verT, verP, verC, verB, verAt, Blk.ver, handsAre, forall_const, CHT, disj, Nat.reduceBEq, beq_self_eq_true, APT, srcOf, sealPs, sealCs, sealC, List.mem_singleton, forall_eq, ALT, UKy_3, e3, eH3, e8, hkr, gz, ek, erest, hr3, hsb, hF, Int.toNat_natCast, List.length_map, encK_len, takeK, Nat.le_refl]
            · have hin : i = ns'.length := by omega
              subst hin
              have k1 : ¬ ((ns'.length : Nat) : Int) < ns'.length := by omega
              have hF : fits (.mk s ns ks) (.mk s ns' ks') = true := fits_true.2 (hfin g0 g2)
              simp only [RUN, core, T.c, T.s, T.b, T.i, sBin, sInt, sUn, isShift, asInt, P1.cells, loadT, ptrC, storeT, putC, fillP, Nat.reduceAdd, reduceIte, Nat.reduceEqDiff, Nat.reduceLT, Nat.reduceLeDiff, reduceCtorEq, eq_self, FIT, lendCs_map, verC_map, FinC, resPs, resP, lendPl, lendCs, lendC, sealC, partsT, finHs, tupT, verT, verP, verC, verB, verAt, Blk.ver, handsAre, forall_const, CHT, disj, Nat.reduceBEq, beq_self_eq_true, APT, srcOf, sealPs, sealCs, sealC, List.mem_singleton, forall_eq, ALT, UKy_3, UKy_1, e3, eH3, e8, k1, encS_len, hF]
      · have hne : (s != s') = true := by simp [hss]
        have hF : fits (.mk s ns ks) (.mk s' ns' ks') = false := fits_false.2 fun h => hss (h.sort_eq h6')
        simp only [RUN, core, T.c, T.s, T.b, T.i, sBin, sInt, sUn, isShift, asInt, P1.cells, loadT, ptrC, storeT, putC, fillP, Nat.reduceAdd, reduceIte, Nat.reduceEqDiff, Nat.reduceLT, Nat.reduceLeDiff, reduceCtorEq, eq_self, FIT, lendCs_map, verC_map, FinC, resPs, resP, lendPl, lendCs, lendC, sealC, partsT, finHs, tupT, verT, verP, verC, verB, verAt, Blk.ver, handsAre, forall_const, CHT, disj, Nat.reduceBEq, beq_self_eq_true, APT, srcOf, sealPs, sealCs, sealC, List.mem_singleton, forall_eq, ALT, UKy_1, encK_mk, h6b', hne, hF]
end Go.V
set_option linter.unusedSimpArgs false
namespace Go.V
open Go.Proofs
/- loop.example/teagle/spec.KindFits -/
def r10_0 : List AOper := [ao 0 2 (.box 26 (.t 0)),
  ao 1 3 (.box 26 (.t 1)),
  ao 2 4 (.mv (.k (.b false)))]
def r10_1 : List AOper := [ao 0 5 (.ld 3 true (.t 2)),
  ao 1 6 (.call (.k (.c (.fn 25 []))) [(.t 5)]),
  ao 2 7 (.mv (.t 6)),
  ag 3 8 7 true [] (.ld 3 true (.t 3)),
  ag 4 9 7 true [] (.call (.k (.c (.fn 25 []))) [(.t 8)]),
  ao 5 10 (.pick (.t 7) (.t 9) (.k (.b false))),
  ao 6 11 (.mv (.t 10)),
  ag 7 12 11 true [] (.ld 3 true (.t 2)),
  ag 8 13 11 true [] (.ld 3 true (.t 3)),
  ag 9 14 11 true [] (.call (.k (.c (.fn 41 []))) [(.t 12), (.t 13)]),
  ao 10 15 (.pick (.t 11) (.t 14) (.k (.b false))),
  ao 11 4 (.mv (.t 15))]
def c10 : ACode := .seq (.reg r10_0) (.seq (.reg r10_1) .ret)
def s10 : List ARes := [.tmp 4]
theorem ok10 : okF Try.prog 10 16 c10 s10 := ⟨Try.f10, Try.func10, Try.ntmps10, by kernel_rfl, by kernel_rfl, by kernel_rfl⟩
theorem UKz_1 : (type_of% (uA c10.eq_1)) ∧ (type_of% (uR r10_0.eq_1)) ∧ (type_of% (uR r10_1.eq_1)) ∧ (type_of% s10.eq_1) :=
  ⟨uA c10.eq_1, uR r10_0.eq_1, uR r10_1.eq_1, s10.eq_1⟩
theorem kindFitsS_ok (a b : Kd) (ha : KB 2000 a) (hb : KB 2000 b) : ACallsF Try.prog 10 [tK a, tK b] [] (.b (okK a && (okK b && fits a b))) := by
  refine ACallsF.intro ok10 follows fun X c0 => ?_
  simp only [RUN, core, T.c, T.s, T.b, T.i, sBin, sInt, sUn, isShift, asInt, P1.cells, loadT, ptrC, storeT, putC, fillP, Nat.reduceAdd, reduceIte, Nat.reduceEqDiff, Nat.reduceLT, Nat.reduceLeDiff, reduceCtorEq, eq_self, FIT, lendCs_map, verC_map, FinC, resPs, resP, lendPl, lendCs, lendC, sealC, partsT, finHs, tupT, verT, verP, verC, verB, verAt, Blk.ver, handsAre, forall_const, CHT, disj, Nat.reduceBEq, beq_self_eq_true, APT, srcOf, sealPs, sealCs, sealC, List.mem_singleton, forall_eq, ALT, UKz_1, List.length_map, encK_len, takeK, Nat.le_refl]
  refine callC (kindOkS_ok a (ha.le (by omega))) rfl rfl (by simp [closedA, closedP, closedC]) rfl ?_
  cases h1 : okK a with
  | false => simp only [RUN, core, T.c, T.s, T.b, T.i, sBin, sInt, sUn, isShift, asInt, P1.cells, loadT, ptrC, storeT, putC, fillP, Nat.reduceAdd, reduceIte, Nat.reduceEqDiff, Nat.reduceLT, Nat.reduceLeDiff, reduceCtorEq, eq_self, FIT, lendCs_map, verC_map, FinC, resPs, resP, lendPl, lendCs, lendC, sealC, partsT, finHs, tupT, verT, verP, verC, verB, verAt, Blk.ver, handsAre, forall_const, CHT, disj, Nat.reduceBEq, beq_self_eq_true, APT, srcOf, sealPs, sealCs, sealC, List.mem_singleton, forall_eq, ALT, UKz_1]
  | true =>
    simp only [RUN, core, T.c, T.s, T.b, T.i, sBin, sInt, sUn, isShift, asInt, P1.cells, loadT, ptrC, storeT, putC, fillP, Nat.reduceAdd, reduceIte, Nat.reduceEqDiff, Nat.reduceLT, Nat.reduceLeDiff, reduceCtorEq, eq_self, FIT, lendCs_map, verC_map, FinC, resPs, resP, lendPl, lendCs, lendC, sealC, partsT, finHs, tupT, verT, verP, verC, verB, verAt, Blk.ver, handsAre, forall_const, CHT, disj, Nat.reduceBEq, beq_self_eq_true, APT, srcOf, sealPs, sealCs, sealC, List.mem_singleton, forall_eq, ALT, UKz_1, List.length_map, encK_len, takeK, Nat.le_refl]
    refine callC (kindOkS_ok b (hb.le (by omega))) rfl rfl (by simp [closedA, closedP, closedC]) rfl ?_
    cases h2 : okK b with
    | false => simp only [RUN, core, T.c, T.s, T.b, T.i, sBin, sInt, sUn, isShift, asInt, P1.cells, loadT, ptrC, storeT, putC, fillP, Nat.reduceAdd, reduceIte, Nat.reduceEqDiff, Nat.reduceLT, Nat.reduceLeDiff, reduceCtorEq, eq_self, FIT, lendCs_map, verC_map, FinC, resPs, resP, lendPl, lendCs, lendC, sealC, partsT, finHs, tupT, verT, verP, verC, verB, verAt, Blk.ver, handsAre, forall_const, CHT, disj, Nat.reduceBEq, beq_self_eq_true, APT, srcOf, sealPs, sealCs, sealC, List.mem_singleton, forall_eq, ALT, UKz_1]
    | true =>
      simp only [RUN, core, T.c, T.s, T.b, T.i, sBin, sInt, sUn, isShift, asInt, P1.cells, loadT, ptrC, storeT, putC, fillP, Nat.reduceAdd, reduceIte, Nat.reduceEqDiff, Nat.reduceLT, Nat.reduceLeDiff, reduceCtorEq, eq_self, FIT, lendCs_map, verC_map, FinC, resPs, resP, lendPl, lendCs, lendC, sealC, partsT, finHs, tupT, verT, verP, verC, verB, verAt, Blk.ver, handsAre, forall_const, CHT, disj, Nat.reduceBEq, beq_self_eq_true, APT, srcOf, sealPs, sealCs, sealC, List.mem_singleton, forall_eq, ALT, UKz_1, List.length_map, encK_len, takeK, Nat.le_refl]
      refine callC (fitsS_ok b a 1 1 (okK_true.1 h1).1 (okK_true.1 h2).1 ha hb) rfl rfl (by simp [closedA, closedP, closedC]) rfl ?_
      simp only [RUN, core, T.c, T.s, T.b, T.i, sBin, sInt, sUn, isShift, asInt, P1.cells, loadT, ptrC, storeT, putC, fillP, Nat.reduceAdd, reduceIte, Nat.reduceEqDiff, Nat.reduceLT, Nat.reduceLeDiff, reduceCtorEq, eq_self, FIT, lendCs_map, verC_map, FinC, resPs, resP, lendPl, lendCs, lendC, sealC, partsT, finHs, tupT, verT, verP, verC, verB, verAt, Blk.ver, handsAre, forall_const, CHT, disj, Nat.reduceBEq, beq_self_eq_true, APT, srcOf, sealPs, sealCs, sealC, List.mem_singleton, forall_eq, ALT, UKz_1]
/- loop.example/teagle/impl.inRange -/
def r105_0 : List AOper := [ao 0 6 (.mv (.k (.b false)))]
def r105_1 : List AOper := [ao 0 7 (.mv (.t 1)),
  ao 1 8 (.mv (.t 0)),
  ao 2 9 (.bin .leq (.t 7) (.t 8)),
  ao 3 10 (.mv (.t 9)),
  ag 4 11 10 true [] (.mv (.t 0)),
  ag 5 12 10 true [] (.mv (.t 2)),
  ag 6 13 10 true [] (.bin .leq (.t 11) (.t 12)),
  ao 7 14 (.pick (.t 10) (.t 13) (.k (.b false))),
  ao 8 6 (.mv (.t 14))]
def c105 : ACode := .seq (.reg r105_0) (.seq (.reg r105_1) .ret)
def s105 : List ARes := [.tmp 6]
theorem ok105 : okF Try.prog 105 15 c105 s105 := ⟨Try.f105, Try.func105, Try.ntmps105, by kernel_rfl, by kernel_rfl, by kernel_rfl⟩
theorem UKz_2 : (type_of% (uA c105.eq_1)) ∧ (type_of% (uR r105_0.eq_1)) ∧ (type_of% (uR r105_1.eq_1)) ∧ (type_of% s105.eq_1) :=
  ⟨uA c105.eq_1, uR r105_0.eq_1, uR r105_1.eq_1, s105.eq_1⟩
theorem inRange_ok (n lo hi : Int) : ACallsF Try.prog 105 [.i n, .i lo, .i hi] [] (.b (decide (lo ≤ n) && decide (n ≤ hi))) := by
  refine ACallsF.intro ok105 follows fun X c0 => ?_
  by_cases h1 : lo ≤ n <;> by_cases h2 : n ≤ hi <;> simp only [RUN, core, T.c, T.s, T.b, T.i, sBin, sInt, sUn, isShift, asInt, P1.cells, loadT, ptrC, storeT, putC, fillP, Nat.reduceAdd, reduceIte, Nat.reduceEqDiff, Nat.reduceLT, Nat.reduceLeDiff, reduceCtorEq, eq_self, FIT, lendCs_map, verC_map, FinC, resPs, resP, lendPl, lendCs, lendC, sealC, partsT, finHs, tupT, verT, verP, verC, verB, verAt, Blk.ver, handsAre, forall_const, UKz_2, h1, h2]
/- loop.example/teagle/impl.isName -/
def r113_0 : List AOper := [ao 0 2 (.mv (.k (.b false)))]
def r113_1 : List AOper := [ao 0 5 (.mv (.t 0)),
  ao 1 6 (.lenS (.t 5)),
  ao 2 7 (.mv (.k (.i 0)))]
def r113_2 : List AOper := [ao 0 8 (.bin .lss (.t 7) (.t 6))]
def c113_3 : ACode := .cond (.t 8) .skip (.exit 0)
def r113_4 : List AOper := [ao 0 9 (.mv (.t 7)),
  ao 1 3 (.mv (.t 9))]
def r113_5 : List AOper := [ao 0 10 (.mv (.t 0)),
  ao 1 11 (.mv (.t 3)),
  ao 2 12 (.ix (.t 10) (.t 11)),
  ao 3 13 (.bin .geq (.t 12) (.k (.s (.int .u8 48)))),
  ao 4 14 (.mv (.t 13)),
  ag 5 15 14 true [] (.mv (.t 0)),
  ag 6 16 14 true [] (.mv (.t 3)),
  ag 7 17 14 true [] (.ix (.t 15) (.t 16)),
  ag 8 18 14 true [] (.bin .leq (.t 17) (.k (.s (.int .u8 57)))),
  ao 9 19 (.pick (.t 14) (.t 18) (.k (.b false))),
  ao 10 4 (.mv (.t 19))]
def r113_6 : List AOper := [ao 0 20 (.mv (.t 0)),
  ao 1 21 (.mv (.t 3)),
  ao 2 22 (.ix (.t 20) (.t 21)),
  ao 3 23 (.bin .lss (.t 22) (.k (.s (.int .u8 97)))),
  ao 4 24 (.mv (.t 23)),
  ag 5 25 24 false [] (.mv (.t 0)),
  ag 6 26 24 false [] (.mv (.t 3)),
  ag 7 27 24 false [] (.ix (.t 25) (.t 26)),
  ag 8 28 24 false [] (.bin .gtr (.t 27) (.k (.s (.int .u8 122)))),
  ao 9 29 (.pick (.t 24) (.k (.b true)) (.t 28)),
  ao 10 30 (.mv (.t 29)),
  ag 11 31 30 true [] (.mv (.t 4)),
  ag 12 32 30 true [] (.un .not (.t 31)),
  ag 13 33 30 true [] (.mv (.t 32)),
  ag 14 34 33 false [] (.mv (.t 3)),
  ag 15 35 33 false [] (.bin .eql (.t 34) (.k (.i 0))),
  ag 16 36 30 true [] (.pick (.t 33) (.k (.b true)) (.t 35)),
  ao 17 37 (.pick (.t 30) (.t 36) (.k (.b false)))]
def r113_7 : List AOper := [ao 0 2 (.mv (.k (.b false)))]
def c113_8 : ACode := .seq (.reg r113_7) .ret
def c113_9 : ACode := .cond (.t 37) c113_8 .skip
def c113_10 : ACode := .seq (.reg r113_4) (.seq (.reg r113_5) (.seq (.reg r113_6) c113_9))
def c113_11 : ACode := .block 1 c113_10
def r113_12 : List AOper := [ao 0 38 (.bin .add (.t 7) (.k (.i 1))),
  ao 1 7 (.mv (.t 38))]
def c113_13 : ACode := .seq (.reg r113_2) (.seq c113_3 (.seq c113_11 (.reg r113_12)))
def c113_14 : ACode := .loop c113_13
def c113_15 : ACode := .block 0 c113_14
def c113_16 : ACode := .seq (.reg r113_1) c113_15
def r113_17 : List AOper := [ao 0 39 (.mv (.t 0)),
  ao 1 40 (.lenS (.t 39)),
  ao 2 41 (.call (.k (.c (.fn 105 []))) [(.t 40), (.k (.i 1)), (.k (.i 8))]),
  ao 3 2 (.mv (.t 41))]
def c113 : ACode := .seq (.reg r113_0) (.seq c113_16 (.seq (.reg r113_17) .ret))
def s113 : List ARes := [.tmp 2]
theorem ok113 : okF Try.prog 113 42 c113 s113 := ⟨Try.f113, Try.func113, Try.ntmps113, by kernel_rfl, by kernel_rfl, by kernel_rfl⟩
def inv113 (s : ByteArray) (i : Nat) (σ : St) : Prop := (∀ j b, j < i → s.data[j]? = some b → (lower b || digit b) = true ∧ (j = 0 → lower b = true)) ∧ σ.t 0 = .s (.string s) ∧ σ.t 6 = .i s.size ∧ σ.t 7 = .i i
theorem UKz_3 : (type_of% (uA c113.eq_1)) ∧ (type_of% (uR r113_0.eq_1)) ∧ (type_of% (uA c113_16.eq_1)) ∧ (type_of% (uR r113_1.eq_1)) ∧ (type_of% (uA c113_15.eq_1)) ∧ (type_of% (uA c113_14.eq_1)) ∧ (type_of% (uR r113_17.eq_1)) ∧ (type_of% s113.eq_1) :=
  ⟨uA c113.eq_1, uR r113_0.eq_1, uA c113_16.eq_1, uR r113_1.eq_1, uA c113_15.eq_1, uA c113_14.eq_1, uR r113_17.eq_1, s113.eq_1⟩
theorem UKz_5 : (type_of% (uA c113_13.eq_1)) ∧ (type_of% (uR r113_2.eq_1)) ∧ (type_of% (uA c113_3.eq_1)) ∧ (type_of% (uA c113_11.eq_1)) ∧ (type_of% (uA c113_10.eq_1)) ∧ (type_of% (uR r113_4.eq_1)) ∧ (type_of% (uR r113_5.eq_1)) ∧ (type_of% (uR r113_6.eq_1)) ∧ (type_of% (uA c113_9.eq_1)) ∧ (type_of% (uA c113_8.eq_1)) ∧ (type_of% (uR r113_7.eq_1)) ∧ (type_of% (uR r113_12.eq_1)) ∧ (type_of% (uA c113.eq_1)) ∧ (type_of% (uR r113_0.eq_1)) ∧ (type_of% (uA c113_16.eq_1)) ∧ (type_of% (uR r113_1.eq_1)) ∧ (type_of% (uA c113_15.eq_1)) ∧ (type_of% (uA c113_14.eq_1)) ∧ (type_of% (uR r113_17.eq_1)) ∧ (type_of% s113.eq_1) :=
  ⟨uA c113_13.eq_1, uR r113_2.eq_1, uA c113_3.eq_1, uA c113_11.eq_1, uA c113_10.eq_1, uR r113_4.eq_1, uR r113_5.eq_1, uR r113_6.eq_1, uA c113_9.eq_1, uA c113_8.eq_1, uR r113_7.eq_1, uR r113_12.eq_1, uA c113.eq_1, uR r113_0.eq_1, uA c113_16.eq_1, uR r113_1.eq_1, uA c113_15.eq_1, uA c113_14.eq_1, uR r113_17.eq_1, s113.eq_1⟩
theorem isName_ok (s : ByteArray) (hs : s.size ≤ 4611686018427387904) : ACallsF Try.prog 113 [.s (.string s)] [] (.b (nameOk s)) := by
  refine ACallsF.intro ok113 follows fun X c0 => ?_
  simp only [RUN, core, T.c, T.s, T.b, T.i, sBin, sInt, sUn, isShift, asInt, P1.cells, loadT, ptrC, storeT, putC, fillP, Nat.reduceAdd, reduceIte, Nat.reduceEqDiff, Nat.reduceLT, Nat.reduceLeDiff, reduceCtorEq, eq_self, FIT, lendCs_map, verC_map, FinC, resPs, resP, lendPl, lendCs, lendC, sealC, partsT, finHs, tupT, verT, verP, verC, verB, verAt, Blk.ver, handsAre, forall_const, UKz_3]
  refine AW.upto s.size (inv113 s) ⟨fun j _ hj => absurd hj (Nat.not_lt_zero j), rfl, rfl, rfl⟩ fun i t H c hi h => ?_
  obtain ⟨g0, e0, e6, e7⟩ := h
  simp only [T.c, T.i, T.s] at e0 e6 e7
  by_cases hlt : i < s.size
  · have g1 : (i : Int) < s.size := by omega
    have gz : (0 : Int) ≤ i := by omega
    have gw : IntKind.i64.wrap ((i : Int) + 1) = ((i + 1 : Nat) : Int) := wrap64 (x := (i : Int) + 1) ⟨by omega, by omega⟩
    obtain ⟨b, hb⟩ : ∃ b, s.data[i]? = some b := ⟨_, Array.getElem?_eq_getElem (by rw [← size_data]; omega)⟩
    have hbad : ¬ ((lower b || digit b) = true ∧ (i = 0 → lower b = true)) → nameOk s = false := by
      intro h
      by_cases hl : (lower b || digit b) = true
      · have hi0 : i = 0 := by
          by_cases h0 : i = 0
          · exact h0
          · exact absurd ⟨hl, fun e => absurd e h0⟩ h
        have hlow : lower b = false := by
          cases hlb : lower b with
          | false => rfl
          | true => exact absurd ⟨hl, fun _ => hlb⟩ h
        subst hi0
        have hhead : s.data.toList.head? = some b := by rw [List.head?_eq_getElem?, Array.getElem?_toList]; exact hb
        simp [nameOk, hhead, hlow]
      · have : (s.data.toList.all fun b => lower b || digit b) = false := by
          rw [List.all_eq_false]
          exact ⟨b, by rw [Array.mem_toList_iff]; exact Array.mem_of_getElem? hb, hl⟩
        simp [nameOk, this]
    have hgood : ((lower b || digit b) = true ∧ (i = 0 → lower b = true)) → ∀ j b', j < i + 1 → s.data[j]? = some b' → (lower b' || digit b') = true ∧ (j = 0 → lower b' = true) := by
      intro hl j b' hj hj2
      rcases Nat.lt_succ_iff_lt_or_eq.1 hj with hj | rfl
      · exact g0 j b' hj hj2
      · rw [hb] at hj2; cases hj2; exact hl
    have hlo : lower b = true ↔ (97 ≤ (b.toNat : Int) ∧ (b.toNat : Int) ≤ 122) := by simp only [lower, Bool.and_eq_true, decide_eq_true_eq]; omega
    have hdi : digit b = true ↔ (48 ≤ (b.toNat : Int) ∧ (b.toNat : Int) ≤ 57) := by simp only [digit, Bool.and_eq_true, decide_eq_true_eq]; omega
    rw [Bool.or_eq_true, hlo, hdi] at hgood hbad
    have hfin : (97 ≤ (b.toNat : Int) ∧ (b.toNat : Int) ≤ 122 ∨ 48 ≤ (b.toNat : Int) ∧ (b.toNat : Int) ≤ 57) ∧ (i = 0 → 97 ≤ (b.toNat : Int) ∧ (b.toNat : Int) ≤ 122) → ∀ t' H' c', t' 0 = t 0 → t' 6 = t 6 → t' 7 = .i (i + 1 : Nat) → i < s.size ∧ inv113 s (i + 1) ⟨t', H', c'⟩ := by
      intro hl t' H' c' r1 r2 r3
      exact ⟨hlt, hgood hl, r1.trans e0, r2.trans e6, r3⟩
    have hbad' : ¬ ((97 ≤ (b.toNat : Int) ∧ (b.toNat : Int) ≤ 122 ∨ 48 ≤ (b.toNat : Int) ∧ (b.toNat : Int) ≤ 57) ∧ (i = 0 → 97 ≤ (b.toNat : Int) ∧ (b.toNat : Int) ≤ 122)) → nameOk s = false := hbad
    clear hbad hgood hlo hdi
    rcases (by omega : (97 ≤ (b.toNat : Int) ∧ (b.toNat : Int) ≤ 122) ∨ (48 ≤ (b.toNat : Int) ∧ (b.toNat : Int) ≤ 57) ∨ (b.toNat : Int) < 48 ∨ (57 < (b.toNat : Int) ∧ (b.toNat : Int) < 97) ∨ 122 < (b.toNat : Int)) with ⟨c1, c2⟩ | ⟨c1, c2⟩ | c1 | ⟨c1, c2⟩ | c1
    · have k1 : (b.toNat : Int) ≥ 48 := by omega
      have k2 : ¬ (b.toNat : Int) ≤ 57 := by omega
      have k3 : ¬ (b.toNat : Int) < 97 := by omega
      have k4 : ¬ (b.toNat : Int) > 122 := by omega
      have hf := hfin ⟨.inl ⟨c1, c2⟩, fun _ => ⟨c1, c2⟩⟩
      clear hfin hbad'
      simp only [RUN, core, T.c, T.s, T.b, T.i, sBin, sInt, sUn, isShift, asInt, P1.cells, loadT, ptrC, storeT, putC, fillP, Nat.reduceAdd, reduceIte, Nat.reduceEqDiff, Nat.reduceLT, Nat.reduceLeDiff, reduceCtorEq, eq_self, FIT, lendCs_map, verC_map, FinC, resPs, resP, lendPl, lendCs, lendC, sealC, partsT, finHs, tupT, verT, verP, verC, verB, verAt, Blk.ver, handsAre, forall_const, UKz_5, e0, e6, e7, g1, gz, hb, Int.toNat_natCast, k1, k2, k3, k4, gw]
      exact hf _ _ _ rfl rfl rfl
    · have k1 : (b.toNat : Int) ≥ 48 := by omega
      have k3 : (b.toNat : Int) < 97 := by omega
      by_cases hi0 : i = 0
      · have k5 : ((i : Int) == 0) = true := beq_iff_eq.2 (by omega)
        have hm := hbad' fun h => by have := h.2 hi0; omega
        clear hfin hbad'
        simp only [RUN, core, T.c, T.s, T.b, T.i, sBin, sInt, sUn, isShift, asInt, P1.cells, loadT, ptrC, storeT, putC, fillP, Nat.reduceAdd, reduceIte, Nat.reduceEqDiff, Nat.reduceLT, Nat.reduceLeDiff, reduceCtorEq, eq_self, FIT, lendCs_map, verC_map, FinC, resPs, resP, lendPl, lendCs, lendC, sealC, partsT, finHs, tupT, verT, verP, verC, verB, verAt, Blk.ver, handsAre, forall_const, UKz_5, e0, e6, e7, g1, gz, hb, Int.toNat_natCast, k1, c2, k3, k5, hm]
      · have k5 : ((i : Int) == 0) = false := beq_eq_false_iff_ne.2 (by omega)
        have hf := hfin ⟨.inr ⟨c1, c2⟩, fun h => absurd h hi0⟩
        clear hfin hbad'
        simp only [RUN, core, T.c, T.s, T.b, T.i, sBin, sInt, sUn, isShift, asInt, P1.cells, loadT, ptrC, storeT, putC, fillP, Nat.reduceAdd, reduceIte, Nat.reduceEqDiff, Nat.reduceLT, Nat.reduceLeDiff, reduceCtorEq, eq_self, FIT, lendCs_map, verC_map, FinC, resPs, resP, lendPl, lendCs, lendC, sealC, partsT, finHs, tupT, verT, verP, verC, verB, verAt, Blk.ver, handsAre, forall_const, UKz_5, e0, e6, e7, g1, gz, hb, Int.toNat_natCast, k1, c2, k3, k5, gw]
        exact hf _ _ _ rfl rfl rfl
    · have k1 : ¬ (b.toNat : Int) ≥ 48 := by omega
      have k3 : (b.toNat : Int) < 97 := by omega
      have hm := hbad' fun h => by have := h.1; omega
      clear hfin hbad'
      simp only [RUN, core, T.c, T.s, T.b, T.i, sBin, sInt, sUn, isShift, asInt, P1.cells, loadT, ptrC, storeT, putC, fillP, Nat.reduceAdd, reduceIte, Nat.reduceEqDiff, Nat.reduceLT, Nat.reduceLeDiff, reduceCtorEq, eq_self, FIT, lendCs_map, verC_map, FinC, resPs, resP, lendPl, lendCs, lendC, sealC, partsT, finHs, tupT, verT, verP, verC, verB, verAt, Blk.ver, handsAre, forall_const, UKz_5, e0, e6, e7, g1, gz, hb, Int.toNat_natCast, k1, k3, hm]
    · have k1 : (b.toNat : Int) ≥ 48 := by omega
      have k2 : ¬ (b.toNat : Int) ≤ 57 := by omega
      have hm := hbad' fun h => by have := h.1; omega
      clear hfin hbad'
      simp only [RUN, core, T.c, T.s, T.b, T.i, sBin, sInt, sUn, isShift, asInt, P1.cells, loadT, ptrC, storeT, putC, fillP, Nat.reduceAdd, reduceIte, Nat.reduceEqDiff, Nat.reduceLT, Nat.reduceLeDiff, reduceCtorEq, eq_self, FIT, lendCs_map, verC_map, FinC, resPs, resP, lendPl, lendCs, lendC, sealC, partsT, finHs, tupT, verT, verP, verC, verB, verAt, Blk.ver, handsAre, forall_const, UKz_5, e0, e6, e7, g1, gz, hb, Int.toNat_natCast, k1, k2, c2, hm]
    · have k1 : (b.toNat : Int) ≥ 48 := by omega
      have k2 : ¬ (b.toNat : Int) ≤ 57 := by omega
      have k3 : ¬ (b.toNat : Int) < 97 := by omega
      have k4 : (b.toNat : Int) > 122 := by omega
      have hm := hbad' fun h => by have := h.1; omega
      clear hfin hbad'
      simp only [RUN, core, T.c, T.s, T.b, T.i, sBin, sInt, sUn, isShift, asInt, P1.cells, loadT, ptrC, storeT, putC, fillP, Nat.reduceAdd, reduceIte, Nat.reduceEqDiff, Nat.reduceLT, Nat.reduceLeDiff, reduceCtorEq, eq_self, FIT, lendCs_map, verC_map, FinC, resPs, resP, lendPl, lendCs, lendC, sealC, partsT, finHs, tupT, verT, verP, verC, verB, verAt, Blk.ver, handsAre, forall_const, UKz_5, e0, e6, e7, g1, gz, hb, Int.toNat_natCast, k1, k2, k3, k4, hm]
  · have g1 : ¬ (i : Int) < s.size := by omega
    have hall : (s.data.toList.all fun b => lower b || digit b) = true := by
      rw [List.all_eq_true]
      intro b hb
      rw [Array.mem_toList_iff, Array.mem_iff_getElem?] at hb
      obtain ⟨j, hj⟩ := hb
      exact (g0 j b (by have := (Array.getElem?_eq_some_iff.1 hj).1; rw [size_data] at hlt; omega) hj).1
    have hm : (decide ((1 : Int) ≤ s.size) && decide ((s.size : Int) ≤ 8)) = nameOk s := by
      by_cases h0 : s.size = 0
      · have h1 : ¬ (1 : Int) ≤ s.size := by omega
        have h2 : ¬ 1 ≤ s.size := by omega
        simp [nameOk, h0]
      · obtain ⟨b0, hb0⟩ : ∃ b, s.data[0]? = some b := ⟨_, Array.getElem?_eq_getElem (by rw [← size_data]; omega)⟩
        have hhead : s.data.toList.head? = some b0 := by rw [List.head?_eq_getElem?, Array.getElem?_toList]; exact hb0
        have hlow := (g0 0 b0 (by omega) hb0).2 rfl
        have e1 : decide ((1 : Int) ≤ s.size) = decide (1 ≤ s.size) := decide_eq_decide.2 (by omega)
        have e2 : decide ((s.size : Int) ≤ 8) = decide (s.size ≤ 8) := decide_eq_decide.2 (by omega)
        simp only [nameOk, hall, hhead, Option.any_some, hlow, e1, e2, Bool.and_true]
    simp only [RUN, core, T.c, T.s, T.b, T.i, sBin, sInt, sUn, isShift, asInt, P1.cells, loadT, ptrC, storeT, putC, fillP, Nat.reduceAdd, reduceIte, Nat.reduceEqDiff, Nat.reduceLT, Nat.reduceLeDiff, reduceCtorEq, eq_self, FIT, lendCs_map, verC_map, FinC, resPs, resP, lendPl, lendCs, lendC, sealC, partsT, finHs, tupT, verT, verP, verC, verB, verAt, Blk.ver, handsAre, forall_const, UKz_5, UKz_3, e0, e6, e7, g1]
    refine callC (inRange_ok _ _ _) rfl rfl rfl rfl ?_
    simp only [RUN, core, T.c, T.s, T.b, T.i, sBin, sInt, sUn, isShift, asInt, P1.cells, loadT, ptrC, storeT, putC, fillP, Nat.reduceAdd, reduceIte, Nat.reduceEqDiff, Nat.reduceLT, Nat.reduceLeDiff, reduceCtorEq, eq_self, FIT, lendCs_map, verC_map, FinC, resPs, resP, lendPl, lendCs, lendC, sealC, partsT, finHs, tupT, verT, verP, verC, verB, verAt, Blk.ver, handsAre, forall_const, UKz_3, hm]
/- loop.example/teagle/impl.areNames -/
def r106_0 : List AOper := [ao 0 2 (.mv (.k (.b false)))]
def r106_1 : List AOper := [ao 0 5 (.mv (.t 0)),
  ao 1 6 (.len (.t 5)),
  ao 2 7 (.mv (.k (.i 0)))]
def r106_2 : List AOper := [ao 0 8 (.bin .lss (.t 7) (.t 6))]
def c106_3 : ACode := .cond (.t 8) .skip (.exit 0)
def r106_4 : List AOper := [ao 0 9 (.mv (.t 7)),
  ao 1 10 (.ia 1 (.t 5) (.t 7)),
  ao 2 11 (.ld 1 false (.t 10)),
  ao 3 3 (.mv (.t 9)),
  ao 4 4 (.mv (.t 11))]
def r106_5 : List AOper := [ao 0 12 (.mv (.t 4)),
  ao 1 13 (.call (.k (.c (.fn 113 []))) [(.t 12)]),
  ao 2 14 (.un .not (.t 13)),
  ao 3 15 (.mv (.t 14)),
  ag 4 16 15 false [] (.mv (.t 3)),
  ag 5 17 15 false [] (.bin .gtr (.t 16) (.k (.i 0))),
  ag 6 18 15 false [] (.mv (.t 17)),
  ag 7 19 18 true [] (.mv (.t 0)),
  ag 8 20 18 true [] (.mv (.t 3)),
  ag 9 21 18 true [] (.bin .sub (.t 20) (.k (.i 1))),
  ag 10 22 18 true [] (.ia 1 (.t 19) (.t 21)),
  ag 11 23 18 true [] (.ld 1 false (.t 22)),
  ag 12 24 18 true [] (.mv (.t 4)),
  ag 13 25 18 true [] (.bin .geq (.t 23) (.t 24)),
  ag 14 26 15 false [] (.pick (.t 18) (.t 25) (.k (.b false))),
  ao 15 27 (.pick (.t 15) (.k (.b true)) (.t 26))]
def r106_6 : List AOper := [ao 0 2 (.mv (.k (.b false)))]
def c106_7 : ACode := .seq (.reg r106_6) .ret
def c106_8 : ACode := .cond (.t 27) c106_7 .skip
def c106_9 : ACode := .seq (.reg r106_4) (.seq (.reg r106_5) c106_8)
def c106_10 : ACode := .block 1 c106_9
def r106_11 : List AOper := [ao 0 28 (.bin .add (.t 7) (.k (.i 1))),
  ao 1 7 (.mv (.t 28))]
def c106_12 : ACode := .seq (.reg r106_2) (.seq c106_3 (.seq c106_10 (.reg r106_11)))
def c106_13 : ACode := .loop c106_12
def c106_14 : ACode := .block 0 c106_13
def c106_15 : ACode := .seq (.reg r106_1) c106_14
def r106_16 : List AOper := [ao 0 2 (.mv (.k (.b true)))]
def c106 : ACode := .seq (.reg r106_0) (.seq c106_15 (.seq (.reg r106_16) .ret))
def s106 : List ARes := [.tmp 2]
theorem ok106 : okF Try.prog 106 29 c106 s106 := ⟨Try.f106, Try.func106, Try.ntmps106, by kernel_rfl, by kernel_rfl, by kernel_rfl⟩
def inv106 (ss : List ByteArray) (i : Nat) (σ : St) : Prop := (∀ j s, j < i → ss[j]? = some s → nameOk s = true ∧ ∀ s', 0 < j → ss[j - 1]? = some s' → Op.bytesLess s'.toList s.toList = true) ∧ σ.t 0 = .c (.v (.sl (encS ss))) ∧ σ.t 5 = .c (.v (.sl (encS ss))) ∧ σ.t 6 = .i ss.length ∧ σ.t 7 = .i i
theorem UKz_4 : (type_of% (uA c106.eq_1)) ∧ (type_of% (uR r106_0.eq_1)) ∧ (type_of% (uA c106_15.eq_1)) ∧ (type_of% (uR r106_1.eq_1)) ∧ (type_of% (uA c106_14.eq_1)) ∧ (type_of% (uA c106_13.eq_1)) ∧ (type_of% (uR r106_16.eq_1)) ∧ (type_of% s106.eq_1) :=
  ⟨uA c106.eq_1, uR r106_0.eq_1, uA c106_15.eq_1, uR r106_1.eq_1, uA c106_14.eq_1, uA c106_13.eq_1, uR r106_16.eq_1, s106.eq_1⟩
theorem UKz_6 : (type_of% (uA c106_12.eq_1)) ∧ (type_of% (uR r106_2.eq_1)) ∧ (type_of% (uA c106_3.eq_1)) ∧ (type_of% (uA c106_10.eq_1)) ∧ (type_of% (uA c106_9.eq_1)) ∧ (type_of% (uR r106_4.eq_1)) ∧ (type_of% (uR r106_5.eq_1)) ∧ (type_of% (uA c106_8.eq_1)) ∧ (type_of% (uA c106_7.eq_1)) ∧ (type_of% (uR r106_6.eq_1)) ∧ (type_of% (uR r106_11.eq_1)) ∧ (type_of% (uA c106.eq_1)) ∧ (type_of% (uR r106_0.eq_1)) ∧ (type_of% (uA c106_15.eq_1)) ∧ (type_of% (uR r106_1.eq_1)) ∧ (type_of% (uA c106_14.eq_1)) ∧ (type_of% (uA c106_13.eq_1)) ∧ (type_of% (uR r106_16.eq_1)) ∧ (type_of% s106.eq_1) :=
  ⟨uA c106_12.eq_1, uR r106_2.eq_1, uA c106_3.eq_1, uA c106_10.eq_1, uA c106_9.eq_1, uR r106_4.eq_1, uR r106_5.eq_1, uA c106_8.eq_1, uA c106_7.eq_1, uR r106_6.eq_1, uR r106_11.eq_1, uA c106.eq_1, uR r106_0.eq_1, uA c106_15.eq_1, uR r106_1.eq_1, uA c106_14.eq_1, uA c106_13.eq_1, uR r106_16.eq_1, s106.eq_1⟩
theorem areNames_ok (ss : List ByteArray) (hl : ss.length ≤ 4611686018427387904) (hs : ∀ s ∈ ss, s.size ≤ 4611686018427387904) : ACallsF Try.prog 106 [.c (.v (.sl (encS ss)))] [] (.b (rise ss)) := by
  refine ACallsF.intro ok106 follows fun X c0 => ?_
  simp only [RUN, core, T.c, T.s, T.b, T.i, sBin, sInt, sUn, isShift, asInt, P1.cells, loadT, ptrC, storeT, putC, fillP, Nat.reduceAdd, reduceIte, Nat.reduceEqDiff, Nat.reduceLT, Nat.reduceLeDiff, reduceCtorEq, eq_self, FIT, lendCs_map, verC_map, FinC, resPs, resP, lendPl, lendCs, lendC, sealC, partsT, finHs, tupT, verT, verP, verC, verB, verAt, Blk.ver, handsAre, forall_const, UKz_4, encS_len]
  refine AW.upto ss.length (inv106 ss) ⟨fun j _ hj => absurd hj (Nat.not_lt_zero j), rfl, rfl, rfl, rfl⟩ fun i t H c hi h => ?_
  obtain ⟨g0, e0, e5, e6, e7⟩ := h
  simp only [T.c, T.i, T.s] at e0 e5 e6 e7
  by_cases hlt : i < ss.length
  · have g1 : (i : Int) < ss.length := by omega
    have gz : (0 : Int) ≤ i := by omega
    have gw : IntKind.i64.wrap ((i : Int) + 1) = ((i + 1 : Nat) : Int) := wrap64 (x := (i : Int) + 1) ⟨by omega, by omega⟩
    obtain ⟨s, hs1⟩ : ∃ s, ss[i]? = some s := ⟨_, List.getElem?_eq_getElem hlt⟩
    have es := encS_at hs1
    have hC := isName_ok s (hs s (List.mem_of_getElem? hs1))
    have key : nameOk s = true → (∀ s', 0 < i → ss[i - 1]? = some s' → Op.bytesLess s'.toList s.toList = true) → ∀ j s, j < i + 1 → ss[j]? = some s → nameOk s = true ∧ ∀ s', 0 < j → ss[j - 1]? = some s' → Op.bytesLess s'.toList s.toList = true := by
      intro k1 k2 j s2 hj hj2
      rcases Nat.lt_succ_iff_lt_or_eq.1 hj with hj | rfl
      · exact g0 j s2 hj hj2
      · rw [hs1] at hj2; cases hj2; exact ⟨k1, k2⟩
    simp only [RUN, core, T.c, T.s, T.b, T.i, sBin, sInt, sUn, isShift, asInt, P1.cells, loadT, ptrC, storeT, putC, fillP, Nat.reduceAdd, reduceIte, Nat.reduceEqDiff, Nat.reduceLT, Nat.reduceLeDiff, reduceCtorEq, eq_self, FIT, lendCs_map, verC_map, FinC, resPs, resP, lendPl, lendCs, lendC, sealC, partsT, finHs, tupT, verT, verP, verC, verB, verAt, Blk.ver, handsAre, forall_const, UKz_6, e0, e5, e6, e7, g1, gz, encS_len, es, Int.toNat_natCast]
    refine callC hC rfl rfl rfl rfl ?_
    cases hn : nameOk s with
    | false =>
      have hm : rise ss = false := rise_false.2 fun h => by rw [(h i s hs1).1] at hn; cases hn
      simp only [RUN, core, T.c, T.s, T.b, T.i, sBin, sInt, sUn, isShift, asInt, P1.cells, loadT, ptrC, storeT, putC, fillP, Nat.reduceAdd, reduceIte, Nat.reduceEqDiff, Nat.reduceLT, Nat.reduceLeDiff, reduceCtorEq, eq_self, FIT, lendCs_map, verC_map, FinC, resPs, resP, lendPl, lendCs, lendC, sealC, partsT, finHs, tupT, verT, verP, verC, verB, verAt, Blk.ver, handsAre, forall_const, UKz_6, hm]
    | true =>
      by_cases hi0 : i = 0
      · have k1 : ¬ (i : Int) > 0 := by omega
        simp only [RUN, core, T.c, T.s, T.b, T.i, sBin, sInt, sUn, isShift, asInt, P1.cells, loadT, ptrC, storeT, putC, fillP, Nat.reduceAdd, reduceIte, Nat.reduceEqDiff, Nat.reduceLT, Nat.reduceLeDiff, reduceCtorEq, eq_self, FIT, lendCs_map, verC_map, FinC, resPs, resP, lendPl, lendCs, lendC, sealC, partsT, finHs, tupT, verT, verP, verC, verB, verAt, Blk.ver, handsAre, forall_const, UKz_6, e0, e5, e6, e7, k1, gw]
        exact ⟨hlt, key hn (fun s' h => by omega), e0, e5, e6, rfl⟩
      · have k1 : (i : Int) > 0 := by omega
        have k2 : IntKind.i64.wrap ((i : Int) - 1) = ((i - 1 : Nat) : Int) := (wrap64 (x := (i : Int) - 1) ⟨by omega, by omega⟩).trans (by omega)
        have k3 : (0 : Int) ≤ ((i - 1 : Nat) : Int) := by omega
        obtain ⟨s', hs2⟩ : ∃ s, ss[i - 1]? = some s := ⟨_, List.getElem?_eq_getElem (by omega)⟩
        have es2 := encS_at hs2
        cases hb : Op.bytesLess s'.toList s.toList with
        | false =>
          have hm : rise ss = false := rise_false.2 fun h => by rw [(h i s hs1).2 s' (by omega) hs2] at hb; cases hb
          simp only [RUN, core, T.c, T.s, T.b, T.i, sBin, sInt, sUn, isShift, asInt, P1.cells, loadT, ptrC, storeT, putC, fillP, Nat.reduceAdd, reduceIte, Nat.reduceEqDiff, Nat.reduceLT, Nat.reduceLeDiff, reduceCtorEq, eq_self, FIT, lendCs_map, verC_map, FinC, resPs, resP, lendPl, lendCs, lendC, sealC, partsT, finHs, tupT, verT, verP, verC, verB, verAt, Blk.ver, handsAre, forall_const, UKz_6, e0, e5, e6, e7, k1, k2, k3, es, es2, gz, Int.toNat_natCast, sStr, hb, hm]
        | true =>
          simp only [RUN, core, T.c, T.s, T.b, T.i, sBin, sInt, sUn, isShift, asInt, P1.cells, loadT, ptrC, storeT, putC, fillP, Nat.reduceAdd, reduceIte, Nat.reduceEqDiff, Nat.reduceLT, Nat.reduceLeDiff, reduceCtorEq, eq_self, FIT, lendCs_map, verC_map, FinC, resPs, resP, lendPl, lendCs, lendC, sealC, partsT, finHs, tupT, verT, verP, verC, verB, verAt, Blk.ver, handsAre, forall_const, UKz_6, e0, e5, e6, e7, k1, k2, k3, es, es2, gz, Int.toNat_natCast, sStr, hb, gw]
          exact ⟨hlt, key hn (fun s2 _ h2 => by rw [hs2] at h2; cases h2; exact hb), e0, e5, e6, rfl⟩
  · have g1 : ¬ (i : Int) < ss.length := by omega
    have hm : rise ss = true := rise_true.2 fun j s hj => g0 j s (by have := (List.getElem?_eq_some_iff.1 hj).1; omega) hj
    simp only [RUN, core, T.c, T.s, T.b, T.i, sBin, sInt, sUn, isShift, asInt, P1.cells, loadT, ptrC, storeT, putC, fillP, Nat.reduceAdd, reduceIte, Nat.reduceEqDiff, Nat.reduceLT, Nat.reduceLeDiff, reduceCtorEq, eq_self, FIT, lendCs_map, verC_map, FinC, resPs, resP, lendPl, lendCs, lendC, sealC, partsT, finHs, tupT, verT, verP, verC, verB, verAt, Blk.ver, handsAre, forall_const, UKz_6, UKz_4, e0, e6, e7, g1, encS_len, hm]
end Go.V

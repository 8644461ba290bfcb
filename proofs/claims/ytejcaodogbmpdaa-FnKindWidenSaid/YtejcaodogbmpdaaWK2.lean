/- It is proved that the law FnKindWiden returns true for every input and leaves its input as it was; no condition. -/
import Derived.Test.YtejcaodogbmpdaaWK1
set_option linter.unusedSimpArgs false
namespace Go.V
open Go.Proofs
inductive Tr where
  | mk (sort num : Int) (text : ByteArray) (names : List ByteArray) (kids : List Tr)
mutual
def encT : Tr → List V
  | .mk s n x ns ks => [.s (.int .i64 s), .s (.int .i64 n), .s (.string x), .sl (encS ns), .sl (encTs ks)]
def encTs : List Tr → List (List V)
  | [] => []
  | k :: ks => encT k :: encTs ks
end
theorem encTs_eq : ∀ ks, encTs ks = ks.map encT
  | [] => by simp [encTs]
  | k :: ks => by simp [encTs, encTs_eq ks]
theorem encT_mk (s n : Int) (x : ByteArray) (ns : List ByteArray) (ks : List Tr) : encT (.mk s n x ns ks) = [.s (.int .i64 s), .s (.int .i64 n), .s (.string x), .sl (encS ns), .sl (encTs ks)] := by simp [encT]
theorem encT_len (k : Tr) : (encT k).length = 5 := by cases k; simp [encT]
theorem encTs_len (ks : List Tr) : (encTs ks).length = ks.length := by simp [encTs_eq]
theorem encTs_at {ks : List Tr} {i : Nat} {k : Tr} (h : ks[i]? = some k) : (encTs ks)[i]? = some (encT k) := by simp [encTs_eq, h]
theorem encTs_all (ks : List Tr) : ∀ e ∈ encTs ks, e.length = 5 := by
  intro e he
  rw [encTs_eq, List.mem_map] at he
  obtain ⟨k, _, rfl⟩ := he
  exact encT_len k
theorem encTs_snoc (ks : List Tr) (k : Tr) : encTs (ks ++ [k]) = encTs ks ++ [encT k] := by simp [encTs_eq]
theorem take_encTs (ks : List Tr) : (encTs ks).take ks.length = encTs ks := by rw [← encTs_len ks, List.take_length]
theorem takeT (k : Tr) : List.take 5 (List.map C.v (encT k)) = List.map C.v (encT k) := by
  have h : (List.map C.v (encT k)).length = 5 := by rw [List.length_map, encT_len]
  rw [← h, List.take_length]
abbrev tT (k : Tr) : T := .pt (.agg ((encT k).map .v))
/-- No list and no text is longer than n. -/
inductive TB (n : Nat) : Tr → Prop
  | mk (s m : Int) (x : ByteArray) (ns : List ByteArray) (ks : List Tr) (h0 : x.size ≤ n) (h1 : ns.length ≤ n) (h2 : ks.length ≤ n) (h3 : ∀ x ∈ ns, x.size ≤ n) (h4 : ∀ k ∈ ks, TB n k) : TB n (.mk s m x ns ks)
theorem TB.inv {n : Nat} {s m : Int} {x : ByteArray} {ns : List ByteArray} {ks : List Tr} (h : TB n (.mk s m x ns ks)) : x.size ≤ n ∧ ns.length ≤ n ∧ ks.length ≤ n ∧ (∀ x ∈ ns, x.size ≤ n) ∧ ∀ k ∈ ks, TB n k := by
  cases h with
  | mk _ _ _ _ _ h0 h1 h2 h3 h4 => exact ⟨h0, h1, h2, h3, h4⟩
theorem Tr.ind {P : Tr → Prop} (h : ∀ s n x ns ks, (∀ k ∈ ks, P k) → P (.mk s n x ns ks)) : ∀ k, P k
  | .mk s n x ns ks => h s n x ns ks fun k _hk => Tr.ind h k
termination_by k => SizeOf.sizeOf k
decreasing_by
  have := List.sizeOf_lt_of_mem _hk
  simp
  omega
mutual
def tcost : Kd → Nat
  | .mk _ _ ks => 4 + 3 * tcostL ks
def tcostL : List Kd → Nat
  | [] => 0
  | k :: ks => tcost k + tcostL ks
end
theorem tcostL_snoc (ks : List Kd) (k : Kd) : tcostL (ks ++ [k]) = tcostL ks + tcost k := by
  induction ks with
  | nil => simp [tcostL]
  | cons x xs ih => simp [tcostL, ih]; omega
theorem tcostL_take_le (ks : List Kd) (i : Nat) : tcostL (ks.take i) ≤ tcostL ks := by
  induction ks generalizing i with
  | nil => simp
  | cons k ks ih => cases i with
    | zero => simp [tcostL]
    | succ i => simp only [List.take_succ_cons, tcostL]; have := ih i; omega
theorem tcost_le : ∀ (k : Kd) (d : Nat), KOk d k → tcost k ≤ 4 * 3 ^ (6 - d) * parts k := by
  intro k
  induction k using Kd.ind with
  | _ s ns ks ih =>
    intro d h
    obtain ⟨h1, h2, h3⟩ := h.inv
    have hL : ∀ l : List Kd, (∀ k ∈ l, k ∈ ks) → 3 * tcostL l ≤ 4 * 3 ^ (6 - d) * partsL l := by
      intro l
      induction l with
      | nil => intro _; simp [tcostL]
      | cons x xs ihl =>
        intro hm
        have e1 := ihl fun k hk => hm k (by simp [hk])
        have hx := hm x (by simp)
        have e2 := ih x hx (d + 1) (h3 x hx)
        have hd := (h3 x hx)
        have hd6 : d + 1 ≤ 6 := by
          cases x with
          | mk a b c => exact hd.inv.1
        have e3 : 3 ^ (6 - d) = 3 * 3 ^ (6 - (d + 1)) := by
          rw [show 6 - d = (6 - (d + 1)) + 1 from by omega, Nat.pow_succ, Nat.mul_comm]
        simp only [tcostL, partsL, Nat.mul_add]
        have e4 : 3 * tcost x ≤ 4 * 3 ^ (6 - d) * parts x := by
          rw [e3]
          calc 3 * tcost x ≤ 3 * (4 * 3 ^ (6 - (d + 1)) * parts x) := Nat.mul_le_mul_left _ e2
            _ = 4 * (3 * 3 ^ (6 - (d + 1))) * parts x := by
              rw [← Nat.mul_assoc, ← Nat.mul_assoc, ← Nat.mul_assoc]
        omega
    have e5 := hL ks fun k hk => hk
    have e6 : 1 ≤ 3 ^ (6 - d) := Nat.one_le_pow _ _ (by omega)
    simp only [tcost, parts, Nat.mul_add]
    omega
end Go.V
set_option linter.unusedSimpArgs false
namespace Go.V
open Go.Proofs
/- loop.example/teagle/spec.l5Tree -/
def r35_0 : List AOper := [ao 0 3 (.box 26 (.t 1)),
  ao 1 4 (.alloc 29 [(.v (.s (.int .i64 0))), (.v (.s (.int .i64 0))), (.v (.s (.string ⟨#[]⟩))), .nil0, .nil0])]
def r35_1 : List AOper := [ao 0 8 (.fa 0 (.t 3)),
  ao 1 9 (.ld 1 false (.t 8)),
  ao 2 10 (.build [(.v (.s (.int .i64 0))), (.v (.s (.int .i64 0))), (.v (.s (.string ⟨#[]⟩))), .nil0, .nil0] [(0, 1, (.t 9))]),
  ao 3 5 (.alloc 29 [(.v (.s (.int .i64 0))), (.v (.s (.int .i64 0))), (.v (.s (.string ⟨#[]⟩))), .nil0, .nil0]),
  an 4 (.st 5 (.t 5) (.t 10))]
def r35_2 : List AOper := [ao 0 11 (.fa 0 (.t 3)),
  ao 1 12 (.ld 1 false (.t 11))]
def r35_3 : List AOper := [ao 0 14 (.bin .eql (.t 12) (.k (.i 1))),
  ao 1 13 (.mv (.t 14))]
def r35_4 : List AOper := [ao 0 15 (.mv (.t 0)),
  ao 1 16 (.call (.k (.c (.fn 70 []))) [(.t 15)]),
  ao 2 17 (.fa 1 (.t 5)),
  an 3 (.st 1 (.t 17) (.t 16))]
def r35_5 : List AOper := [ao 0 19 (.bin .eql (.t 12) (.k (.i 2))),
  ao 1 18 (.mv (.t 19))]
def r35_6 : List AOper := [ao 0 20 (.mv (.t 0)),
  ao 1 21 (.call (.k (.c (.fn 71 []))) [(.t 20)]),
  ao 2 22 (.fa 2 (.t 5)),
  an 3 (.st 1 (.t 22) (.t 21))]
def r35_7 : List AOper := [ao 0 24 (.bin .eql (.t 12) (.k (.i 3))),
  ao 1 23 (.mv (.t 24))]
def r35_8 : List AOper := [ao 0 25 (.mv (.t 0)),
  ao 1 26 (.call (.k (.c (.fn 36 []))) [(.t 25), (.k (.i 2))]),
  ao 2 27 (.fa 1 (.t 5)),
  an 3 (.st 1 (.t 27) (.t 26))]
def r35_9 : List AOper := [ao 0 29 (.bin .eql (.t 12) (.k (.i 6))),
  ao 1 28 (.mv (.t 29))]
def r35_10 : List AOper := [ao 0 30 (.mv (.t 0)),
  ao 1 31 (.call (.k (.c (.fn 36 []))) [(.t 30), (.k (.i 3))]),
  ao 2 32 (.bin .gtr (.t 31) (.k (.i 0)))]
def r35_11 : List AOper := [ao 0 33 (.mv (.t 0)),
  ao 1 34 (.fa 2 (.t 3)),
  ao 2 35 (.ld 1 false (.t 34)),
  ao 3 36 (.ia 3 (.t 35) (.k (.i 0))),
  ao 4 37 (.ld 3 true (.t 36)),
  ao 5 38 (.call (.k (.c (.fn 35 []))) [(.t 33), (.t 37)]),
  ao 6 39 (.bsl 5 29 [(.t 38)]),
  ao 7 40 (.fa 4 (.t 5)),
  an 8 (.st 1 (.t 40) (.t 39))]
def c35_12 : ACode := .cond (.t 32) (.reg r35_11) .skip
def c35_13 : ACode := .seq (.reg r35_10) c35_12
def r35_14 : List AOper := [ao 0 42 (.bin .eql (.t 12) (.k (.i 4))),
  ao 1 41 (.mv (.t 42))]
def r35_15 : List AOper := [ao 0 43 (.mv (.t 0)),
  ao 1 44 (.call (.k (.c (.fn 36 []))) [(.t 43), (.k (.i 4))]),
  ao 2 6 (.mv (.t 44))]
def r35_16 : List AOper := [ao 0 45 (.mv (.t 6)),
  ao 1 46 (.bin .gtr (.t 45) (.k (.i 0)))]
def c35_17 : ACode := .cond (.t 46) .skip (.exit 1)
def c35_18 : ACode := .seq (.reg r35_16) c35_17
def r35_19 : List AOper := [ao 0 49 (.fa 4 (.t 5)),
  ao 1 50 (.ld 1 false (.t 49)),
  au 2 51 [0, 1] (.mv (.t 0)),
  au 3 52 (ru 3) (.fa 2 (.t 3)),
  au 4 53 (ru 3) (.ld 1 false (.t 52)),
  au 5 54 (ru 3) (.ia 3 (.t 53) (.k (.i 0))),
  au 6 55 (ru 3) (.ld 3 true (.t 54)),
  au 7 56 [0, 1] (.call (.k (.c (.fn 35 []))) [(.t 51), (.t 55)]),
  au 8 57 [0, 1] (.bsl 5 29 [(.t 56)]),
  ao 9 58 (.app 5 29 80 (.t 50) (.t 57)),
  ao 10 59 (.fa 4 (.t 5)),
  an 11 (.st 1 (.t 59) (.t 58))]
def c35_20 : ACode := .block 2 (.reg r35_19)
def r35_21 : List AOper := [ao 0 47 (.mv (.t 6)),
  ao 1 48 (.bin .sub (.t 47) (.k (.i 1))),
  ao 2 6 (.mv (.t 48))]
def c35_22 : ACode := .seq c35_18 (.seq c35_20 (.reg r35_21))
def c35_23 : ACode := .loop c35_22
def c35_24 : ACode := .block 1 c35_23
def c35_25 : ACode := .seq (.reg r35_15) c35_24
def r35_26 : List AOper := [ao 0 61 (.bin .eql (.t 12) (.k (.i 5))),
  ao 1 60 (.mv (.t 61))]
def r35_27 : List AOper := [ao 0 7 (.mv (.k (.i 0)))]
def r35_28 : List AOper := [ao 0 62 (.mv (.t 7)),
  ao 1 63 (.fa 1 (.t 3)),
  ao 2 64 (.ld 1 false (.t 63)),
  ao 3 65 (.len (.t 64)),
  ao 4 66 (.bin .lss (.t 62) (.t 65))]
def c35_29 : ACode := .cond (.t 66) .skip (.exit 3)
def c35_30 : ACode := .seq (.reg r35_28) c35_29
def r35_31 : List AOper := [ao 0 69 (.fa 3 (.t 5)),
  ao 1 70 (.ld 1 false (.t 69)),
  au 2 71 [0, 1] (.fa 1 (.t 3)),
  au 3 72 [0, 1] (.ld 1 false (.t 71)),
  au 4 73 (ru 4) (.mv (.t 7)),
  au 5 74 [0, 1] (.ia 1 (.t 72) (.t 73)),
  au 6 75 [0, 1] (.ld 1 false (.t 74)),
  au 7 76 [0, 1] (.bsl 1 9 [(.t 75)]),
  ao 8 77 (.app 1 9 16 (.t 70) (.t 76)),
  ao 9 78 (.fa 3 (.t 5)),
  an 10 (.st 1 (.t 78) (.t 77))]
def r35_32 : List AOper := [ao 0 79 (.fa 4 (.t 5)),
  ao 1 80 (.ld 1 false (.t 79)),
  au 2 81 [0, 1] (.mv (.t 0)),
  au 3 82 (ru 3) (.fa 2 (.t 3)),
  au 4 83 (ru 3) (.ld 1 false (.t 82)),
  au 5 84 (ru 5) (.mv (.t 7)),
  au 6 85 (ru 3) (.ia 3 (.t 83) (.t 84)),
  au 7 86 (ru 3) (.ld 3 true (.t 85)),
  au 8 87 [0, 1] (.call (.k (.c (.fn 35 []))) [(.t 81), (.t 86)]),
  au 9 88 [0, 1] (.bsl 5 29 [(.t 87)]),
  ao 10 89 (.app 5 29 80 (.t 80) (.t 88)),
  ao 11 90 (.fa 4 (.t 5)),
  an 12 (.st 1 (.t 90) (.t 89))]
def c35_33 : ACode := .seq (.reg r35_31) (.reg r35_32)
def c35_34 : ACode := .block 4 c35_33
def r35_35 : List AOper := [ao 0 67 (.mv (.t 7)),
  ao 1 68 (.bin .add (.t 67) (.k (.i 1))),
  ao 2 7 (.mv (.t 68))]
def c35_36 : ACode := .seq c35_30 (.seq c35_34 (.reg r35_35))
def c35_37 : ACode := .loop c35_36
def c35_38 : ACode := .block 3 c35_37
def c35_39 : ACode := .seq (.reg r35_27) c35_38
def c35_40 : ACode := .cond (.t 60) c35_39 .skip
def c35_41 : ACode := .seq (.reg r35_26) c35_40
def c35_42 : ACode := .cond (.t 41) c35_25 c35_41
def c35_43 : ACode := .seq (.reg r35_14) c35_42
def c35_44 : ACode := .cond (.t 28) c35_13 c35_43
def c35_45 : ACode := .seq (.reg r35_9) c35_44
def c35_46 : ACode := .cond (.t 23) (.reg r35_8) c35_45
def c35_47 : ACode := .seq (.reg r35_7) c35_46
def c35_48 : ACode := .cond (.t 18) (.reg r35_6) c35_47
def c35_49 : ACode := .seq (.reg r35_5) c35_48
def c35_50 : ACode := .cond (.t 13) (.reg r35_4) c35_49
def c35_51 : ACode := .seq (.reg r35_3) c35_50
def c35_52 : ACode := .block 0 c35_51
def c35_53 : ACode := .seq (.reg r35_2) c35_52
def r35_54 : List AOper := [ao 0 91 (.ld 5 true (.t 5)),
  an 1 (.st 5 (.t 4) (.t 91))]
def c35 : ACode := .seq (.reg r35_0) (.seq (.reg r35_1) (.seq c35_53 (.seq (.reg r35_54) .ret)))
def s35 : List ARes := [.cell 4 5 true]
theorem ok35 : okF Try.prog 35 92 c35 s35 := ⟨Try.f35, Try.func35, Try.ntmps35, by kernel_rfl, by kernel_rfl, by kernel_rfl⟩
/-- A tree is at most so deep. -/
inductive TDp : Nat → Tr → Prop
  | mk (d : Nat) (s m : Int) (x : ByteArray) (ns : List ByteArray) (ks : List Tr) (h : ∀ k ∈ ks, TDp d k) : TDp (d + 1) (.mk s m x ns ks)
theorem TDp.inv {d : Nat} {s m : Int} {x : ByteArray} {ns : List ByteArray} {ks : List Tr} (h : TDp d (.mk s m x ns ks)) : ∃ e, d = e + 1 ∧ ∀ k ∈ ks, TDp e k := by
  cases h with
  | mk e _ _ _ _ _ h => exact ⟨e, rfl, h⟩
theorem TDp.of {d : Nat} (hd : 1 ≤ d) {s m : Int} {x : ByteArray} {ns : List ByteArray} {ks : List Tr} (h : ∀ k ∈ ks, TDp (d - 1) k) : TDp d (.mk s m x ns ks) := by
  obtain ⟨e, rfl⟩ : ∃ e, d = e + 1 := ⟨d - 1, by omega⟩
  exact .mk _ _ _ _ _ _ (by simpa using h)
structure TS where
  p : Int
  ks : List Tr
/-- A step of the list's loop: one more tree of the same schema. -/
def T1Step (v : Nat) (bs : List UInt8) (k : Kd) (s s' : TS) : Prop :=
  ∃ t, s' = ⟨s'.p, s.ks ++ [t]⟩ ∧ ACallsF Try.prog 35 [rP v, tK k] [rH v bs s.p s'.p] (tT t)
/-- A step of the form's loop. -/
def T2Step (v : Nat) (bs : List UInt8) (ks : List Kd) (i : Nat) (s s' : TS) : Prop :=
  ∃ k t, ks[i]? = some k ∧ s' = ⟨s'.p, s.ks ++ [t]⟩ ∧ ACallsF Try.prog 35 [rP v, tK k] [rH v bs s.p s'.p] (tT t)
def TreeC (v : Nat) (bs : List UInt8) (k : Kd) : Prop := ∀ (d : Nat), KOk d k → KB 1000 k → ∀ p : Int, 0 ≤ p ∧ p + (tcost k : Int) ≤ 900000000000 → ∃ (p' : Int) (t : Tr), p ≤ p' ∧ p' ≤ p + (tcost k : Int) ∧ (TB 1000 t ∧ TDp (7 - d) t) ∧ ACallsF Try.prog 35 [rP v, tK k] [rH v bs p p'] (tT t)
def T2Inv (d : Nat) (p : Int) (ks : List Kd) (i : Nat) (s : TS) : Prop := p ≤ s.p ∧ s.p ≤ p + (tcostL (ks.take i) : Int) ∧ s.ks.length = i ∧ ∀ k ∈ s.ks, TB 1000 k ∧ TDp (7 - (d + 1)) k
theorem form_trace (v : Nat) (bs : List UInt8) (ks : List Kd) (d : Nat) (hK : ∀ k ∈ ks, KOk (d + 1) k) (hB : ∀ k ∈ ks, KB 1000 k) (p : Int) (hp : 0 ≤ p ∧ p + (tcostL ks : Int) ≤ 900000000000) (ih : ∀ k ∈ ks, TreeC v bs k) :
    ∃ f : Nat → TS, f 0 = ⟨p, []⟩ ∧ (∀ i, i ≤ ks.length → T2Inv d p ks i (f i)) ∧ ∀ i, i < ks.length → T2Step v bs ks i (f i) (f (i + 1)) :=
  trace (T2Inv d p ks) (T2Step v bs ks) ⟨p, []⟩ ⟨Int.le_refl _, by simp [tcostL], rfl, fun k hk => (by cases hk)⟩ ks.length (by
    rintro i hi ⟨q, os⟩ ⟨g1, g2, g3, g4⟩
    simp only at g1 g2 g3 g4
    obtain ⟨k, hk⟩ : ∃ k, ks[i]? = some k := ⟨_, List.getElem?_eq_getElem hi⟩
    have hmem := List.mem_of_getElem? hk
    have htake : tcostL (ks.take (i + 1)) = tcostL (ks.take i) + tcost k := by
      rw [List.take_add_one, hk]; exact tcostL_snoc _ _
    have hle := tcostL_take_le ks (i + 1)
    obtain ⟨p', t, i1, i2, i3, i4⟩ := ih k hmem (d + 1) (hK k hmem) (hB k hmem) q ⟨by omega, by omega⟩
    refine ⟨⟨p', os ++ [t]⟩, ⟨k, t, hk, rfl, i4⟩, by simp only; omega, by simp only; omega, by simp [g3], fun k2 hk2 => ?_⟩
    rcases List.mem_append.1 hk2 with h | h
    · exact g4 k2 h
    · simp at h; subst h; exact i3)
def T1Inv (d : Nat) (p : Int) (k : Kd) (i : Nat) (s : TS) : Prop := p ≤ s.p ∧ s.p ≤ p + (i * tcost k : Nat) ∧ s.ks.length = i ∧ ∀ k ∈ s.ks, TB 1000 k ∧ TDp (7 - (d + 1)) k
theorem list_trace (v : Nat) (bs : List UInt8) (k : Kd) (d : Nat) (hK : KOk (d + 1) k) (hB : KB 1000 k) (p : Int) (hp : 0 ≤ p ∧ p + (3 * tcost k : Nat) ≤ 900000000000) (ih : TreeC v bs k) :
    ∃ f : Nat → TS, f 0 = ⟨p, []⟩ ∧ (∀ i, i ≤ 3 → T1Inv d p k i (f i)) ∧ ∀ i, i < 3 → T1Step v bs k (f i) (f (i + 1)) :=
  trace (T1Inv d p k) (fun _ => T1Step v bs k) ⟨p, []⟩ ⟨Int.le_refl _, by simp, rfl, fun k hk => (by cases hk)⟩ 3 (by
    rintro i hi ⟨q, os⟩ ⟨g1, g2, g3, g4⟩
    simp only at g1 g2 g3 g4
    have e1 : (i + 1) * tcost k = i * tcost k + tcost k := Nat.succ_mul _ _
    have e2 : (i + 1) * tcost k ≤ 3 * tcost k := Nat.mul_le_mul_right _ (by omega)
    obtain ⟨p', t, i1, i2, i3, i4⟩ := ih (d + 1) hK hB q ⟨by omega, by omega⟩
    refine ⟨⟨p', os ++ [t]⟩, ⟨t, rfl, i4⟩, by simp only; omega, by simp only; omega, by simp [g3], fun k2 hk2 => ?_⟩
    rcases List.mem_append.1 hk2 with h | h
    · exact g4 k2 h
    · simp at h; subst h; exact i3)
abbrev zT : List C := [.v (.s (.int .i64 0)), .v (.s (.int .i64 0)), .v (.s (.string ⟨#[]⟩)), .nil0, .nil0]
def KT1 (v : Nat) (bs : List UInt8) (s : Int) (ns : List ByteArray) (ks : List Kd) (f : Nat → TS) (N : Nat) (i : Nat) (σ : St) : Prop :=
  σ.t 0 = rP v ∧ (∃ u, σ.t 3 = .c (.ptr 3 u 0) ∧ σ.H 3 = some (.var u 26 [.v (.s (.int .i64 s)), .v (.sl (encS ns)), .v (.sl (encKs ks))])) ∧ (∃ u, σ.t 4 = .c (.ptr 4 u 0) ∧ σ.H 4 = some (.var u 29 zT)) ∧
  (∃ u b, σ.t 5 = .c (.ptr 5 u 0) ∧ σ.H 5 = some (.var u 29 [.v (.s (.int .i64 s)), .v (.s (.int .i64 0)), .v (.s (.string ⟨#[]⟩)), .nil0, .own 2004 b (f i).ks.length]) ∧ σ.H 2004 = some (.arr b true 5 29 (encTs (f i).ks))) ∧ σ.t 6 = .i ((N - i : Nat) : Int) ∧ σ.H 1000 = some (rdr v bs (f i).p)
theorem UKm_1 : (type_of% (uA c35_22.eq_1)) ∧ (type_of% (uA c35_18.eq_1)) ∧ (type_of% (uR r35_16.eq_1)) ∧ (type_of% (uA c35_17.eq_1)) ∧ (type_of% (uA c35_20.eq_1)) ∧ (type_of% (uR r35_19.eq_1)) ∧ (type_of% (uR r35_21.eq_1)) ∧ (type_of% (uA c35.eq_1)) ∧ (type_of% (uR r35_0.eq_1)) ∧ (type_of% (uR r35_1.eq_1)) ∧ (type_of% (uA c35_53.eq_1)) ∧ (type_of% (uR r35_2.eq_1)) ∧ (type_of% (uA c35_52.eq_1)) ∧ (type_of% (uA c35_51.eq_1)) ∧ (type_of% (uR r35_3.eq_1)) ∧ (type_of% (uA c35_50.eq_1)) ∧ (type_of% (uR r35_4.eq_1)) ∧ (type_of% (uA c35_49.eq_1)) ∧ (type_of% (uR r35_5.eq_1)) ∧ (type_of% (uA c35_48.eq_1)) ∧ (type_of% (uR r35_6.eq_1)) ∧ (type_of% (uA c35_47.eq_1)) ∧ (type_of% (uR r35_7.eq_1)) ∧ (type_of% (uA c35_46.eq_1)) ∧ (type_of% (uR r35_8.eq_1)) ∧ (type_of% (uA c35_45.eq_1)) ∧ (type_of% (uR r35_9.eq_1)) ∧ (type_of% (uA c35_44.eq_1)) ∧ (type_of% (uA c35_13.eq_1)) ∧ (type_of% (uR r35_10.eq_1)) ∧ (type_of% (uA c35_12.eq_1)) ∧ (type_of% (uR r35_11.eq_1)) ∧ (type_of% (uA c35_43.eq_1)) ∧ (type_of% (uR r35_14.eq_1)) ∧ (type_of% (uA c35_42.eq_1)) ∧ (type_of% (uA c35_25.eq_1)) ∧ (type_of% (uR r35_15.eq_1)) ∧ (type_of% (uA c35_24.eq_1)) ∧ (type_of% (uA c35_23.eq_1)) ∧ (type_of% (uA c35_41.eq_1)) ∧ (type_of% (uR r35_26.eq_1)) ∧ (type_of% (uA c35_40.eq_1)) ∧ (type_of% (uA c35_39.eq_1)) ∧ (type_of% (uR r35_27.eq_1)) ∧ (type_of% (uA c35_38.eq_1)) ∧ (type_of% (uA c35_37.eq_1)) ∧ (type_of% (uR r35_54.eq_1)) ∧ (type_of% s35.eq_1) :=
  ⟨uA c35_22.eq_1, uA c35_18.eq_1, uR r35_16.eq_1, uA c35_17.eq_1, uA c35_20.eq_1, uR r35_19.eq_1, uR r35_21.eq_1, uA c35.eq_1, uR r35_0.eq_1, uR r35_1.eq_1, uA c35_53.eq_1, uR r35_2.eq_1, uA c35_52.eq_1, uA c35_51.eq_1, uR r35_3.eq_1, uA c35_50.eq_1, uR r35_4.eq_1, uA c35_49.eq_1, uR r35_5.eq_1, uA c35_48.eq_1, uR r35_6.eq_1, uA c35_47.eq_1, uR r35_7.eq_1, uA c35_46.eq_1, uR r35_8.eq_1, uA c35_45.eq_1, uR r35_9.eq_1, uA c35_44.eq_1, uA c35_13.eq_1, uR r35_10.eq_1, uA c35_12.eq_1, uR r35_11.eq_1, uA c35_43.eq_1, uR r35_14.eq_1, uA c35_42.eq_1, uA c35_25.eq_1, uR r35_15.eq_1, uA c35_24.eq_1, uA c35_23.eq_1, uA c35_41.eq_1, uR r35_26.eq_1, uA c35_40.eq_1, uA c35_39.eq_1, uR r35_27.eq_1, uA c35_38.eq_1, uA c35_37.eq_1, uR r35_54.eq_1, s35.eq_1⟩
theorem tree_loop1 (v : Nat) (bs : List UInt8) (s : Int) (ns : List ByteArray) (ks : List Kd) (k : Kd) (hk : ks[0]? = some k) (f : Nat → TS) (N : Nat) (hN : N ≤ 3) (hf : ∀ i, i ≤ 3 → (f i).ks.length = i) (f2 : ∀ i, i < 3 → T1Step v bs k (f i) (f (i + 1))) {X : Ctx} {Q : Exit → St → Prop} {t : Nat → T} {H : HMap} {c : Nat}
    (h : KT1 v bs s ns ks f N 0 ⟨t, H, c⟩) (hQ : ∀ t H c, KT1 v bs s ns ks f N N ⟨t, H, c⟩ → Q (.exit 1) ⟨t, H, c⟩) : AW Try.prog X (.loop c35_22) Q ⟨t, H, c⟩ := by
  refine AW.upto N (KT1 v bs s ns ks f N) h fun i t H c hi h => ?_
  obtain ⟨e0, ⟨u3, e3, eH3⟩, ⟨u4, e4, eH4⟩, ⟨u5, b, e5, eH5, eHb⟩, e6, eH⟩ := h
  simp only [T.c, T.i, rdr, zT] at e0 e3 eH3 e4 eH4 e5 eH5 eHb e6 eH
  by_cases hlt : i < N
  · have k1 : ((N - i : Nat) : Int) > 0 := by omega
    have gw : IntKind.i64.wrap (((N - i : Nat) : Int) - 1) = ((N - (i + 1) : Nat) : Int) := (wrap64 (x := ((N - i : Nat) : Int) - 1) ⟨by omega, by omega⟩).trans (by omega)
    obtain ⟨tr, he, hC⟩ := f2 i (by omega)
    have ek := encKs_at hk
    have hfi := hf i (by omega)
    have q3 : ((f i).ks.length + 1) * 80 ≤ 140737488355328 := by omega
    have q4 : (f i).ks.length ≤ 9223372036854775806 := by omega
    simp only [RUN, core, T.c, T.s, T.b, T.i, sBin, sInt, sUn, isShift, asInt, P1.cells, loadT, ptrC, storeT, putC, fillP, Nat.reduceAdd, reduceIte, Nat.reduceEqDiff, Nat.reduceLT, Nat.reduceLeDiff, reduceCtorEq, eq_self, FIT, lendCs_map, verC_map, FinC, resPs, resP, lendPl, lendCs, lendC, sealC, partsT, finHs, tupT, verT, verP, verC, verB, verAt, Blk.ver, handsAre, forall_const, UKm_1, e0, e3, eH3, e5, eH5, e6, k1, ek, Int.le_refl, Int.toNat_zero, List.length_map, encK_len, takeK, Nat.le_refl]
    refine callRc hC rfl rfl (by simp [closedA, closedP, closedC]) (closed_map _) eH ⟨?_, ?_⟩
    · simp only [RUN, core, T.c, T.s, T.b, T.i, sBin, sInt, sUn, isShift, asInt, P1.cells, loadT, ptrC, storeT, putC, fillP, Nat.reduceAdd, reduceIte, Nat.reduceEqDiff, Nat.reduceLT, Nat.reduceLeDiff, reduceCtorEq, eq_self, FIT, lendCs_map, verC_map, FinC, resPs, resP, lendPl, lendCs, lendC, sealC, partsT, finHs, tupT, verT, verP, verC, verB, verAt, Blk.ver, handsAre, forall_const, CHT, disj, Nat.reduceBEq, beq_self_eq_true]
    simp only [RUN, core, T.c, T.s, T.b, T.i, sBin, sInt, sUn, isShift, asInt, P1.cells, loadT, ptrC, storeT, putC, fillP, Nat.reduceAdd, reduceIte, Nat.reduceEqDiff, Nat.reduceLT, Nat.reduceLeDiff, reduceCtorEq, eq_self, FIT, lendCs_map, verC_map, FinC, resPs, resP, lendPl, lendCs, lendC, sealC, partsT, finHs, tupT, verT, verP, verC, verB, verAt, Blk.ver, handsAre, forall_const, CHT, disj, Nat.reduceBEq, beq_self_eq_true, APT, srcOf, sealPs, sealCs, sealC, List.mem_singleton, forall_eq, UKm_1, e5, eH5, e6, eHb, gw, q3, q4, encTs_len, take_encTs, encT_len]
    have k2 : (f (i + 1)).ks = (f i).ks ++ [tr] := congrArg TS.ks he
    have k3 : (f (i + 1)).ks.length = (f i).ks.length + 1 := by rw [k2]; simp
    have k4 : encTs (f (i + 1)).ks = encTs (f i).ks ++ [encT tr] := by rw [k2, encTs_snoc]
    unfold KT1
    rw [k3, k4]
    exact ⟨hlt, e0, ⟨u3, e3, eH3⟩, ⟨u4, e4, eH4⟩, ⟨u5, _, e5, rfl, rfl⟩, rfl, rfl⟩
  · have : i = N := by omega
    subst this
    have k1 : ¬ ((i - i : Nat) : Int) > 0 := by omega
    simp only [RUN, core, T.c, T.s, T.b, T.i, sBin, sInt, sUn, isShift, asInt, P1.cells, loadT, ptrC, storeT, putC, fillP, Nat.reduceAdd, reduceIte, Nat.reduceEqDiff, Nat.reduceLT, Nat.reduceLeDiff, reduceCtorEq, eq_self, FIT, lendCs_map, verC_map, FinC, resPs, resP, lendPl, lendCs, lendC, sealC, partsT, finHs, tupT, verT, verP, verC, verB, verAt, Blk.ver, handsAre, forall_const, UKm_1, e6, k1]
    exact hQ _ _ _ ⟨e0, ⟨u3, e3, eH3⟩, ⟨u4, e4, eH4⟩, ⟨u5, b, e5, eH5, eHb⟩, e6, eH⟩
def KT2 (v : Nat) (bs : List UInt8) (s : Int) (ns : List ByteArray) (ks : List Kd) (f : Nat → TS) (i : Nat) (σ : St) : Prop :=
  σ.t 0 = rP v ∧ (∃ u, σ.t 3 = .c (.ptr 3 u 0) ∧ σ.H 3 = some (.var u 26 [.v (.s (.int .i64 s)), .v (.sl (encS ns)), .v (.sl (encKs ks))])) ∧ (∃ u, σ.t 4 = .c (.ptr 4 u 0) ∧ σ.H 4 = some (.var u 29 zT)) ∧
  (∃ u a b, σ.t 5 = .c (.ptr 5 u 0) ∧ σ.H 5 = some (.var u 29 [.v (.s (.int .i64 s)), .v (.s (.int .i64 0)), .v (.s (.string ⟨#[]⟩)), .own 2003 a i, .own 2004 b (f i).ks.length]) ∧ σ.H 2003 = some (.arr a true 1 9 (encS (ns.take i))) ∧ σ.H 2004 = some (.arr b true 5 29 (encTs (f i).ks))) ∧ σ.t 7 = .i i ∧ σ.H 1000 = some (rdr v bs (f i).p)
theorem UKm_2 : (type_of% (uA c35_36.eq_1)) ∧ (type_of% (uA c35_30.eq_1)) ∧ (type_of% (uR r35_28.eq_1)) ∧ (type_of% (uA c35_29.eq_1)) ∧ (type_of% (uA c35_34.eq_1)) ∧ (type_of% (uA c35_33.eq_1)) ∧ (type_of% (uR r35_31.eq_1)) ∧ (type_of% (uR r35_32.eq_1)) ∧ (type_of% (uR r35_35.eq_1)) ∧ (type_of% (uA c35.eq_1)) ∧ (type_of% (uR r35_0.eq_1)) ∧ (type_of% (uR r35_1.eq_1)) ∧ (type_of% (uA c35_53.eq_1)) ∧ (type_of% (uR r35_2.eq_1)) ∧ (type_of% (uA c35_52.eq_1)) ∧ (type_of% (uA c35_51.eq_1)) ∧ (type_of% (uR r35_3.eq_1)) ∧ (type_of% (uA c35_50.eq_1)) ∧ (type_of% (uR r35_4.eq_1)) ∧ (type_of% (uA c35_49.eq_1)) ∧ (type_of% (uR r35_5.eq_1)) ∧ (type_of% (uA c35_48.eq_1)) ∧ (type_of% (uR r35_6.eq_1)) ∧ (type_of% (uA c35_47.eq_1)) ∧ (type_of% (uR r35_7.eq_1)) ∧ (type_of% (uA c35_46.eq_1)) ∧ (type_of% (uR r35_8.eq_1)) ∧ (type_of% (uA c35_45.eq_1)) ∧ (type_of% (uR r35_9.eq_1)) ∧ (type_of% (uA c35_44.eq_1)) ∧ (type_of% (uA c35_13.eq_1)) ∧ (type_of% (uR r35_10.eq_1)) ∧ (type_of% (uA c35_12.eq_1)) ∧ (type_of% (uR r35_11.eq_1)) ∧ (type_of% (uA c35_43.eq_1)) ∧ (type_of% (uR r35_14.eq_1)) ∧ (type_of% (uA c35_42.eq_1)) ∧ (type_of% (uA c35_25.eq_1)) ∧ (type_of% (uR r35_15.eq_1)) ∧ (type_of% (uA c35_24.eq_1)) ∧ (type_of% (uA c35_23.eq_1)) ∧ (type_of% (uA c35_41.eq_1)) ∧ (type_of% (uR r35_26.eq_1)) ∧ (type_of% (uA c35_40.eq_1)) ∧ (type_of% (uA c35_39.eq_1)) ∧ (type_of% (uR r35_27.eq_1)) ∧ (type_of% (uA c35_38.eq_1)) ∧ (type_of% (uA c35_37.eq_1)) ∧ (type_of% (uR r35_54.eq_1)) ∧ (type_of% s35.eq_1) :=
  ⟨uA c35_36.eq_1, uA c35_30.eq_1, uR r35_28.eq_1, uA c35_29.eq_1, uA c35_34.eq_1, uA c35_33.eq_1, uR r35_31.eq_1, uR r35_32.eq_1, uR r35_35.eq_1, uA c35.eq_1, uR r35_0.eq_1, uR r35_1.eq_1, uA c35_53.eq_1, uR r35_2.eq_1, uA c35_52.eq_1, uA c35_51.eq_1, uR r35_3.eq_1, uA c35_50.eq_1, uR r35_4.eq_1, uA c35_49.eq_1, uR r35_5.eq_1, uA c35_48.eq_1, uR r35_6.eq_1, uA c35_47.eq_1, uR r35_7.eq_1, uA c35_46.eq_1, uR r35_8.eq_1, uA c35_45.eq_1, uR r35_9.eq_1, uA c35_44.eq_1, uA c35_13.eq_1, uR r35_10.eq_1, uA c35_12.eq_1, uR r35_11.eq_1, uA c35_43.eq_1, uR r35_14.eq_1, uA c35_42.eq_1, uA c35_25.eq_1, uR r35_15.eq_1, uA c35_24.eq_1, uA c35_23.eq_1, uA c35_41.eq_1, uR r35_26.eq_1, uA c35_40.eq_1, uA c35_39.eq_1, uR r35_27.eq_1, uA c35_38.eq_1, uA c35_37.eq_1, uR r35_54.eq_1, s35.eq_1⟩
theorem tree_loop2 (v : Nat) (bs : List UInt8) (s : Int) (ns : List ByteArray) (ks : List Kd) (hn : ns.length ≤ 1000 ∧ ns.length = ks.length) (f : Nat → TS) (hf : ∀ i, i ≤ ks.length → (f i).ks.length = i) (f2 : ∀ i, i < ks.length → T2Step v bs ks i (f i) (f (i + 1))) {X : Ctx} {Q : Exit → St → Prop} {t : Nat → T} {H : HMap} {c : Nat}
    (h : KT2 v bs s ns ks f 0 ⟨t, H, c⟩) (hQ : ∀ t H c, KT2 v bs s ns ks f ks.length ⟨t, H, c⟩ → Q (.exit 3) ⟨t, H, c⟩) : AW Try.prog X (.loop c35_36) Q ⟨t, H, c⟩ := by
  refine AW.upto ks.length (KT2 v bs s ns ks f) h fun i t H c hi h => ?_
  obtain ⟨e0, ⟨u3, e3, eH3⟩, ⟨u4, e4, eH4⟩, ⟨u5, a, b, e5, eH5, eHa, eHb⟩, e7, eH⟩ := h
  simp only [T.c, T.i, rdr, zT] at e0 e3 eH3 e4 eH4 e5 eH5 eHa eHb e7 eH
  by_cases hlt : i < ks.length
  · have k1 : (i : Int) < ns.length := by omega
    have gz : (0 : Int) ≤ i := by omega
    have gw : IntKind.i64.wrap ((i : Int) + 1) = ((i + 1 : Nat) : Int) := wrap64 (x := (i : Int) + 1) ⟨by omega, by omega⟩
    obtain ⟨k, tr, hk, he, hC⟩ := f2 i hlt
    obtain ⟨x, hx⟩ : ∃ x, ns[i]? = some x := ⟨_, List.getElem?_eq_getElem (by omega)⟩
    have ek := encKs_at hk
    have ex := encS_at hx
    have hfi := hf i hi
    have hlen : (encS (ns.take i)).length = i := by rw [encS_len, List.length_take]; omega
    have htk : (encS (ns.take i)).take i = encS (ns.take i) := List.take_of_length_le (Nat.le_of_eq hlen)
    have q1 : (i + 1) * 16 ≤ 140737488355328 := by omega
    have q2 : i ≤ 9223372036854775806 := by omega
    have q3 : ((f i).ks.length + 1) * 80 ≤ 140737488355328 := by omega
    have q4 : (f i).ks.length ≤ 9223372036854775806 := by omega
    simp only [RUN, core, T.c, T.s, T.b, T.i, sBin, sInt, sUn, isShift, asInt, P1.cells, loadT, ptrC, storeT, putC, fillP, Nat.reduceAdd, reduceIte, Nat.reduceEqDiff, Nat.reduceLT, Nat.reduceLeDiff, reduceCtorEq, eq_self, FIT, lendCs_map, verC_map, FinC, resPs, resP, lendPl, lendCs, lendC, sealC, partsT, finHs, tupT, verT, verP, verC, verB, verAt, Blk.ver, handsAre, forall_const, CHT, disj, Nat.reduceBEq, beq_self_eq_true, APT, srcOf, sealPs, sealCs, sealC, List.mem_singleton, forall_eq, UKm_2, e0, e3, eH3, e5, eH5, eHa, e7, encS_len, k1, gz, ek, ex, Int.toNat_natCast, List.length_map, encK_len, takeK, Nat.le_refl, hlen, htk, q1, q2]
    refine callRc hC rfl rfl (by simp [closedA, closedP, closedC]) (closed_map _) eH ⟨?_, ?_⟩
    · simp only [RUN, core, T.c, T.s, T.b, T.i, sBin, sInt, sUn, isShift, asInt, P1.cells, loadT, ptrC, storeT, putC, fillP, Nat.reduceAdd, reduceIte, Nat.reduceEqDiff, Nat.reduceLT, Nat.reduceLeDiff, reduceCtorEq, eq_self, FIT, lendCs_map, verC_map, FinC, resPs, resP, lendPl, lendCs, lendC, sealC, partsT, finHs, tupT, verT, verP, verC, verB, verAt, Blk.ver, handsAre, forall_const, CHT, disj, Nat.reduceBEq, beq_self_eq_true]
    simp only [RUN, core, T.c, T.s, T.b, T.i, sBin, sInt, sUn, isShift, asInt, P1.cells, loadT, ptrC, storeT, putC, fillP, Nat.reduceAdd, reduceIte, Nat.reduceEqDiff, Nat.reduceLT, Nat.reduceLeDiff, reduceCtorEq, eq_self, FIT, lendCs_map, verC_map, FinC, resPs, resP, lendPl, lendCs, lendC, sealC, partsT, finHs, tupT, verT, verP, verC, verB, verAt, Blk.ver, handsAre, forall_const, CHT, disj, Nat.reduceBEq, beq_self_eq_true, APT, srcOf, sealPs, sealCs, sealC, List.mem_singleton, forall_eq, UKm_2, e5, e7, eHb, gw, q3, q4, encTs_len, take_encTs, encT_len]
    have k2 : (f (i + 1)).ks = (f i).ks ++ [tr] := congrArg TS.ks he
    have k3 : (f (i + 1)).ks.length = (f i).ks.length + 1 := by rw [k2]; simp
    have k4 : encTs (f (i + 1)).ks = encTs (f i).ks ++ [encT tr] := by rw [k2, encTs_snoc]
    have k5 : encS (ns.take (i + 1)) = encS (ns.take i) ++ [[.s (.string x)]] := by rw [List.take_add_one, hx]; exact encS_snoc _ _
    unfold KT2
    rw [k3, k4, k5]
    exact ⟨hlt, e0, ⟨u3, e3, eH3⟩, ⟨u4, e4, eH4⟩, ⟨u5, _, _, e5, rfl, rfl, rfl⟩, rfl, rfl⟩
  · have : i = ks.length := by omega
    subst this
    have k1 : ¬ ((ks.length : Nat) : Int) < ns.length := by omega
    simp only [RUN, core, T.c, T.s, T.b, T.i, sBin, sInt, sUn, isShift, asInt, P1.cells, loadT, ptrC, storeT, putC, fillP, Nat.reduceAdd, reduceIte, Nat.reduceEqDiff, Nat.reduceLT, Nat.reduceLeDiff, reduceCtorEq, eq_self, FIT, lendCs_map, verC_map, FinC, resPs, resP, lendPl, lendCs, lendC, sealC, partsT, finHs, tupT, verT, verP, verC, verB, verAt, Blk.ver, handsAre, forall_const, UKm_2, e3, eH3, e7, encS_len, k1]
    exact hQ _ _ _ ⟨e0, ⟨u3, e3, eH3⟩, ⟨u4, e4, eH4⟩, ⟨u5, a, b, e5, eH5, eHa, eHb⟩, e7, eH⟩
end Go.V
set_option linter.unusedSimpArgs false
namespace Go.V
open Go.Proofs
theorem encTs_nil : encTs [] = [] := by simp [encTs]
theorem encTs_one (t : Tr) : encTs [t] = [encT t] := by simp [encTs]
theorem UKn_1 : (type_of% (uA c35.eq_1)) ∧ (type_of% (uR r35_0.eq_1)) ∧ (type_of% (uR r35_1.eq_1)) ∧ (type_of% (uA c35_53.eq_1)) ∧ (type_of% (uR r35_2.eq_1)) ∧ (type_of% (uA c35_52.eq_1)) ∧ (type_of% (uA c35_51.eq_1)) ∧ (type_of% (uR r35_3.eq_1)) ∧ (type_of% (uA c35_50.eq_1)) ∧ (type_of% (uR r35_4.eq_1)) ∧ (type_of% (uA c35_49.eq_1)) ∧ (type_of% (uR r35_5.eq_1)) ∧ (type_of% (uA c35_48.eq_1)) ∧ (type_of% (uR r35_6.eq_1)) ∧ (type_of% (uA c35_47.eq_1)) ∧ (type_of% (uR r35_7.eq_1)) ∧ (type_of% (uA c35_46.eq_1)) ∧ (type_of% (uR r35_8.eq_1)) ∧ (type_of% (uA c35_45.eq_1)) ∧ (type_of% (uR r35_9.eq_1)) ∧ (type_of% (uA c35_44.eq_1)) ∧ (type_of% (uA c35_13.eq_1)) ∧ (type_of% (uR r35_10.eq_1)) ∧ (type_of% (uA c35_12.eq_1)) ∧ (type_of% (uR r35_11.eq_1)) ∧ (type_of% (uA c35_43.eq_1)) ∧ (type_of% (uR r35_14.eq_1)) ∧ (type_of% (uA c35_42.eq_1)) ∧ (type_of% (uA c35_25.eq_1)) ∧ (type_of% (uR r35_15.eq_1)) ∧ (type_of% (uA c35_24.eq_1)) ∧ (type_of% (uA c35_23.eq_1)) ∧ (type_of% (uA c35_41.eq_1)) ∧ (type_of% (uR r35_26.eq_1)) ∧ (type_of% (uA c35_40.eq_1)) ∧ (type_of% (uA c35_39.eq_1)) ∧ (type_of% (uR r35_27.eq_1)) ∧ (type_of% (uA c35_38.eq_1)) ∧ (type_of% (uA c35_37.eq_1)) ∧ (type_of% (uR r35_54.eq_1)) ∧ (type_of% s35.eq_1) :=
  ⟨uA c35.eq_1, uR r35_0.eq_1, uR r35_1.eq_1, uA c35_53.eq_1, uR r35_2.eq_1, uA c35_52.eq_1, uA c35_51.eq_1, uR r35_3.eq_1, uA c35_50.eq_1, uR r35_4.eq_1, uA c35_49.eq_1, uR r35_5.eq_1, uA c35_48.eq_1, uR r35_6.eq_1, uA c35_47.eq_1, uR r35_7.eq_1, uA c35_46.eq_1, uR r35_8.eq_1, uA c35_45.eq_1, uR r35_9.eq_1, uA c35_44.eq_1, uA c35_13.eq_1, uR r35_10.eq_1, uA c35_12.eq_1, uR r35_11.eq_1, uA c35_43.eq_1, uR r35_14.eq_1, uA c35_42.eq_1, uA c35_25.eq_1, uR r35_15.eq_1, uA c35_24.eq_1, uA c35_23.eq_1, uA c35_41.eq_1, uR r35_26.eq_1, uA c35_40.eq_1, uA c35_39.eq_1, uR r35_27.eq_1, uA c35_38.eq_1, uA c35_37.eq_1, uR r35_54.eq_1, s35.eq_1⟩
theorem tree_ok (v : Nat) (bs : List UInt8) (hb : bs.length ≤ 2000) : ∀ k, TreeC v bs k := by
  intro k
  induction k using Kd.ind with
  | _ s ns ks ih =>
    intro d hO hB p hp
    obtain ⟨hd6, hS, hK⟩ := hO.inv
    obtain ⟨b1, b2, b3, b4⟩ := hB.inv
    simp only [tcost] at hp
    have hz0 : (⟨#[]⟩ : ByteArray).size ≤ 1000 := by decide
    have hlo := hS.lo
    have hhi := hS.hi
    rcases (by omega : s = 1 ∨ s = 2 ∨ s = 3 ∨ s = 4 ∨ s = 5 ∨ s = 6) with rfl | rfl | rfl | rfl | rfl | rfl
    · obtain ⟨p', n, i1, i2, hC⟩ := num_ok v bs hb p (by omega)
      refine ⟨p', .mk 1 n ⟨#[]⟩ [] [], i1, by simp only [tcost]; omega, ⟨.mk _ _ _ _ _ hz0 (by simp) (by simp) (by simp) (by simp), .of (by omega) (by simp)⟩, ACallsF.intro ok35 follows fun X c0 => ?_⟩
      simp only [RUN, core, T.c, T.s, T.b, T.i, sBin, sInt, sUn, isShift, asInt, P1.cells, loadT, ptrC, storeT, putC, fillP, Nat.reduceAdd, reduceIte, Nat.reduceEqDiff, Nat.reduceLT, Nat.reduceLeDiff, reduceCtorEq, eq_self, FIT, lendCs_map, verC_map, FinC, resPs, resP, lendPl, lendCs, lendC, sealC, partsT, finHs, tupT, verT, verP, verC, verB, verAt, Blk.ver, handsAre, forall_const, APT, srcOf, sealPs, sealCs, sealC, List.mem_singleton, forall_eq, rH, rdr, UKn_1, encK_mk, Int.reduceBEq]
      refine callRc hC rfl rfl rfl rfl rfl ⟨rfl, ?_⟩
      simp only [RUN, core, T.c, T.s, T.b, T.i, sBin, sInt, sUn, isShift, asInt, P1.cells, loadT, ptrC, storeT, putC, fillP, Nat.reduceAdd, reduceIte, Nat.reduceEqDiff, Nat.reduceLT, Nat.reduceLeDiff, reduceCtorEq, eq_self, FIT, lendCs_map, verC_map, FinC, resPs, resP, lendPl, lendCs, lendC, sealC, partsT, finHs, tupT, verT, verP, verC, verB, verAt, Blk.ver, handsAre, forall_const, APT, srcOf, sealPs, sealCs, sealC, List.mem_singleton, forall_eq, rH, rdr, UKn_1, encT_mk, encS_nil, encTs_nil]
    · obtain ⟨p', x, i1, i2, hx, hC⟩ := drawText_ok v bs hb p (by omega)
      refine ⟨p', .mk 2 0 x [] [], i1, by simp only [tcost]; omega, ⟨.mk _ _ _ _ _ hx (by simp) (by simp) (by simp) (by simp), .of (by omega) (by simp)⟩, ACallsF.intro ok35 follows fun X c0 => ?_⟩
      simp only [RUN, core, T.c, T.s, T.b, T.i, sBin, sInt, sUn, isShift, asInt, P1.cells, loadT, ptrC, storeT, putC, fillP, Nat.reduceAdd, reduceIte, Nat.reduceEqDiff, Nat.reduceLT, Nat.reduceLeDiff, reduceCtorEq, eq_self, FIT, lendCs_map, verC_map, FinC, resPs, resP, lendPl, lendCs, lendC, sealC, partsT, finHs, tupT, verT, verP, verC, verB, verAt, Blk.ver, handsAre, forall_const, APT, srcOf, sealPs, sealCs, sealC, List.mem_singleton, forall_eq, rH, rdr, UKn_1, encK_mk, Int.reduceBEq]
      refine callRc hC rfl rfl rfl rfl rfl ⟨rfl, ?_⟩
      simp only [RUN, core, T.c, T.s, T.b, T.i, sBin, sInt, sUn, isShift, asInt, P1.cells, loadT, ptrC, storeT, putC, fillP, Nat.reduceAdd, reduceIte, Nat.reduceEqDiff, Nat.reduceLT, Nat.reduceLeDiff, reduceCtorEq, eq_self, FIT, lendCs_map, verC_map, FinC, resPs, resP, lendPl, lendCs, lendC, sealC, partsT, finHs, tupT, verT, verP, verC, verB, verAt, Blk.ver, handsAre, forall_const, APT, srcOf, sealPs, sealCs, sealC, List.mem_singleton, forall_eq, rH, rdr, UKn_1, encT_mk, encS_nil, encTs_nil]
    · obtain ⟨n, n0, n1, hC⟩ := pick_ok v bs hb p 2 (by omega) (by omega)
      refine ⟨p + 1, .mk 3 n ⟨#[]⟩ [] [], by omega, by simp only [tcost]; omega, ⟨.mk _ _ _ _ _ hz0 (by simp) (by simp) (by simp) (by simp), .of (by omega) (by simp)⟩, ACallsF.intro ok35 follows fun X c0 => ?_⟩
      simp only [RUN, core, T.c, T.s, T.b, T.i, sBin, sInt, sUn, isShift, asInt, P1.cells, loadT, ptrC, storeT, putC, fillP, Nat.reduceAdd, reduceIte, Nat.reduceEqDiff, Nat.reduceLT, Nat.reduceLeDiff, reduceCtorEq, eq_self, FIT, lendCs_map, verC_map, FinC, resPs, resP, lendPl, lendCs, lendC, sealC, partsT, finHs, tupT, verT, verP, verC, verB, verAt, Blk.ver, handsAre, forall_const, APT, srcOf, sealPs, sealCs, sealC, List.mem_singleton, forall_eq, rH, rdr, UKn_1, encK_mk, Int.reduceBEq]
      refine callRc hC rfl rfl rfl rfl rfl ⟨rfl, ?_⟩
      simp only [RUN, core, T.c, T.s, T.b, T.i, sBin, sInt, sUn, isShift, asInt, P1.cells, loadT, ptrC, storeT, putC, fillP, Nat.reduceAdd, reduceIte, Nat.reduceEqDiff, Nat.reduceLT, Nat.reduceLeDiff, reduceCtorEq, eq_self, FIT, lendCs_map, verC_map, FinC, resPs, resP, lendPl, lendCs, lendC, sealC, partsT, finHs, tupT, verT, verP, verC, verB, verAt, Blk.ver, handsAre, forall_const, APT, srcOf, sealPs, sealCs, sealC, List.mem_singleton, forall_eq, rH, rdr, UKn_1, encT_mk, encS_nil, encTs_nil]
    · obtain ⟨n, n0, n1, hC⟩ := pick_ok v bs hb p 4 (by omega) (by omega)
      obtain ⟨N, rfl⟩ : ∃ N : Nat, n = N := ⟨n.toNat, (Int.toNat_of_nonneg n0).symm⟩
      have h1 := hS.one (.inl rfl)
      obtain ⟨k, rfl⟩ : ∃ k, ks = [k] := by
        cases ks with
        | nil => simp at h1
        | cons k l => cases l with
          | nil => exact ⟨k, rfl⟩
          | cons _ _ => simp at h1
      have hmem : k ∈ [k] := by simp
      simp only [tcostL] at hp
      obtain ⟨f, f0, f1, f2⟩ := list_trace v bs k d (hK k hmem) (b4 k hmem) (p + 1) ⟨by omega, by omega⟩ (ih k hmem)
      have hI := f1 N (by omega)
      have hN3 : N * tcost k ≤ 3 * tcost k := Nat.mul_le_mul_right _ (by omega)
      refine ⟨(f N).p, .mk 4 0 ⟨#[]⟩ [] (f N).ks, ?_, ?_, ⟨.mk _ _ _ _ _ hz0 (by simp) ?_ (by simp) fun k hk => (hI.2.2.2 k hk).1, .of (by omega) fun k hk => (hI.2.2.2 k hk).2⟩, ACallsF.intro ok35 follows fun X c0 => ?_⟩
      · have := hI.1; omega
      · have := hI.2.1; simp only [tcost, tcostL]; omega
      · have := hI.2.2.1; omega
      simp only [RUN, core, T.c, T.s, T.b, T.i, sBin, sInt, sUn, isShift, asInt, P1.cells, loadT, ptrC, storeT, putC, fillP, Nat.reduceAdd, reduceIte, Nat.reduceEqDiff, Nat.reduceLT, Nat.reduceLeDiff, reduceCtorEq, eq_self, FIT, lendCs_map, verC_map, FinC, resPs, resP, lendPl, lendCs, lendC, sealC, partsT, finHs, tupT, verT, verP, verC, verB, verAt, Blk.ver, handsAre, forall_const, APT, srcOf, sealPs, sealCs, sealC, List.mem_singleton, forall_eq, rH, rdr, UKn_1, encK_mk, Int.reduceBEq]
      refine callRc hC rfl rfl rfl rfl rfl ⟨rfl, ?_⟩
      simp only [RUN, core, T.c, T.s, T.b, T.i, sBin, sInt, sUn, isShift, asInt, P1.cells, loadT, ptrC, storeT, putC, fillP, Nat.reduceAdd, reduceIte, Nat.reduceEqDiff, Nat.reduceLT, Nat.reduceLeDiff, reduceCtorEq, eq_self, FIT, lendCs_map, verC_map, FinC, resPs, resP, lendPl, lendCs, lendC, sealC, partsT, finHs, tupT, verT, verP, verC, verB, verAt, Blk.ver, handsAre, forall_const, APT, srcOf, sealPs, sealCs, sealC, List.mem_singleton, forall_eq, rH, rdr, UKn_1]
      refine AW.reify 5 4 2004 5 29 rfl rfl rfl (by decide) ?_
      refine tree_loop1 v bs 4 ns [k] k rfl f N (by omega) (fun i hi => (f1 i hi).2.2.1) f2 ?_ fun t H c h => ?_
      · unfold KT1
        rw [f0]
        exact ⟨rfl, ⟨_, rfl, rfl⟩, ⟨_, rfl, rfl⟩, ⟨_, _, rfl, rfl, rfl⟩, rfl, rfl⟩
      obtain ⟨e0, ⟨u3, e3, eH3⟩, ⟨u4, e4, eH4⟩, ⟨u5, b, e5, eH5, eHb⟩, e6, eH⟩ := h
      simp only [T.c, T.i, rdr, zT] at e0 e3 eH3 e4 eH4 e5 eH5 eHb e6 eH
      simp only [RUN, core, T.c, T.s, T.b, T.i, sBin, sInt, sUn, isShift, asInt, P1.cells, loadT, ptrC, storeT, putC, fillP, Nat.reduceAdd, reduceIte, Nat.reduceEqDiff, Nat.reduceLT, Nat.reduceLeDiff, reduceCtorEq, eq_self, FIT, lendCs_map, verC_map, FinC, resPs, resP, lendPl, lendCs, lendC, sealC, partsT, finHs, tupT, verT, verP, verC, verB, verAt, Blk.ver, handsAre, forall_const, APT, srcOf, sealPs, sealCs, sealC, List.mem_singleton, forall_eq, rH, rdr, UKn_1, e4, eH4, e5, eH5, eHb, eH, encT_mk, encTs_len, take_encTs, encS_nil]
    · have hlen := (hS.form rfl).1
      obtain ⟨f, f0, f1, f2⟩ := form_trace v bs ks d hK b4 p ⟨by omega, by omega⟩ ih
      have hI := f1 ks.length (Nat.le_refl _)
      rw [T2Inv, List.take_length] at hI
      have htn : ns.take ks.length = ns := List.take_of_length_le (by omega)
      refine ⟨(f ks.length).p, .mk 5 0 ⟨#[]⟩ ns (f ks.length).ks, hI.1, ?_, ⟨.mk _ _ _ _ _ hz0 b1 ?_ b3 fun k hk => (hI.2.2.2 k hk).1, .of (by omega) fun k hk => (hI.2.2.2 k hk).2⟩, ACallsF.intro ok35 follows fun X c0 => ?_⟩
      · have := hI.2.1; simp only [tcost]; omega
      · have := hI.2.2.1; omega
      simp only [RUN, core, T.c, T.s, T.b, T.i, sBin, sInt, sUn, isShift, asInt, P1.cells, loadT, ptrC, storeT, putC, fillP, Nat.reduceAdd, reduceIte, Nat.reduceEqDiff, Nat.reduceLT, Nat.reduceLeDiff, reduceCtorEq, eq_self, FIT, lendCs_map, verC_map, FinC, resPs, resP, lendPl, lendCs, lendC, sealC, partsT, finHs, tupT, verT, verP, verC, verB, verAt, Blk.ver, handsAre, forall_const, APT, srcOf, sealPs, sealCs, sealC, List.mem_singleton, forall_eq, rH, rdr, UKn_1, encK_mk, Int.reduceBEq]
      refine AW.reify 5 3 2003 1 9 rfl rfl rfl (by decide) ?_
      refine AW.reify 5 4 2004 5 29 rfl rfl rfl (by decide) ?_
      refine tree_loop2 v bs 5 ns ks ⟨b1, hlen⟩ f (fun i hi => (f1 i hi).2.2.1) f2 ?_ fun t H c h => ?_
      · unfold KT2
        rw [f0]
        exact ⟨rfl, ⟨_, rfl, rfl⟩, ⟨_, rfl, rfl⟩, ⟨_, _, _, rfl, rfl, rfl, rfl⟩, rfl, rfl⟩
      obtain ⟨e0, ⟨u3, e3, eH3⟩, ⟨u4, e4, eH4⟩, ⟨u5, a, b, e5, eH5, eHa, eHb⟩, e7, eH⟩ := h
      simp only [T.c, T.i, rdr, zT] at e0 e3 eH3 e4 eH4 e5 eH5 eHa eHb e7 eH
      rw [htn] at eHa
      have hts : List.take ks.length (encS ns) = encS ns := by rw [← hlen]; exact take_encS ns
      have hle2 : ks.length ≤ ns.length := by omega
      simp only [RUN, core, T.c, T.s, T.b, T.i, sBin, sInt, sUn, isShift, asInt, P1.cells, loadT, ptrC, storeT, putC, fillP, Nat.reduceAdd, reduceIte, Nat.reduceEqDiff, Nat.reduceLT, Nat.reduceLeDiff, reduceCtorEq, eq_self, FIT, lendCs_map, verC_map, FinC, resPs, resP, lendPl, lendCs, lendC, sealC, partsT, finHs, tupT, verT, verP, verC, verB, verAt, Blk.ver, handsAre, forall_const, APT, srcOf, sealPs, sealCs, sealC, List.mem_singleton, forall_eq, rH, rdr, UKn_1, e4, eH4, e5, eH5, eHa, eHb, eH, encT_mk, encTs_len, take_encTs, encS_len, hts, hle2]
    · obtain ⟨n, n0, n1, hC⟩ := pick_ok v bs hb p 3 (by omega) (by omega)
      have h1 := hS.one (.inr rfl)
      obtain ⟨k, rfl⟩ : ∃ k, ks = [k] := by
        cases ks with
        | nil => simp at h1
        | cons k l => cases l with
          | nil => exact ⟨k, rfl⟩
          | cons _ _ => simp at h1
      have hmem : k ∈ [k] := by simp
      simp only [tcostL] at hp
      by_cases hn : n > 0
      · obtain ⟨p', t, i1, i2, i3, i4⟩ := ih k hmem (d + 1) (hK k hmem) (b4 k hmem) (p + 1) ⟨by omega, by omega⟩
        refine ⟨p', .mk 6 0 ⟨#[]⟩ [] [t], by omega, by simp only [tcost, tcostL]; omega, ⟨.mk _ _ _ _ _ hz0 (by simp) (by simp) (by simp) (by simpa using i3.1), .of (by omega) (fun k2 hk2 => by simp at hk2; subst hk2; exact i3.2)⟩, ACallsF.intro ok35 follows fun X c0 => ?_⟩
        simp only [RUN, core, T.c, T.s, T.b, T.i, sBin, sInt, sUn, isShift, asInt, P1.cells, loadT, ptrC, storeT, putC, fillP, Nat.reduceAdd, reduceIte, Nat.reduceEqDiff, Nat.reduceLT, Nat.reduceLeDiff, reduceCtorEq, eq_self, FIT, lendCs_map, verC_map, FinC, resPs, resP, lendPl, lendCs, lendC, sealC, partsT, finHs, tupT, verT, verP, verC, verB, verAt, Blk.ver, handsAre, forall_const, APT, srcOf, sealPs, sealCs, sealC, List.mem_singleton, forall_eq, rH, rdr, UKn_1, encK_mk, encKs, Int.reduceBEq]
        refine callRc hC rfl rfl rfl rfl rfl ⟨rfl, ?_⟩
        simp only [RUN, core, T.c, T.s, T.b, T.i, sBin, sInt, sUn, isShift, asInt, P1.cells, loadT, ptrC, storeT, putC, fillP, Nat.reduceAdd, reduceIte, Nat.reduceEqDiff, Nat.reduceLT, Nat.reduceLeDiff, reduceCtorEq, eq_self, FIT, lendCs_map, verC_map, FinC, resPs, resP, lendPl, lendCs, lendC, sealC, partsT, finHs, tupT, verT, verP, verC, verB, verAt, Blk.ver, handsAre, forall_const, APT, srcOf, sealPs, sealCs, sealC, List.mem_singleton, forall_eq, rH, rdr, UKn_1, hn, List.length_map, encK_len, takeK, Nat.le_refl, Int.toNat_zero, Int.le_refl]
        refine callRc i4 rfl rfl (by simp [closedA, closedP, closedC]) (closed_map _) rfl ⟨rfl, ?_⟩
        simp only [RUN, core, T.c, T.s, T.b, T.i, sBin, sInt, sUn, isShift, asInt, P1.cells, loadT, ptrC, storeT, putC, fillP, Nat.reduceAdd, reduceIte, Nat.reduceEqDiff, Nat.reduceLT, Nat.reduceLeDiff, reduceCtorEq, eq_self, FIT, lendCs_map, verC_map, FinC, resPs, resP, lendPl, lendCs, lendC, sealC, partsT, finHs, tupT, verT, verP, verC, verB, verAt, Blk.ver, handsAre, forall_const, APT, srcOf, sealPs, sealCs, sealC, List.mem_singleton, forall_eq, rH, rdr, UKn_1, encT_mk, encS_nil, encTs_one, List.length_map, encT_len, takeT]
      · refine ⟨p + 1, .mk 6 0 ⟨#[]⟩ [] [], by omega, by simp only [tcost, tcostL]; omega, ⟨.mk _ _ _ _ _ hz0 (by simp) (by simp) (by simp) (by simp), .of (by omega) (by simp)⟩, ACallsF.intro ok35 follows fun X c0 => ?_⟩
        simp only [RUN, core, T.c, T.s, T.b, T.i, sBin, sInt, sUn, isShift, asInt, P1.cells, loadT, ptrC, storeT, putC, fillP, Nat.reduceAdd, reduceIte, Nat.reduceEqDiff, Nat.reduceLT, Nat.reduceLeDiff, reduceCtorEq, eq_self, FIT, lendCs_map, verC_map, FinC, resPs, resP, lendPl, lendCs, lendC, sealC, partsT, finHs, tupT, verT, verP, verC, verB, verAt, Blk.ver, handsAre, forall_const, APT, srcOf, sealPs, sealCs, sealC, List.mem_singleton, forall_eq, rH, rdr, UKn_1, encK_mk, encKs, Int.reduceBEq]
        refine callRc hC rfl rfl rfl rfl rfl ⟨rfl, ?_⟩
        simp only [RUN, core, T.c, T.s, T.b, T.i, sBin, sInt, sUn, isShift, asInt, P1.cells, loadT, ptrC, storeT, putC, fillP, Nat.reduceAdd, reduceIte, Nat.reduceEqDiff, Nat.reduceLT, Nat.reduceLeDiff, reduceCtorEq, eq_self, FIT, lendCs_map, verC_map, FinC, resPs, resP, lendPl, lendCs, lendC, sealC, partsT, finHs, tupT, verT, verP, verC, verB, verAt, Blk.ver, handsAre, forall_const, APT, srcOf, sealPs, sealCs, sealC, List.mem_singleton, forall_eq, rH, rdr, UKn_1, hn, encT_mk, encS_nil, encTs_nil]
end Go.V
set_option linter.unusedSimpArgs false
namespace Go.V
open Go.Proofs
/- loop.example/teagle/spec.l6Dec -/
def r74_0 : List AOper := [ao 0 2 (.mv (.k (.s (.string ⟨#[]⟩))))]
def r74_1 : List AOper := [ao 0 3 (.mv (.t 0)),
  ao 1 4 (.bin .lss (.t 3) (.k (.i (-9223372036854775807))))]
def r74_2 : List AOper := [ao 0 2 (.mv (.k (.s (.string ⟨#[45, 57, 50, 50, 51, 51, 55, 50, 48, 51, 54, 56, 53, 52, 55, 55, 53, 56, 48, 56]⟩))))]
def c74_3 : ACode := .seq (.reg r74_2) .ret
def c74_4 : ACode := .cond (.t 4) c74_3 .skip
def c74_5 : ACode := .seq (.reg r74_1) c74_4
def r74_6 : List AOper := [ao 0 5 (.mv (.t 0)),
  ao 1 6 (.bin .lss (.t 5) (.k (.i 0)))]
def r74_7 : List AOper := [ao 0 7 (.mv (.t 0)),
  ao 1 8 (.un .neg (.t 7)),
  ao 2 9 (.call (.k (.c (.fn 74 []))) [(.t 8)]),
  ao 3 10 (.bin .add (.k (.s (.string ⟨#[45]⟩))) (.t 9)),
  ao 4 2 (.mv (.t 10))]
def c74_8 : ACode := .seq (.reg r74_7) .ret
def c74_9 : ACode := .cond (.t 6) c74_8 .skip
def c74_10 : ACode := .seq (.reg r74_6) c74_9
def r74_11 : List AOper := [ao 0 11 (.mv (.t 0)),
  ao 1 12 (.bin .lss (.t 11) (.k (.i 10)))]
def r74_12 : List AOper := [ao 0 13 (.mv (.t 0)),
  ao 1 14 (.bin .add (.k (.i 48)) (.t 13)),
  ao 2 15 (.cnvI .u8 (.t 14)),
  ao 3 16 (.bsl 1 5 [(.t 15)]),
  ao 4 17 (.cnvBS (.t 16)),
  ao 5 2 (.mv (.t 17))]
def c74_13 : ACode := .seq (.reg r74_12) .ret
def c74_14 : ACode := .cond (.t 12) c74_13 .skip
def c74_15 : ACode := .seq (.reg r74_11) c74_14
def r74_16 : List AOper := [ao 0 18 (.mv (.t 0)),
  ao 1 19 (.bin .quo (.t 18) (.k (.i 10))),
  ao 2 20 (.call (.k (.c (.fn 74 []))) [(.t 19)]),
  au 3 21 (ru 3) (.mv (.t 0)),
  au 4 22 (ru 3) (.bin .rem (.t 21) (.k (.i 10))),
  au 5 23 (ru 3) (.bin .add (.k (.i 48)) (.t 22)),
  au 6 24 (ru 3) (.cnvI .u8 (.t 23)),
  au 7 25 (ru 3) (.bsl 1 5 [(.t 24)]),
  au 8 26 (ru 3) (.cnvBS (.t 25)),
  ao 9 27 (.bin .add (.t 20) (.t 26)),
  ao 10 2 (.mv (.t 27))]
def c74 : ACode := .seq (.reg r74_0) (.seq c74_5 (.seq c74_10 (.seq c74_15 (.seq (.reg r74_16) .ret))))
def s74 : List ARes := [.tmp 2]
theorem ok74 : okF Try.prog 74 28 c74 s74 := ⟨Try.f74, Try.func74, Try.ntmps74, by kernel_rfl, by kernel_rfl, by kernel_rfl⟩
theorem push_size (r : ByteArray) (b : UInt8) : (r.push b).size = r.size + 1 := by cases r; simp [ByteArray.push, ByteArray.size]
theorem UKo_1 : (type_of% (uA c74.eq_1)) ∧ (type_of% (uR r74_0.eq_1)) ∧ (type_of% (uA c74_5.eq_1)) ∧ (type_of% (uR r74_1.eq_1)) ∧ (type_of% (uA c74_4.eq_1)) ∧ (type_of% (uA c74_3.eq_1)) ∧ (type_of% (uR r74_2.eq_1)) ∧ (type_of% (uA c74_10.eq_1)) ∧ (type_of% (uR r74_6.eq_1)) ∧ (type_of% (uA c74_9.eq_1)) ∧ (type_of% (uA c74_8.eq_1)) ∧ (type_of% (uR r74_7.eq_1)) ∧ (type_of% (uA c74_15.eq_1)) ∧ (type_of% (uR r74_11.eq_1)) ∧ (type_of% (uA c74_14.eq_1)) ∧ (type_of% (uA c74_13.eq_1)) ∧ (type_of% (uR r74_12.eq_1)) ∧ (type_of% (uR r74_16.eq_1)) ∧ (type_of% s74.eq_1) :=
  ⟨uA c74.eq_1, uR r74_0.eq_1, uA c74_5.eq_1, uR r74_1.eq_1, uA c74_4.eq_1, uA c74_3.eq_1, uR r74_2.eq_1, uA c74_10.eq_1, uR r74_6.eq_1, uA c74_9.eq_1, uA c74_8.eq_1, uR r74_7.eq_1, uA c74_15.eq_1, uR r74_11.eq_1, uA c74_14.eq_1, uA c74_13.eq_1, uR r74_12.eq_1, uR r74_16.eq_1, s74.eq_1⟩
theorem dec_ok : ∀ n : Nat, n ≤ 1000000 → ∃ s : ByteArray, s.size ≤ n + 1 ∧ ACallsF Try.prog 74 [.i n] [] (.s (.string s)) := by
  intro n
  induction n using Nat.strongRecOn with
  | _ n ih =>
    intro hn
    have k1 : ¬ (n : Int) < -9223372036854775807 := by omega
    have k2 : ¬ (n : Int) < 0 := by omega
    have w1 : IntKind.i64.wrap (48 + (n : Int)) = 48 + (n : Int) := wrap64 ⟨by omega, by omega⟩
    by_cases h : n < 10
    · have k3 : (n : Int) < 10 := by omega
      refine ⟨pushB [IntKind.u8.wrap (48 + (n : Int))], by rw [pushB, List.foldl_cons, List.foldl_nil, push_size]; exact Nat.succ_le_succ (Nat.zero_le _), ACallsF.intro ok74 follows fun X c0 => ?_⟩
      simp only [RUN, core, T.c, T.s, T.b, T.i, sBin, sInt, sUn, isShift, asInt, P1.cells, loadT, ptrC, storeT, putC, fillP, Nat.reduceAdd, reduceIte, Nat.reduceEqDiff, Nat.reduceLT, Nat.reduceLeDiff, reduceCtorEq, eq_self, FIT, lendCs_map, verC_map, FinC, resPs, resP, lendPl, lendCs, lendC, sealC, partsT, finHs, tupT, verT, verP, verC, verB, verAt, Blk.ver, handsAre, forall_const, APT, srcOf, sealPs, sealCs, sealC, List.mem_singleton, forall_eq, UKo_1, k1, k2, k3, w1, bytesOf]
    · have k3 : ¬ (n : Int) < 10 := by omega
      obtain ⟨s, hs, hC⟩ := ih (n / 10) (by omega) (by omega)
      have q1 : IntKind.i64.wrap ((n : Int).tdiv 10) = ((n / 10 : Nat) : Int) := (IntWalk.i64_quo (n : Int) 10 ⟨by omega, by omega, by omega⟩).trans (by omega)
      have q2 : (n : Int).tmod 10 = ((n % 10 : Nat) : Int) := rfl
      have q3 : IntKind.i64.wrap (48 + ((n % 10 : Nat) : Int)) = 48 + ((n % 10 : Nat) : Int) := wrap64 ⟨by omega, by omega⟩
      have h10 : ¬ (10 : Int) = 0 := by omega
      have hsz : (pushB [IntKind.u8.wrap (48 + ((n % 10 : Nat) : Int))]).size = 1 := by rw [pushB, List.foldl_cons, List.foldl_nil, push_size]; rfl
      have hle : s.size + (pushB [IntKind.u8.wrap (48 + ((n % 10 : Nat) : Int))]).size ≤ 9223372036854775807 := by omega
      refine ⟨s ++ pushB [IntKind.u8.wrap (48 + ((n % 10 : Nat) : Int))], by rw [ByteArray.size_append, hsz]; omega, ACallsF.intro ok74 follows fun X c0 => ?_⟩
      simp only [RUN, core, T.c, T.s, T.b, T.i, sBin, sInt, sUn, isShift, asInt, P1.cells, loadT, ptrC, storeT, putC, fillP, Nat.reduceAdd, reduceIte, Nat.reduceEqDiff, Nat.reduceLT, Nat.reduceLeDiff, reduceCtorEq, eq_self, FIT, lendCs_map, verC_map, FinC, resPs, resP, lendPl, lendCs, lendC, sealC, partsT, finHs, tupT, verT, verP, verC, verB, verAt, Blk.ver, handsAre, forall_const, APT, srcOf, sealPs, sealCs, sealC, List.mem_singleton, forall_eq, UKo_1, k1, k2, k3, q1, h10]
      refine callC hC rfl rfl rfl rfl ?_
      simp only [RUN, core, T.c, T.s, T.b, T.i, sBin, sInt, sUn, isShift, asInt, P1.cells, loadT, ptrC, storeT, putC, fillP, Nat.reduceAdd, reduceIte, Nat.reduceEqDiff, Nat.reduceLT, Nat.reduceLeDiff, reduceCtorEq, eq_self, FIT, lendCs_map, verC_map, FinC, resPs, resP, lendPl, lendCs, lendC, sealC, partsT, finHs, tupT, verT, verP, verC, verB, verAt, Blk.ver, handsAre, forall_const, APT, srcOf, sealPs, sealCs, sealC, List.mem_singleton, forall_eq, CHT, disj, Nat.reduceBEq, beq_self_eq_true, UKo_1, q2, q3, h10, bytesOf, sStr, hle]
end Go.V
set_option linter.unusedSimpArgs false
namespace Go.V
open Go.Proofs
/- loop.example/teagle/spec.l5SpoilKind -/
def r38_0 : List AOper := [ao 0 3 (.box 26 (.t 1)),
  ao 1 4 (.alloc 26 [(.v (.s (.int .i64 0))), .nil0, .nil0])]
def r38_1 : List AOper := [ao 0 9 (.fa 2 (.t 3)),
  ao 1 10 (.ld 1 false (.t 9)),
  ao 2 11 (.len (.t 10)),
  ao 3 12 (.bin .gtr (.t 11) (.k (.i 0))),
  ao 4 13 (.mv (.t 12)),
  ag 5 14 13 true [] (.mv (.t 0)),
  ag 6 15 13 true [] (.call (.k (.c (.fn 36 []))) [(.t 14), (.k (.i 3))]),
  ag 7 16 13 true [] (.bin .gtr (.t 15) (.k (.i 0))),
  ao 8 17 (.pick (.t 13) (.t 16) (.k (.b false)))]
def r38_2 : List AOper := [ao 0 18 (.bsl 3 26 []),
  ao 1 19 (.fa 2 (.t 3)),
  ao 2 20 (.ld 1 false (.t 19)),
  ao 3 21 (.app 3 26 56 (.t 18) (.t 20)),
  ao 4 5 (.mv (.t 21))]
def r38_3 : List AOper := [ao 0 22 (.mv (.t 0)),
  ao 1 23 (.mv (.t 5)),
  ao 2 24 (.len (.t 23)),
  ao 3 25 (.call (.k (.c (.fn 36 []))) [(.t 22), (.t 24)]),
  ao 4 6 (.mv (.t 25))]
def r38_4 : List AOper := [ao 0 26 (.mv (.t 5)),
  ao 1 27 (.mv (.t 6)),
  ao 2 28 (.mv (.t 0)),
  ao 3 29 (.mv (.t 5)),
  ao 4 30 (.mv (.t 6)),
  ao 5 31 (.ia 3 (.t 29) (.t 30)),
  ao 6 32 (.ld 3 true (.t 31)),
  ao 7 33 (.call (.k (.c (.fn 38 []))) [(.t 28), (.t 32)]),
  ao 8 34 (.ia 3 (.t 26) (.t 27)),
  an 9 (.st 3 (.t 34) (.t 33))]
def r38_5 : List AOper := [ao 0 35 (.mv (.t 5)),
  ao 1 36 (.fa 2 (.t 3)),
  an 2 (.st 1 (.t 36) (.t 35))]
def r38_6 : List AOper := [ao 0 37 (.ld 3 true (.t 3)),
  an 1 (.st 3 (.t 4) (.t 37))]
def c38_7 : ACode := .seq (.reg r38_2) (.seq (.reg r38_3) (.seq (.reg r38_4) (.seq (.reg r38_5) (.seq (.reg r38_6) .ret))))
def c38_8 : ACode := .cond (.t 17) c38_7 .skip
def c38_9 : ACode := .seq (.reg r38_1) c38_8
def r38_10 : List AOper := [ao 0 38 (.mv (.t 0)),
  ao 1 39 (.call (.k (.c (.fn 36 []))) [(.t 38), (.k (.i 5))])]
def r38_11 : List AOper := [ao 0 57 (.bin .eql (.t 39) (.k (.i 0))),
  ao 1 56 (.mv (.t 57))]
def r38_12 : List AOper := [ao 0 58 (.mv (.t 0)),
  ao 1 59 (.call (.k (.c (.fn 36 []))) [(.t 58), (.k (.i 8))]),
  ao 2 60 (.fa 0 (.t 3)),
  an 3 (.st 1 (.t 60) (.t 59))]
def r38_13 : List AOper := [ao 0 62 (.bin .eql (.t 39) (.k (.i 1))),
  ao 1 61 (.mv (.t 62))]
def r38_14 : List AOper := [ao 0 63 (.bsl 1 9 []),
  ao 1 64 (.fa 1 (.t 3)),
  ao 2 65 (.ld 1 false (.t 64)),
  ao 3 66 (.app 1 9 16 (.t 63) (.t 65)),
  ao 4 67 (.mv (.t 0)),
  ao 5 68 (.bsl 1 9 [(.k (.s (.string ⟨#[97]⟩))), (.k (.s (.string ⟨#[122]⟩))), (.k (.s (.string ⟨#[65]⟩)))]),
  ao 6 69 (.call (.k (.c (.fn 72 []))) [(.t 67), (.t 68)]),
  ao 7 70 (.bsl 1 9 [(.t 69)]),
  ao 8 71 (.app 1 9 16 (.t 66) (.t 70)),
  ao 9 72 (.fa 1 (.t 3)),
  an 10 (.st 1 (.t 72) (.t 71))]
def r38_15 : List AOper := [ao 0 74 (.bin .eql (.t 39) (.k (.i 2))),
  ao 1 73 (.mv (.t 74))]
def r38_16 : List AOper := [ao 0 75 (.bsl 3 26 []),
  ao 1 76 (.fa 2 (.t 3)),
  ao 2 77 (.ld 1 false (.t 76)),
  ao 3 78 (.app 3 26 56 (.t 75) (.t 77)),
  ao 4 79 (.build [(.v (.s (.int .i64 0))), .nil0, .nil0] [(0, 1, (.k (.i 1)))]),
  ao 5 80 (.bsl 3 26 [(.t 79)]),
  ao 6 81 (.app 3 26 56 (.t 78) (.t 80)),
  ao 7 82 (.fa 2 (.t 3)),
  an 8 (.st 1 (.t 82) (.t 81))]
def r38_17 : List AOper := [ao 0 84 (.bin .eql (.t 39) (.k (.i 3))),
  ao 1 83 (.mv (.t 84))]
def r38_18 : List AOper := [ao 0 85 (.build [(.v (.s (.int .i64 0))), .nil0, .nil0] [(0, 1, (.k (.i 5)))]),
  an 1 (.st 3 (.t 3) (.t 85))]
def r38_19 : List AOper := [ao 0 7 (.mv (.k (.i 0)))]
def r38_20 : List AOper := [ao 0 86 (.mv (.t 7)),
  ao 1 87 (.mv (.t 0)),
  ao 2 88 (.call (.k (.c (.fn 36 []))) [(.t 87), (.k (.i 2))]),
  ao 3 89 (.bin .add (.k (.i 39)) (.t 88)),
  ao 4 90 (.bin .lss (.t 86) (.t 89))]
def c38_21 : ACode := .cond (.t 90) .skip (.exit 3)
def c38_22 : ACode := .seq (.reg r38_20) c38_21
def r38_23 : List AOper := [ao 0 93 (.fa 1 (.t 3)),
  ao 1 94 (.ld 1 false (.t 93)),
  au 2 95 [0, 1] (.mv (.t 7)),
  au 3 96 [0, 1] (.bin .add (.k (.i 100)) (.t 95)),
  au 4 97 [0, 1] (.call (.k (.c (.fn 74 []))) [(.t 96)]),
  au 5 98 [0, 1] (.bin .add (.k (.s (.string ⟨#[110]⟩))) (.t 97)),
  au 6 99 [0, 1] (.bsl 1 9 [(.t 98)]),
  ao 7 100 (.app 1 9 16 (.t 94) (.t 99)),
  ao 8 101 (.fa 1 (.t 3)),
  an 9 (.st 1 (.t 101) (.t 100))]
def r38_24 : List AOper := [ao 0 102 (.fa 2 (.t 3)),
  ao 1 103 (.ld 1 false (.t 102)),
  ao 2 104 (.build [(.v (.s (.int .i64 0))), .nil0, .nil0] [(0, 1, (.k (.i 1)))]),
  ao 3 105 (.bsl 3 26 [(.t 104)]),
  ao 4 106 (.app 3 26 56 (.t 103) (.t 105)),
  ao 5 107 (.fa 2 (.t 3)),
  an 6 (.st 1 (.t 107) (.t 106))]
def c38_25 : ACode := .seq (.reg r38_23) (.reg r38_24)
def c38_26 : ACode := .block 4 c38_25
def r38_27 : List AOper := [ao 0 91 (.mv (.t 7)),
  ao 1 92 (.bin .add (.t 91) (.k (.i 1))),
  ao 2 7 (.mv (.t 92))]
def c38_28 : ACode := .seq c38_22 (.seq c38_26 (.reg r38_27))
def c38_29 : ACode := .loop c38_28
def c38_30 : ACode := .block 3 c38_29
def c38_31 : ACode := .seq (.reg r38_18) (.seq (.reg r38_19) c38_30)
def r38_32 : List AOper := [ao 0 40 (.build [(.v (.s (.int .i64 0))), .nil0, .nil0] [(0, 1, (.k (.i 3)))]),
  an 1 (.st 3 (.t 3) (.t 40))]
def r38_33 : List AOper := [ao 0 41 (.mv (.t 0)),
  ao 1 42 (.call (.k (.c (.fn 36 []))) [(.t 41), (.k (.i 2))]),
  ao 2 43 (.bin .add (.k (.i 5)) (.t 42)),
  ao 3 8 (.mv (.t 43))]
def r38_34 : List AOper := [ao 0 44 (.mv (.t 8)),
  ao 1 45 (.bin .gtr (.t 44) (.k (.i 0)))]
def c38_35 : ACode := .cond (.t 45) .skip (.exit 1)
def c38_36 : ACode := .seq (.reg r38_34) c38_35
def r38_37 : List AOper := [ao 0 48 (.bsl 1 3 [(.k (.i 4)), (.k (.i 6))]),
  au 1 49 [0] (.mv (.t 8)),
  au 2 50 [0] (.bin .rem (.t 49) (.k (.i 2))),
  ao 3 51 (.ia 1 (.t 48) (.t 50)),
  ao 4 52 (.ld 1 false (.t 51)),
  au 5 53 (ru 5) (.ld 3 true (.t 3)),
  au 6 54 (ru 5) (.bsl 3 26 [(.t 53)]),
  ao 7 55 (.build [(.v (.s (.int .i64 0))), .nil0, .nil0] [(0, 1, (.t 52)), (2, 1, (.t 54))]),
  an 8 (.st 3 (.t 3) (.t 55))]
def c38_38 : ACode := .block 2 (.reg r38_37)
def r38_39 : List AOper := [ao 0 46 (.mv (.t 8)),
  ao 1 47 (.bin .sub (.t 46) (.k (.i 1))),
  ao 2 8 (.mv (.t 47))]
def c38_40 : ACode := .seq c38_36 (.seq c38_38 (.reg r38_39))
def c38_41 : ACode := .loop c38_40
def c38_42 : ACode := .block 1 c38_41
def c38_43 : ACode := .seq (.reg r38_32) (.seq (.reg r38_33) c38_42)
def c38_44 : ACode := .cond (.t 83) c38_31 c38_43
def c38_45 : ACode := .seq (.reg r38_17) c38_44
def c38_46 : ACode := .cond (.t 73) (.reg r38_16) c38_45
def c38_47 : ACode := .seq (.reg r38_15) c38_46
def c38_48 : ACode := .cond (.t 61) (.reg r38_14) c38_47
def c38_49 : ACode := .seq (.reg r38_13) c38_48
def c38_50 : ACode := .cond (.t 56) (.reg r38_12) c38_49
def c38_51 : ACode := .seq (.reg r38_11) c38_50
def c38_52 : ACode := .block 0 c38_51
def c38_53 : ACode := .seq (.reg r38_10) c38_52
def r38_54 : List AOper := [ao 0 108 (.ld 3 true (.t 3)),
  an 1 (.st 3 (.t 4) (.t 108))]
def c38 : ACode := .seq (.reg r38_0) (.seq c38_9 (.seq c38_53 (.seq (.reg r38_54) .ret)))
def s38 : List ARes := [.cell 4 3 true]
theorem ok38 : okF Try.prog 38 109 c38 s38 := ⟨Try.f38, Try.func38, Try.ntmps38, by kernel_rfl, by kernel_rfl, by kernel_rfl⟩
theorem encS_all1 (ns : List ByteArray) : (∀ e ∈ encS ns, e.length = 1) = True := eq_true fun e he => by simp only [encS, List.mem_map] at he; obtain ⟨_, _, rfl⟩ := he; rfl
theorem encKs_all3 (ks : List Kd) : (∀ e ∈ encKs ks, e.length = 3) = True := eq_true (encKs_all ks)
theorem encTs_all5 (ks : List Tr) : (∀ e ∈ encTs ks, e.length = 5) = True := eq_true (encTs_all ks)
theorem take_encS1 (ns : List ByteArray) (e : List V) : List.take (ns.length + 1) (encS ns ++ [e]) = encS ns ++ [e] := List.take_of_length_le (by simp [encS_len])
theorem take_encKs1 (ks : List Kd) (e : List V) : List.take (ks.length + 1) (encKs ks ++ [e]) = encKs ks ++ [e] := List.take_of_length_le (by simp [encKs_len])
theorem take_encTs1 (ks : List Tr) (e : List V) : List.take (ks.length + 1) (encTs ks ++ [e]) = encTs ks ++ [e] := List.take_of_length_le (by simp [encTs_len])
theorem encKs_nil : encKs [] = [] := by simp [encKs]
theorem drop3K (k : Kd) : List.drop 3 (encK k) = [] := List.drop_of_length_le (by rw [encK_len]; exact Nat.le_refl _)
theorem drop5T (k : Tr) : List.drop 5 (encT k) = [] := List.drop_of_length_le (by rw [encT_len]; exact Nat.le_refl _)
theorem set_encKs (ks : List Kd) (i : Nat) (k : Kd) : (encKs ks).set i (encK k) = encKs (ks.set i k) := by rw [encKs_eq, encKs_eq, List.map_set]
theorem set_encTs (ks : List Tr) (i : Nat) (k : Tr) : (encTs ks).set i (encT k) = encTs (ks.set i k) := by rw [encTs_eq, encTs_eq, List.map_set]
theorem ALT : (type_of% @take_encTs) ∧ (type_of% @toVs_map) ∧ (type_of% @drop3K) ∧ (type_of% @drop5T) ∧ (type_of% @set_encKs) ∧ (type_of% @set_encTs) ∧ (type_of% @List.length_set.{0}) ∧ (type_of% @take_encS1) ∧ (type_of% @take_encKs1) ∧ (type_of% @take_encTs1) ∧ (type_of% @encS_snoc) ∧ (type_of% @encKs_snoc) ∧ (type_of% @encTs_snoc) ∧ (type_of% @encS_nil) ∧ (type_of% @encKs_nil) ∧ (type_of% @encTs_nil) ∧ (type_of% @encS_all1) ∧ (type_of% @encKs_all3) ∧ (type_of% @encTs_all5) ∧ (type_of% @Nat.zero_add) :=
  ⟨@take_encTs, @toVs_map, @drop3K, @drop5T, @set_encKs, @set_encTs, @List.length_set.{0}, @take_encS1, @take_encKs1, @take_encTs1, @encS_snoc, @encKs_snoc, @encTs_snoc, @encS_nil, @encKs_nil, @encTs_nil, @encS_all1, @encKs_all3, @encTs_all5, @Nat.zero_add⟩
def namesZ : List ByteArray := [⟨#[97]⟩, ⟨#[122]⟩, ⟨#[65]⟩]
theorem namesZ_size : ∀ s ∈ namesZ, s.size ≤ 2000 := by decide
def SpoilKT (v : Nat) (bs : List UInt8) (s : Int) (ns : List ByteArray) (ks : List Kd) (p : Int) (p' : Int) (k' : Kd) : Prop :=
  ∀ (X : Ctx) (t : Nat → T) (H : HMap) (c : Nat) (q0 : Int), t 0 = rP v → (∃ u, t 3 = .c (.ptr 3 u 0) ∧ H 3 = some (.var u 26 [.v (.s (.int .i64 s)), .v (.sl (encS ns)), .v (.sl (encKs ks))])) → (∃ u, t 4 = .c (.ptr 4 u 0) ∧ H 4 = some (.var u 26 [.v (.s (.int .i64 0)), .nil0, .nil0])) → H 1000 = some (rdr v bs p) → H 2001 = none → H 2002 = none →
    wpa Try.prog X c38_53 (thenW Try.prog X (.seq (.reg r38_54) .ret) (endA (FinC s38 (tK k') [rH v bs q0 p']))) ⟨t, H, c⟩
theorem UKp_1 : (type_of% (uA c38.eq_1)) ∧ (type_of% (uR r38_0.eq_1)) ∧ (type_of% (uA c38_9.eq_1)) ∧ (type_of% (uR r38_1.eq_1)) ∧ (type_of% (uA c38_8.eq_1)) ∧ (type_of% (uA c38_7.eq_1)) ∧ (type_of% (uR r38_2.eq_1)) ∧ (type_of% (uR r38_3.eq_1)) ∧ (type_of% (uR r38_4.eq_1)) ∧ (type_of% (uR r38_5.eq_1)) ∧ (type_of% (uR r38_6.eq_1)) ∧ (type_of% (uA c38_53.eq_1)) ∧ (type_of% (uR r38_10.eq_1)) ∧ (type_of% (uA c38_52.eq_1)) ∧ (type_of% (uA c38_51.eq_1)) ∧ (type_of% (uR r38_11.eq_1)) ∧ (type_of% (uA c38_50.eq_1)) ∧ (type_of% (uR r38_12.eq_1)) ∧ (type_of% (uA c38_49.eq_1)) ∧ (type_of% (uR r38_13.eq_1)) ∧ (type_of% (uA c38_48.eq_1)) ∧ (type_of% (uR r38_14.eq_1)) ∧ (type_of% (uA c38_47.eq_1)) ∧ (type_of% (uR r38_15.eq_1)) ∧ (type_of% (uA c38_46.eq_1)) ∧ (type_of% (uR r38_16.eq_1)) ∧ (type_of% (uA c38_45.eq_1)) ∧ (type_of% (uR r38_17.eq_1)) ∧ (type_of% (uA c38_44.eq_1)) ∧ (type_of% (uA c38_31.eq_1)) ∧ (type_of% (uR r38_18.eq_1)) ∧ (type_of% (uR r38_19.eq_1)) ∧ (type_of% (uA c38_30.eq_1)) ∧ (type_of% (uA c38_29.eq_1)) ∧ (type_of% (uA c38_43.eq_1)) ∧ (type_of% (uR r38_32.eq_1)) ∧ (type_of% (uR r38_33.eq_1)) ∧ (type_of% (uA c38_42.eq_1)) ∧ (type_of% (uA c38_41.eq_1)) ∧ (type_of% (uR r38_54.eq_1)) ∧ (type_of% s38.eq_1) :=
  ⟨uA c38.eq_1, uR r38_0.eq_1, uA c38_9.eq_1, uR r38_1.eq_1, uA c38_8.eq_1, uA c38_7.eq_1, uR r38_2.eq_1, uR r38_3.eq_1, uR r38_4.eq_1, uR r38_5.eq_1, uR r38_6.eq_1, uA c38_53.eq_1, uR r38_10.eq_1, uA c38_52.eq_1, uA c38_51.eq_1, uR r38_11.eq_1, uA c38_50.eq_1, uR r38_12.eq_1, uA c38_49.eq_1, uR r38_13.eq_1, uA c38_48.eq_1, uR r38_14.eq_1, uA c38_47.eq_1, uR r38_15.eq_1, uA c38_46.eq_1, uR r38_16.eq_1, uA c38_45.eq_1, uR r38_17.eq_1, uA c38_44.eq_1, uA c38_31.eq_1, uR r38_18.eq_1, uR r38_19.eq_1, uA c38_30.eq_1, uA c38_29.eq_1, uA c38_43.eq_1, uR r38_32.eq_1, uR r38_33.eq_1, uA c38_42.eq_1, uA c38_41.eq_1, uR r38_54.eq_1, s38.eq_1⟩
theorem spoilK_0 (v : Nat) (bs : List UInt8) (s : Int) (ns : List ByteArray) (ks : List Kd) (p n m : Int) (hC : ACallsF Try.prog 36 [rP v, .i 5] [rH v bs p (p + 1)] (.i n)) (h : n = 0) (hC2 : ACallsF Try.prog 36 [rP v, .i 8] [rH v bs (p + 1) (p + 1 + 1)] (.i m)) :
    SpoilKT v bs s ns ks p (p + 1 + 1) (.mk m ns ks) := by
  subst h
  rintro X t H c q0 e0 ⟨u3, e3, eH3⟩ ⟨u4, e4, eH4⟩ eH eN1 eN2
  simp only [T.c, T.i, rdr] at e0 e3 eH3 e4 eH4 eH
  simp only [RUN, core, T.c, T.s, T.b, T.i, sBin, sInt, sUn, isShift, asInt, P1.cells, loadT, ptrC, storeT, putC, fillP, Nat.reduceAdd, reduceIte, Nat.reduceEqDiff, Nat.reduceLT, Nat.reduceLeDiff, reduceCtorEq, eq_self, FIT, lendCs_map, verC_map, FinC, resPs, resP, lendPl, lendCs, lendC, sealC, partsT, finHs, tupT, verT, verP, verC, verB, verAt, Blk.ver, handsAre, forall_const, UKp_1, e0]
  refine callRc hC rfl rfl rfl rfl eH ⟨rfl, ?_⟩
  simp only [RUN, core, T.c, T.s, T.b, T.i, sBin, sInt, sUn, isShift, asInt, P1.cells, loadT, ptrC, storeT, putC, fillP, Nat.reduceAdd, reduceIte, Nat.reduceEqDiff, Nat.reduceLT, Nat.reduceLeDiff, reduceCtorEq, eq_self, FIT, lendCs_map, verC_map, FinC, resPs, resP, lendPl, lendCs, lendC, sealC, partsT, finHs, tupT, verT, verP, verC, verB, verAt, Blk.ver, handsAre, forall_const, UKp_1, e0, Int.reduceBEq]
  refine callRc hC2 rfl rfl rfl rfl rfl ⟨rfl, ?_⟩
  simp only [RUN, core, T.c, T.s, T.b, T.i, sBin, sInt, sUn, isShift, asInt, P1.cells, loadT, ptrC, storeT, putC, fillP, Nat.reduceAdd, reduceIte, Nat.reduceEqDiff, Nat.reduceLT, Nat.reduceLeDiff, reduceCtorEq, eq_self, FIT, lendCs_map, verC_map, FinC, resPs, resP, lendPl, lendCs, lendC, sealC, partsT, finHs, tupT, verT, verP, verC, verB, verAt, Blk.ver, handsAre, forall_const, CHT, disj, Nat.reduceBEq, beq_self_eq_true, APT, srcOf, sealPs, sealCs, sealC, List.mem_singleton, forall_eq, rH, rdr, UKp_1, e3, eH3, e4, eH4, encK_mk]
theorem spoilK_1 (v : Nat) (bs : List UInt8) (s : Int) (ns : List ByteArray) (ks : List Kd) (hl : ns.length ≤ 1000) (p n : Int) (x : ByteArray) (hC : ACallsF Try.prog 36 [rP v, .i 5] [rH v bs p (p + 1)] (.i n)) (h : n = 1) (hC2 : ACallsF Try.prog 72 [rP v, .c (.v (.sl (encS namesZ)))] [rH v bs (p + 1) (p + 1 + 1)] (.s (.string x))) :
    SpoilKT v bs s ns ks p (p + 1 + 1) (.mk s (ns ++ [x]) ks) := by
  subst h
  rintro X t H c q0 e0 ⟨u3, e3, eH3⟩ ⟨u4, e4, eH4⟩ eH eN1 eN2
  simp only [T.c, T.i, rdr] at e0 e3 eH3 e4 eH4 eH
  have q1 : ns.length * 16 ≤ 140737488355328 := by omega
  have q2 : ns.length ≤ 9223372036854775807 := by omega
  have q3 : (ns.length + 1) * 16 ≤ 140737488355328 := by omega
  have q4 : ns.length ≤ 9223372036854775806 := by omega
  simp only [RUN, core, T.c, T.s, T.b, T.i, sBin, sInt, sUn, isShift, asInt, P1.cells, loadT, ptrC, storeT, putC, fillP, Nat.reduceAdd, reduceIte, Nat.reduceEqDiff, Nat.reduceLT, Nat.reduceLeDiff, reduceCtorEq, eq_self, FIT, lendCs_map, verC_map, FinC, resPs, resP, lendPl, lendCs, lendC, sealC, partsT, finHs, tupT, verT, verP, verC, verB, verAt, Blk.ver, handsAre, forall_const, UKp_1, e0]
  refine callRc hC rfl rfl rfl rfl eH ⟨rfl, ?_⟩
  simp only [RUN, core, T.c, T.s, T.b, T.i, sBin, sInt, sUn, isShift, asInt, P1.cells, loadT, ptrC, storeT, putC, fillP, Nat.reduceAdd, reduceIte, Nat.reduceEqDiff, Nat.reduceLT, Nat.reduceLeDiff, reduceCtorEq, eq_self, FIT, lendCs_map, verC_map, FinC, resPs, resP, lendPl, lendCs, lendC, sealC, partsT, finHs, tupT, verT, verP, verC, verB, verAt, Blk.ver, handsAre, forall_const, CHT, disj, Nat.reduceBEq, beq_self_eq_true, APT, srcOf, sealPs, sealCs, sealC, List.mem_singleton, forall_eq, ALT, UKp_1, e0, e3, eH3, Int.reduceBEq, encS_len, q1, q2]
  refine callR (ws := [(68, .arr (c + 2 + 2 + 2 + 5) false 1 9 (encS namesZ))]) (ns := [68]) hC2 rfl ?_ rfl rfl rfl ⟨?_, ?_⟩
  · simp only [RUN, core, T.c, T.s, T.b, T.i, sBin, sInt, sUn, isShift, asInt, P1.cells, loadT, ptrC, storeT, putC, fillP, Nat.reduceAdd, reduceIte, Nat.reduceEqDiff, Nat.reduceLT, Nat.reduceLeDiff, reduceCtorEq, eq_self, FIT, lendCs_map, verC_map, FinC, resPs, resP, lendPl, lendCs, lendC, sealC, partsT, finHs, tupT, verT, verP, verC, verB, verAt, Blk.ver, handsAre, forall_const, APT, srcOf, sealPs, sealCs, sealC, List.mem_singleton, forall_eq, lendTs, lendT, rP, Nat.le_refl, List.take]
    rfl
  · simp only [RUN, core, T.c, T.s, T.b, T.i, sBin, sInt, sUn, isShift, asInt, P1.cells, loadT, ptrC, storeT, putC, fillP, Nat.reduceAdd, reduceIte, Nat.reduceEqDiff, Nat.reduceLT, Nat.reduceLeDiff, reduceCtorEq, eq_self, FIT, lendCs_map, verC_map, FinC, resPs, resP, lendPl, lendCs, lendC, sealC, partsT, finHs, tupT, verT, verP, verC, verB, verAt, Blk.ver, handsAre, forall_const, CHT, disj, Nat.reduceBEq, beq_self_eq_true, APT, srcOf, sealPs, sealCs, sealC, List.mem_singleton, forall_eq]
  simp only [RUN, core, T.c, T.s, T.b, T.i, sBin, sInt, sUn, isShift, asInt, P1.cells, loadT, ptrC, storeT, putC, fillP, Nat.reduceAdd, reduceIte, Nat.reduceEqDiff, Nat.reduceLT, Nat.reduceLeDiff, reduceCtorEq, eq_self, FIT, lendCs_map, verC_map, FinC, resPs, resP, lendPl, lendCs, lendC, sealC, partsT, finHs, tupT, verT, verP, verC, verB, verAt, Blk.ver, handsAre, forall_const, CHT, disj, Nat.reduceBEq, beq_self_eq_true, APT, srcOf, sealPs, sealCs, sealC, List.mem_singleton, forall_eq, ALT, rH, rdr, UKp_1, e3, eH3, e4, eH4, encK_mk, encS_len, q3, q4]
theorem spoilK_2 (v : Nat) (bs : List UInt8) (s : Int) (ns : List ByteArray) (ks : List Kd) (hl : ks.length ≤ 1000) (p n : Int) (hC : ACallsF Try.prog 36 [rP v, .i 5] [rH v bs p (p + 1)] (.i n)) (h : n = 2) :
    SpoilKT v bs s ns ks p (p + 1) (.mk s ns (ks ++ [.mk 1 [] []])) := by
  subst h
  rintro X t H c q0 e0 ⟨u3, e3, eH3⟩ ⟨u4, e4, eH4⟩ eH eN1 eN2
  simp only [T.c, T.i, rdr] at e0 e3 eH3 e4 eH4 eH
  have q1 : ks.length * 56 ≤ 140737488355328 := by omega
  have q2 : ks.length ≤ 9223372036854775807 := by omega
  have q3 : (ks.length + 1) * 56 ≤ 140737488355328 := by omega
  have q4 : ks.length ≤ 9223372036854775806 := by omega
  simp only [RUN, core, T.c, T.s, T.b, T.i, sBin, sInt, sUn, isShift, asInt, P1.cells, loadT, ptrC, storeT, putC, fillP, Nat.reduceAdd, reduceIte, Nat.reduceEqDiff, Nat.reduceLT, Nat.reduceLeDiff, reduceCtorEq, eq_self, FIT, lendCs_map, verC_map, FinC, resPs, resP, lendPl, lendCs, lendC, sealC, partsT, finHs, tupT, verT, verP, verC, verB, verAt, Blk.ver, handsAre, forall_const, UKp_1, e0]
  refine callRc hC rfl rfl rfl rfl eH ⟨rfl, ?_⟩
  simp only [RUN, core, T.c, T.s, T.b, T.i, sBin, sInt, sUn, isShift, asInt, P1.cells, loadT, ptrC, storeT, putC, fillP, Nat.reduceAdd, reduceIte, Nat.reduceEqDiff, Nat.reduceLT, Nat.reduceLeDiff, reduceCtorEq, eq_self, FIT, lendCs_map, verC_map, FinC, resPs, resP, lendPl, lendCs, lendC, sealC, partsT, finHs, tupT, verT, verP, verC, verB, verAt, Blk.ver, handsAre, forall_const, CHT, disj, Nat.reduceBEq, beq_self_eq_true, APT, srcOf, sealPs, sealCs, sealC, List.mem_singleton, forall_eq, ALT, rH, rdr, UKp_1, e0, e3, eH3, e4, eH4, Int.reduceBEq, encKs_len, encK_mk, q1, q2, q3, q4]
end Go.V
set_option linter.unusedSimpArgs false
namespace Go.V
open Go.Proofs
structure S3 where
  p : Int
  ns : List ByteArray
  ks : List Kd
def S3Step (v : Nat) (bs : List UInt8) (i : Nat) (s s' : S3) : Prop :=
  ∃ (n : Int) (x : ByteArray), 0 ≤ n ∧ n < 2 ∧ x.size ≤ 1000 ∧ ACallsF Try.prog 36 [rP v, .i 2] [rH v bs s.p (s.p + 1)] (.i n) ∧ ACallsF Try.prog 74 [.i ((100 + i : Nat) : Int)] [] (.s (.string x)) ∧ s' = ⟨s.p + 1, s.ns ++ [⟨#[110]⟩ ++ x], s.ks ++ [.mk 1 [] []]⟩
def S3Inv (p : Int) (i : Nat) (s : S3) : Prop := s.p = p + i ∧ s.ns.length = i ∧ s.ks.length = i ∧ (∀ x ∈ s.ns, x.size ≤ 2000) ∧ ∀ k ∈ s.ks, KB 2000 k
def S3KI (v : Nat) (bs : List UInt8) (f : Nat → S3) (i : Nat) (σ : St) : Prop :=
  σ.t 0 = rP v ∧ (∃ u a b, σ.t 3 = .c (.ptr 3 u 0) ∧ σ.H 3 = some (.var u 26 [.v (.s (.int .i64 5)), .own 2001 a (f i).ns.length, .own 2002 b (f i).ks.length]) ∧ σ.H 2001 = some (.arr a true 1 9 (encS (f i).ns)) ∧ σ.H 2002 = some (.arr b true 3 26 (encKs (f i).ks))) ∧
  (∃ u, σ.t 4 = .c (.ptr 4 u 0) ∧ σ.H 4 = some (.var u 26 [.v (.s (.int .i64 0)), .nil0, .nil0])) ∧ σ.t 7 = .i i ∧ σ.H 1000 = some (rdr v bs (f i).p)
theorem UKq_1 : (type_of% (uA c38_28.eq_1)) ∧ (type_of% (uA c38_22.eq_1)) ∧ (type_of% (uR r38_20.eq_1)) ∧ (type_of% (uA c38_21.eq_1)) ∧ (type_of% (uA c38_26.eq_1)) ∧ (type_of% (uA c38_25.eq_1)) ∧ (type_of% (uR r38_23.eq_1)) ∧ (type_of% (uR r38_24.eq_1)) ∧ (type_of% (uR r38_27.eq_1)) ∧ (type_of% (uA c38.eq_1)) ∧ (type_of% (uR r38_0.eq_1)) ∧ (type_of% (uA c38_9.eq_1)) ∧ (type_of% (uR r38_1.eq_1)) ∧ (type_of% (uA c38_8.eq_1)) ∧ (type_of% (uA c38_7.eq_1)) ∧ (type_of% (uR r38_2.eq_1)) ∧ (type_of% (uR r38_3.eq_1)) ∧ (type_of% (uR r38_4.eq_1)) ∧ (type_of% (uR r38_5.eq_1)) ∧ (type_of% (uR r38_6.eq_1)) ∧ (type_of% (uA c38_53.eq_1)) ∧ (type_of% (uR r38_10.eq_1)) ∧ (type_of% (uA c38_52.eq_1)) ∧ (type_of% (uA c38_51.eq_1)) ∧ (type_of% (uR r38_11.eq_1)) ∧ (type_of% (uA c38_50.eq_1)) ∧ (type_of% (uR r38_12.eq_1)) ∧ (type_of% (uA c38_49.eq_1)) ∧ (type_of% (uR r38_13.eq_1)) ∧ (type_of% (uA c38_48.eq_1)) ∧ (type_of% (uR r38_14.eq_1)) ∧ (type_of% (uA c38_47.eq_1)) ∧ (type_of% (uR r38_15.eq_1)) ∧ (type_of% (uA c38_46.eq_1)) ∧ (type_of% (uR r38_16.eq_1)) ∧ (type_of% (uA c38_45.eq_1)) ∧ (type_of% (uR r38_17.eq_1)) ∧ (type_of% (uA c38_44.eq_1)) ∧ (type_of% (uA c38_31.eq_1)) ∧ (type_of% (uR r38_18.eq_1)) ∧ (type_of% (uR r38_19.eq_1)) ∧ (type_of% (uA c38_30.eq_1)) ∧ (type_of% (uA c38_29.eq_1)) ∧ (type_of% (uA c38_43.eq_1)) ∧ (type_of% (uR r38_32.eq_1)) ∧ (type_of% (uR r38_33.eq_1)) ∧ (type_of% (uA c38_42.eq_1)) ∧ (type_of% (uA c38_41.eq_1)) ∧ (type_of% (uR r38_54.eq_1)) ∧ (type_of% s38.eq_1) :=
  ⟨uA c38_28.eq_1, uA c38_22.eq_1, uR r38_20.eq_1, uA c38_21.eq_1, uA c38_26.eq_1, uA c38_25.eq_1, uR r38_23.eq_1, uR r38_24.eq_1, uR r38_27.eq_1, uA c38.eq_1, uR r38_0.eq_1, uA c38_9.eq_1, uR r38_1.eq_1, uA c38_8.eq_1, uA c38_7.eq_1, uR r38_2.eq_1, uR r38_3.eq_1, uR r38_4.eq_1, uR r38_5.eq_1, uR r38_6.eq_1, uA c38_53.eq_1, uR r38_10.eq_1, uA c38_52.eq_1, uA c38_51.eq_1, uR r38_11.eq_1, uA c38_50.eq_1, uR r38_12.eq_1, uA c38_49.eq_1, uR r38_13.eq_1, uA c38_48.eq_1, uR r38_14.eq_1, uA c38_47.eq_1, uR r38_15.eq_1, uA c38_46.eq_1, uR r38_16.eq_1, uA c38_45.eq_1, uR r38_17.eq_1, uA c38_44.eq_1, uA c38_31.eq_1, uR r38_18.eq_1, uR r38_19.eq_1, uA c38_30.eq_1, uA c38_29.eq_1, uA c38_43.eq_1, uR r38_32.eq_1, uR r38_33.eq_1, uA c38_42.eq_1, uA c38_41.eq_1, uR r38_54.eq_1, s38.eq_1⟩
theorem spoilK_loop3 (v : Nat) (bs : List UInt8) (f : Nat → S3) (N : Nat) (hN : N ≤ 40) (p : Int) (f1 : ∀ i, i ≤ 40 → S3Inv p i (f i)) (f2 : ∀ i, i < 40 → S3Step v bs i (f i) (f (i + 1)))
    (hgo : ∀ i, i < N → ∀ n, 0 ≤ n → n < 2 → ACallsF Try.prog 36 [rP v, .i 2] [rH v bs (f i).p ((f i).p + 1)] (.i n) → (∃ m, ACallsF Try.prog 36 [rP v, .i 2] [rH v bs (f i).p ((f i).p + 1)] (.i m) ∧ (i : Int) < 39 + m ∧ 0 ≤ m ∧ m < 2))
    (m : Int) (hm : 0 ≤ m ∧ m < 2 ∧ ¬ (N : Int) < 39 + m) (hC : ACallsF Try.prog 36 [rP v, .i 2] [rH v bs (f N).p ((f N).p + 1)] (.i m)) {X : Ctx} {Q : Exit → St → Prop} {t : Nat → T} {H : HMap} {c : Nat}
    (h : S3KI v bs f 0 ⟨t, H, c⟩) (hQ : ∀ t H c, (∃ u a b, t 3 = .c (.ptr 3 u 0) ∧ H 3 = some (.var u 26 [.v (.s (.int .i64 5)), .own 2001 a (f N).ns.length, .own 2002 b (f N).ks.length]) ∧ H 2001 = some (.arr a true 1 9 (encS (f N).ns)) ∧ H 2002 = some (.arr b true 3 26 (encKs (f N).ks))) → (∃ u, t 4 = .c (.ptr 4 u 0) ∧ H 4 = some (.var u 26 [.v (.s (.int .i64 0)), .nil0, .nil0])) → H 1000 = some (rdr v bs ((f N).p + 1)) → Q (.exit 3) ⟨t, H, c⟩) : AW Try.prog X (.loop c38_28) Q ⟨t, H, c⟩ := by
  refine AW.upto N (S3KI v bs f) h fun i t H c hi h => ?_
  obtain ⟨e0, ⟨u3, a, b, e3, eH3, eHa, eHb⟩, ⟨u4, e4, eH4⟩, e7, eH⟩ := h
  simp only [T.c, T.i, rdr] at e0 e3 eH3 e4 eH4 eHa eHb e7 eH
  by_cases hlt : i < N
  · obtain ⟨n0, x, n1, n2, hx, hC1, hC2, he⟩ := f2 i (by omega)
    obtain ⟨n, hCn, hn39, hn0, hn2⟩ := hgo i hlt n0 n1 n2 hC1
    have gw : IntKind.i64.wrap (39 + n) = 39 + n := wrap64 ⟨by omega, by omega⟩
    have gw2 : IntKind.i64.wrap ((i : Int) + 1) = ((i + 1 : Nat) : Int) := wrap64 (x := (i : Int) + 1) ⟨by omega, by omega⟩
    have gw3 : IntKind.i64.wrap (100 + (i : Int)) = ((100 + i : Nat) : Int) := (wrap64 (x := 100 + (i : Int)) ⟨by omega, by omega⟩).trans (by omega)
    obtain ⟨g1, g2, g3, g4, g5⟩ := f1 i (by omega)
    have q1 : ((f i).ns.length + 1) * 16 ≤ 140737488355328 := by omega
    have q2 : (f i).ns.length ≤ 9223372036854775806 := by omega
    have q3 : ((f i).ks.length + 1) * 56 ≤ 140737488355328 := by omega
    have q4 : (f i).ks.length ≤ 9223372036854775806 := by omega
    have q5 : (⟨#[110]⟩ : ByteArray).size + x.size ≤ 9223372036854775807 := by
      have : (⟨#[110]⟩ : ByteArray).size = 1 := rfl
      omega
    simp only [RUN, core, T.c, T.s, T.b, T.i, sBin, sInt, sUn, isShift, asInt, P1.cells, loadT, ptrC, storeT, putC, fillP, Nat.reduceAdd, reduceIte, Nat.reduceEqDiff, Nat.reduceLT, Nat.reduceLeDiff, reduceCtorEq, eq_self, FIT, lendCs_map, verC_map, FinC, resPs, resP, lendPl, lendCs, lendC, sealC, partsT, finHs, tupT, verT, verP, verC, verB, verAt, Blk.ver, handsAre, forall_const, UKq_1, e0, e7]
    refine callRc hCn rfl rfl rfl rfl eH ⟨rfl, ?_⟩
    simp only [RUN, core, T.c, T.s, T.b, T.i, sBin, sInt, sUn, isShift, asInt, P1.cells, loadT, ptrC, storeT, putC, fillP, Nat.reduceAdd, reduceIte, Nat.reduceEqDiff, Nat.reduceLT, Nat.reduceLeDiff, reduceCtorEq, eq_self, FIT, lendCs_map, verC_map, FinC, resPs, resP, lendPl, lendCs, lendC, sealC, partsT, finHs, tupT, verT, verP, verC, verB, verAt, Blk.ver, handsAre, forall_const, CHT, disj, Nat.reduceBEq, beq_self_eq_true, APT, srcOf, sealPs, sealCs, sealC, List.mem_singleton, forall_eq, ALT, UKq_1, gw, hn39, e3, eH3, e7, gw3, eHa, encS_len]
    refine callC hC2 rfl rfl rfl rfl ?_
    simp only [RUN, core, T.c, T.s, T.b, T.i, sBin, sInt, sUn, isShift, asInt, P1.cells, loadT, ptrC, storeT, putC, fillP, Nat.reduceAdd, reduceIte, Nat.reduceEqDiff, Nat.reduceLT, Nat.reduceLeDiff, reduceCtorEq, eq_self, FIT, lendCs_map, verC_map, FinC, resPs, resP, lendPl, lendCs, lendC, sealC, partsT, finHs, tupT, verT, verP, verC, verB, verAt, Blk.ver, handsAre, forall_const, CHT, disj, Nat.reduceBEq, beq_self_eq_true, APT, srcOf, sealPs, sealCs, sealC, List.mem_singleton, forall_eq, ALT, UKq_1, gw2, e3, eH3, e7, eHa, eHb, encS_len, encKs_len, encK_mk, q1, q2, q3, q4, sStr, q5]
    have k1 : (f (i + 1)).ns = (f i).ns ++ [⟨#[110]⟩ ++ x] := congrArg S3.ns he
    have k2 : (f (i + 1)).ks = (f i).ks ++ [.mk 1 [] []] := congrArg S3.ks he
    have k3 : (f (i + 1)).ns.length = (f i).ns.length + 1 := by rw [k1]; simp
    have k4 : (f (i + 1)).ks.length = (f i).ks.length + 1 := by rw [k2]; simp
    have k5 : encS (f (i + 1)).ns = encS (f i).ns ++ [[.s (.string (⟨#[110]⟩ ++ x))]] := by rw [k1, encS_snoc]
    have k6 : encKs (f (i + 1)).ks = encKs (f i).ks ++ [[.s (.int .i64 1), .sl [], .sl []]] := by rw [k2, encKs_snoc, encK_mk, encS_nil, encKs_nil]
    have k7 : (f (i + 1)).p = (f i).p + 1 := congrArg S3.p he
    unfold S3KI
    rw [k3, k4, k5, k6, k7]
    exact ⟨hlt, e0, ⟨u3, _, _, e3, rfl, rfl, rfl⟩, ⟨u4, e4, eH4⟩, rfl, rfl⟩
  · have hiN : i = N := by omega
    subst hiN
    have gw : IntKind.i64.wrap (39 + m) = 39 + m := wrap64 ⟨by omega, by omega⟩
    have hm39 := hm.2.2
    simp only [RUN, core, T.c, T.s, T.b, T.i, sBin, sInt, sUn, isShift, asInt, P1.cells, loadT, ptrC, storeT, putC, fillP, Nat.reduceAdd, reduceIte, Nat.reduceEqDiff, Nat.reduceLT, Nat.reduceLeDiff, reduceCtorEq, eq_self, FIT, lendCs_map, verC_map, FinC, resPs, resP, lendPl, lendCs, lendC, sealC, partsT, finHs, tupT, verT, verP, verC, verB, verAt, Blk.ver, handsAre, forall_const, UKq_1, e0, e7]
    refine callRc hC rfl rfl rfl rfl eH ⟨rfl, ?_⟩
    simp only [RUN, core, T.c, T.s, T.b, T.i, sBin, sInt, sUn, isShift, asInt, P1.cells, loadT, ptrC, storeT, putC, fillP, Nat.reduceAdd, reduceIte, Nat.reduceEqDiff, Nat.reduceLT, Nat.reduceLeDiff, reduceCtorEq, eq_self, FIT, lendCs_map, verC_map, FinC, resPs, resP, lendPl, lendCs, lendC, sealC, partsT, finHs, tupT, verT, verP, verC, verB, verAt, Blk.ver, handsAre, forall_const, CHT, disj, Nat.reduceBEq, beq_self_eq_true, APT, srcOf, sealPs, sealCs, sealC, List.mem_singleton, forall_eq, ALT, UKq_1, gw, hm39, e7]
    exact hQ _ _ _ ⟨u3, a, b, e3, eH3, eHa, eHb⟩ ⟨u4, e4, eH4⟩ rfl
def wrapN (N : Nat) : Nat → Kd
  | 0 => .mk 3 [] []
  | i + 1 => .mk (if (N - i) % 2 = 0 then 4 else 6) [] [wrapN N i]
theorem wrapN_KB (N : Nat) : ∀ i, KB 2000 (wrapN N i)
  | 0 => .mk _ _ _ (by simp) (by simp) (by simp) (by simp)
  | i + 1 => .mk _ _ _ (by simp) (by simp) (by simp) (by simpa using wrapN_KB N i)
def S4KI (v : Nat) (bs : List UInt8) (p : Int) (N i : Nat) (σ : St) : Prop :=
  (∃ u, σ.t 3 = .c (.ptr 3 u 0) ∧ ((i = 0 ∧ σ.H 3 = some (.var u 26 [.v (.s (.int .i64 3)), .nil0, .nil0])) ∨
    ∃ b j, i = j + 1 ∧ σ.H 3 = some (.var u 26 [.v (.s (.int .i64 (if (N - j) % 2 = 0 then 4 else 6))), .nil0, .own 54 b 1]) ∧ σ.H 54 = some (.arr b true 3 26 [encK (wrapN N j)]))) ∧
  (∃ u, σ.t 4 = .c (.ptr 4 u 0) ∧ σ.H 4 = some (.var u 26 [.v (.s (.int .i64 0)), .nil0, .nil0])) ∧ σ.t 8 = .i ((N - i : Nat) : Int) ∧ σ.H 1000 = some (rdr v bs p)
theorem UKq_2 : (type_of% (uA c38_40.eq_1)) ∧ (type_of% (uA c38_36.eq_1)) ∧ (type_of% (uR r38_34.eq_1)) ∧ (type_of% (uA c38_35.eq_1)) ∧ (type_of% (uA c38_38.eq_1)) ∧ (type_of% (uR r38_37.eq_1)) ∧ (type_of% (uR r38_39.eq_1)) ∧ (type_of% (uA c38.eq_1)) ∧ (type_of% (uR r38_0.eq_1)) ∧ (type_of% (uA c38_9.eq_1)) ∧ (type_of% (uR r38_1.eq_1)) ∧ (type_of% (uA c38_8.eq_1)) ∧ (type_of% (uA c38_7.eq_1)) ∧ (type_of% (uR r38_2.eq_1)) ∧ (type_of% (uR r38_3.eq_1)) ∧ (type_of% (uR r38_4.eq_1)) ∧ (type_of% (uR r38_5.eq_1)) ∧ (type_of% (uR r38_6.eq_1)) ∧ (type_of% (uA c38_53.eq_1)) ∧ (type_of% (uR r38_10.eq_1)) ∧ (type_of% (uA c38_52.eq_1)) ∧ (type_of% (uA c38_51.eq_1)) ∧ (type_of% (uR r38_11.eq_1)) ∧ (type_of% (uA c38_50.eq_1)) ∧ (type_of% (uR r38_12.eq_1)) ∧ (type_of% (uA c38_49.eq_1)) ∧ (type_of% (uR r38_13.eq_1)) ∧ (type_of% (uA c38_48.eq_1)) ∧ (type_of% (uR r38_14.eq_1)) ∧ (type_of% (uA c38_47.eq_1)) ∧ (type_of% (uR r38_15.eq_1)) ∧ (type_of% (uA c38_46.eq_1)) ∧ (type_of% (uR r38_16.eq_1)) ∧ (type_of% (uA c38_45.eq_1)) ∧ (type_of% (uR r38_17.eq_1)) ∧ (type_of% (uA c38_44.eq_1)) ∧ (type_of% (uA c38_31.eq_1)) ∧ (type_of% (uR r38_18.eq_1)) ∧ (type_of% (uR r38_19.eq_1)) ∧ (type_of% (uA c38_30.eq_1)) ∧ (type_of% (uA c38_29.eq_1)) ∧ (type_of% (uA c38_43.eq_1)) ∧ (type_of% (uR r38_32.eq_1)) ∧ (type_of% (uR r38_33.eq_1)) ∧ (type_of% (uA c38_42.eq_1)) ∧ (type_of% (uA c38_41.eq_1)) ∧ (type_of% (uR r38_54.eq_1)) ∧ (type_of% s38.eq_1) :=
  ⟨uA c38_40.eq_1, uA c38_36.eq_1, uR r38_34.eq_1, uA c38_35.eq_1, uA c38_38.eq_1, uR r38_37.eq_1, uR r38_39.eq_1, uA c38.eq_1, uR r38_0.eq_1, uA c38_9.eq_1, uR r38_1.eq_1, uA c38_8.eq_1, uA c38_7.eq_1, uR r38_2.eq_1, uR r38_3.eq_1, uR r38_4.eq_1, uR r38_5.eq_1, uR r38_6.eq_1, uA c38_53.eq_1, uR r38_10.eq_1, uA c38_52.eq_1, uA c38_51.eq_1, uR r38_11.eq_1, uA c38_50.eq_1, uR r38_12.eq_1, uA c38_49.eq_1, uR r38_13.eq_1, uA c38_48.eq_1, uR r38_14.eq_1, uA c38_47.eq_1, uR r38_15.eq_1, uA c38_46.eq_1, uR r38_16.eq_1, uA c38_45.eq_1, uR r38_17.eq_1, uA c38_44.eq_1, uA c38_31.eq_1, uR r38_18.eq_1, uR r38_19.eq_1, uA c38_30.eq_1, uA c38_29.eq_1, uA c38_43.eq_1, uR r38_32.eq_1, uR r38_33.eq_1, uA c38_42.eq_1, uA c38_41.eq_1, uR r38_54.eq_1, s38.eq_1⟩
theorem spoilK_loop4 (v : Nat) (bs : List UInt8) (p : Int) (N : Nat) (hN : N ≤ 6) {X : Ctx} {Q : Exit → St → Prop} {t : Nat → T} {H : HMap} {c : Nat}
    (h : S4KI v bs p N 0 ⟨t, H, c⟩) (hQ : ∀ t H c, S4KI v bs p N N ⟨t, H, c⟩ → Q (.exit 1) ⟨t, H, c⟩) : AW Try.prog X (.loop c38_40) Q ⟨t, H, c⟩ := by
  refine AW.upto N (S4KI v bs p N) h fun i t H c hi h => ?_
  have hKI := h
  obtain ⟨⟨u3, e3, h3⟩, ⟨u4, e4, eH4⟩, e8, eH⟩ := h
  simp only [T.c, T.i, rdr] at e3 h3 e4 eH4 e8 eH
  by_cases hlt : i < N
  · have k1 : ((N - i : Nat) : Int) > 0 := by omega
    have gw : IntKind.i64.wrap (((N - i : Nat) : Int) - 1) = ((N - (i + 1) : Nat) : Int) := (wrap64 (x := ((N - i : Nat) : Int) - 1) ⟨by omega, by omega⟩).trans (by omega)
    have g2 : ¬ (2 : Int) = 0 := by omega
    obtain ⟨r, hr, hrs⟩ : ∃ r : Int, ((N - i : Nat) : Int).tmod 2 = r ∧ ((r = 0 ∧ (if (N - i) % 2 = 0 then (4 : Int) else 6) = 4) ∨ (r = 1 ∧ (if (N - i) % 2 = 0 then (4 : Int) else 6) = 6)) := by
      have e1 : ((N - i : Nat) : Int).tmod 2 = (((N - i) % 2 : Nat) : Int) := rfl
      by_cases h2 : (N - i) % 2 = 0
      · exact ⟨0, by rw [e1, h2]; rfl, .inl ⟨rfl, if_pos h2⟩⟩
      · exact ⟨1, by rw [e1, show (N - i) % 2 = 1 from by omega]; rfl, .inr ⟨rfl, if_neg h2⟩⟩
    have hfin : ∀ t' H' c', (t' 3 = t 3) → (∃ b, H' 3 = some (.var u3 26 [.v (.s (.int .i64 (if (N - i) % 2 = 0 then 4 else 6))), .nil0, .own 54 b 1]) ∧ H' 54 = some (.arr b true 3 26 [encK (wrapN N i)])) → t' 4 = t 4 → H' 4 = H 4 → H' 1000 = H 1000 → t' 8 = .i ((N - (i + 1) : Nat) : Int) → i < N ∧ S4KI v bs p N (i + 1) ⟨t', H', c'⟩ := by
      rintro t' H' c' r1 ⟨b, r2, r3⟩ r4 r5 r6 r7
      exact ⟨hlt, ⟨u3, r1.trans e3, .inr ⟨b, i, rfl, r2, r3⟩⟩, ⟨u4, r4.trans e4, r5.trans eH4⟩, r7, r6.trans eH⟩
    have z0 : (0 : Int).toNat = 0 := rfl
    have z1 : (1 : Int).toNat = 1 := rfl
    have z2 : (0 : Int) < ((2 : Nat) : Int) := by omega
    have z3 : (1 : Int) < ((2 : Nat) : Int) := by omega
    have z4 : (0 : Int) ≤ 1 := by omega
    rcases h3 with ⟨rfl, eH3⟩ | ⟨b, j, rfl, eH3, eH54⟩
    · have ew : encK (wrapN N 0) = [.s (.int .i64 3), .sl [], .sl []] := by rw [wrapN, encK_mk, encS_nil, encKs_nil]
      rcases hrs with ⟨rfl, hs⟩ | ⟨rfl, hs⟩
      all_goals
        simp only [RUN, core, T.c, T.s, T.b, T.i, sBin, sInt, sUn, isShift, asInt, P1.cells, loadT, ptrC, storeT, putC, fillP, Nat.reduceAdd, reduceIte, Nat.reduceEqDiff, Nat.reduceLT, Nat.reduceLeDiff, reduceCtorEq, eq_self, FIT, lendCs_map, verC_map, FinC, resPs, resP, lendPl, lendCs, lendC, sealC, partsT, finHs, tupT, verT, verP, verC, verB, verAt, Blk.ver, handsAre, forall_const, CHT, disj, Nat.reduceBEq, beq_self_eq_true, APT, srcOf, sealPs, sealCs, sealC, List.mem_singleton, forall_eq, ALT, UKq_2, e3, eH3, e8, k1, hr, g2, gw, Int.le_refl, z0, z1, z2, z3, z4]
        refine hfin _ _ _ ?_ ?_ ?_ ?_ ?_ ?_
        · rfl
        rotate_left
        · rfl
        · rfl
        · rfl
        · rfl
        exact ⟨_, by rw [hs]; rfl, by rw [ew]; rfl⟩
    · have ew : encK (wrapN N (j + 1)) = [.s (.int .i64 (if (N - j) % 2 = 0 then 4 else 6)), .sl [], .sl [encK (wrapN N j)]] := by rw [wrapN, encK_mk, encS_nil]; simp [encKs]
      generalize hz : (if (N - j) % 2 = 0 then (4 : Int) else 6) = z at eH3 ew
      rcases hrs with ⟨rfl, hs⟩ | ⟨rfl, hs⟩
      all_goals
        simp only [RUN, core, T.c, T.s, T.b, T.i, sBin, sInt, sUn, isShift, asInt, P1.cells, loadT, ptrC, storeT, putC, fillP, Nat.reduceAdd, reduceIte, Nat.reduceEqDiff, Nat.reduceLT, Nat.reduceLeDiff, reduceCtorEq, eq_self, FIT, lendCs_map, verC_map, FinC, resPs, resP, lendPl, lendCs, lendC, sealC, partsT, finHs, tupT, verT, verP, verC, verB, verAt, Blk.ver, handsAre, forall_const, CHT, disj, Nat.reduceBEq, beq_self_eq_true, APT, srcOf, sealPs, sealCs, sealC, List.mem_singleton, forall_eq, ALT, UKq_2, e3, eH3, eH54, e8, k1, hr, g2, gw, Int.le_refl, z0, z1, z2, z3, z4]
        refine hfin _ _ _ ?_ ?_ ?_ ?_ ?_ ?_
        · rfl
        rotate_left
        · rfl
        · rfl
        · rfl
        · rfl
        exact ⟨_, by rw [hs]; rfl, by rw [ew]; rfl⟩
  · have hiN : i = N := by omega
    subst hiN
    have k1 : ¬ ((i - i : Nat) : Int) > 0 := by omega
    simp only [RUN, core, T.c, T.s, T.b, T.i, sBin, sInt, sUn, isShift, asInt, P1.cells, loadT, ptrC, storeT, putC, fillP, Nat.reduceAdd, reduceIte, Nat.reduceEqDiff, Nat.reduceLT, Nat.reduceLeDiff, reduceCtorEq, eq_self, FIT, lendCs_map, verC_map, FinC, resPs, resP, lendPl, lendCs, lendC, sealC, partsT, finHs, tupT, verT, verP, verC, verB, verAt, Blk.ver, handsAre, forall_const, UKq_2, e8, k1]
    exact hQ _ _ _ hKI
end Go.V
set_option linter.unusedSimpArgs false
namespace Go.V
open Go.Proofs
theorem UKr_1 : (type_of% (uA c38.eq_1)) ∧ (type_of% (uR r38_0.eq_1)) ∧ (type_of% (uA c38_9.eq_1)) ∧ (type_of% (uR r38_1.eq_1)) ∧ (type_of% (uA c38_8.eq_1)) ∧ (type_of% (uA c38_7.eq_1)) ∧ (type_of% (uR r38_2.eq_1)) ∧ (type_of% (uR r38_3.eq_1)) ∧ (type_of% (uR r38_4.eq_1)) ∧ (type_of% (uR r38_5.eq_1)) ∧ (type_of% (uR r38_6.eq_1)) ∧ (type_of% (uA c38_53.eq_1)) ∧ (type_of% (uR r38_10.eq_1)) ∧ (type_of% (uA c38_52.eq_1)) ∧ (type_of% (uA c38_51.eq_1)) ∧ (type_of% (uR r38_11.eq_1)) ∧ (type_of% (uA c38_50.eq_1)) ∧ (type_of% (uR r38_12.eq_1)) ∧ (type_of% (uA c38_49.eq_1)) ∧ (type_of% (uR r38_13.eq_1)) ∧ (type_of% (uA c38_48.eq_1)) ∧ (type_of% (uR r38_14.eq_1)) ∧ (type_of% (uA c38_47.eq_1)) ∧ (type_of% (uR r38_15.eq_1)) ∧ (type_of% (uA c38_46.eq_1)) ∧ (type_of% (uR r38_16.eq_1)) ∧ (type_of% (uA c38_45.eq_1)) ∧ (type_of% (uR r38_17.eq_1)) ∧ (type_of% (uA c38_44.eq_1)) ∧ (type_of% (uA c38_31.eq_1)) ∧ (type_of% (uR r38_18.eq_1)) ∧ (type_of% (uR r38_19.eq_1)) ∧ (type_of% (uA c38_30.eq_1)) ∧ (type_of% (uA c38_29.eq_1)) ∧ (type_of% (uA c38_43.eq_1)) ∧ (type_of% (uR r38_32.eq_1)) ∧ (type_of% (uR r38_33.eq_1)) ∧ (type_of% (uA c38_42.eq_1)) ∧ (type_of% (uA c38_41.eq_1)) ∧ (type_of% (uR r38_54.eq_1)) ∧ (type_of% s38.eq_1) :=
  ⟨uA c38.eq_1, uR r38_0.eq_1, uA c38_9.eq_1, uR r38_1.eq_1, uA c38_8.eq_1, uA c38_7.eq_1, uR r38_2.eq_1, uR r38_3.eq_1, uR r38_4.eq_1, uR r38_5.eq_1, uR r38_6.eq_1, uA c38_53.eq_1, uR r38_10.eq_1, uA c38_52.eq_1, uA c38_51.eq_1, uR r38_11.eq_1, uA c38_50.eq_1, uR r38_12.eq_1, uA c38_49.eq_1, uR r38_13.eq_1, uA c38_48.eq_1, uR r38_14.eq_1, uA c38_47.eq_1, uR r38_15.eq_1, uA c38_46.eq_1, uR r38_16.eq_1, uA c38_45.eq_1, uR r38_17.eq_1, uA c38_44.eq_1, uA c38_31.eq_1, uR r38_18.eq_1, uR r38_19.eq_1, uA c38_30.eq_1, uA c38_29.eq_1, uA c38_43.eq_1, uR r38_32.eq_1, uR r38_33.eq_1, uA c38_42.eq_1, uA c38_41.eq_1, uR r38_54.eq_1, s38.eq_1⟩
theorem spoilK_tail (v : Nat) (bs : List UInt8) (hb : bs.length ≤ 2000) (s : Int) (ns : List ByteArray) (ks : List Kd) (hB : KB 1000 (.mk s ns ks)) (p : Int) (hp : 0 ≤ p ∧ p ≤ 900000000000) :
    ∃ (p' : Int) (k' : Kd), p ≤ p' ∧ p' ≤ p + 100 ∧ KB 2000 k' ∧ SpoilKT v bs s ns ks p p' k' := by
  obtain ⟨b1, b2, b3, b4⟩ := hB.inv
  have b3' : ∀ x ∈ ns, x.size ≤ 2000 := fun x hx => by have := b3 x hx; omega
  have b4' : ∀ k ∈ ks, KB 2000 k := fun k hk => (b4 k hk).le (by omega)
  obtain ⟨n, n0, n1, hC⟩ := pick_ok v bs hb p 5 (by omega) (by omega)
  rcases (by omega : n = 0 ∨ n = 1 ∨ n = 2 ∨ n = 3 ∨ n = 4) with h | h | h | h | h
  · obtain ⟨m, m0, m1, hC2⟩ := pick_ok v bs hb (p + 1) 8 (by omega) (by omega)
    exact ⟨_, _, by omega, by omega, .mk _ _ _ (by omega) (by omega) b3' b4', spoilK_0 v bs s ns ks p n m hC h hC2⟩
  · obtain ⟨x, hx, hC2⟩ := of_ok v bs hb (p + 1) (by omega) namesZ (by decide)
    refine ⟨_, _, by omega, by omega, .mk _ _ _ (by simp; omega) (by omega) (fun y hy => ?_) b4', spoilK_1 v bs s ns ks b1 p n x hC h hC2⟩
    rcases List.mem_append.1 hy with h | h
    · exact b3' y h
    · simp at h; subst h; exact namesZ_size _ hx
  · refine ⟨_, _, by omega, by omega, .mk _ _ _ (by omega) (by simp; omega) b3' (fun y hy => ?_), spoilK_2 v bs s ns ks b2 p n hC h⟩
    rcases List.mem_append.1 hy with h | h
    · exact b4' y h
    · simp at h; subst h; exact .mk _ _ _ (by simp) (by simp) (by simp) (by simp)
  · subst h
    obtain ⟨f, f0, f1, f2⟩ := trace (S3Inv (p + 1)) (S3Step v bs) ⟨p + 1, [], []⟩ ⟨by simp, rfl, rfl, fun x hx => (by cases hx), fun x hx => (by cases hx)⟩ 40 (by
      rintro i hi ⟨q, ns, ks⟩ ⟨g1, g2, g3, g4, g5⟩
      simp only at g1 g2 g3 g4 g5
      obtain ⟨m, m0, m1, hC2⟩ := pick_ok v bs hb q 2 (by omega) (by omega)
      obtain ⟨x, hx, hC3⟩ := dec_ok (100 + i) (by omega)
      refine ⟨⟨q + 1, ns ++ [⟨#[110]⟩ ++ x], ks ++ [.mk 1 [] []]⟩, ⟨m, x, m0, m1, by omega, hC2, hC3, rfl⟩, by simp only; omega, by simp [g2], by simp [g3], fun y hy => ?_, fun y hy => ?_⟩
      · rcases List.mem_append.1 hy with h | h
        · exact g4 y h
        · simp at h; subst h; rw [ByteArray.size_append]; have : (⟨#[110]⟩ : ByteArray).size = 1 := rfl; omega
      · rcases List.mem_append.1 hy with h | h
        · exact g5 y h
        · simp at h; subst h; exact .mk _ _ _ (by simp) (by simp) (by simp) (by simp))
    obtain ⟨n9, x9, m0, m1, _, hC9, _⟩ := f2 39 (by omega)
    have I40 := f1 40 (by omega)
    obtain ⟨n10, l0, l1, hC10⟩ := pick_ok v bs hb (f 40).p 2 (by have := I40.1; omega) (by omega)
    obtain ⟨N, m, hN, hm, hCm, hgo⟩ : ∃ (N : Nat) (m : Int), (N = 39 ∨ N = 40) ∧ (0 ≤ m ∧ m < 2 ∧ ¬ (N : Int) < 39 + m) ∧ ACallsF Try.prog 36 [rP v, .i 2] [rH v bs (f N).p ((f N).p + 1)] (.i m) ∧ (N = 40 → n9 = 1) := by
      by_cases h9 : n9 = 0
      · exact ⟨39, n9, .inl rfl, ⟨m0, m1, by omega⟩, hC9, fun h => by omega⟩
      · exact ⟨40, n10, .inr rfl, ⟨l0, l1, by omega⟩, hC10, fun _ => by omega⟩
    have IN := f1 N (by omega)
    refine ⟨(f N).p + 1, .mk 5 (f N).ns (f N).ks, by have := IN.1; omega, by have := IN.1; omega, .mk _ _ _ (by have := IN.2.1; omega) (by have := IN.2.2.1; omega) IN.2.2.2.1 IN.2.2.2.2, ?_⟩
    rintro X t H c q0 e0 ⟨u3, e3, eH3⟩ ⟨u4, e4, eH4⟩ eH eN1 eN2
    simp only [T.c, T.i, rdr] at e0 e3 eH3 e4 eH4 eH
    simp only [RUN, core, T.c, T.s, T.b, T.i, sBin, sInt, sUn, isShift, asInt, P1.cells, loadT, ptrC, storeT, putC, fillP, Nat.reduceAdd, reduceIte, Nat.reduceEqDiff, Nat.reduceLT, Nat.reduceLeDiff, reduceCtorEq, eq_self, FIT, lendCs_map, verC_map, FinC, resPs, resP, lendPl, lendCs, lendC, sealC, partsT, finHs, tupT, verT, verP, verC, verB, verAt, Blk.ver, handsAre, forall_const, UKr_1, e0]
    refine callRc hC rfl rfl rfl rfl eH ⟨rfl, ?_⟩
    simp only [RUN, core, T.c, T.s, T.b, T.i, sBin, sInt, sUn, isShift, asInt, P1.cells, loadT, ptrC, storeT, putC, fillP, Nat.reduceAdd, reduceIte, Nat.reduceEqDiff, Nat.reduceLT, Nat.reduceLeDiff, reduceCtorEq, eq_self, FIT, lendCs_map, verC_map, FinC, resPs, resP, lendPl, lendCs, lendC, sealC, partsT, finHs, tupT, verT, verP, verC, verB, verAt, Blk.ver, handsAre, forall_const, CHT, disj, Nat.reduceBEq, beq_self_eq_true, APT, srcOf, sealPs, sealCs, sealC, List.mem_singleton, forall_eq, ALT, UKr_1, Int.reduceBEq, e3, eH3]
    refine AW.reify 3 1 2001 1 9 rfl rfl eN1 (by decide) ?_
    refine AW.reify 3 2 2002 3 26 rfl rfl eN2 (by decide) ?_
    refine spoilK_loop3 v bs f N (by omega) (p + 1) f1 f2 (fun i hi m2 a1 a2 a3 => ?_) m hm hCm ?_ fun t H c h3 h4 hH => ?_
    · by_cases hi39 : i = 39
      · subst hi39; exact ⟨n9, hC9, by have := hgo (by omega); omega, m0, m1⟩
      · exact ⟨m2, a3, by omega, a1, a2⟩
    · unfold S3KI
      rw [f0]
      exact ⟨e0, ⟨u3, _, _, e3, rfl, rfl, rfl⟩, ⟨u4, e4, eH4⟩, rfl, rfl⟩
    clear e0 e3 eH3 e4 eH4 eH eN1 eN2
    obtain ⟨u3, a, b, e3, eH3, eHa, eHb⟩ := h3
    obtain ⟨u4, e4, eH4⟩ := h4
    simp only [T.c, T.i, rdr] at e3 eH3 e4 eH4 hH eHa eHb
    simp only [RUN, core, T.c, T.s, T.b, T.i, sBin, sInt, sUn, isShift, asInt, P1.cells, loadT, ptrC, storeT, putC, fillP, Nat.reduceAdd, reduceIte, Nat.reduceEqDiff, Nat.reduceLT, Nat.reduceLeDiff, reduceCtorEq, eq_self, FIT, lendCs_map, verC_map, FinC, resPs, resP, lendPl, lendCs, lendC, sealC, partsT, finHs, tupT, verT, verP, verC, verB, verAt, Blk.ver, handsAre, forall_const, CHT, disj, Nat.reduceBEq, beq_self_eq_true, APT, srcOf, sealPs, sealCs, sealC, List.mem_singleton, forall_eq, ALT, rH, rdr, UKr_1, e3, eH3, e4, eH4, hH, eHa, eHb, encK_mk, encS_len, encKs_len, take_encS, take_encKs]
  · subst h
    obtain ⟨m, m0, m1, hC2⟩ := pick_ok v bs hb (p + 1) 2 (by omega) (by omega)
    obtain ⟨N, hN⟩ : ∃ N : Nat, (N : Int) = 5 + m := ⟨(5 + m).toNat, by omega⟩
    have gw : IntKind.i64.wrap (5 + m) = (N : Int) := (wrap64 ⟨by omega, by omega⟩).trans hN.symm
    refine ⟨p + 1 + 1, wrapN N N, by omega, by omega, wrapN_KB N N, ?_⟩
    rintro X t H c q0 e0 ⟨u3, e3, eH3⟩ ⟨u4, e4, eH4⟩ eH eN1 eN2
    simp only [T.c, T.i, rdr] at e0 e3 eH3 e4 eH4 eH
    simp only [RUN, core, T.c, T.s, T.b, T.i, sBin, sInt, sUn, isShift, asInt, P1.cells, loadT, ptrC, storeT, putC, fillP, Nat.reduceAdd, reduceIte, Nat.reduceEqDiff, Nat.reduceLT, Nat.reduceLeDiff, reduceCtorEq, eq_self, FIT, lendCs_map, verC_map, FinC, resPs, resP, lendPl, lendCs, lendC, sealC, partsT, finHs, tupT, verT, verP, verC, verB, verAt, Blk.ver, handsAre, forall_const, UKr_1, e0]
    refine callRc hC rfl rfl rfl rfl eH ⟨rfl, ?_⟩
    simp only [RUN, core, T.c, T.s, T.b, T.i, sBin, sInt, sUn, isShift, asInt, P1.cells, loadT, ptrC, storeT, putC, fillP, Nat.reduceAdd, reduceIte, Nat.reduceEqDiff, Nat.reduceLT, Nat.reduceLeDiff, reduceCtorEq, eq_self, FIT, lendCs_map, verC_map, FinC, resPs, resP, lendPl, lendCs, lendC, sealC, partsT, finHs, tupT, verT, verP, verC, verB, verAt, Blk.ver, handsAre, forall_const, CHT, disj, Nat.reduceBEq, beq_self_eq_true, APT, srcOf, sealPs, sealCs, sealC, List.mem_singleton, forall_eq, ALT, UKr_1, Int.reduceBEq, e0, e3, eH3]
    refine callRc hC2 rfl rfl rfl rfl rfl ⟨rfl, ?_⟩
    simp only [RUN, core, T.c, T.s, T.b, T.i, sBin, sInt, sUn, isShift, asInt, P1.cells, loadT, ptrC, storeT, putC, fillP, Nat.reduceAdd, reduceIte, Nat.reduceEqDiff, Nat.reduceLT, Nat.reduceLeDiff, reduceCtorEq, eq_self, FIT, lendCs_map, verC_map, FinC, resPs, resP, lendPl, lendCs, lendC, sealC, partsT, finHs, tupT, verT, verP, verC, verB, verAt, Blk.ver, handsAre, forall_const, CHT, disj, Nat.reduceBEq, beq_self_eq_true, APT, srcOf, sealPs, sealCs, sealC, List.mem_singleton, forall_eq, ALT, UKr_1, gw]
    refine spoilK_loop4 v bs (p + 1 + 1) N (by omega) ?_ fun t H c h => ?_
    · unfold S4KI
      exact ⟨⟨u3, e3, .inl ⟨rfl, rfl⟩⟩, ⟨u4, e4, eH4⟩, rfl, rfl⟩
    clear e0 e3 eH3 e4 eH4 eH eN1 eN2
    obtain ⟨⟨u3, e3, h3⟩, ⟨u4, e4, eH4⟩, e8, eH⟩ := h
    rcases h3 with ⟨h0, _⟩ | ⟨b, j, hj, eH3, eH54⟩
    · omega
    simp only [T.c, T.i, rdr] at e3 eH3 e4 eH4 eH eH54
    have ew : encK (wrapN N N) = [.s (.int .i64 (if (N - j) % 2 = 0 then 4 else 6)), .sl [], .sl [encK (wrapN N j)]] := by rw [hj, wrapN, encK_mk, encS_nil, ← hj]; simp [encKs]
    generalize (if (N - j) % 2 = 0 then (4 : Int) else 6) = z at eH3 ew
    simp only [RUN, core, T.c, T.s, T.b, T.i, sBin, sInt, sUn, isShift, asInt, P1.cells, loadT, ptrC, storeT, putC, fillP, Nat.reduceAdd, reduceIte, Nat.reduceEqDiff, Nat.reduceLT, Nat.reduceLeDiff, reduceCtorEq, eq_self, FIT, lendCs_map, verC_map, FinC, resPs, resP, lendPl, lendCs, lendC, sealC, partsT, finHs, tupT, verT, verP, verC, verB, verAt, Blk.ver, handsAre, forall_const, CHT, disj, Nat.reduceBEq, beq_self_eq_true, APT, srcOf, sealPs, sealCs, sealC, List.mem_singleton, forall_eq, ALT, rH, rdr, UKr_1, e3, eH3, eH54, e4, eH4, eH, ew, Nat.le_refl]
theorem UKr_2 : (type_of% (uA c38.eq_1)) ∧ (type_of% (uR r38_0.eq_1)) ∧ (type_of% (uA c38_9.eq_1)) ∧ (type_of% (uR r38_1.eq_1)) ∧ (type_of% (uA c38_8.eq_1)) ∧ (type_of% (uA c38_7.eq_1)) ∧ (type_of% (uR r38_2.eq_1)) ∧ (type_of% (uR r38_3.eq_1)) ∧ (type_of% (uR r38_4.eq_1)) ∧ (type_of% (uR r38_5.eq_1)) ∧ (type_of% (uR r38_6.eq_1)) ∧ (type_of% (uR r38_54.eq_1)) ∧ (type_of% s38.eq_1) :=
  ⟨uA c38.eq_1, uR r38_0.eq_1, uA c38_9.eq_1, uR r38_1.eq_1, uA c38_8.eq_1, uA c38_7.eq_1, uR r38_2.eq_1, uR r38_3.eq_1, uR r38_4.eq_1, uR r38_5.eq_1, uR r38_6.eq_1, uR r38_54.eq_1, s38.eq_1⟩
theorem spoilK_ok (v : Nat) (bs : List UInt8) (hb : bs.length ≤ 2000) : ∀ k : Kd, ∀ d, KOk d k → KB 1000 k → ∀ p : Int, 0 ≤ p ∧ p ≤ 800000000000 + 10 * d →
    ∃ (p' : Int) (k' : Kd), p ≤ p' ∧ p' ≤ p + 1000 - 102 * d ∧ KB 2000 k' ∧ ACallsF Try.prog 38 [rP v, tK k] [rH v bs p p'] (tK k') := by
  intro k
  induction k using Kd.ind with
  | _ s ns ks ih =>
    intro d hO hB p hp
    obtain ⟨hd6, hS, hK⟩ := hO.inv
    obtain ⟨b1, b2, b3, b4⟩ := hB.inv
    have b3' : ∀ x ∈ ns, x.size ≤ 2000 := fun x hx => by have := b3 x hx; omega
    have b4' : ∀ k ∈ ks, KB 2000 k := fun k hk => (b4 k hk).le (by omega)
    by_cases hl : (ks.length : Int) > 0
    · obtain ⟨n, n0, n1, hC⟩ := pick_ok v bs hb p 3 (by omega) (by omega)
      by_cases hn : n > 0
      · obtain ⟨m, m0, m1, hC2⟩ := pick_ok v bs hb (p + 1) ks.length (by omega) (by omega)
        obtain ⟨i, rfl⟩ : ∃ i : Nat, m = i := ⟨m.toNat, (Int.toNat_of_nonneg m0).symm⟩
        obtain ⟨k, hk⟩ : ∃ k, ks[i]? = some k := ⟨_, List.getElem?_eq_getElem (by omega)⟩
        have hmem := List.mem_of_getElem? hk
        have hO' := hK k hmem
        have hd : d + 1 ≤ 6 := by cases k; exact hO'.inv.1
        obtain ⟨p', k', i1, i2, i3, hC3⟩ := ih k hmem (d + 1) hO' (b4 k hmem) (p + 1 + 1) (by omega)
        refine ⟨p', .mk s ns (ks.set i k'), by omega, by omega, .mk _ _ _ (by omega) (by simp; omega) b3' (fun y hy => ?_), ACallsF.intro ok38 follows fun X c0 => ?_⟩
        · rcases List.mem_or_eq_of_mem_set hy with h | h
          · exact b4' y h
          · subst h; exact i3
        have q1 : ks.length * 56 ≤ 140737488355328 := by omega
        have q2 : ks.length ≤ 9223372036854775807 := by omega
        have ek := encKs_at hk
        have hts : List.take ks.length (encKs (ks.set i k')) = encKs (ks.set i k') := List.take_of_length_le (by rw [encKs_len, List.length_set]; exact Nat.le_refl _)
        have gi : (i : Int) < ((ks.length : Nat) : Int) := m1
        have g0 : (0 : Int) ≤ i := m0
        simp only [RUN, core, T.c, T.s, T.b, T.i, sBin, sInt, sUn, isShift, asInt, P1.cells, loadT, ptrC, storeT, putC, fillP, Nat.reduceAdd, reduceIte, Nat.reduceEqDiff, Nat.reduceLT, Nat.reduceLeDiff, reduceCtorEq, eq_self, FIT, lendCs_map, verC_map, FinC, resPs, resP, lendPl, lendCs, lendC, sealC, partsT, finHs, tupT, verT, verP, verC, verB, verAt, Blk.ver, handsAre, forall_const, CHT, disj, Nat.reduceBEq, beq_self_eq_true, APT, srcOf, sealPs, sealCs, sealC, List.mem_singleton, forall_eq, ALT, rH, rdr, UKr_1, encK_mk, encKs_len, hl]
        refine callRc hC rfl rfl rfl rfl rfl ⟨rfl, ?_⟩
        simp only [RUN, core, T.c, T.s, T.b, T.i, sBin, sInt, sUn, isShift, asInt, P1.cells, loadT, ptrC, storeT, putC, fillP, Nat.reduceAdd, reduceIte, Nat.reduceEqDiff, Nat.reduceLT, Nat.reduceLeDiff, reduceCtorEq, eq_self, FIT, lendCs_map, verC_map, FinC, resPs, resP, lendPl, lendCs, lendC, sealC, partsT, finHs, tupT, verT, verP, verC, verB, verAt, Blk.ver, handsAre, forall_const, CHT, disj, Nat.reduceBEq, beq_self_eq_true, APT, srcOf, sealPs, sealCs, sealC, List.mem_singleton, forall_eq, ALT, rH, rdr, UKr_1, encK_mk, encKs_len, hn, q1, q2]
        refine callRc hC2 rfl rfl rfl rfl rfl ⟨rfl, ?_⟩
        simp only [RUN, core, T.c, T.s, T.b, T.i, sBin, sInt, sUn, isShift, asInt, P1.cells, loadT, ptrC, storeT, putC, fillP, Nat.reduceAdd, reduceIte, Nat.reduceEqDiff, Nat.reduceLT, Nat.reduceLeDiff, reduceCtorEq, eq_self, FIT, lendCs_map, verC_map, FinC, resPs, resP, lendPl, lendCs, lendC, sealC, partsT, finHs, tupT, verT, verP, verC, verB, verAt, Blk.ver, handsAre, forall_const, CHT, disj, Nat.reduceBEq, beq_self_eq_true, APT, srcOf, sealPs, sealCs, sealC, List.mem_singleton, forall_eq, ALT, rH, rdr, UKr_1, encK_mk, encKs_len, gi, g0, Int.toNat_natCast, ek, List.length_map, encK_len, takeK]
        refine callRc hC3 rfl rfl (by simp [closedA, closedP, closedC]) (closed_map _) rfl ⟨?_, ?_⟩
        · simp only [RUN, core, T.c, T.s, T.b, T.i, sBin, sInt, sUn, isShift, asInt, P1.cells, loadT, ptrC, storeT, putC, fillP, Nat.reduceAdd, reduceIte, Nat.reduceEqDiff, Nat.reduceLT, Nat.reduceLeDiff, reduceCtorEq, eq_self, FIT, lendCs_map, verC_map, FinC, resPs, resP, lendPl, lendCs, lendC, sealC, partsT, finHs, tupT, verT, verP, verC, verB, verAt, Blk.ver, handsAre, forall_const, CHT, disj, Nat.reduceBEq, beq_self_eq_true]
        simp only [RUN, core, T.c, T.s, T.b, T.i, sBin, sInt, sUn, isShift, asInt, P1.cells, loadT, ptrC, storeT, putC, fillP, Nat.reduceAdd, reduceIte, Nat.reduceEqDiff, Nat.reduceLT, Nat.reduceLeDiff, reduceCtorEq, eq_self, FIT, lendCs_map, verC_map, FinC, resPs, resP, lendPl, lendCs, lendC, sealC, partsT, finHs, tupT, verT, verP, verC, verB, verAt, Blk.ver, handsAre, forall_const, CHT, disj, Nat.reduceBEq, beq_self_eq_true, APT, srcOf, sealPs, sealCs, sealC, List.mem_singleton, forall_eq, ALT, rH, rdr, UKr_1, encK_mk, encKs_len, gi, g0, Int.toNat_natCast, ek, List.length_map, encK_len, takeK, hts]
      · obtain ⟨p', k', i1, i2, i3, hT⟩ := spoilK_tail v bs hb s ns ks hB (p + 1) (by omega)
        refine ⟨p', k', by omega, by omega, i3, ACallsF.intro ok38 follows fun X c0 => ?_⟩
        simp only [RUN, core, T.c, T.s, T.b, T.i, sBin, sInt, sUn, isShift, asInt, P1.cells, loadT, ptrC, storeT, putC, fillP, Nat.reduceAdd, reduceIte, Nat.reduceEqDiff, Nat.reduceLT, Nat.reduceLeDiff, reduceCtorEq, eq_self, FIT, lendCs_map, verC_map, FinC, resPs, resP, lendPl, lendCs, lendC, sealC, partsT, finHs, tupT, verT, verP, verC, verB, verAt, Blk.ver, handsAre, forall_const, CHT, disj, Nat.reduceBEq, beq_self_eq_true, APT, srcOf, sealPs, sealCs, sealC, List.mem_singleton, forall_eq, ALT, rH, rdr, UKr_2, encK_mk, encKs_len, hl]
        refine callRc hC rfl rfl rfl rfl rfl ⟨rfl, ?_⟩
        simp only [RUN, core, T.c, T.s, T.b, T.i, sBin, sInt, sUn, isShift, asInt, P1.cells, loadT, ptrC, storeT, putC, fillP, Nat.reduceAdd, reduceIte, Nat.reduceEqDiff, Nat.reduceLT, Nat.reduceLeDiff, reduceCtorEq, eq_self, FIT, lendCs_map, verC_map, FinC, resPs, resP, lendPl, lendCs, lendC, sealC, partsT, finHs, tupT, verT, verP, verC, verB, verAt, Blk.ver, handsAre, forall_const, CHT, disj, Nat.reduceBEq, beq_self_eq_true, APT, srcOf, sealPs, sealCs, sealC, List.mem_singleton, forall_eq, ALT, rH, rdr, UKr_2, hn]
        exact hT X _ _ _ p rfl ⟨_, rfl, rfl⟩ ⟨_, rfl, rfl⟩ rfl rfl rfl
    · obtain ⟨p', k', i1, i2, i3, hT⟩ := spoilK_tail v bs hb s ns ks hB p (by omega)
      refine ⟨p', k', by omega, by omega, i3, ACallsF.intro ok38 follows fun X c0 => ?_⟩
      simp only [RUN, core, T.c, T.s, T.b, T.i, sBin, sInt, sUn, isShift, asInt, P1.cells, loadT, ptrC, storeT, putC, fillP, Nat.reduceAdd, reduceIte, Nat.reduceEqDiff, Nat.reduceLT, Nat.reduceLeDiff, reduceCtorEq, eq_self, FIT, lendCs_map, verC_map, FinC, resPs, resP, lendPl, lendCs, lendC, sealC, partsT, finHs, tupT, verT, verP, verC, verB, verAt, Blk.ver, handsAre, forall_const, CHT, disj, Nat.reduceBEq, beq_self_eq_true, APT, srcOf, sealPs, sealCs, sealC, List.mem_singleton, forall_eq, ALT, rH, rdr, UKr_2, encK_mk, encKs_len, hl]
      exact hT X _ _ _ p rfl ⟨_, rfl, rfl⟩ ⟨_, rfl, rfl⟩ rfl rfl rfl
end Go.V
set_option linter.unusedSimpArgs false
namespace Go.V
open Go.Proofs
/- loop.example/teagle/spec.l5Spoil -/
def r37_0 : List AOper := [ao 0 3 (.box 29 (.t 1)),
  ao 1 4 (.alloc 29 [(.v (.s (.int .i64 0))), (.v (.s (.int .i64 0))), (.v (.s (.string ⟨#[]⟩))), .nil0, .nil0])]
def r37_1 : List AOper := [ao 0 8 (.fa 4 (.t 3)),
  ao 1 9 (.ld 1 false (.t 8)),
  ao 2 10 (.len (.t 9)),
  ao 3 11 (.bin .gtr (.t 10) (.k (.i 0))),
  ao 4 12 (.mv (.t 11)),
  ag 5 13 12 true [] (.mv (.t 0)),
  ag 6 14 12 true [] (.call (.k (.c (.fn 36 []))) [(.t 13), (.k (.i 3))]),
  ag 7 15 12 true [] (.bin .gtr (.t 14) (.k (.i 0))),
  ao 8 16 (.pick (.t 12) (.t 15) (.k (.b false)))]
def r37_2 : List AOper := [ao 0 17 (.bsl 5 29 []),
  ao 1 18 (.fa 4 (.t 3)),
  ao 2 19 (.ld 1 false (.t 18)),
  ao 3 20 (.app 5 29 80 (.t 17) (.t 19)),
  ao 4 5 (.mv (.t 20))]
def r37_3 : List AOper := [ao 0 21 (.mv (.t 0)),
  ao 1 22 (.mv (.t 5)),
  ao 2 23 (.len (.t 22)),
  ao 3 24 (.call (.k (.c (.fn 36 []))) [(.t 21), (.t 23)]),
  ao 4 6 (.mv (.t 24))]
def r37_4 : List AOper := [ao 0 25 (.mv (.t 5)),
  ao 1 26 (.mv (.t 6)),
  ao 2 27 (.mv (.t 0)),
  ao 3 28 (.mv (.t 5)),
  ao 4 29 (.mv (.t 6)),
  ao 5 30 (.ia 5 (.t 28) (.t 29)),
  ao 6 31 (.ld 5 true (.t 30)),
  ao 7 32 (.call (.k (.c (.fn 37 []))) [(.t 27), (.t 31)]),
  ao 8 33 (.ia 5 (.t 25) (.t 26)),
  an 9 (.st 5 (.t 33) (.t 32))]
def r37_5 : List AOper := [ao 0 34 (.mv (.t 5)),
  ao 1 35 (.fa 4 (.t 3)),
  an 2 (.st 1 (.t 35) (.t 34))]
def r37_6 : List AOper := [ao 0 36 (.ld 5 true (.t 3)),
  an 1 (.st 5 (.t 4) (.t 36))]
def c37_7 : ACode := .seq (.reg r37_2) (.seq (.reg r37_3) (.seq (.reg r37_4) (.seq (.reg r37_5) (.seq (.reg r37_6) .ret))))
def c37_8 : ACode := .cond (.t 16) c37_7 .skip
def c37_9 : ACode := .seq (.reg r37_1) c37_8
def r37_10 : List AOper := [ao 0 37 (.mv (.t 0)),
  ao 1 38 (.call (.k (.c (.fn 36 []))) [(.t 37), (.k (.i 8))])]
def r37_11 : List AOper := [ao 0 42 (.bin .eql (.t 38) (.k (.i 0))),
  ao 1 41 (.mv (.t 42))]
def r37_12 : List AOper := [ao 0 43 (.mv (.t 0)),
  ao 1 44 (.call (.k (.c (.fn 36 []))) [(.t 43), (.k (.i 8))]),
  ao 2 45 (.fa 0 (.t 3)),
  an 3 (.st 1 (.t 45) (.t 44))]
def r37_13 : List AOper := [ao 0 47 (.bin .eql (.t 38) (.k (.i 1))),
  ao 1 46 (.mv (.t 47))]
def r37_14 : List AOper := [ao 0 48 (.bsl 1 3 [(.k (.i 1)), (.k (.i 2)), (.k (.i (-1))), (.k (.i 1000000000)), (.k (.i (-1000000000)))]),
  ao 1 49 (.mv (.t 0)),
  ao 2 50 (.call (.k (.c (.fn 36 []))) [(.t 49), (.k (.i 5))]),
  ao 3 51 (.ia 1 (.t 48) (.t 50)),
  ao 4 52 (.ld 1 false (.t 51)),
  ao 5 53 (.fa 1 (.t 3)),
  an 6 (.st 1 (.t 53) (.t 52))]
def r37_15 : List AOper := [ao 0 55 (.bin .eql (.t 38) (.k (.i 2))),
  ao 1 54 (.mv (.t 55))]
def r37_16 : List AOper := [ao 0 56 (.mv (.t 0)),
  ao 1 57 (.call (.k (.c (.fn 73 []))) [(.k (.s (.string ⟨#[120]⟩))), (.k (.i 61))]),
  ao 2 58 (.bsl 1 9 [(.k (.s (.string ⟨#[120]⟩))), (.k (.s (.string ⟨#[34]⟩))), (.k (.s (.string ⟨#[10]⟩))), (.t 57), (.k (.s (.string ⟨#[127]⟩)))]),
  ao 3 59 (.call (.k (.c (.fn 72 []))) [(.t 56), (.t 58)]),
  ao 4 60 (.fa 2 (.t 3)),
  an 5 (.st 1 (.t 60) (.t 59))]
def r37_17 : List AOper := [ao 0 62 (.bin .eql (.t 38) (.k (.i 3))),
  ao 1 61 (.mv (.t 62))]
def r37_18 : List AOper := [ao 0 63 (.bsl 1 9 []),
  ao 1 64 (.fa 3 (.t 3)),
  ao 2 65 (.ld 1 false (.t 64)),
  ao 3 66 (.app 1 9 16 (.t 63) (.t 65)),
  ao 4 67 (.mv (.t 0)),
  ao 5 68 (.bsl 1 9 [(.k (.s (.string ⟨#[97]⟩))), (.k (.s (.string ⟨#[122]⟩))), (.k (.s (.string ⟨#[65]⟩))), (.k (.s (.string ⟨#[]⟩))), (.k (.s (.string ⟨#[116, 111, 111, 108, 111, 110, 103, 97, 97]⟩)))]),
  ao 6 69 (.call (.k (.c (.fn 72 []))) [(.t 67), (.t 68)]),
  ao 7 70 (.bsl 1 9 [(.t 69)]),
  ao 8 71 (.app 1 9 16 (.t 66) (.t 70)),
  ao 9 72 (.fa 3 (.t 3)),
  an 10 (.st 1 (.t 72) (.t 71))]
def r37_19 : List AOper := [ao 0 74 (.bin .eql (.t 38) (.k (.i 4))),
  ao 1 73 (.mv (.t 74))]
def r37_20 : List AOper := [ao 0 75 (.bsl 5 29 []),
  ao 1 76 (.fa 4 (.t 3)),
  ao 2 77 (.ld 1 false (.t 76)),
  ao 3 78 (.app 5 29 80 (.t 75) (.t 77)),
  ao 4 79 (.build [(.v (.s (.int .i64 0))), (.v (.s (.int .i64 0))), (.v (.s (.string ⟨#[]⟩))), .nil0, .nil0] [(0, 1, (.k (.i 1)))]),
  ao 5 80 (.bsl 5 29 [(.t 79)]),
  ao 6 81 (.app 5 29 80 (.t 78) (.t 80)),
  ao 7 82 (.fa 4 (.t 3)),
  an 8 (.st 1 (.t 82) (.t 81))]
def r37_21 : List AOper := [ao 0 84 (.bin .eql (.t 38) (.k (.i 5))),
  ao 1 83 (.mv (.t 84))]
def r37_22 : List AOper := [ao 0 85 (.bsl 1 9 []),
  ao 1 86 (.fa 3 (.t 3)),
  ao 2 87 (.ld 1 false (.t 86)),
  ao 3 88 (.app 1 9 16 (.t 85) (.t 87)),
  ao 4 89 (.mv (.t 0)),
  ao 5 90 (.bsl 1 9 [(.k (.s (.string ⟨#[122]⟩))), (.k (.s (.string ⟨#[122, 122]⟩))), (.k (.s (.string ⟨#[90]⟩)))]),
  ao 6 91 (.call (.k (.c (.fn 72 []))) [(.t 89), (.t 90)]),
  ao 7 92 (.bsl 1 9 [(.t 91)]),
  ao 8 93 (.app 1 9 16 (.t 88) (.t 92)),
  ao 9 94 (.fa 3 (.t 3)),
  an 10 (.st 1 (.t 94) (.t 93))]
def r37_23 : List AOper := [ao 0 95 (.bsl 5 29 []),
  ao 1 96 (.fa 4 (.t 3)),
  ao 2 97 (.ld 1 false (.t 96)),
  ao 3 98 (.app 5 29 80 (.t 95) (.t 97)),
  ao 4 99 (.build [(.v (.s (.int .i64 0))), (.v (.s (.int .i64 0))), (.v (.s (.string ⟨#[]⟩))), .nil0, .nil0] [(0, 1, (.k (.i 1)))]),
  ao 5 100 (.bsl 5 29 [(.t 99)]),
  ao 6 101 (.app 5 29 80 (.t 98) (.t 100)),
  ao 7 102 (.fa 4 (.t 3)),
  an 8 (.st 1 (.t 102) (.t 101))]
def c37_24 : ACode := .seq (.reg r37_22) (.reg r37_23)
def r37_25 : List AOper := [ao 0 104 (.bin .eql (.t 38) (.k (.i 6))),
  ao 1 103 (.mv (.t 104))]
def r37_26 : List AOper := [ao 0 105 (.bsl 5 29 []),
  ao 1 106 (.fa 4 (.t 3)),
  an 2 (.st 1 (.t 106) (.t 105))]
def r37_27 : List AOper := [ao 0 7 (.mv (.k (.i 0)))]
def r37_28 : List AOper := [ao 0 107 (.mv (.t 7)),
  ao 1 108 (.bin .leq (.t 107) (.k (.i 20)))]
def c37_29 : ACode := .cond (.t 108) .skip (.exit 1)
def c37_30 : ACode := .seq (.reg r37_28) c37_29
def r37_31 : List AOper := [ao 0 111 (.fa 4 (.t 3)),
  ao 1 112 (.ld 1 false (.t 111)),
  ao 2 113 (.build [(.v (.s (.int .i64 0))), (.v (.s (.int .i64 0))), (.v (.s (.string ⟨#[]⟩))), .nil0, .nil0] [(0, 1, (.k (.i 1)))]),
  ao 3 114 (.bsl 5 29 [(.t 113)]),
  ao 4 115 (.app 5 29 80 (.t 112) (.t 114)),
  ao 5 116 (.fa 4 (.t 3)),
  an 6 (.st 1 (.t 116) (.t 115))]
def c37_32 : ACode := .block 2 (.reg r37_31)
def r37_33 : List AOper := [ao 0 109 (.mv (.t 7)),
  ao 1 110 (.bin .add (.t 109) (.k (.i 1))),
  ao 2 7 (.mv (.t 110))]
def c37_34 : ACode := .seq c37_30 (.seq c37_32 (.reg r37_33))
def c37_35 : ACode := .loop c37_34
def c37_36 : ACode := .block 1 c37_35
def c37_37 : ACode := .seq (.reg r37_26) (.seq (.reg r37_27) c37_36)
def r37_38 : List AOper := [ao 0 39 (.bsl 1 9 []),
  ao 1 40 (.fa 3 (.t 3)),
  an 2 (.st 1 (.t 40) (.t 39))]
def c37_39 : ACode := .cond (.t 103) c37_37 (.reg r37_38)
def c37_40 : ACode := .seq (.reg r37_25) c37_39
def c37_41 : ACode := .cond (.t 83) c37_24 c37_40
def c37_42 : ACode := .seq (.reg r37_21) c37_41
def c37_43 : ACode := .cond (.t 73) (.reg r37_20) c37_42
def c37_44 : ACode := .seq (.reg r37_19) c37_43
def c37_45 : ACode := .cond (.t 61) (.reg r37_18) c37_44
def c37_46 : ACode := .seq (.reg r37_17) c37_45
def c37_47 : ACode := .cond (.t 54) (.reg r37_16) c37_46
def c37_48 : ACode := .seq (.reg r37_15) c37_47
def c37_49 : ACode := .cond (.t 46) (.reg r37_14) c37_48
def c37_50 : ACode := .seq (.reg r37_13) c37_49
def c37_51 : ACode := .cond (.t 41) (.reg r37_12) c37_50
def c37_52 : ACode := .seq (.reg r37_11) c37_51
def c37_53 : ACode := .block 0 c37_52
def c37_54 : ACode := .seq (.reg r37_10) c37_53
def r37_55 : List AOper := [ao 0 117 (.ld 5 true (.t 3)),
  an 1 (.st 5 (.t 4) (.t 117))]
def c37 : ACode := .seq (.reg r37_0) (.seq c37_9 (.seq c37_54 (.seq (.reg r37_55) .ret)))
def s37 : List ARes := [.cell 4 5 true]
theorem ok37 : okF Try.prog 37 118 c37 s37 := ⟨Try.f37, Try.func37, Try.ntmps37, by kernel_rfl, by kernel_rfl, by kernel_rfl⟩
theorem TB.le {n m : Nat} (h : n ≤ m) {k : Tr} (hk : TB n k) : TB m k := by
  induction k using Tr.ind with
  | _ s a x ns ks ih =>
    obtain ⟨h0, h1, h2, h3, h4⟩ := hk.inv
    exact .mk _ _ _ _ _ (by omega) (by omega) (by omega) (fun x hx => by have := h3 x hx; omega) fun k hk => ih k hk (h4 k hk)
def texts5 : List ByteArray := [⟨#[97]⟩, ⟨#[122]⟩, ⟨#[65]⟩, ⟨#[]⟩, ⟨#[116, 111, 111, 108, 111, 110, 103, 97, 97]⟩]
theorem texts5_size : ∀ s ∈ texts5, s.size ≤ 2000 := by decide
def texts3 : List ByteArray := [⟨#[122]⟩, ⟨#[122, 122]⟩, ⟨#[90]⟩]
theorem texts3_size : ∀ s ∈ texts3, s.size ≤ 2000 := by decide
def texts61 : List ByteArray := [⟨#[120]⟩, ⟨#[34]⟩, ⟨#[10]⟩, manyF 61 ⟨#[120]⟩ ⟨#[]⟩, ⟨#[127]⟩]
theorem texts61_size : ∀ s ∈ texts61, s.size ≤ 2000 := by
  intro s hs
  simp only [texts61, List.mem_cons, List.not_mem_nil, or_false] at hs
  rcases hs with rfl | rfl | rfl | rfl | rfl
  · decide
  · decide
  · decide
  · rw [manyF_size]; decide
  · decide
def zTr : Tr := .mk 1 0 ⟨#[]⟩ [] []
theorem enc_zTr : encT zTr = [.s (.int .i64 1), .s (.int .i64 0), .s (.string ⟨#[]⟩), .sl [], .sl []] := by rw [zTr, encT_mk, encS_nil, encTs_nil]
theorem zTr_TB : TB 2000 zTr := .mk _ _ _ _ _ (by decide) (by simp) (by simp) (by simp) (by simp)
def SpoilTT (v : Nat) (bs : List UInt8) (s n : Int) (x : ByteArray) (ns : List ByteArray) (ks : List Tr) (p : Int) (p' : Int) (k' : Tr) : Prop :=
  ∀ (X : Ctx) (t : Nat → T) (H : HMap) (c : Nat) (q0 : Int), t 0 = rP v → (∃ u, t 3 = .c (.ptr 3 u 0) ∧ H 3 = some (.var u 29 [.v (.s (.int .i64 s)), .v (.s (.int .i64 n)), .v (.s (.string x)), .v (.sl (encS ns)), .v (.sl (encTs ks))])) → (∃ u, t 4 = .c (.ptr 4 u 0) ∧ H 4 = some (.var u 29 zT)) → H 1000 = some (rdr v bs p) →
    wpa Try.prog X c37_54 (thenW Try.prog X (.seq (.reg r37_55) .ret) (endA (FinC s37 (tT k') [rH v bs q0 p']))) ⟨t, H, c⟩
theorem UKs_1 : (type_of% (uA c37.eq_1)) ∧ (type_of% (uR r37_0.eq_1)) ∧ (type_of% (uA c37_9.eq_1)) ∧ (type_of% (uR r37_1.eq_1)) ∧ (type_of% (uA c37_8.eq_1)) ∧ (type_of% (uA c37_7.eq_1)) ∧ (type_of% (uR r37_2.eq_1)) ∧ (type_of% (uR r37_3.eq_1)) ∧ (type_of% (uR r37_4.eq_1)) ∧ (type_of% (uR r37_5.eq_1)) ∧ (type_of% (uR r37_6.eq_1)) ∧ (type_of% (uA c37_54.eq_1)) ∧ (type_of% (uR r37_10.eq_1)) ∧ (type_of% (uA c37_53.eq_1)) ∧ (type_of% (uA c37_52.eq_1)) ∧ (type_of% (uR r37_11.eq_1)) ∧ (type_of% (uA c37_51.eq_1)) ∧ (type_of% (uR r37_12.eq_1)) ∧ (type_of% (uA c37_50.eq_1)) ∧ (type_of% (uR r37_13.eq_1)) ∧ (type_of% (uA c37_49.eq_1)) ∧ (type_of% (uR r37_14.eq_1)) ∧ (type_of% (uA c37_48.eq_1)) ∧ (type_of% (uR r37_15.eq_1)) ∧ (type_of% (uA c37_47.eq_1)) ∧ (type_of% (uR r37_16.eq_1)) ∧ (type_of% (uA c37_46.eq_1)) ∧ (type_of% (uR r37_17.eq_1)) ∧ (type_of% (uA c37_45.eq_1)) ∧ (type_of% (uR r37_18.eq_1)) ∧ (type_of% (uA c37_44.eq_1)) ∧ (type_of% (uR r37_19.eq_1)) ∧ (type_of% (uA c37_43.eq_1)) ∧ (type_of% (uR r37_20.eq_1)) ∧ (type_of% (uA c37_42.eq_1)) ∧ (type_of% (uR r37_21.eq_1)) ∧ (type_of% (uA c37_41.eq_1)) ∧ (type_of% (uA c37_24.eq_1)) ∧ (type_of% (uR r37_22.eq_1)) ∧ (type_of% (uR r37_23.eq_1)) ∧ (type_of% (uA c37_40.eq_1)) ∧ (type_of% (uR r37_25.eq_1)) ∧ (type_of% (uA c37_39.eq_1)) ∧ (type_of% (uA c37_37.eq_1)) ∧ (type_of% (uR r37_26.eq_1)) ∧ (type_of% (uR r37_27.eq_1)) ∧ (type_of% (uA c37_36.eq_1)) ∧ (type_of% (uA c37_35.eq_1)) ∧ (type_of% (uR r37_38.eq_1)) ∧ (type_of% (uR r37_55.eq_1)) ∧ (type_of% s37.eq_1) :=
  ⟨uA c37.eq_1, uR r37_0.eq_1, uA c37_9.eq_1, uR r37_1.eq_1, uA c37_8.eq_1, uA c37_7.eq_1, uR r37_2.eq_1, uR r37_3.eq_1, uR r37_4.eq_1, uR r37_5.eq_1, uR r37_6.eq_1, uA c37_54.eq_1, uR r37_10.eq_1, uA c37_53.eq_1, uA c37_52.eq_1, uR r37_11.eq_1, uA c37_51.eq_1, uR r37_12.eq_1, uA c37_50.eq_1, uR r37_13.eq_1, uA c37_49.eq_1, uR r37_14.eq_1, uA c37_48.eq_1, uR r37_15.eq_1, uA c37_47.eq_1, uR r37_16.eq_1, uA c37_46.eq_1, uR r37_17.eq_1, uA c37_45.eq_1, uR r37_18.eq_1, uA c37_44.eq_1, uR r37_19.eq_1, uA c37_43.eq_1, uR r37_20.eq_1, uA c37_42.eq_1, uR r37_21.eq_1, uA c37_41.eq_1, uA c37_24.eq_1, uR r37_22.eq_1, uR r37_23.eq_1, uA c37_40.eq_1, uR r37_25.eq_1, uA c37_39.eq_1, uA c37_37.eq_1, uR r37_26.eq_1, uR r37_27.eq_1, uA c37_36.eq_1, uA c37_35.eq_1, uR r37_38.eq_1, uR r37_55.eq_1, s37.eq_1⟩
section
variable (v : Nat) (bs : List UInt8) (s n : Int) (x : ByteArray) (ns : List ByteArray) (ks : List Tr) (p j : Int) (hC : ACallsF Try.prog 36 [rP v, .i 8] [rH v bs p (p + 1)] (.i j))
include hC
theorem spoilT_0 (h : j = 0) (m : Int) (hC2 : ACallsF Try.prog 36 [rP v, .i 8] [rH v bs (p + 1) (p + 1 + 1)] (.i m)) : SpoilTT v bs s n x ns ks p (p + 1 + 1) (.mk m n x ns ks) := by
  subst h
  rintro X t H c q0 e0 ⟨u3, e3, eH3⟩ ⟨u4, e4, eH4⟩ eH
  simp only [T.c, T.i, rdr] at e0 e3 eH3 e4 eH4 eH
  simp only [RUN, core, T.c, T.s, T.b, T.i, sBin, sInt, sUn, isShift, asInt, P1.cells, loadT, ptrC, storeT, putC, fillP, Nat.reduceAdd, reduceIte, Nat.reduceEqDiff, Nat.reduceLT, Nat.reduceLeDiff, reduceCtorEq, eq_self, FIT, lendCs_map, verC_map, FinC, resPs, resP, lendPl, lendCs, lendC, sealC, partsT, finHs, tupT, verT, verP, verC, verB, verAt, Blk.ver, handsAre, forall_const, UKs_1, e0]
  refine callRc hC rfl rfl rfl rfl eH ⟨rfl, ?_⟩
  simp only [RUN, core, T.c, T.s, T.b, T.i, sBin, sInt, sUn, isShift, asInt, P1.cells, loadT, ptrC, storeT, putC, fillP, Nat.reduceAdd, reduceIte, Nat.reduceEqDiff, Nat.reduceLT, Nat.reduceLeDiff, reduceCtorEq, eq_self, FIT, lendCs_map, verC_map, FinC, resPs, resP, lendPl, lendCs, lendC, sealC, partsT, finHs, tupT, verT, verP, verC, verB, verAt, Blk.ver, handsAre, forall_const, UKs_1, e0, Int.reduceBEq]
  refine callRc hC2 rfl rfl rfl rfl rfl ⟨rfl, ?_⟩
  simp only [RUN, core, T.c, T.s, T.b, T.i, sBin, sInt, sUn, isShift, asInt, P1.cells, loadT, ptrC, storeT, putC, fillP, Nat.reduceAdd, reduceIte, Nat.reduceEqDiff, Nat.reduceLT, Nat.reduceLeDiff, reduceCtorEq, eq_self, FIT, lendCs_map, verC_map, FinC, resPs, resP, lendPl, lendCs, lendC, sealC, partsT, finHs, tupT, verT, verP, verC, verB, verAt, Blk.ver, handsAre, forall_const, CHT, disj, Nat.reduceBEq, beq_self_eq_true, APT, srcOf, sealPs, sealCs, sealC, List.mem_singleton, forall_eq, rH, rdr, UKs_1, e3, eH3, e4, eH4, encT_mk]
theorem spoilT_1 (h : j = 1) (m : Int) (hm : 0 ≤ m ∧ m < 5) (hC2 : ACallsF Try.prog 36 [rP v, .i 5] [rH v bs (p + 1) (p + 1 + 1)] (.i m)) : ∃ n', SpoilTT v bs s n x ns ks p (p + 1 + 1) (.mk s n' x ns ks) := by
  subst h
  obtain ⟨n', hn'⟩ : ∃ n' : Int, ([[.s (.int .i64 1)], [.s (.int .i64 2)], [.s (.int .i64 (-1))], [.s (.int .i64 1000000000)], [.s (.int .i64 (-1000000000))]] : List (List V))[m.toNat]? = some [.s (.int .i64 n')] := by
    rcases (by omega : m = 0 ∨ m = 1 ∨ m = 2 ∨ m = 3 ∨ m = 4) with h | h | h | h | h <;> subst h <;> exact ⟨_, rfl⟩
  refine ⟨n', ?_⟩
  rintro X t H c q0 e0 ⟨u3, e3, eH3⟩ ⟨u4, e4, eH4⟩ eH
  simp only [T.c, T.i, rdr] at e0 e3 eH3 e4 eH4 eH
  have m0 := hm.1
  have m5 : m < ((5 : Nat) : Int) := by omega
  simp only [RUN, core, T.c, T.s, T.b, T.i, sBin, sInt, sUn, isShift, asInt, P1.cells, loadT, ptrC, storeT, putC, fillP, Nat.reduceAdd, reduceIte, Nat.reduceEqDiff, Nat.reduceLT, Nat.reduceLeDiff, reduceCtorEq, eq_self, FIT, lendCs_map, verC_map, FinC, resPs, resP, lendPl, lendCs, lendC, sealC, partsT, finHs, tupT, verT, verP, verC, verB, verAt, Blk.ver, handsAre, forall_const, UKs_1, e0]
  refine callRc hC rfl rfl rfl rfl eH ⟨rfl, ?_⟩
  simp only [RUN, core, T.c, T.s, T.b, T.i, sBin, sInt, sUn, isShift, asInt, P1.cells, loadT, ptrC, storeT, putC, fillP, Nat.reduceAdd, reduceIte, Nat.reduceEqDiff, Nat.reduceLT, Nat.reduceLeDiff, reduceCtorEq, eq_self, FIT, lendCs_map, verC_map, FinC, resPs, resP, lendPl, lendCs, lendC, sealC, partsT, finHs, tupT, verT, verP, verC, verB, verAt, Blk.ver, handsAre, forall_const, UKs_1, e0, Int.reduceBEq, APT, srcOf, sealPs, sealCs, sealC, List.mem_singleton, forall_eq]
  refine callRc hC2 rfl rfl rfl rfl rfl ⟨?_, ?_⟩
  · simp only [RUN, core, T.c, T.s, T.b, T.i, sBin, sInt, sUn, isShift, asInt, P1.cells, loadT, ptrC, storeT, putC, fillP, Nat.reduceAdd, reduceIte, Nat.reduceEqDiff, Nat.reduceLT, Nat.reduceLeDiff, reduceCtorEq, eq_self, FIT, lendCs_map, verC_map, FinC, resPs, resP, lendPl, lendCs, lendC, sealC, partsT, finHs, tupT, verT, verP, verC, verB, verAt, Blk.ver, handsAre, forall_const, CHT, disj, Nat.reduceBEq, beq_self_eq_true, APT, srcOf, sealPs, sealCs, sealC, List.mem_singleton, forall_eq]
  simp only [RUN, core, T.c, T.s, T.b, T.i, sBin, sInt, sUn, isShift, asInt, P1.cells, loadT, ptrC, storeT, putC, fillP, Nat.reduceAdd, reduceIte, Nat.reduceEqDiff, Nat.reduceLT, Nat.reduceLeDiff, reduceCtorEq, eq_self, FIT, lendCs_map, verC_map, FinC, resPs, resP, lendPl, lendCs, lendC, sealC, partsT, finHs, tupT, verT, verP, verC, verB, verAt, Blk.ver, handsAre, forall_const, CHT, disj, Nat.reduceBEq, beq_self_eq_true, APT, srcOf, sealPs, sealCs, sealC, List.mem_singleton, forall_eq, rH, rdr, UKs_1, e3, eH3, e4, eH4, encT_mk, hn', m0, m5]
theorem spoilT_2 (h : j = 2) (y : ByteArray) (hC2 : ACallsF Try.prog 72 [rP v, .c (.v (.sl (encS texts61)))] [rH v bs (p + 1) (p + 1 + 1)] (.s (.string y))) : SpoilTT v bs s n x ns ks p (p + 1 + 1) (.mk s n y ns ks) := by
  subst h
  rintro X t H c q0 e0 ⟨u3, e3, eH3⟩ ⟨u4, e4, eH4⟩ eH
  simp only [T.c, T.i, rdr] at e0 e3 eH3 e4 eH4 eH
  have hm := many_ok ⟨#[120]⟩ 61 ⟨by decide, by decide, by decide⟩
  simp only [RUN, core, T.c, T.s, T.b, T.i, sBin, sInt, sUn, isShift, asInt, P1.cells, loadT, ptrC, storeT, putC, fillP, Nat.reduceAdd, reduceIte, Nat.reduceEqDiff, Nat.reduceLT, Nat.reduceLeDiff, reduceCtorEq, eq_self, FIT, lendCs_map, verC_map, FinC, resPs, resP, lendPl, lendCs, lendC, sealC, partsT, finHs, tupT, verT, verP, verC, verB, verAt, Blk.ver, handsAre, forall_const, UKs_1, e0]
  refine callRc hC rfl rfl rfl rfl eH ⟨rfl, ?_⟩
  simp only [RUN, core, T.c, T.s, T.b, T.i, sBin, sInt, sUn, isShift, asInt, P1.cells, loadT, ptrC, storeT, putC, fillP, Nat.reduceAdd, reduceIte, Nat.reduceEqDiff, Nat.reduceLT, Nat.reduceLeDiff, reduceCtorEq, eq_self, FIT, lendCs_map, verC_map, FinC, resPs, resP, lendPl, lendCs, lendC, sealC, partsT, finHs, tupT, verT, verP, verC, verB, verAt, Blk.ver, handsAre, forall_const, UKs_1, e0, Int.reduceBEq, APT, srcOf, sealPs, sealCs, sealC, List.mem_singleton, forall_eq]
  refine callC hm rfl rfl rfl rfl ?_
  simp only [RUN, core, T.c, T.s, T.b, T.i, sBin, sInt, sUn, isShift, asInt, P1.cells, loadT, ptrC, storeT, putC, fillP, Nat.reduceAdd, reduceIte, Nat.reduceEqDiff, Nat.reduceLT, Nat.reduceLeDiff, reduceCtorEq, eq_self, FIT, lendCs_map, verC_map, FinC, resPs, resP, lendPl, lendCs, lendC, sealC, partsT, finHs, tupT, verT, verP, verC, verB, verAt, Blk.ver, handsAre, forall_const, CHT, disj, Nat.reduceBEq, beq_self_eq_true, APT, srcOf, sealPs, sealCs, sealC, List.mem_singleton, forall_eq, UKs_1]
  refine callR (ws := [(58, .arr (c + 2 + 2 + 2 + 2 + 2) false 1 9 (encS texts61))]) (ns := [58]) hC2 rfl ?_ rfl rfl rfl ⟨?_, ?_⟩
  · simp only [RUN, core, T.c, T.s, T.b, T.i, sBin, sInt, sUn, isShift, asInt, P1.cells, loadT, ptrC, storeT, putC, fillP, Nat.reduceAdd, reduceIte, Nat.reduceEqDiff, Nat.reduceLT, Nat.reduceLeDiff, reduceCtorEq, eq_self, FIT, lendCs_map, verC_map, FinC, resPs, resP, lendPl, lendCs, lendC, sealC, partsT, finHs, tupT, verT, verP, verC, verB, verAt, Blk.ver, handsAre, forall_const, APT, srcOf, sealPs, sealCs, sealC, List.mem_singleton, forall_eq, lendTs, lendT, rP, Nat.le_refl, List.take]
    rfl
  · simp only [RUN, core, T.c, T.s, T.b, T.i, sBin, sInt, sUn, isShift, asInt, P1.cells, loadT, ptrC, storeT, putC, fillP, Nat.reduceAdd, reduceIte, Nat.reduceEqDiff, Nat.reduceLT, Nat.reduceLeDiff, reduceCtorEq, eq_self, FIT, lendCs_map, verC_map, FinC, resPs, resP, lendPl, lendCs, lendC, sealC, partsT, finHs, tupT, verT, verP, verC, verB, verAt, Blk.ver, handsAre, forall_const, CHT, disj, Nat.reduceBEq, beq_self_eq_true, APT, srcOf, sealPs, sealCs, sealC, List.mem_singleton, forall_eq]
  simp only [RUN, core, T.c, T.s, T.b, T.i, sBin, sInt, sUn, isShift, asInt, P1.cells, loadT, ptrC, storeT, putC, fillP, Nat.reduceAdd, reduceIte, Nat.reduceEqDiff, Nat.reduceLT, Nat.reduceLeDiff, reduceCtorEq, eq_self, FIT, lendCs_map, verC_map, FinC, resPs, resP, lendPl, lendCs, lendC, sealC, partsT, finHs, tupT, verT, verP, verC, verB, verAt, Blk.ver, handsAre, forall_const, CHT, disj, Nat.reduceBEq, beq_self_eq_true, APT, srcOf, sealPs, sealCs, sealC, List.mem_singleton, forall_eq, ALT, rH, rdr, UKs_1, e3, eH3, e4, eH4, encT_mk]
theorem spoilT_3 (h : j = 3) (hl : ns.length ≤ 1000) (y : ByteArray) (hC2 : ACallsF Try.prog 72 [rP v, .c (.v (.sl (encS texts5)))] [rH v bs (p + 1) (p + 1 + 1)] (.s (.string y))) : SpoilTT v bs s n x ns ks p (p + 1 + 1) (.mk s n x (ns ++ [y]) ks) := by
  subst h
  rintro X t H c q0 e0 ⟨u3, e3, eH3⟩ ⟨u4, e4, eH4⟩ eH
  simp only [T.c, T.i, rdr] at e0 e3 eH3 e4 eH4 eH
  have q1 : ns.length * 16 ≤ 140737488355328 := by omega
  have q2 : ns.length ≤ 9223372036854775807 := by omega
  have q3 : (ns.length + 1) * 16 ≤ 140737488355328 := by omega
  have q4 : ns.length ≤ 9223372036854775806 := by omega
  simp only [RUN, core, T.c, T.s, T.b, T.i, sBin, sInt, sUn, isShift, asInt, P1.cells, loadT, ptrC, storeT, putC, fillP, Nat.reduceAdd, reduceIte, Nat.reduceEqDiff, Nat.reduceLT, Nat.reduceLeDiff, reduceCtorEq, eq_self, FIT, lendCs_map, verC_map, FinC, resPs, resP, lendPl, lendCs, lendC, sealC, partsT, finHs, tupT, verT, verP, verC, verB, verAt, Blk.ver, handsAre, forall_const, UKs_1, e0]
  refine callRc hC rfl rfl rfl rfl eH ⟨rfl, ?_⟩
  simp only [RUN, core, T.c, T.s, T.b, T.i, sBin, sInt, sUn, isShift, asInt, P1.cells, loadT, ptrC, storeT, putC, fillP, Nat.reduceAdd, reduceIte, Nat.reduceEqDiff, Nat.reduceLT, Nat.reduceLeDiff, reduceCtorEq, eq_self, FIT, lendCs_map, verC_map, FinC, resPs, resP, lendPl, lendCs, lendC, sealC, partsT, finHs, tupT, verT, verP, verC, verB, verAt, Blk.ver, handsAre, forall_const, CHT, disj, Nat.reduceBEq, beq_self_eq_true, APT, srcOf, sealPs, sealCs, sealC, List.mem_singleton, forall_eq, ALT, UKs_1, e0, e3, eH3, Int.reduceBEq, encS_len, q1, q2]
  refine callR (ws := [(68, .arr (c + 2 + 2 + 2 + 2 + 2 + 5) false 1 9 (encS texts5))]) (ns := [68]) hC2 rfl ?_ rfl rfl rfl ⟨?_, ?_⟩
  · simp only [RUN, core, T.c, T.s, T.b, T.i, sBin, sInt, sUn, isShift, asInt, P1.cells, loadT, ptrC, storeT, putC, fillP, Nat.reduceAdd, reduceIte, Nat.reduceEqDiff, Nat.reduceLT, Nat.reduceLeDiff, reduceCtorEq, eq_self, FIT, lendCs_map, verC_map, FinC, resPs, resP, lendPl, lendCs, lendC, sealC, partsT, finHs, tupT, verT, verP, verC, verB, verAt, Blk.ver, handsAre, forall_const, APT, srcOf, sealPs, sealCs, sealC, List.mem_singleton, forall_eq, lendTs, lendT, rP, Nat.le_refl, List.take]
    rfl
  · simp only [RUN, core, T.c, T.s, T.b, T.i, sBin, sInt, sUn, isShift, asInt, P1.cells, loadT, ptrC, storeT, putC, fillP, Nat.reduceAdd, reduceIte, Nat.reduceEqDiff, Nat.reduceLT, Nat.reduceLeDiff, reduceCtorEq, eq_self, FIT, lendCs_map, verC_map, FinC, resPs, resP, lendPl, lendCs, lendC, sealC, partsT, finHs, tupT, verT, verP, verC, verB, verAt, Blk.ver, handsAre, forall_const, CHT, disj, Nat.reduceBEq, beq_self_eq_true, APT, srcOf, sealPs, sealCs, sealC, List.mem_singleton, forall_eq]
  simp only [RUN, core, T.c, T.s, T.b, T.i, sBin, sInt, sUn, isShift, asInt, P1.cells, loadT, ptrC, storeT, putC, fillP, Nat.reduceAdd, reduceIte, Nat.reduceEqDiff, Nat.reduceLT, Nat.reduceLeDiff, reduceCtorEq, eq_self, FIT, lendCs_map, verC_map, FinC, resPs, resP, lendPl, lendCs, lendC, sealC, partsT, finHs, tupT, verT, verP, verC, verB, verAt, Blk.ver, handsAre, forall_const, CHT, disj, Nat.reduceBEq, beq_self_eq_true, APT, srcOf, sealPs, sealCs, sealC, List.mem_singleton, forall_eq, ALT, rH, rdr, UKs_1, e3, eH3, e4, eH4, encT_mk, encS_len, q3, q4]
theorem spoilT_4 (h : j = 4) (hl : ks.length ≤ 1000) : SpoilTT v bs s n x ns ks p (p + 1) (.mk s n x ns (ks ++ [zTr])) := by
  subst h
  rintro X t H c q0 e0 ⟨u3, e3, eH3⟩ ⟨u4, e4, eH4⟩ eH
  simp only [T.c, T.i, rdr] at e0 e3 eH3 e4 eH4 eH
  have q1 : ks.length * 80 ≤ 140737488355328 := by omega
  have q2 : ks.length ≤ 9223372036854775807 := by omega
  have q3 : (ks.length + 1) * 80 ≤ 140737488355328 := by omega
  have q4 : ks.length ≤ 9223372036854775806 := by omega
  simp only [RUN, core, T.c, T.s, T.b, T.i, sBin, sInt, sUn, isShift, asInt, P1.cells, loadT, ptrC, storeT, putC, fillP, Nat.reduceAdd, reduceIte, Nat.reduceEqDiff, Nat.reduceLT, Nat.reduceLeDiff, reduceCtorEq, eq_self, FIT, lendCs_map, verC_map, FinC, resPs, resP, lendPl, lendCs, lendC, sealC, partsT, finHs, tupT, verT, verP, verC, verB, verAt, Blk.ver, handsAre, forall_const, UKs_1, e0]
  refine callRc hC rfl rfl rfl rfl eH ⟨rfl, ?_⟩
  simp only [RUN, core, T.c, T.s, T.b, T.i, sBin, sInt, sUn, isShift, asInt, P1.cells, loadT, ptrC, storeT, putC, fillP, Nat.reduceAdd, reduceIte, Nat.reduceEqDiff, Nat.reduceLT, Nat.reduceLeDiff, reduceCtorEq, eq_self, FIT, lendCs_map, verC_map, FinC, resPs, resP, lendPl, lendCs, lendC, sealC, partsT, finHs, tupT, verT, verP, verC, verB, verAt, Blk.ver, handsAre, forall_const, CHT, disj, Nat.reduceBEq, beq_self_eq_true, APT, srcOf, sealPs, sealCs, sealC, List.mem_singleton, forall_eq, ALT, rH, rdr, UKs_1, e0, e3, eH3, e4, eH4, Int.reduceBEq, encTs_len, encT_mk, enc_zTr, q1, q2, q3, q4]
theorem spoilT_5 (h : j = 5) (hl : ks.length ≤ 1000 ∧ ns.length ≤ 1000) (y : ByteArray) (hC2 : ACallsF Try.prog 72 [rP v, .c (.v (.sl (encS texts3)))] [rH v bs (p + 1) (p + 1 + 1)] (.s (.string y))) : SpoilTT v bs s n x ns ks p (p + 1 + 1) (.mk s n x (ns ++ [y]) (ks ++ [zTr])) := by
  subst h
  rintro X t H c q0 e0 ⟨u3, e3, eH3⟩ ⟨u4, e4, eH4⟩ eH
  simp only [T.c, T.i, rdr] at e0 e3 eH3 e4 eH4 eH
  have q1 : ns.length * 16 ≤ 140737488355328 := by omega
  have q2 : ns.length ≤ 9223372036854775807 := by omega
  have q3 : (ns.length + 1) * 16 ≤ 140737488355328 := by omega
  have q4 : ns.length ≤ 9223372036854775806 := by omega
  have r1 : ks.length * 80 ≤ 140737488355328 := by omega
  have r2 : ks.length ≤ 9223372036854775807 := by omega
  have r3 : (ks.length + 1) * 80 ≤ 140737488355328 := by omega
  have r4 : ks.length ≤ 9223372036854775806 := by omega
  simp only [RUN, core, T.c, T.s, T.b, T.i, sBin, sInt, sUn, isShift, asInt, P1.cells, loadT, ptrC, storeT, putC, fillP, Nat.reduceAdd, reduceIte, Nat.reduceEqDiff, Nat.reduceLT, Nat.reduceLeDiff, reduceCtorEq, eq_self, FIT, lendCs_map, verC_map, FinC, resPs, resP, lendPl, lendCs, lendC, sealC, partsT, finHs, tupT, verT, verP, verC, verB, verAt, Blk.ver, handsAre, forall_const, UKs_1, e0]
  refine callRc hC rfl rfl rfl rfl eH ⟨rfl, ?_⟩
  simp only [RUN, core, T.c, T.s, T.b, T.i, sBin, sInt, sUn, isShift, asInt, P1.cells, loadT, ptrC, storeT, putC, fillP, Nat.reduceAdd, reduceIte, Nat.reduceEqDiff, Nat.reduceLT, Nat.reduceLeDiff, reduceCtorEq, eq_self, FIT, lendCs_map, verC_map, FinC, resPs, resP, lendPl, lendCs, lendC, sealC, partsT, finHs, tupT, verT, verP, verC, verB, verAt, Blk.ver, handsAre, forall_const, CHT, disj, Nat.reduceBEq, beq_self_eq_true, APT, srcOf, sealPs, sealCs, sealC, List.mem_singleton, forall_eq, ALT, UKs_1, e0, e3, eH3, Int.reduceBEq, encS_len, q1, q2]
  refine callR (ws := [(90, .arr (c + 2 + 2 + 2 + 2 + 2 + 2 + 2 + 5) false 1 9 (encS texts3))]) (ns := [90]) hC2 rfl ?_ rfl rfl rfl ⟨?_, ?_⟩
  · simp only [RUN, core, T.c, T.s, T.b, T.i, sBin, sInt, sUn, isShift, asInt, P1.cells, loadT, ptrC, storeT, putC, fillP, Nat.reduceAdd, reduceIte, Nat.reduceEqDiff, Nat.reduceLT, Nat.reduceLeDiff, reduceCtorEq, eq_self, FIT, lendCs_map, verC_map, FinC, resPs, resP, lendPl, lendCs, lendC, sealC, partsT, finHs, tupT, verT, verP, verC, verB, verAt, Blk.ver, handsAre, forall_const, APT, srcOf, sealPs, sealCs, sealC, List.mem_singleton, forall_eq, lendTs, lendT, rP, Nat.le_refl, List.take]
    rfl
  · simp only [RUN, core, T.c, T.s, T.b, T.i, sBin, sInt, sUn, isShift, asInt, P1.cells, loadT, ptrC, storeT, putC, fillP, Nat.reduceAdd, reduceIte, Nat.reduceEqDiff, Nat.reduceLT, Nat.reduceLeDiff, reduceCtorEq, eq_self, FIT, lendCs_map, verC_map, FinC, resPs, resP, lendPl, lendCs, lendC, sealC, partsT, finHs, tupT, verT, verP, verC, verB, verAt, Blk.ver, handsAre, forall_const, CHT, disj, Nat.reduceBEq, beq_self_eq_true, APT, srcOf, sealPs, sealCs, sealC, List.mem_singleton, forall_eq]
  simp only [RUN, core, T.c, T.s, T.b, T.i, sBin, sInt, sUn, isShift, asInt, P1.cells, loadT, ptrC, storeT, putC, fillP, Nat.reduceAdd, reduceIte, Nat.reduceEqDiff, Nat.reduceLT, Nat.reduceLeDiff, reduceCtorEq, eq_self, FIT, lendCs_map, verC_map, FinC, resPs, resP, lendPl, lendCs, lendC, sealC, partsT, finHs, tupT, verT, verP, verC, verB, verAt, Blk.ver, handsAre, forall_const, CHT, disj, Nat.reduceBEq, beq_self_eq_true, APT, srcOf, sealPs, sealCs, sealC, List.mem_singleton, forall_eq, ALT, rH, rdr, UKs_1, e3, eH3, e4, eH4, encT_mk, encS_len, encTs_len, enc_zTr, q3, q4, r1, r2, r3, r4]
theorem spoilT_7 (h : j = 7) : SpoilTT v bs s n x ns ks p (p + 1) (.mk s n x [] ks) := by
  subst h
  rintro X t H c q0 e0 ⟨u3, e3, eH3⟩ ⟨u4, e4, eH4⟩ eH
  simp only [T.c, T.i, rdr] at e0 e3 eH3 e4 eH4 eH
  simp only [RUN, core, T.c, T.s, T.b, T.i, sBin, sInt, sUn, isShift, asInt, P1.cells, loadT, ptrC, storeT, putC, fillP, Nat.reduceAdd, reduceIte, Nat.reduceEqDiff, Nat.reduceLT, Nat.reduceLeDiff, reduceCtorEq, eq_self, FIT, lendCs_map, verC_map, FinC, resPs, resP, lendPl, lendCs, lendC, sealC, partsT, finHs, tupT, verT, verP, verC, verB, verAt, Blk.ver, handsAre, forall_const, UKs_1, e0]
  refine callRc hC rfl rfl rfl rfl eH ⟨rfl, ?_⟩
  simp only [RUN, core, T.c, T.s, T.b, T.i, sBin, sInt, sUn, isShift, asInt, P1.cells, loadT, ptrC, storeT, putC, fillP, Nat.reduceAdd, reduceIte, Nat.reduceEqDiff, Nat.reduceLT, Nat.reduceLeDiff, reduceCtorEq, eq_self, FIT, lendCs_map, verC_map, FinC, resPs, resP, lendPl, lendCs, lendC, sealC, partsT, finHs, tupT, verT, verP, verC, verB, verAt, Blk.ver, handsAre, forall_const, CHT, disj, Nat.reduceBEq, beq_self_eq_true, APT, srcOf, sealPs, sealCs, sealC, List.mem_singleton, forall_eq, ALT, rH, rdr, UKs_1, e0, e3, eH3, e4, eH4, Int.reduceBEq, encT_mk]
end
end Go.V
set_option linter.unusedSimpArgs false
namespace Go.V
open Go.Proofs
def S6KI (v : Nat) (bs : List UInt8) (s n : Int) (x : ByteArray) (ns : List ByteArray) (p : Int) (i : Nat) (σ : St) : Prop :=
  (∃ u b, σ.t 3 = .c (.ptr 3 u 0) ∧ σ.H 3 = some (.var u 29 [.v (.s (.int .i64 s)), .v (.s (.int .i64 n)), .v (.s (.string x)), .v (.sl (encS ns)), .own 105 b i]) ∧ σ.H 105 = some (.arr b true 5 29 (encTs (List.replicate i zTr)))) ∧
  (∃ u, σ.t 4 = .c (.ptr 4 u 0) ∧ σ.H 4 = some (.var u 29 zT)) ∧ σ.t 7 = .i i ∧ σ.H 1000 = some (rdr v bs p)
theorem UKt_1 : (type_of% (uA c37.eq_1)) ∧ (type_of% (uR r37_0.eq_1)) ∧ (type_of% (uA c37_9.eq_1)) ∧ (type_of% (uR r37_1.eq_1)) ∧ (type_of% (uA c37_8.eq_1)) ∧ (type_of% (uA c37_7.eq_1)) ∧ (type_of% (uR r37_2.eq_1)) ∧ (type_of% (uR r37_3.eq_1)) ∧ (type_of% (uR r37_4.eq_1)) ∧ (type_of% (uR r37_5.eq_1)) ∧ (type_of% (uR r37_6.eq_1)) ∧ (type_of% (uA c37_54.eq_1)) ∧ (type_of% (uR r37_10.eq_1)) ∧ (type_of% (uA c37_53.eq_1)) ∧ (type_of% (uA c37_52.eq_1)) ∧ (type_of% (uR r37_11.eq_1)) ∧ (type_of% (uA c37_51.eq_1)) ∧ (type_of% (uR r37_12.eq_1)) ∧ (type_of% (uA c37_50.eq_1)) ∧ (type_of% (uR r37_13.eq_1)) ∧ (type_of% (uA c37_49.eq_1)) ∧ (type_of% (uR r37_14.eq_1)) ∧ (type_of% (uA c37_48.eq_1)) ∧ (type_of% (uR r37_15.eq_1)) ∧ (type_of% (uA c37_47.eq_1)) ∧ (type_of% (uR r37_16.eq_1)) ∧ (type_of% (uA c37_46.eq_1)) ∧ (type_of% (uR r37_17.eq_1)) ∧ (type_of% (uA c37_45.eq_1)) ∧ (type_of% (uR r37_18.eq_1)) ∧ (type_of% (uA c37_44.eq_1)) ∧ (type_of% (uR r37_19.eq_1)) ∧ (type_of% (uA c37_43.eq_1)) ∧ (type_of% (uR r37_20.eq_1)) ∧ (type_of% (uA c37_42.eq_1)) ∧ (type_of% (uR r37_21.eq_1)) ∧ (type_of% (uA c37_41.eq_1)) ∧ (type_of% (uA c37_24.eq_1)) ∧ (type_of% (uR r37_22.eq_1)) ∧ (type_of% (uR r37_23.eq_1)) ∧ (type_of% (uA c37_40.eq_1)) ∧ (type_of% (uR r37_25.eq_1)) ∧ (type_of% (uA c37_39.eq_1)) ∧ (type_of% (uA c37_37.eq_1)) ∧ (type_of% (uR r37_26.eq_1)) ∧ (type_of% (uR r37_27.eq_1)) ∧ (type_of% (uA c37_36.eq_1)) ∧ (type_of% (uA c37_35.eq_1)) ∧ (type_of% (uR r37_38.eq_1)) ∧ (type_of% (uR r37_55.eq_1)) ∧ (type_of% s37.eq_1) :=
  ⟨uA c37.eq_1, uR r37_0.eq_1, uA c37_9.eq_1, uR r37_1.eq_1, uA c37_8.eq_1, uA c37_7.eq_1, uR r37_2.eq_1, uR r37_3.eq_1, uR r37_4.eq_1, uR r37_5.eq_1, uR r37_6.eq_1, uA c37_54.eq_1, uR r37_10.eq_1, uA c37_53.eq_1, uA c37_52.eq_1, uR r37_11.eq_1, uA c37_51.eq_1, uR r37_12.eq_1, uA c37_50.eq_1, uR r37_13.eq_1, uA c37_49.eq_1, uR r37_14.eq_1, uA c37_48.eq_1, uR r37_15.eq_1, uA c37_47.eq_1, uR r37_16.eq_1, uA c37_46.eq_1, uR r37_17.eq_1, uA c37_45.eq_1, uR r37_18.eq_1, uA c37_44.eq_1, uR r37_19.eq_1, uA c37_43.eq_1, uR r37_20.eq_1, uA c37_42.eq_1, uR r37_21.eq_1, uA c37_41.eq_1, uA c37_24.eq_1, uR r37_22.eq_1, uR r37_23.eq_1, uA c37_40.eq_1, uR r37_25.eq_1, uA c37_39.eq_1, uA c37_37.eq_1, uR r37_26.eq_1, uR r37_27.eq_1, uA c37_36.eq_1, uA c37_35.eq_1, uR r37_38.eq_1, uR r37_55.eq_1, s37.eq_1⟩
theorem UKt_3 : (type_of% (uA c37_34.eq_1)) ∧ (type_of% (uA c37_30.eq_1)) ∧ (type_of% (uR r37_28.eq_1)) ∧ (type_of% (uA c37_29.eq_1)) ∧ (type_of% (uA c37_32.eq_1)) ∧ (type_of% (uR r37_31.eq_1)) ∧ (type_of% (uR r37_33.eq_1)) ∧ (type_of% (uA c37.eq_1)) ∧ (type_of% (uR r37_0.eq_1)) ∧ (type_of% (uA c37_9.eq_1)) ∧ (type_of% (uR r37_1.eq_1)) ∧ (type_of% (uA c37_8.eq_1)) ∧ (type_of% (uA c37_7.eq_1)) ∧ (type_of% (uR r37_2.eq_1)) ∧ (type_of% (uR r37_3.eq_1)) ∧ (type_of% (uR r37_4.eq_1)) ∧ (type_of% (uR r37_5.eq_1)) ∧ (type_of% (uR r37_6.eq_1)) ∧ (type_of% (uA c37_54.eq_1)) ∧ (type_of% (uR r37_10.eq_1)) ∧ (type_of% (uA c37_53.eq_1)) ∧ (type_of% (uA c37_52.eq_1)) ∧ (type_of% (uR r37_11.eq_1)) ∧ (type_of% (uA c37_51.eq_1)) ∧ (type_of% (uR r37_12.eq_1)) ∧ (type_of% (uA c37_50.eq_1)) ∧ (type_of% (uR r37_13.eq_1)) ∧ (type_of% (uA c37_49.eq_1)) ∧ (type_of% (uR r37_14.eq_1)) ∧ (type_of% (uA c37_48.eq_1)) ∧ (type_of% (uR r37_15.eq_1)) ∧ (type_of% (uA c37_47.eq_1)) ∧ (type_of% (uR r37_16.eq_1)) ∧ (type_of% (uA c37_46.eq_1)) ∧ (type_of% (uR r37_17.eq_1)) ∧ (type_of% (uA c37_45.eq_1)) ∧ (type_of% (uR r37_18.eq_1)) ∧ (type_of% (uA c37_44.eq_1)) ∧ (type_of% (uR r37_19.eq_1)) ∧ (type_of% (uA c37_43.eq_1)) ∧ (type_of% (uR r37_20.eq_1)) ∧ (type_of% (uA c37_42.eq_1)) ∧ (type_of% (uR r37_21.eq_1)) ∧ (type_of% (uA c37_41.eq_1)) ∧ (type_of% (uA c37_24.eq_1)) ∧ (type_of% (uR r37_22.eq_1)) ∧ (type_of% (uR r37_23.eq_1)) ∧ (type_of% (uA c37_40.eq_1)) ∧ (type_of% (uR r37_25.eq_1)) ∧ (type_of% (uA c37_39.eq_1)) ∧ (type_of% (uA c37_37.eq_1)) ∧ (type_of% (uR r37_26.eq_1)) ∧ (type_of% (uR r37_27.eq_1)) ∧ (type_of% (uA c37_36.eq_1)) ∧ (type_of% (uA c37_35.eq_1)) ∧ (type_of% (uR r37_38.eq_1)) ∧ (type_of% (uR r37_55.eq_1)) ∧ (type_of% s37.eq_1) :=
  ⟨uA c37_34.eq_1, uA c37_30.eq_1, uR r37_28.eq_1, uA c37_29.eq_1, uA c37_32.eq_1, uR r37_31.eq_1, uR r37_33.eq_1, uA c37.eq_1, uR r37_0.eq_1, uA c37_9.eq_1, uR r37_1.eq_1, uA c37_8.eq_1, uA c37_7.eq_1, uR r37_2.eq_1, uR r37_3.eq_1, uR r37_4.eq_1, uR r37_5.eq_1, uR r37_6.eq_1, uA c37_54.eq_1, uR r37_10.eq_1, uA c37_53.eq_1, uA c37_52.eq_1, uR r37_11.eq_1, uA c37_51.eq_1, uR r37_12.eq_1, uA c37_50.eq_1, uR r37_13.eq_1, uA c37_49.eq_1, uR r37_14.eq_1, uA c37_48.eq_1, uR r37_15.eq_1, uA c37_47.eq_1, uR r37_16.eq_1, uA c37_46.eq_1, uR r37_17.eq_1, uA c37_45.eq_1, uR r37_18.eq_1, uA c37_44.eq_1, uR r37_19.eq_1, uA c37_43.eq_1, uR r37_20.eq_1, uA c37_42.eq_1, uR r37_21.eq_1, uA c37_41.eq_1, uA c37_24.eq_1, uR r37_22.eq_1, uR r37_23.eq_1, uA c37_40.eq_1, uR r37_25.eq_1, uA c37_39.eq_1, uA c37_37.eq_1, uR r37_26.eq_1, uR r37_27.eq_1, uA c37_36.eq_1, uA c37_35.eq_1, uR r37_38.eq_1, uR r37_55.eq_1, s37.eq_1⟩
theorem spoilT_6 (v : Nat) (bs : List UInt8) (s n : Int) (x : ByteArray) (ns : List ByteArray) (ks : List Tr) (p j : Int) (hC : ACallsF Try.prog 36 [rP v, .i 8] [rH v bs p (p + 1)] (.i j)) (h : j = 6) : SpoilTT v bs s n x ns ks p (p + 1) (.mk s n x ns (List.replicate 21 zTr)) := by
  subst h
  rintro X t H c q0 e0 ⟨u3, e3, eH3⟩ ⟨u4, e4, eH4⟩ eH
  simp only [T.c, T.i, rdr] at e0 e3 eH3 e4 eH4 eH
  simp only [RUN, core, T.c, T.s, T.b, T.i, sBin, sInt, sUn, isShift, asInt, P1.cells, loadT, ptrC, storeT, putC, fillP, Nat.reduceAdd, reduceIte, Nat.reduceEqDiff, Nat.reduceLT, Nat.reduceLeDiff, reduceCtorEq, eq_self, FIT, lendCs_map, verC_map, FinC, resPs, resP, lendPl, lendCs, lendC, sealC, partsT, finHs, tupT, verT, verP, verC, verB, verAt, Blk.ver, handsAre, forall_const, UKt_1, e0]
  refine callRc hC rfl rfl rfl rfl eH ⟨rfl, ?_⟩
  simp only [RUN, core, T.c, T.s, T.b, T.i, sBin, sInt, sUn, isShift, asInt, P1.cells, loadT, ptrC, storeT, putC, fillP, Nat.reduceAdd, reduceIte, Nat.reduceEqDiff, Nat.reduceLT, Nat.reduceLeDiff, reduceCtorEq, eq_self, FIT, lendCs_map, verC_map, FinC, resPs, resP, lendPl, lendCs, lendC, sealC, partsT, finHs, tupT, verT, verP, verC, verB, verAt, Blk.ver, handsAre, forall_const, CHT, disj, Nat.reduceBEq, beq_self_eq_true, APT, srcOf, sealPs, sealCs, sealC, List.mem_singleton, forall_eq, ALT, UKt_1, e0, e3, eH3, Int.reduceBEq]
  refine AW.upto 21 (S6KI v bs s n x ns (p + 1)) ?_ fun i t H c hi h => ?_
  · unfold S6KI
    exact ⟨⟨u3, _, e3, rfl, rfl⟩, ⟨u4, e4, eH4⟩, rfl, rfl⟩
  clear e0 e3 eH3 e4 eH4 eH
  obtain ⟨⟨u3, b, e3, eH3, eHb⟩, ⟨u4, e4, eH4⟩, e7, eH⟩ := h
  simp only [T.c, T.i, rdr, zT] at e3 eH3 e4 eH4 e7 eH eHb
  by_cases hlt : i < 21
  · have k1 : (i : Int) ≤ 20 := by omega
    have gw : IntKind.i64.wrap ((i : Int) + 1) = ((i + 1 : Nat) : Int) := wrap64 (x := (i : Int) + 1) ⟨by omega, by omega⟩
    have q3 : (i + 1) * 80 ≤ 140737488355328 := by omega
    have q4 : i ≤ 9223372036854775806 := by omega
    have hlr : (encTs (List.replicate i zTr)).length = i := by rw [encTs_len, List.length_replicate]
    have htk : List.take i (encTs (List.replicate i zTr)) = encTs (List.replicate i zTr) := List.take_of_length_le (by omega)
    simp only [RUN, core, T.c, T.s, T.b, T.i, sBin, sInt, sUn, isShift, asInt, P1.cells, loadT, ptrC, storeT, putC, fillP, Nat.reduceAdd, reduceIte, Nat.reduceEqDiff, Nat.reduceLT, Nat.reduceLeDiff, reduceCtorEq, eq_self, FIT, lendCs_map, verC_map, FinC, resPs, resP, lendPl, lendCs, lendC, sealC, partsT, finHs, tupT, verT, verP, verC, verB, verAt, Blk.ver, handsAre, forall_const, CHT, disj, Nat.reduceBEq, beq_self_eq_true, APT, srcOf, sealPs, sealCs, sealC, List.mem_singleton, forall_eq, UKt_3, e3, eH3, e7, k1, gw, q3, q4, eHb, hlr, htk]
    have hr : encTs (List.replicate (i + 1) zTr) = encTs (List.replicate i zTr) ++ [[V.s (.int .i64 1), V.s (.int .i64 0), V.s (.string ⟨#[]⟩), V.sl [], V.sl []]] := by rw [List.replicate_succ', encTs_snoc, enc_zTr]
    unfold S6KI
    rw [hr]
    exact ⟨hlt, ⟨u3, _, e3, rfl, rfl⟩, ⟨u4, e4, eH4⟩, rfl, eH⟩
  · have hi21 : i = 21 := by omega
    subst hi21
    have k1 : ¬ ((21 : Nat) : Int) ≤ 20 := by omega
    have hlr : (encTs (List.replicate 21 zTr)).length = 21 := by rw [encTs_len, List.length_replicate]
    have htk : List.take 21 (encTs (List.replicate 21 zTr)) = encTs (List.replicate 21 zTr) := List.take_of_length_le (by omega)
    simp only [RUN, core, T.c, T.s, T.b, T.i, sBin, sInt, sUn, isShift, asInt, P1.cells, loadT, ptrC, storeT, putC, fillP, Nat.reduceAdd, reduceIte, Nat.reduceEqDiff, Nat.reduceLT, Nat.reduceLeDiff, reduceCtorEq, eq_self, FIT, lendCs_map, verC_map, FinC, resPs, resP, lendPl, lendCs, lendC, sealC, partsT, finHs, tupT, verT, verP, verC, verB, verAt, Blk.ver, handsAre, forall_const, CHT, disj, Nat.reduceBEq, beq_self_eq_true, APT, srcOf, sealPs, sealCs, sealC, List.mem_singleton, forall_eq, rH, rdr, UKt_3, UKt_1, e3, eH3, e4, eH4, e7, k1, eHb, eH, encT_mk, hlr, htk]
theorem spoilT_tail (v : Nat) (bs : List UInt8) (hb : bs.length ≤ 2000) (s n : Int) (x : ByteArray) (ns : List ByteArray) (ks : List Tr) (hB : TB 1000 (.mk s n x ns ks)) (p : Int) (hp : 0 ≤ p ∧ p ≤ 900000000000) :
    ∃ (p' : Int) (k' : Tr), p ≤ p' ∧ p' ≤ p + 2 ∧ TB 2000 k' ∧ SpoilTT v bs s n x ns ks p p' k' := by
  obtain ⟨b0, b1, b2, b3, b4⟩ := hB.inv
  have b3' : ∀ x ∈ ns, x.size ≤ 2000 := fun x hx => by have := b3 x hx; omega
  have b4' : ∀ k ∈ ks, TB 2000 k := fun k hk => (b4 k hk).le (by omega)
  have b3y : ∀ y : ByteArray, y.size ≤ 2000 → ∀ x ∈ ns ++ [y], x.size ≤ 2000 := fun y hy z hz => by
    rcases List.mem_append.1 hz with h | h
    · exact b3' z h
    · simp at h; subst h; exact hy
  have b4z : ∀ k ∈ ks ++ [zTr], TB 2000 k := fun z hz => by
    rcases List.mem_append.1 hz with h | h
    · exact b4' z h
    · simp at h; subst h; exact zTr_TB
  obtain ⟨j, j0, j1, hC⟩ := pick_ok v bs hb p 8 (by omega) (by omega)
  rcases (by omega : j = 0 ∨ j = 1 ∨ j = 2 ∨ j = 3 ∨ j = 4 ∨ j = 5 ∨ j = 6 ∨ j = 7) with h | h | h | h | h | h | h | h
  · obtain ⟨m, m0, m1, hC2⟩ := pick_ok v bs hb (p + 1) 8 (by omega) (by omega)
    exact ⟨_, _, by omega, by omega, .mk _ _ _ _ _ (by omega) (by omega) (by omega) b3' b4', spoilT_0 v bs s n x ns ks p j hC h m hC2⟩
  · obtain ⟨m, m0, m1, hC2⟩ := pick_ok v bs hb (p + 1) 5 (by omega) (by omega)
    obtain ⟨n', hT⟩ := spoilT_1 v bs s n x ns ks p j hC h m ⟨m0, m1⟩ hC2
    exact ⟨_, _, by omega, by omega, .mk _ _ _ _ _ (by omega) (by omega) (by omega) b3' b4', hT⟩
  · obtain ⟨y, hy, hC2⟩ := of_ok v bs hb (p + 1) (by omega) texts61 (by decide)
    exact ⟨_, _, by omega, by omega, .mk _ _ _ _ _ (texts61_size y hy) (by omega) (by omega) b3' b4', spoilT_2 v bs s n x ns ks p j hC h y hC2⟩
  · obtain ⟨y, hy, hC2⟩ := of_ok v bs hb (p + 1) (by omega) texts5 (by decide)
    exact ⟨_, _, by omega, by omega, .mk _ _ _ _ _ (by omega) (by simp; omega) (by omega) (b3y y (texts5_size y hy)) b4', spoilT_3 v bs s n x ns ks p j hC h b1 y hC2⟩
  · exact ⟨_, _, by omega, by omega, .mk _ _ _ _ _ (by omega) (by omega) (by simp; omega) b3' b4z, spoilT_4 v bs s n x ns ks p j hC h b2⟩
  · obtain ⟨y, hy, hC2⟩ := of_ok v bs hb (p + 1) (by omega) texts3 (by decide)
    exact ⟨_, _, by omega, by omega, .mk _ _ _ _ _ (by omega) (by simp; omega) (by simp; omega) (b3y y (texts3_size y hy)) b4z, spoilT_5 v bs s n x ns ks p j hC h ⟨b2, b1⟩ y hC2⟩
  · exact ⟨_, _, by omega, by omega, .mk _ _ _ _ _ (by omega) (by omega) (by simp) b3' (fun k hk => by rw [(List.mem_replicate.1 hk).2]; exact zTr_TB), spoilT_6 v bs s n x ns ks p j hC h⟩
  · exact ⟨_, _, by omega, by omega, .mk _ _ _ _ _ (by omega) (by simp) (by omega) (by simp) b4', spoilT_7 v bs s n x ns ks p j hC h⟩
theorem UKt_2 : (type_of% (uA c37.eq_1)) ∧ (type_of% (uR r37_0.eq_1)) ∧ (type_of% (uA c37_9.eq_1)) ∧ (type_of% (uR r37_1.eq_1)) ∧ (type_of% (uA c37_8.eq_1)) ∧ (type_of% (uA c37_7.eq_1)) ∧ (type_of% (uR r37_2.eq_1)) ∧ (type_of% (uR r37_3.eq_1)) ∧ (type_of% (uR r37_4.eq_1)) ∧ (type_of% (uR r37_5.eq_1)) ∧ (type_of% (uR r37_6.eq_1)) ∧ (type_of% (uR r37_55.eq_1)) ∧ (type_of% s37.eq_1) :=
  ⟨uA c37.eq_1, uR r37_0.eq_1, uA c37_9.eq_1, uR r37_1.eq_1, uA c37_8.eq_1, uA c37_7.eq_1, uR r37_2.eq_1, uR r37_3.eq_1, uR r37_4.eq_1, uR r37_5.eq_1, uR r37_6.eq_1, uR r37_55.eq_1, s37.eq_1⟩
theorem spoilT_ok (v : Nat) (bs : List UInt8) (hb : bs.length ≤ 2000) : ∀ k : Tr, ∀ d, TDp d k → TB 1000 k → ∀ p : Int, 0 ≤ p ∧ p + 100 * d ≤ 900000000000 →
    ∃ (p' : Int) (k' : Tr), p ≤ p' ∧ p' ≤ p + 100 * d ∧ TB 2000 k' ∧ ACallsF Try.prog 37 [rP v, tT k] [rH v bs p p'] (tT k') := by
  intro k
  induction k using Tr.ind with
  | _ s a x ns ks ih =>
    intro d hD hB p hp
    obtain ⟨e, rfl, hK⟩ := hD.inv
    obtain ⟨b0, b1, b2, b3, b4⟩ := hB.inv
    have b3' : ∀ x ∈ ns, x.size ≤ 2000 := fun x hx => by have := b3 x hx; omega
    have b4' : ∀ k ∈ ks, TB 2000 k := fun k hk => (b4 k hk).le (by omega)
    by_cases hl : (ks.length : Int) > 0
    · obtain ⟨n, n0, n1, hC⟩ := pick_ok v bs hb p 3 (by omega) (by omega)
      by_cases hn : n > 0
      · obtain ⟨m, m0, m1, hC2⟩ := pick_ok v bs hb (p + 1) ks.length (by omega) (by omega)
        obtain ⟨i, rfl⟩ : ∃ i : Nat, m = i := ⟨m.toNat, (Int.toNat_of_nonneg m0).symm⟩
        obtain ⟨k, hk⟩ : ∃ k, ks[i]? = some k := ⟨_, List.getElem?_eq_getElem (by omega)⟩
        have hmem := List.mem_of_getElem? hk
        obtain ⟨p', k', i1, i2, i3, hC3⟩ := ih k hmem e (hK k hmem) (b4 k hmem) (p + 1 + 1) (by omega)
        refine ⟨p', .mk s a x ns (ks.set i k'), by omega, by omega, .mk _ _ _ _ _ (by omega) (by omega) (by simp; omega) b3' (fun y hy => ?_), ACallsF.intro ok37 follows fun X c0 => ?_⟩
        · rcases List.mem_or_eq_of_mem_set hy with h | h
          · exact b4' y h
          · subst h; exact i3
        have q1 : ks.length * 80 ≤ 140737488355328 := by omega
        have q2 : ks.length ≤ 9223372036854775807 := by omega
        have ek := encTs_at hk
        have hts : List.take ks.length (encTs (ks.set i k')) = encTs (ks.set i k') := List.take_of_length_le (by rw [encTs_len, List.length_set]; exact Nat.le_refl _)
        have gi : (i : Int) < ((ks.length : Nat) : Int) := m1
        have g0 : (0 : Int) ≤ i := m0
        simp only [RUN, core, T.c, T.s, T.b, T.i, sBin, sInt, sUn, isShift, asInt, P1.cells, loadT, ptrC, storeT, putC, fillP, Nat.reduceAdd, reduceIte, Nat.reduceEqDiff, Nat.reduceLT, Nat.reduceLeDiff, reduceCtorEq, eq_self, FIT, lendCs_map, verC_map, FinC, resPs, resP, lendPl, lendCs, lendC, sealC, partsT, finHs, tupT, verT, verP, verC, verB, verAt, Blk.ver, handsAre, forall_const, CHT, disj, Nat.reduceBEq, beq_self_eq_true, APT, srcOf, sealPs, sealCs, sealC, List.mem_singleton, forall_eq, ALT, rH, rdr, UKt_1, encT_mk, encTs_len, hl]
        refine callRc hC rfl rfl rfl rfl rfl ⟨rfl, ?_⟩
        simp only [RUN, core, T.c, T.s, T.b, T.i, sBin, sInt, sUn, isShift, asInt, P1.cells, loadT, ptrC, storeT, putC, fillP, Nat.reduceAdd, reduceIte, Nat.reduceEqDiff, Nat.reduceLT, Nat.reduceLeDiff, reduceCtorEq, eq_self, FIT, lendCs_map, verC_map, FinC, resPs, resP, lendPl, lendCs, lendC, sealC, partsT, finHs, tupT, verT, verP, verC, verB, verAt, Blk.ver, handsAre, forall_const, CHT, disj, Nat.reduceBEq, beq_self_eq_true, APT, srcOf, sealPs, sealCs, sealC, List.mem_singleton, forall_eq, ALT, rH, rdr, UKt_1, encT_mk, encTs_len, hn, q1, q2]
        refine callRc hC2 rfl rfl rfl rfl rfl ⟨rfl, ?_⟩
        simp only [RUN, core, T.c, T.s, T.b, T.i, sBin, sInt, sUn, isShift, asInt, P1.cells, loadT, ptrC, storeT, putC, fillP, Nat.reduceAdd, reduceIte, Nat.reduceEqDiff, Nat.reduceLT, Nat.reduceLeDiff, reduceCtorEq, eq_self, FIT, lendCs_map, verC_map, FinC, resPs, resP, lendPl, lendCs, lendC, sealC, partsT, finHs, tupT, verT, verP, verC, verB, verAt, Blk.ver, handsAre, forall_const, CHT, disj, Nat.reduceBEq, beq_self_eq_true, APT, srcOf, sealPs, sealCs, sealC, List.mem_singleton, forall_eq, ALT, rH, rdr, UKt_1, encT_mk, encTs_len, gi, g0, Int.toNat_natCast, ek, List.length_map, encT_len, takeT]
        refine callRc hC3 rfl rfl (by simp [closedA, closedP, closedC]) (closed_map _) rfl ⟨?_, ?_⟩
        · simp only [RUN, core, T.c, T.s, T.b, T.i, sBin, sInt, sUn, isShift, asInt, P1.cells, loadT, ptrC, storeT, putC, fillP, Nat.reduceAdd, reduceIte, Nat.reduceEqDiff, Nat.reduceLT, Nat.reduceLeDiff, reduceCtorEq, eq_self, FIT, lendCs_map, verC_map, FinC, resPs, resP, lendPl, lendCs, lendC, sealC, partsT, finHs, tupT, verT, verP, verC, verB, verAt, Blk.ver, handsAre, forall_const, CHT, disj, Nat.reduceBEq, beq_self_eq_true]
        simp only [RUN, core, T.c, T.s, T.b, T.i, sBin, sInt, sUn, isShift, asInt, P1.cells, loadT, ptrC, storeT, putC, fillP, Nat.reduceAdd, reduceIte, Nat.reduceEqDiff, Nat.reduceLT, Nat.reduceLeDiff, reduceCtorEq, eq_self, FIT, lendCs_map, verC_map, FinC, resPs, resP, lendPl, lendCs, lendC, sealC, partsT, finHs, tupT, verT, verP, verC, verB, verAt, Blk.ver, handsAre, forall_const, CHT, disj, Nat.reduceBEq, beq_self_eq_true, APT, srcOf, sealPs, sealCs, sealC, List.mem_singleton, forall_eq, ALT, rH, rdr, UKt_1, encT_mk, encTs_len, gi, g0, Int.toNat_natCast, ek, List.length_map, encT_len, takeT, hts]
      · obtain ⟨p', k', i1, i2, i3, hT⟩ := spoilT_tail v bs hb s a x ns ks hB (p + 1) (by omega)
        refine ⟨p', k', by omega, by omega, i3, ACallsF.intro ok37 follows fun X c0 => ?_⟩
        simp only [RUN, core, T.c, T.s, T.b, T.i, sBin, sInt, sUn, isShift, asInt, P1.cells, loadT, ptrC, storeT, putC, fillP, Nat.reduceAdd, reduceIte, Nat.reduceEqDiff, Nat.reduceLT, Nat.reduceLeDiff, reduceCtorEq, eq_self, FIT, lendCs_map, verC_map, FinC, resPs, resP, lendPl, lendCs, lendC, sealC, partsT, finHs, tupT, verT, verP, verC, verB, verAt, Blk.ver, handsAre, forall_const, CHT, disj, Nat.reduceBEq, beq_self_eq_true, APT, srcOf, sealPs, sealCs, sealC, List.mem_singleton, forall_eq, ALT, rH, rdr, UKt_2, encT_mk, encTs_len, hl]
        refine callRc hC rfl rfl rfl rfl rfl ⟨rfl, ?_⟩
        simp only [RUN, core, T.c, T.s, T.b, T.i, sBin, sInt, sUn, isShift, asInt, P1.cells, loadT, ptrC, storeT, putC, fillP, Nat.reduceAdd, reduceIte, Nat.reduceEqDiff, Nat.reduceLT, Nat.reduceLeDiff, reduceCtorEq, eq_self, FIT, lendCs_map, verC_map, FinC, resPs, resP, lendPl, lendCs, lendC, sealC, partsT, finHs, tupT, verT, verP, verC, verB, verAt, Blk.ver, handsAre, forall_const, CHT, disj, Nat.reduceBEq, beq_self_eq_true, APT, srcOf, sealPs, sealCs, sealC, List.mem_singleton, forall_eq, ALT, rH, rdr, UKt_2, hn]
        exact hT X _ _ _ p rfl ⟨_, rfl, rfl⟩ ⟨_, rfl, rfl⟩ rfl
    · obtain ⟨p', k', i1, i2, i3, hT⟩ := spoilT_tail v bs hb s a x ns ks hB p (by omega)
      refine ⟨p', k', by omega, by omega, i3, ACallsF.intro ok37 follows fun X c0 => ?_⟩
      simp only [RUN, core, T.c, T.s, T.b, T.i, sBin, sInt, sUn, isShift, asInt, P1.cells, loadT, ptrC, storeT, putC, fillP, Nat.reduceAdd, reduceIte, Nat.reduceEqDiff, Nat.reduceLT, Nat.reduceLeDiff, reduceCtorEq, eq_self, FIT, lendCs_map, verC_map, FinC, resPs, resP, lendPl, lendCs, lendC, sealC, partsT, finHs, tupT, verT, verP, verC, verB, verAt, Blk.ver, handsAre, forall_const, CHT, disj, Nat.reduceBEq, beq_self_eq_true, APT, srcOf, sealPs, sealCs, sealC, List.mem_singleton, forall_eq, ALT, rH, rdr, UKt_2, encT_mk, encTs_len, hl]
      exact hT X _ _ _ p rfl ⟨_, rfl, rfl⟩ ⟨_, rfl, rfl⟩ rfl
end Go.V
set_option linter.unusedSimpArgs false
namespace Go.V
open Go.Proofs
/- loop.example/teagle/spec.l5Full -/
def r39_0 : List AOper := [ao 0 2 (.alloc 29 [(.v (.s (.int .i64 0))), (.v (.s (.int .i64 0))), (.v (.s (.string ⟨#[]⟩))), .nil0, .nil0])]
def r39_1 : List AOper := [ao 0 9 (.build [(.v (.s (.int .i64 0))), (.v (.s (.int .i64 0))), (.v (.s (.string ⟨#[]⟩))), .nil0, .nil0] [(0, 1, (.k (.i 1))), (1, 1, (.k (.i 7)))]),
  ao 1 3 (.alloc 29 [(.v (.s (.int .i64 0))), (.v (.s (.int .i64 0))), (.v (.s (.string ⟨#[]⟩))), .nil0, .nil0]),
  an 2 (.st 5 (.t 3) (.t 9))]
def r39_2 : List AOper := [ao 0 10 (.ld 5 true (.t 3)),
  ao 1 11 (.ld 5 true (.t 3)),
  ao 2 12 (.ld 5 true (.t 3)),
  ao 3 13 (.ld 5 true (.t 3)),
  ao 4 14 (.bsl 5 29 [(.t 10), (.t 11), (.t 12), (.t 13)]),
  ao 5 15 (.build [(.v (.s (.int .i64 0))), (.v (.s (.int .i64 0))), (.v (.s (.string ⟨#[]⟩))), .nil0, .nil0] [(0, 1, (.k (.i 4))), (4, 1, (.t 14))]),
  ao 6 4 (.alloc 29 [(.v (.s (.int .i64 0))), (.v (.s (.int .i64 0))), (.v (.s (.string ⟨#[]⟩))), .nil0, .nil0]),
  an 7 (.st 5 (.t 4) (.t 15))]
def r39_3 : List AOper := [ao 0 16 (.build [(.v (.s (.int .i64 0))), (.v (.s (.int .i64 0))), (.v (.s (.string ⟨#[]⟩))), .nil0, .nil0] [(0, 1, (.k (.i 4)))]),
  ao 1 5 (.alloc 29 [(.v (.s (.int .i64 0))), (.v (.s (.int .i64 0))), (.v (.s (.string ⟨#[]⟩))), .nil0, .nil0]),
  an 2 (.st 5 (.t 5) (.t 16))]
def r39_4 : List AOper := [ao 0 6 (.mv (.k (.i 0)))]
def r39_5 : List AOper := [ao 0 17 (.mv (.t 6)),
  ao 1 18 (.bin .lss (.t 17) (.k (.i 20)))]
def c39_6 : ACode := .cond (.t 18) .skip (.exit 0)
def c39_7 : ACode := .seq (.reg r39_5) c39_6
def r39_8 : List AOper := [ao 0 21 (.fa 4 (.t 5)),
  ao 1 22 (.ld 1 false (.t 21)),
  ao 2 23 (.ld 5 true (.t 4)),
  ao 3 24 (.bsl 5 29 [(.t 23)]),
  ao 4 25 (.app 5 29 80 (.t 22) (.t 24)),
  ao 5 26 (.fa 4 (.t 5)),
  an 6 (.st 1 (.t 26) (.t 25))]
def c39_9 : ACode := .block 1 (.reg r39_8)
def r39_10 : List AOper := [ao 0 19 (.mv (.t 6)),
  ao 1 20 (.bin .add (.t 19) (.k (.i 1))),
  ao 2 6 (.mv (.t 20))]
def c39_11 : ACode := .seq c39_7 (.seq c39_9 (.reg r39_10))
def c39_12 : ACode := .loop c39_11
def c39_13 : ACode := .block 0 c39_12
def c39_14 : ACode := .seq (.reg r39_4) c39_13
def r39_15 : List AOper := [ao 0 27 (.build [(.v (.s (.int .i64 0))), (.v (.s (.int .i64 0))), (.v (.s (.string ⟨#[]⟩))), .nil0, .nil0] [(0, 1, (.k (.i 4)))]),
  ao 1 7 (.alloc 29 [(.v (.s (.int .i64 0))), (.v (.s (.int .i64 0))), (.v (.s (.string ⟨#[]⟩))), .nil0, .nil0]),
  an 2 (.st 5 (.t 7) (.t 27))]
def r39_16 : List AOper := [ao 0 8 (.mv (.k (.i 103)))]
def r39_17 : List AOper := [ao 0 28 (.mv (.t 8)),
  ao 1 29 (.mv (.t 0)),
  ao 2 30 (.bin .lss (.t 28) (.t 29))]
def c39_18 : ACode := .cond (.t 30) .skip (.exit 2)
def c39_19 : ACode := .seq (.reg r39_17) c39_18
def r39_20 : List AOper := [ao 0 33 (.fa 4 (.t 7)),
  ao 1 34 (.ld 1 false (.t 33)),
  ao 2 35 (.ld 5 true (.t 3)),
  ao 3 36 (.bsl 5 29 [(.t 35)]),
  ao 4 37 (.app 5 29 80 (.t 34) (.t 36)),
  ao 5 38 (.fa 4 (.t 7)),
  an 6 (.st 1 (.t 38) (.t 37))]
def c39_21 : ACode := .block 3 (.reg r39_20)
def r39_22 : List AOper := [ao 0 31 (.mv (.t 8)),
  ao 1 32 (.bin .add (.t 31) (.k (.i 1))),
  ao 2 8 (.mv (.t 32))]
def c39_23 : ACode := .seq c39_19 (.seq c39_21 (.reg r39_22))
def c39_24 : ACode := .loop c39_23
def c39_25 : ACode := .block 2 c39_24
def c39_26 : ACode := .seq (.reg r39_16) c39_25
def r39_27 : List AOper := [ao 0 39 (.bsl 1 9 [(.k (.s (.string ⟨#[97]⟩))), (.k (.s (.string ⟨#[98]⟩)))]),
  ao 1 40 (.ld 5 true (.t 5)),
  ao 2 41 (.ld 5 true (.t 7)),
  ao 3 42 (.bsl 5 29 [(.t 40), (.t 41)]),
  ao 4 43 (.build [(.v (.s (.int .i64 0))), (.v (.s (.int .i64 0))), (.v (.s (.string ⟨#[]⟩))), .nil0, .nil0] [(0, 1, (.k (.i 5))), (3, 1, (.t 39)), (4, 1, (.t 42))]),
  an 5 (.st 5 (.t 2) (.t 43))]
def c39 : ACode := .seq (.reg r39_0) (.seq (.reg r39_1) (.seq (.reg r39_2) (.seq (.reg r39_3) (.seq c39_14 (.seq (.reg r39_15) (.seq c39_26 (.seq (.reg r39_27) .ret)))))))
def s39 : List ARes := [.cell 2 5 true]
theorem ok39 : okF Try.prog 39 44 c39 s39 := ⟨Try.f39, Try.func39, Try.ntmps39, by kernel_rfl, by kernel_rfl, by kernel_rfl⟩
def oneT : Tr := .mk 1 7 ⟨#[]⟩ [] []
def fourT : Tr := .mk 4 0 ⟨#[]⟩ [] [oneT, oneT, oneT, oneT]
theorem enc_oneT : encT oneT = [.s (.int .i64 1), .s (.int .i64 7), .s (.string ⟨#[]⟩), .sl [], .sl []] := by rw [oneT, encT_mk, encS_nil, encTs_nil]
abbrev oneV : List V := [.s (.int .i64 1), .s (.int .i64 7), .s (.string ⟨#[]⟩), .sl [], .sl []]
theorem enc_fourT : encT fourT = [.s (.int .i64 4), .s (.int .i64 0), .s (.string ⟨#[]⟩), .sl [], .sl [oneV, oneV, oneV, oneV]] := by
  rw [fourT, encT_mk, encS_nil]; simp [encTs, enc_oneT]
def fullT (N : Nat) : Tr := .mk 5 0 ⟨#[]⟩ [⟨#[97]⟩, ⟨#[98]⟩] [.mk 4 0 ⟨#[]⟩ [] (List.replicate 20 fourT), .mk 4 0 ⟨#[]⟩ [] (List.replicate N oneT)]
theorem oneT_TB : TB 2000 oneT := .mk _ _ _ _ _ (by decide) (by simp) (by simp) (by simp) (by simp)
theorem fourT_TB : TB 2000 fourT := .mk _ _ _ _ _ (by decide) (by simp) (by simp) (by simp) (by simpa using oneT_TB)
theorem fullT_TB (N : Nat) (hN : N ≤ 2000) : TB 2000 (fullT N) := .mk _ _ _ _ _ (by decide) (by simp) (by simp) (by decide) (by
  intro k hk
  simp only [List.mem_cons, List.not_mem_nil, or_false] at hk
  rcases hk with rfl | rfl
  · exact .mk _ _ _ _ _ (by decide) (by simp) (by simp) (by simp) (fun k hk => by rw [(List.mem_replicate.1 hk).2]; exact fourT_TB)
  · exact .mk _ _ _ _ _ (by decide) (by simp) (by simp; omega) (by simp) (fun k hk => by rw [(List.mem_replicate.1 hk).2]; exact oneT_TB))
def F1 (n : Int) (i : Nat) (σ : St) : Prop :=
  σ.t 0 = .i n ∧ (∃ u, σ.t 2 = .c (.ptr 2 u 0) ∧ σ.H 2 = some (.var u 29 zT)) ∧ (∃ u, σ.t 3 = .c (.ptr 3 u 0) ∧ σ.H 3 = some (.var u 29 [.v (.s (.int .i64 1)), .v (.s (.int .i64 7)), .v (.s (.string ⟨#[]⟩)), .nil0, .nil0])) ∧
  (∃ u b wr, σ.t 4 = .c (.ptr 4 u 0) ∧ σ.H 4 = some (.var u 29 [.v (.s (.int .i64 4)), .v (.s (.int .i64 0)), .v (.s (.string ⟨#[]⟩)), .nil0, .own 14 b 4]) ∧ σ.H 14 = some (.arr b wr 5 29 [oneV, oneV, oneV, oneV])) ∧
  (∃ u b, σ.t 5 = .c (.ptr 5 u 0) ∧ σ.H 5 = some (.var u 29 [.v (.s (.int .i64 4)), .v (.s (.int .i64 0)), .v (.s (.string ⟨#[]⟩)), .nil0, .own 2005 b i]) ∧ σ.H 2005 = some (.arr b true 5 29 (encTs (List.replicate i fourT)))) ∧ σ.t 6 = .i i ∧ σ.H 2007 = none
def F2 (n : Int) (i : Nat) (σ : St) : Prop :=
  σ.t 0 = .i n ∧ (∃ u, σ.t 2 = .c (.ptr 2 u 0) ∧ σ.H 2 = some (.var u 29 zT)) ∧ (∃ u, σ.t 3 = .c (.ptr 3 u 0) ∧ σ.H 3 = some (.var u 29 [.v (.s (.int .i64 1)), .v (.s (.int .i64 7)), .v (.s (.string ⟨#[]⟩)), .nil0, .nil0])) ∧
  (∃ u b, σ.t 5 = .c (.ptr 5 u 0) ∧ σ.H 5 = some (.var u 29 [.v (.s (.int .i64 4)), .v (.s (.int .i64 0)), .v (.s (.string ⟨#[]⟩)), .nil0, .own 2005 b 20]) ∧ σ.H 2005 = some (.arr b true 5 29 (encTs (List.replicate 20 fourT)))) ∧
  (∃ u b, σ.t 7 = .c (.ptr 7 u 0) ∧ σ.H 7 = some (.var u 29 [.v (.s (.int .i64 4)), .v (.s (.int .i64 0)), .v (.s (.string ⟨#[]⟩)), .nil0, .own 2007 b i]) ∧ σ.H 2007 = some (.arr b true 5 29 (encTs (List.replicate i oneT)))) ∧ σ.t 8 = .i (103 + i : Nat)
theorem UKu_1 : (type_of% (uA c39.eq_1)) ∧ (type_of% (uR r39_0.eq_1)) ∧ (type_of% (uR r39_1.eq_1)) ∧ (type_of% (uR r39_2.eq_1)) ∧ (type_of% (uR r39_3.eq_1)) ∧ (type_of% (uA c39_14.eq_1)) ∧ (type_of% (uR r39_4.eq_1)) ∧ (type_of% (uA c39_13.eq_1)) ∧ (type_of% (uA c39_12.eq_1)) ∧ (type_of% (uR r39_15.eq_1)) ∧ (type_of% (uA c39_26.eq_1)) ∧ (type_of% (uR r39_16.eq_1)) ∧ (type_of% (uA c39_25.eq_1)) ∧ (type_of% (uA c39_24.eq_1)) ∧ (type_of% (uR r39_27.eq_1)) ∧ (type_of% s39.eq_1) :=
  ⟨uA c39.eq_1, uR r39_0.eq_1, uR r39_1.eq_1, uR r39_2.eq_1, uR r39_3.eq_1, uA c39_14.eq_1, uR r39_4.eq_1, uA c39_13.eq_1, uA c39_12.eq_1, uR r39_15.eq_1, uA c39_26.eq_1, uR r39_16.eq_1, uA c39_25.eq_1, uA c39_24.eq_1, uR r39_27.eq_1, s39.eq_1⟩
theorem UKu_2 : (type_of% (uA c39_11.eq_1)) ∧ (type_of% (uA c39_7.eq_1)) ∧ (type_of% (uR r39_5.eq_1)) ∧ (type_of% (uA c39_6.eq_1)) ∧ (type_of% (uA c39_9.eq_1)) ∧ (type_of% (uR r39_8.eq_1)) ∧ (type_of% (uR r39_10.eq_1)) ∧ (type_of% (uA c39.eq_1)) ∧ (type_of% (uR r39_0.eq_1)) ∧ (type_of% (uR r39_1.eq_1)) ∧ (type_of% (uR r39_2.eq_1)) ∧ (type_of% (uR r39_3.eq_1)) ∧ (type_of% (uA c39_14.eq_1)) ∧ (type_of% (uR r39_4.eq_1)) ∧ (type_of% (uA c39_13.eq_1)) ∧ (type_of% (uA c39_12.eq_1)) ∧ (type_of% (uR r39_15.eq_1)) ∧ (type_of% (uA c39_26.eq_1)) ∧ (type_of% (uR r39_16.eq_1)) ∧ (type_of% (uA c39_25.eq_1)) ∧ (type_of% (uA c39_24.eq_1)) ∧ (type_of% (uR r39_27.eq_1)) ∧ (type_of% s39.eq_1) :=
  ⟨uA c39_11.eq_1, uA c39_7.eq_1, uR r39_5.eq_1, uA c39_6.eq_1, uA c39_9.eq_1, uR r39_8.eq_1, uR r39_10.eq_1, uA c39.eq_1, uR r39_0.eq_1, uR r39_1.eq_1, uR r39_2.eq_1, uR r39_3.eq_1, uA c39_14.eq_1, uR r39_4.eq_1, uA c39_13.eq_1, uA c39_12.eq_1, uR r39_15.eq_1, uA c39_26.eq_1, uR r39_16.eq_1, uA c39_25.eq_1, uA c39_24.eq_1, uR r39_27.eq_1, s39.eq_1⟩
theorem UKu_3 : (type_of% (uA c39_23.eq_1)) ∧ (type_of% (uA c39_19.eq_1)) ∧ (type_of% (uR r39_17.eq_1)) ∧ (type_of% (uA c39_18.eq_1)) ∧ (type_of% (uA c39_21.eq_1)) ∧ (type_of% (uR r39_20.eq_1)) ∧ (type_of% (uR r39_22.eq_1)) ∧ (type_of% (uA c39.eq_1)) ∧ (type_of% (uR r39_0.eq_1)) ∧ (type_of% (uR r39_1.eq_1)) ∧ (type_of% (uR r39_2.eq_1)) ∧ (type_of% (uR r39_3.eq_1)) ∧ (type_of% (uA c39_14.eq_1)) ∧ (type_of% (uR r39_4.eq_1)) ∧ (type_of% (uA c39_13.eq_1)) ∧ (type_of% (uA c39_12.eq_1)) ∧ (type_of% (uR r39_15.eq_1)) ∧ (type_of% (uA c39_26.eq_1)) ∧ (type_of% (uR r39_16.eq_1)) ∧ (type_of% (uA c39_25.eq_1)) ∧ (type_of% (uA c39_24.eq_1)) ∧ (type_of% (uR r39_27.eq_1)) ∧ (type_of% s39.eq_1) :=
  ⟨uA c39_23.eq_1, uA c39_19.eq_1, uR r39_17.eq_1, uA c39_18.eq_1, uA c39_21.eq_1, uR r39_20.eq_1, uR r39_22.eq_1, uA c39.eq_1, uR r39_0.eq_1, uR r39_1.eq_1, uR r39_2.eq_1, uR r39_3.eq_1, uA c39_14.eq_1, uR r39_4.eq_1, uA c39_13.eq_1, uA c39_12.eq_1, uR r39_15.eq_1, uA c39_26.eq_1, uR r39_16.eq_1, uA c39_25.eq_1, uA c39_24.eq_1, uR r39_27.eq_1, s39.eq_1⟩
theorem full_ok (N : Nat) (hN : N ≤ 100) : ACallsF Try.prog 39 [.i (103 + N : Nat)] [] (tT (fullT N)) := by
  refine ACallsF.intro ok39 follows fun X c0 => ?_
  simp only [RUN, core, T.c, T.s, T.b, T.i, sBin, sInt, sUn, isShift, asInt, P1.cells, loadT, ptrC, storeT, putC, fillP, Nat.reduceAdd, reduceIte, Nat.reduceEqDiff, Nat.reduceLT, Nat.reduceLeDiff, reduceCtorEq, eq_self, FIT, lendCs_map, verC_map, FinC, resPs, resP, lendPl, lendCs, lendC, sealC, partsT, finHs, tupT, verT, verP, verC, verB, verAt, Blk.ver, handsAre, forall_const, CHT, disj, Nat.reduceBEq, beq_self_eq_true, APT, srcOf, sealPs, sealCs, sealC, List.mem_singleton, forall_eq, ALT, UKu_1]
  refine AW.reify 5 4 2005 5 29 rfl rfl rfl (by decide) ?_
  refine AW.upto 20 (F1 (103 + N : Nat)) ?_ fun i t H c hi h => ?_
  · unfold F1
    exact ⟨rfl, ⟨_, rfl, rfl⟩, ⟨_, rfl, rfl⟩, ⟨_, _, _, rfl, rfl, rfl⟩, ⟨_, _, rfl, rfl, rfl⟩, rfl, rfl⟩
  obtain ⟨e0, ⟨u2, e2, eH2⟩, ⟨u3, e3, eH3⟩, ⟨u4, b4, wr, e4, eH4, eH14⟩, ⟨u5, b5, e5, eH5, eHb⟩, e6, eN⟩ := h
  simp only [T.c, T.i, zT] at e0 e2 eH2 e3 eH3 e4 eH4 eH14 e5 eH5 eHb e6 eN
  have hlr : (encTs (List.replicate i fourT)).length = i := by rw [encTs_len, List.length_replicate]
  have htk : List.take i (encTs (List.replicate i fourT)) = encTs (List.replicate i fourT) := List.take_of_length_le (by omega)
  by_cases hlt : i < 20
  · have k1 : (i : Int) < 20 := by omega
    have gw : IntKind.i64.wrap ((i : Int) + 1) = ((i + 1 : Nat) : Int) := wrap64 (x := (i : Int) + 1) ⟨by omega, by omega⟩
    have q3 : (i + 1) * 80 ≤ 140737488355328 := by omega
    have q4 : i ≤ 9223372036854775806 := by omega
    simp only [RUN, core, T.c, T.s, T.b, T.i, sBin, sInt, sUn, isShift, asInt, P1.cells, loadT, ptrC, storeT, putC, fillP, Nat.reduceAdd, reduceIte, Nat.reduceEqDiff, Nat.reduceLT, Nat.reduceLeDiff, reduceCtorEq, eq_self, FIT, lendCs_map, verC_map, FinC, resPs, resP, lendPl, lendCs, lendC, sealC, partsT, finHs, tupT, verT, verP, verC, verB, verAt, Blk.ver, handsAre, forall_const, CHT, disj, Nat.reduceBEq, beq_self_eq_true, APT, srcOf, sealPs, sealCs, sealC, List.mem_singleton, forall_eq, UKu_2, e4, eH4, eH14, e5, eH5, eHb, e6, k1, gw, q3, q4, hlr, htk]
    have hr : encTs (List.replicate (i + 1) fourT) = encTs (List.replicate i fourT) ++ [[.s (.int .i64 4), .s (.int .i64 0), .s (.string ⟨#[]⟩), .sl [], .sl [oneV, oneV, oneV, oneV]]] := by rw [List.replicate_succ', encTs_snoc, enc_fourT]
    unfold F1
    rw [hr]
    exact ⟨hlt, e0, ⟨u2, e2, eH2⟩, ⟨u3, e3, eH3⟩, ⟨u4, b4, _, e4, eH4, rfl⟩, ⟨u5, _, e5, rfl, rfl⟩, rfl, eN⟩
  · have hi20 : i = 20 := by omega
    subst hi20
    have k1 : ¬ ((20 : Nat) : Int) < 20 := by omega
    simp only [RUN, core, T.c, T.s, T.b, T.i, sBin, sInt, sUn, isShift, asInt, P1.cells, loadT, ptrC, storeT, putC, fillP, Nat.reduceAdd, reduceIte, Nat.reduceEqDiff, Nat.reduceLT, Nat.reduceLeDiff, reduceCtorEq, eq_self, FIT, lendCs_map, verC_map, FinC, resPs, resP, lendPl, lendCs, lendC, sealC, partsT, finHs, tupT, verT, verP, verC, verB, verAt, Blk.ver, handsAre, forall_const, CHT, disj, Nat.reduceBEq, beq_self_eq_true, APT, srcOf, sealPs, sealCs, sealC, List.mem_singleton, forall_eq, UKu_2, e6, k1]
    refine AW.reify 7 4 2007 5 29 rfl rfl eN (by decide) ?_
    refine AW.upto N (F2 (103 + N : Nat)) ?_ fun i t H c hi h => ?_
    · unfold F2
      exact ⟨e0, ⟨u2, e2, eH2⟩, ⟨u3, e3, eH3⟩, ⟨u5, b5, e5, eH5, eHb⟩, ⟨_, _, rfl, rfl, rfl⟩, rfl⟩
    clear e0 e2 eH2 e3 eH3 e4 eH4 eH14 e5 eH5 eHb e6 eN
    obtain ⟨e0, ⟨u2, e2, eH2⟩, ⟨u3, e3, eH3⟩, ⟨u5, b5, e5, eH5, eH5b⟩, ⟨u7, b7, e7, eH7, eHb⟩, e8⟩ := h
    simp only [T.c, T.i, zT] at e0 e2 eH2 e3 eH3 e5 eH5 eH5b e7 eH7 eHb e8
    have hlr2 : (encTs (List.replicate i oneT)).length = i := by rw [encTs_len, List.length_replicate]
    have htk2 : List.take i (encTs (List.replicate i oneT)) = encTs (List.replicate i oneT) := List.take_of_length_le (by omega)
    by_cases hlt : i < N
    · have k1 : ((103 + i : Nat) : Int) < ((103 + N : Nat) : Int) := by omega
      have gw : IntKind.i64.wrap (((103 + i : Nat) : Int) + 1) = ((103 + (i + 1) : Nat) : Int) := (wrap64 (x := ((103 + i : Nat) : Int) + 1) ⟨by omega, by omega⟩).trans (by omega)
      have q3 : (i + 1) * 80 ≤ 140737488355328 := by omega
      have q4 : i ≤ 9223372036854775806 := by omega
      simp only [RUN, core, T.c, T.s, T.b, T.i, sBin, sInt, sUn, isShift, asInt, P1.cells, loadT, ptrC, storeT, putC, fillP, Nat.reduceAdd, reduceIte, Nat.reduceEqDiff, Nat.reduceLT, Nat.reduceLeDiff, reduceCtorEq, eq_self, FIT, lendCs_map, verC_map, FinC, resPs, resP, lendPl, lendCs, lendC, sealC, partsT, finHs, tupT, verT, verP, verC, verB, verAt, Blk.ver, handsAre, forall_const, CHT, disj, Nat.reduceBEq, beq_self_eq_true, APT, srcOf, sealPs, sealCs, sealC, List.mem_singleton, forall_eq, UKu_3, e0, e3, eH3, e7, eH7, eHb, e8, k1, gw, q3, q4, hlr2, htk2]
      have hr : encTs (List.replicate (i + 1) oneT) = encTs (List.replicate i oneT) ++ [oneV] := by rw [List.replicate_succ', encTs_snoc, enc_oneT]
      unfold F2
      rw [hr]
      exact ⟨hlt, e0, ⟨u2, e2, eH2⟩, ⟨u3, e3, eH3⟩, ⟨u5, b5, e5, eH5, eH5b⟩, ⟨u7, _, e7, rfl, rfl⟩, rfl⟩
    · have hiN : i = N := by omega
      subst hiN
      have k1 : ¬ ((103 + i : Nat) : Int) < ((103 + i : Nat) : Int) := by omega
      have he : encTs [Tr.mk 4 0 ⟨#[]⟩ [] (List.replicate 20 fourT), .mk 4 0 ⟨#[]⟩ [] (List.replicate i oneT)] = [[.s (.int .i64 4), .s (.int .i64 0), .s (.string ⟨#[]⟩), .sl [], .sl (encTs (List.replicate 20 fourT))], [.s (.int .i64 4), .s (.int .i64 0), .s (.string ⟨#[]⟩), .sl [], .sl (encTs (List.replicate i oneT))]] := by simp [encTs, encT_mk, encS]
      have he2 : encS [⟨#[97]⟩, ⟨#[98]⟩] = [[.s (.string ⟨#[97]⟩)], [.s (.string ⟨#[98]⟩)]] := rfl
      simp only [RUN, core, T.c, T.s, T.b, T.i, sBin, sInt, sUn, isShift, asInt, P1.cells, loadT, ptrC, storeT, putC, fillP, Nat.reduceAdd, reduceIte, Nat.reduceEqDiff, Nat.reduceLT, Nat.reduceLeDiff, reduceCtorEq, eq_self, FIT, lendCs_map, verC_map, FinC, resPs, resP, lendPl, lendCs, lendC, sealC, partsT, finHs, tupT, verT, verP, verC, verB, verAt, Blk.ver, handsAre, forall_const, CHT, disj, Nat.reduceBEq, beq_self_eq_true, APT, srcOf, sealPs, sealCs, sealC, List.mem_singleton, forall_eq, UKu_3, UKu_1, e0, e2, eH2, e5, eH5, eH5b, e7, eH7, eHb, e8, k1, hlr, htk, hlr2, htk2, fullT, encT_mk, he, he2]
end Go.V
set_option linter.unusedSimpArgs false
namespace Go.V
open Go.Proofs
/- loop.example/teagle/spec.l6Open -/
def r33_0 : List AOper := [ao 0 2 (.mv (.k (.s (.pointer none))))]
def r33_1 : List AOper := [ao 0 3 (.mv (.t 0)),
  ao 1 4 (.len (.t 3)),
  ao 2 5 (.bin .gtr (.t 4) (.k (.i 2000)))]
def r33_2 : List AOper := [ao 0 6 (.mv (.t 0)),
  ao 1 7 (.slc 1 (.t 6) none (some (.k (.i 2000)))),
  ao 2 0 (.mv (.t 7))]
def c33_3 : ACode := .cond (.t 5) (.reg r33_2) .skip
def c33_4 : ACode := .seq (.reg r33_1) c33_3
def r33_5 : List AOper := [ao 0 8 (.mv (.t 0)),
  ao 1 9 (.build [.nil0, (.v (.s (.int .i64 0)))] [(0, 1, (.t 8))]),
  ao 2 10 (.box 85 (.t 9)),
  ao 3 2 (.mv (.t 10))]
def c33 : ACode := .seq (.reg r33_0) (.seq c33_4 (.seq (.reg r33_5) .ret))
def s33 : List ARes := [.tmp 2]
theorem ok33 : okF Try.prog 33 11 c33 s33 := ⟨Try.f33, Try.func33, Try.ntmps33, by kernel_rfl, by kernel_rfl, by kernel_rfl⟩
theorem encB_all1 (bs : List UInt8) : (∀ e ∈ encB bs, e.length = 1) = True := eq_true fun e he => by simp only [encB, List.mem_map] at he; obtain ⟨_, _, rfl⟩ := he; rfl
theorem take_encB (bs : List UInt8) (n : Nat) : (encB bs).take n = encB (bs.take n) := by simp [encB, List.map_take]
theorem UKv_1 : (type_of% (uA c33.eq_1)) ∧ (type_of% (uR r33_0.eq_1)) ∧ (type_of% (uA c33_4.eq_1)) ∧ (type_of% (uR r33_1.eq_1)) ∧ (type_of% (uA c33_3.eq_1)) ∧ (type_of% (uR r33_2.eq_1)) ∧ (type_of% (uR r33_5.eq_1)) ∧ (type_of% s33.eq_1) :=
  ⟨uA c33.eq_1, uR r33_0.eq_1, uA c33_4.eq_1, uR r33_1.eq_1, uA c33_3.eq_1, uR r33_2.eq_1, uR r33_5.eq_1, s33.eq_1⟩
theorem open_ok (bs : List UInt8) : ACallsF Try.prog 33 [.c (.v (.sl (encB bs)))] [⟨10, 1000, none, rdr 0 (bs.take 2000) 0, false⟩] (.c (.ptr 10 0 0)) := by
  refine ACallsF.intro ok33 follows fun X c0 => ?_
  by_cases h : (bs.length : Int) > 2000
  · have h0 : (0 : Int) ≤ 2000 := by omega
    have h1 : (2000 : Int) ≤ bs.length := by omega
    simp only [RUN, core, T.c, T.s, T.b, T.i, sBin, sInt, sUn, isShift, asInt, P1.cells, loadT, ptrC, storeT, putC, fillP, Nat.reduceAdd, reduceIte, Nat.reduceEqDiff, Nat.reduceLT, Nat.reduceLeDiff, reduceCtorEq, eq_self, FIT, lendCs_map, verC_map, FinC, resPs, resP, lendPl, lendCs, lendC, sealC, partsT, finHs, tupT, verT, verP, verC, verB, verAt, Blk.ver, handsAre, forall_const, CHT, disj, Nat.reduceBEq, beq_self_eq_true, APT, srcOf, sealPs, sealCs, sealC, List.mem_singleton, forall_eq, ALT, UKv_1, encB_len, h, lohi, h0, h1, encB_all1, Int.reduceToNat, Nat.sub_zero, take_encB, rdr, Int.le_refl, List.drop_zero]
    exact id
  · have ht : bs.take 2000 = bs := List.take_of_length_le (by omega)
    simp only [RUN, core, T.c, T.s, T.b, T.i, sBin, sInt, sUn, isShift, asInt, P1.cells, loadT, ptrC, storeT, putC, fillP, Nat.reduceAdd, reduceIte, Nat.reduceEqDiff, Nat.reduceLT, Nat.reduceLeDiff, reduceCtorEq, eq_self, FIT, lendCs_map, verC_map, FinC, resPs, resP, lendPl, lendCs, lendC, sealC, partsT, finHs, tupT, verT, verP, verC, verB, verAt, Blk.ver, handsAre, forall_const, CHT, disj, Nat.reduceBEq, beq_self_eq_true, APT, srcOf, sealPs, sealCs, sealC, List.mem_singleton, forall_eq, ALT, UKv_1, encB_len, h, ht, rdr]
    exact id
/-- A call of l6Open. -/
theorem callOpen {t : Nat → T} {H : HMap} {c : Nat} {f : Opd} {args : List Opd} {bs : List UInt8} {k : Nat} {d : Option Nat} {un : List Nat} {l : List AOper} {prev : List (Nat × List Nat × List Nat)} {K : St → Prop}
    (hf : ev t f = .pt (.one (.fn 33 []))) (hl : args.map (ev t) = [.c (.v (.sl (encB bs)))])
    (hk : chk prev un ⟨rP (c + k), [(1000, rdr (c + k) (bs.take 2000) 0)], [1000], [1000]⟩ = true ∧ DRun Try.prog l ((k, [1000], [1000]) :: prev) K ⟨updD t d (rP (c + k)), upd H 1000 (some (rdr (c + k) (bs.take 2000) 0)), c⟩) :
    step Try.prog k d un (.call f args) l prev K t H c :=
  callW (r' := rP (c + k)) (ob := [(1000, rdr (c + k) (bs.take 2000) 0)]) [⟨10, 1000, none, rdr 0 (bs.take 2000) 0, false⟩] (open_ok bs) hf (show lendTs H [.c (.v (.sl (encB bs)))] (args.map (ev t) ++ [].map capT) = some ([.c (.v (.sl (encB bs)))], [], []) from by rw [hl]; rfl) rfl (by simp [handsIn]) (by simp) (by simp) rfl rfl hk

theorem closedC_rep {w : World} {imm : Imm} {H H' : HMap} {L L' : Locs} {U U' : Nat → Prop} {x : Value} {c : C} (hc : closedC c = true) (h : CRep w imm H L U x c) : CRep w imm H' L' U' x c := by
  cases c <;> simp [closedC] at hc
  exact h
theorem closedCs_rep {w : World} {imm : Imm} {H H' : HMap} {L L' : Locs} {U U' : Nat → Prop} {xs : List Value} {cs : List C} (hc : cs.all closedC = true) (h : CsRep w imm H L U xs cs) : CsRep w imm H' L' U' xs cs :=
  ⟨h.1, fun k x y hx hy => closedC_rep (List.all_eq_true.1 hc y (List.mem_of_getElem? hy)) (h.2 k x y hx hy)⟩
theorem closedP_rep {w : World} {imm : Imm} {H H' : HMap} {L L' : Locs} {U U' : Nat → Prop} {x : Value} {p : P1} (hc : closedP p = true) (h : PRep w imm H L U x p) : PRep w imm H' L' U' x p := by
  cases p with
  | one c => exact closedC_rep hc h
  | agg cs => obtain ⟨xs, hx, h⟩ := h; exact ⟨xs, hx, closedCs_rep hc h⟩
theorem closedT_rep {w : World} {imm : Imm} {H H' : HMap} {L L' : Locs} {U U' : Nat → Prop} {x : Value} {t : T} (hc : closedT t = true) (h : TRep w imm H L U x t) : TRep w imm H' L' U' x t := by
  cases t with
  | junk => trivial
  | undef => exact h
  | pt p => exact closedP_rep hc h
  | tup ps => obtain ⟨xs, hx, hl, h⟩ := h; exact ⟨xs, hx, hl, fun k u y hu hy => closedP_rep (List.all_eq_true.1 hc y (List.mem_of_getElem? hy)) (h k u y hu hy)⟩
theorem closedC_ver (ν : Nat → Nat) {c : C} (hc : closedC c = true) : verC ν c = c := by cases c <;> simp [closedC] at hc; rfl
theorem closedCs_ver (ν : Nat → Nat) {cs : List C} (hc : cs.all closedC = true) : cs.map (verC ν) = cs := by
  conv => rhs; rw [← List.map_id cs]
  exact List.map_congr_left fun c h => closedC_ver ν (List.all_eq_true.1 hc c h)
theorem closedP_ver (ν : Nat → Nat) {p : P1} (hc : closedP p = true) : verP ν p = p := by
  cases p with
  | one c => exact congrArg P1.one (closedC_ver ν hc)
  | agg cs => exact congrArg P1.agg (closedCs_ver ν hc)
theorem closedT_ver (ν : Nat → Nat) {t : T} (hc : closedT t = true) : verT ν t = t := by
  cases t with
  | junk => rfl
  | undef => rfl
  | pt p => exact congrArg T.pt (closedP_ver ν hc)
  | tup ps =>
    refine congrArg T.tup ?_
    conv => rhs; rw [← List.map_id ps]
    exact List.map_congr_left fun c h => closedP_ver ν (List.all_eq_true.1 hc c h)
theorem hin_r (v : Nat) (bs : List UInt8) (p p' : Int) (n : Nat) : hinOf [rH v bs p p'] n = if n = 1000 then some (rdr v bs p) else none := by
  simp only [hinOf, renN, List.find?]
  by_cases h : n = 1000
  · subst h; simp
  · have : (1000 == n) = false := beq_eq_false_iff_ne.2 fun e => h e.symm
    simp [this, h]
/-- The mark of the reader's version is of no matter. -/
theorem anyV {P : Program} {f : FuncId} {v : Nat} {bs : List UInt8} {p p' : Int} {args : List T} {r : T} (hC : ACallsF P f (rP v :: args) [rH v bs p p'] r) (ha : args.all closedA = true) (hr : closedT r = true) (v' : Nat) : ACallsF P f (rP v' :: args) [rH v' bs p p'] r := by
  obtain ⟨hfn, hA⟩ := hC
  refine ⟨hfn, fun w imm L c vs hH hT => ?_⟩
  have hrd : ∀ (_ : Nat) (p : Int), ([C.v (.sl (encB bs)), .v (.s (.int .i64 p))].all closedC) = true := fun _ _ => rfl
  have hfoot : foot (hinOf [rH v bs p p']) L = foot (hinOf [rH v' bs p p']) L := by
    funext b
    simp only [foot, hin_r]
    apply propext
    constructor <;> rintro ⟨n, h1, h2⟩ <;> refine ⟨n, ?_, h2⟩ <;> by_cases h : n = 1000 <;> simp [h] at h1 ⊢
  have hB0 := hH.blk 1000 (rdr v' bs p) (by simp [hin_r])
  obtain ⟨hv', g, cur, hL, hg, hcs, himm⟩ := hB0
  have hH1 : HOk w imm (hinOf [rH v bs p p']) L (· < max c (v + 1)) := by
    refine ⟨fun n B hB => ?_, fun n m g hn hm => ?_, hH.imm⟩
    · rw [hin_r] at hB
      split at hB
      · rename_i hn; subst hn; cases hB
        exact ⟨by omega, g, cur, hL, hg, closedCs_rep (hrd v p) hcs, himm⟩
      · cases hB
    · rw [hin_r] at hn hm
      have e1 : n = 1000 := by by_cases h : n = 1000; exact h; simp [h] at hn
      have e2 : m = 1000 := by by_cases h : m = 1000; exact h; simp [h] at hm
      intro _ _; rw [e1, e2]
  have hT1 : TsRep w imm (hinOf [rH v bs p p']) L (· < max c (v + 1)) vs (rP v :: args) := by
    refine ⟨by simpa using hT.1, fun k x y hx hy => ?_⟩
    cases k with
    | zero =>
      simp at hy; subst hy
      obtain ⟨h1, h2, h3⟩ := (show CRep w imm _ L (· < c) x (.ptr 1000 v' 0) from hT.2 0 x (rP v') hx (by simp))
      refine ⟨by omega, h2, fun ty cs hB => ?_⟩
      rw [hin_r] at hB
      exact h3 85 [.v (.sl (encB bs)), .v (.s (.int .i64 p))] (by rw [hin_r]; rfl)
    | succ k =>
      have hy' : args[k]? = some y := by simpa using hy
      have hcl := List.all_eq_true.1 ha y (List.mem_of_getElem? hy')
      have := hT.2 (k + 1) x y hx (by simpa using hy')
      cases y with
      | pt q => exact closedP_rep hcl this
      | junk => simp [closedA] at hcl
      | undef => simp [closedA] at hcl
      | tup ps => simp [closedA] at hcl
  refine (hA w imm L (max c (v + 1)) vs hH1 hT1).mono fun e w' h => ?_
  obtain ⟨x, r1, h, imm', L', c', he, ⟨ν, hr1, hh⟩, hx, hH', hS, hN, hE⟩ := h
  obtain ⟨h1, h2⟩ := hh 1000 (rH v bs p p') (by simp [renN])
  obtain ⟨b, hb, h2⟩ := h2 rfl
  cases hb
  have hνv : ν 1000 = v := h2
  have h1' : h 1000 = some (rdr v bs p') := by rw [h1, hνv]; rfl
  obtain ⟨_, g', cur', hL', hg', hcs', himm'⟩ := hH'.blk 1000 _ h1'
  have hcc : v' < c' := hE.use v' (by omega)
  let h3 : HMap := fun n => if n = 1000 then some (rdr v' bs p') else none
  have e3 : ∀ n B, h3 n = some B → n = 1000 ∧ B = rdr v' bs p' := by
    intro n B hB
    by_cases hn : n = 1000
    · simp [h3, hn] at hB; exact ⟨hn, hB.symm⟩
    · simp [h3, hn] at hB
  have e4 : ∀ n, h3 n ≠ none → n = 1000 := by
    intro n hn
    by_cases h : n = 1000
    · exact h
    · simp [h3, h] at hn
  have hE1 := hE.var 1000 v 85 [.v (.sl (encB bs)), .v (.s (.int .i64 p'))] (by omega) h1'
  obtain ⟨_, _, _, hLL⟩ := hE1
  refine ⟨x, r, h3, imm', L', c', he, ⟨fun _ => v', (closedT_ver _ hr).symm, fun n q hn => ?_⟩, closedT_rep hr (by rw [hr1, closedT_ver ν hr] at hx; exact hx), ⟨fun n B hB => ?_, fun n m g hn hm _ _ => (e4 n hn).trans (e4 m hm).symm, hH'.imm⟩, hfoot ▸ hS, ?_, ?_⟩
  · simp only [renN, List.find?] at hn
    split at hn
    · cases hn
      rename_i h1000
      have : n = 1000 := (beq_iff_eq.1 h1000).symm
      subst this
      exact ⟨rfl, fun _ => ⟨_, rfl, rfl⟩⟩
    · cases hn
  · obtain ⟨rfl, rfl⟩ := e3 n B hB
    exact ⟨hcc, g', cur', hL', hg', closedCs_rep (hrd v p') hcs', himm'⟩
  · intro n g hn hg
    have := e4 n hn
    subst this
    rw [← hfoot]
    exact hN 1000 g (by rw [h1']; simp) hg
  · refine ⟨fun u hu => hE.use u (by omega), fun n ver ty cs hu hB => ?_, fun n ver wr st ty es hu hB => ?_, fun n ver wr st ty es g cur hu hB => ?_⟩
    · obtain ⟨rfl, hB2⟩ := e3 n _ hB
      cases hB2
      exact ⟨85, _, by rw [hin_r]; rfl, hLL⟩
    · obtain ⟨_, hB2⟩ := e3 n _ hB; cases hB2
    · obtain ⟨_, hB2⟩ := e3 n _ hB; cases hB2
/- loop.example/teagle/spec.DrawKindWay -/
def r9_0 : List AOper := [ao 0 2 (.box 26 (.t 0)),
  ao 1 4 (.alloc 26 [(.v (.s (.int .i64 0))), .nil0, .nil0])]
def r9_1 : List AOper := [ao 0 8 (.mv (.t 1)),
  ao 1 9 (.call (.k (.c (.fn 33 []))) [(.t 8)]),
  ao 2 5 (.mv (.t 9))]
def r9_2 : List AOper := [ao 0 10 (.ld 3 true (.t 2)),
  ao 1 11 (.call (.k (.c (.fn 25 []))) [(.t 10)]),
  ao 2 12 (.un .not (.t 11))]
def r9_3 : List AOper := [ao 0 13 (.ld 3 true (.t 2)),
  an 1 (.st 3 (.t 4) (.t 13))]
def c9_4 : ACode := .seq (.reg r9_3) .ret
def c9_5 : ACode := .cond (.t 12) c9_4 .skip
def c9_6 : ACode := .seq (.reg r9_2) c9_5
def r9_7 : List AOper := [ao 0 6 (.mv (.k (.i 0)))]
def r9_8 : List AOper := [ao 0 14 (.mv (.t 6)),
  ao 1 15 (.bin .lss (.t 14) (.k (.i 3)))]
def c9_9 : ACode := .cond (.t 15) .skip (.exit 0)
def c9_10 : ACode := .seq (.reg r9_8) c9_9
def r9_11 : List AOper := [ao 0 18 (.mv (.t 5)),
  ao 1 19 (.ld 3 true (.t 2)),
  ao 2 20 (.call (.k (.c (.fn 40 []))) [(.t 18), (.t 19)]),
  ao 3 7 (.alloc 26 [(.v (.s (.int .i64 0))), .nil0, .nil0]),
  an 4 (.st 3 (.t 7) (.t 20))]
def r9_12 : List AOper := [ao 0 21 (.ld 3 true (.t 7)),
  ao 1 22 (.call (.k (.c (.fn 25 []))) [(.t 21)])]
def r9_13 : List AOper := [ao 0 23 (.ld 3 true (.t 7)),
  an 1 (.st 3 (.t 4) (.t 23))]
def c9_14 : ACode := .seq (.reg r9_13) .ret
def c9_15 : ACode := .cond (.t 22) c9_14 .skip
def c9_16 : ACode := .seq (.reg r9_11) (.seq (.reg r9_12) c9_15)
def c9_17 : ACode := .block 1 c9_16
def r9_18 : List AOper := [ao 0 16 (.mv (.t 6)),
  ao 1 17 (.bin .add (.t 16) (.k (.i 1))),
  ao 2 6 (.mv (.t 17))]
def c9_19 : ACode := .seq c9_10 (.seq c9_17 (.reg r9_18))
def c9_20 : ACode := .loop c9_19
def c9_21 : ACode := .block 0 c9_20
def c9_22 : ACode := .seq (.reg r9_7) c9_21
def r9_23 : List AOper := [ao 0 24 (.ld 3 true (.t 2)),
  an 1 (.st 3 (.t 4) (.t 24))]
def c9 : ACode := .seq (.reg r9_0) (.seq (.reg r9_1) (.seq c9_6 (.seq c9_22 (.seq (.reg r9_23) .ret))))
def s9 : List ARes := [.cell 4 3 true]
theorem ok9 : okF Try.prog 9 25 c9 s9 := ⟨Try.f9, Try.func9, Try.ntmps9, by kernel_rfl, by kernel_rfl, by kernel_rfl⟩
def inv9 (v : Nat) (bs : List UInt8) (a : Kd) (f : Nat → Int × Option Kd) (i : Nat) (σ : St) : Prop :=
  badK f i ∧ (∃ u, σ.t 2 = .c (.ptr 2 u 0) ∧ σ.H 2 = some (.var u 26 ((encK a).map .v))) ∧ (∃ u, σ.t 4 = .c (.ptr 4 u 0) ∧ σ.H 4 = some (.var u 26 [.v (.s (.int .i64 0)), .nil0, .nil0])) ∧ σ.t 5 = rP v ∧ σ.t 6 = .i i ∧ σ.H 1000 = some (rdr v bs (f i).1)
theorem partsL_len (ks : List Kd) : ks.length ≤ partsL ks := by
  induction ks with
  | nil => simp
  | cons x xs ih => have := parts_pos x; simp only [partsL, List.length_cons]; omega
theorem nameOk_size {s : ByteArray} (h : nameOk s = true) : s.size ≤ 8 := by
  simp only [nameOk, Bool.and_eq_true, decide_eq_true_eq] at h
  exact h.1.1.2
theorem KOk_KB : ∀ (k : Kd) (d : Nat), KOk d k → parts k ≤ 1000 → KB 1000 k := by
  intro k
  induction k using Kd.ind with
  | _ s ns ks ih =>
    intro d h hp
    obtain ⟨h1, h2, h3⟩ := h.inv
    simp only [parts] at hp
    have hl := partsL_len ks
    refine .mk _ _ _ ?_ (by omega) ?_ fun k hk => ih k hk (d + 1) (h3 k hk) (by have := partsL_mem hk; omega)
    · by_cases h5 : s = 5
      · have := (h2.form h5).1; omega
      · have := h2.other h5; omega
    · intro x hx
      by_cases h5 : s = 5
      · obtain ⟨i, hi⟩ := List.mem_iff_getElem?.1 hx
        have := nameOk_size ((rise_true.1 (h2.form h5).2) i x hi).1
        omega
      · have := h2.other h5
        rw [List.length_eq_zero_iff.1 this] at hx; cases hx
theorem okK_KB {k : Kd} (h : okK k = true) : KB 1000 k := KOk_KB k 1 (okK_true.1 h).1 (by have := (okK_true.1 h).2; omega)
theorem UKv_2 : (type_of% (uA c9.eq_1)) ∧ (type_of% (uR r9_0.eq_1)) ∧ (type_of% (uR r9_1.eq_1)) ∧ (type_of% (uA c9_6.eq_1)) ∧ (type_of% (uR r9_2.eq_1)) ∧ (type_of% (uA c9_5.eq_1)) ∧ (type_of% (uA c9_4.eq_1)) ∧ (type_of% (uR r9_3.eq_1)) ∧ (type_of% (uA c9_22.eq_1)) ∧ (type_of% (uR r9_7.eq_1)) ∧ (type_of% (uA c9_21.eq_1)) ∧ (type_of% (uA c9_20.eq_1)) ∧ (type_of% (uR r9_23.eq_1)) ∧ (type_of% s9.eq_1) :=
  ⟨uA c9.eq_1, uR r9_0.eq_1, uR r9_1.eq_1, uA c9_6.eq_1, uR r9_2.eq_1, uA c9_5.eq_1, uA c9_4.eq_1, uR r9_3.eq_1, uA c9_22.eq_1, uR r9_7.eq_1, uA c9_21.eq_1, uA c9_20.eq_1, uR r9_23.eq_1, s9.eq_1⟩
theorem UKv_3 : (type_of% (uA c9_19.eq_1)) ∧ (type_of% (uA c9_10.eq_1)) ∧ (type_of% (uR r9_8.eq_1)) ∧ (type_of% (uA c9_9.eq_1)) ∧ (type_of% (uA c9_17.eq_1)) ∧ (type_of% (uA c9_16.eq_1)) ∧ (type_of% (uR r9_11.eq_1)) ∧ (type_of% (uR r9_12.eq_1)) ∧ (type_of% (uA c9_15.eq_1)) ∧ (type_of% (uA c9_14.eq_1)) ∧ (type_of% (uR r9_13.eq_1)) ∧ (type_of% (uR r9_18.eq_1)) ∧ (type_of% (uA c9.eq_1)) ∧ (type_of% (uR r9_0.eq_1)) ∧ (type_of% (uR r9_1.eq_1)) ∧ (type_of% (uA c9_6.eq_1)) ∧ (type_of% (uR r9_2.eq_1)) ∧ (type_of% (uA c9_5.eq_1)) ∧ (type_of% (uA c9_4.eq_1)) ∧ (type_of% (uR r9_3.eq_1)) ∧ (type_of% (uA c9_22.eq_1)) ∧ (type_of% (uR r9_7.eq_1)) ∧ (type_of% (uA c9_21.eq_1)) ∧ (type_of% (uA c9_20.eq_1)) ∧ (type_of% (uR r9_23.eq_1)) ∧ (type_of% s9.eq_1) :=
  ⟨uA c9_19.eq_1, uA c9_10.eq_1, uR r9_8.eq_1, uA c9_9.eq_1, uA c9_17.eq_1, uA c9_16.eq_1, uR r9_11.eq_1, uR r9_12.eq_1, uA c9_15.eq_1, uA c9_14.eq_1, uR r9_13.eq_1, uR r9_18.eq_1, uA c9.eq_1, uR r9_0.eq_1, uR r9_1.eq_1, uA c9_6.eq_1, uR r9_2.eq_1, uA c9_5.eq_1, uA c9_4.eq_1, uR r9_3.eq_1, uA c9_22.eq_1, uR r9_7.eq_1, uA c9_21.eq_1, uA c9_20.eq_1, uR r9_23.eq_1, s9.eq_1⟩
theorem way_ok (bs0 : List UInt8) (a : Kd) (hB : KB 2000 a) : ∃ k, KB 2000 k ∧ ACallsF Try.prog 9 [tK a, .c (.v (.sl (encB bs0)))] [] (tK k) := by
  cases hOa : okK a with
  | false =>
    refine ⟨a, hB, ACallsF.intro ok9 follows fun X c0 => ?_⟩
    simp only [RUN, core, T.c, T.s, T.b, T.i, sBin, sInt, sUn, isShift, asInt, P1.cells, loadT, ptrC, storeT, putC, fillP, Nat.reduceAdd, reduceIte, Nat.reduceEqDiff, Nat.reduceLT, Nat.reduceLeDiff, reduceCtorEq, eq_self, FIT, lendCs_map, verC_map, FinC, resPs, resP, lendPl, lendCs, lendC, sealC, partsT, finHs, tupT, verT, verP, verC, verB, verAt, Blk.ver, handsAre, forall_const, CHT, disj, Nat.reduceBEq, beq_self_eq_true, APT, srcOf, sealPs, sealCs, sealC, List.mem_singleton, forall_eq, ALT, UKv_2, rdr]
    refine callOpen rfl rfl ⟨rfl, ?_⟩
    simp only [RUN, core, T.c, T.s, T.b, T.i, sBin, sInt, sUn, isShift, asInt, P1.cells, loadT, ptrC, storeT, putC, fillP, Nat.reduceAdd, reduceIte, Nat.reduceEqDiff, Nat.reduceLT, Nat.reduceLeDiff, reduceCtorEq, eq_self, FIT, lendCs_map, verC_map, FinC, resPs, resP, lendPl, lendCs, lendC, sealC, partsT, finHs, tupT, verT, verP, verC, verB, verAt, Blk.ver, handsAre, forall_const, CHT, disj, Nat.reduceBEq, beq_self_eq_true, APT, srcOf, sealPs, sealCs, sealC, List.mem_singleton, forall_eq, ALT, UKv_2, rdr, List.length_map, encK_len, takeK, Nat.le_refl]
    refine callC (kindOkS_ok a (hB.le (by omega))) rfl rfl (by simp [closedA, closedP, closedC]) rfl ?_
    simp only [RUN, core, T.c, T.s, T.b, T.i, sBin, sInt, sUn, isShift, asInt, P1.cells, loadT, ptrC, storeT, putC, fillP, Nat.reduceAdd, reduceIte, Nat.reduceEqDiff, Nat.reduceLT, Nat.reduceLeDiff, reduceCtorEq, eq_self, FIT, lendCs_map, verC_map, FinC, resPs, resP, lendPl, lendCs, lendC, sealC, partsT, finHs, tupT, verT, verP, verC, verB, verAt, Blk.ver, handsAre, forall_const, CHT, disj, Nat.reduceBEq, beq_self_eq_true, APT, srcOf, sealPs, sealCs, sealC, List.mem_singleton, forall_eq, ALT, UKv_2, hOa, List.length_map, encK_len, takeK, Nat.le_refl]
  | true =>
    have hOk := okK_true.1 hOa
    have hbt : (bs0.take 2000).length ≤ 2000 := by rw [List.length_take]; omega
    have hBa := okK_KB hOa
    obtain ⟨f, f0, f1, f2⟩ := trace (fun i (s : Int × Option Kd) => 0 ≤ s.1 ∧ s.1 ≤ i * 4000000) (fun _ => PairStep 0 (bs0.take 2000) a) (0, none) ⟨Int.le_refl _, by simp⟩ 3 (by
      rintro i hi ⟨q, o⟩ ⟨g1, g2⟩
      simp only at g1 g2
      obtain ⟨p', k, i1, i2, i3, i4⟩ := wider_ok 0 (bs0.take 2000) hbt a 1 hOk.1 hBa q ⟨by omega, by omega⟩
      exact ⟨(p', some k), ⟨p', k, i4, i3, rfl⟩, by simp only; omega, by simp only; omega⟩)
    obtain ⟨m, K, hm, hBK, hOK, hres, hend⟩ := retry 3 f (KB 1000) (fun i hi => by obtain ⟨p', k, _, h2, h3⟩ := f2 i hi; exact ⟨k, by rw [h3], h2⟩) a hBa hOa
    refine ⟨K, hBK.le (by omega), ACallsF.intro ok9 follows fun X c0 => ?_⟩
    simp only [RUN, core, T.c, T.s, T.b, T.i, sBin, sInt, sUn, isShift, asInt, P1.cells, loadT, ptrC, storeT, putC, fillP, Nat.reduceAdd, reduceIte, Nat.reduceEqDiff, Nat.reduceLT, Nat.reduceLeDiff, reduceCtorEq, eq_self, FIT, lendCs_map, verC_map, FinC, resPs, resP, lendPl, lendCs, lendC, sealC, partsT, finHs, tupT, verT, verP, verC, verB, verAt, Blk.ver, handsAre, forall_const, CHT, disj, Nat.reduceBEq, beq_self_eq_true, APT, srcOf, sealPs, sealCs, sealC, List.mem_singleton, forall_eq, ALT, UKv_2, rdr]
    refine callOpen rfl rfl ⟨rfl, ?_⟩
    simp only [RUN, core, T.c, T.s, T.b, T.i, sBin, sInt, sUn, isShift, asInt, P1.cells, loadT, ptrC, storeT, putC, fillP, Nat.reduceAdd, reduceIte, Nat.reduceEqDiff, Nat.reduceLT, Nat.reduceLeDiff, reduceCtorEq, eq_self, FIT, lendCs_map, verC_map, FinC, resPs, resP, lendPl, lendCs, lendC, sealC, partsT, finHs, tupT, verT, verP, verC, verB, verAt, Blk.ver, handsAre, forall_const, CHT, disj, Nat.reduceBEq, beq_self_eq_true, APT, srcOf, sealPs, sealCs, sealC, List.mem_singleton, forall_eq, ALT, UKv_2, rdr, List.length_map, encK_len, takeK, Nat.le_refl]
    refine callC (kindOkS_ok a (hB.le (by omega))) rfl rfl (by simp [closedA, closedP, closedC]) rfl ?_
    simp only [RUN, core, T.c, T.s, T.b, T.i, sBin, sInt, sUn, isShift, asInt, P1.cells, loadT, ptrC, storeT, putC, fillP, Nat.reduceAdd, reduceIte, Nat.reduceEqDiff, Nat.reduceLT, Nat.reduceLeDiff, reduceCtorEq, eq_self, FIT, lendCs_map, verC_map, FinC, resPs, resP, lendPl, lendCs, lendC, sealC, partsT, finHs, tupT, verT, verP, verC, verB, verAt, Blk.ver, handsAre, forall_const, CHT, disj, Nat.reduceBEq, beq_self_eq_true, APT, srcOf, sealPs, sealCs, sealC, List.mem_singleton, forall_eq, ALT, UKv_2, hOa, List.length_map, encK_len, takeK, Nat.le_refl]
    generalize hv : c0 + 2 + 1 = v
    refine AW.upto 3 (inv9 v (bs0.take 2000) a f) ?_ fun i t H c hi h => ?_
    · unfold inv9
      rw [f0]
      exact ⟨fun j _ hj => absurd hj (Nat.not_lt_zero j), ⟨_, rfl, rfl⟩, ⟨_, rfl, rfl⟩, rfl, rfl, rfl⟩
    obtain ⟨g0, ⟨u2, e2, eH2⟩, ⟨u4, e4, eH4⟩, e5, e6, eH⟩ := h
    simp only [T.c, T.i, rdr] at e2 eH2 e4 eH4 e5 e6 eH
    by_cases hlt : i < 3
    · have k1 : (i : Int) < 3 := by omega
      have gw : IntKind.i64.wrap ((i : Int) + 1) = ((i + 1 : Nat) : Int) := wrap64 (x := (i : Int) + 1) ⟨by omega, by omega⟩
      obtain ⟨q, k, hC2, hBk, he⟩ := f2 i hlt
      have hC2 := anyV hC2 (by simp [closedA, closedP, closedC]) (closed_map _) v
      have hf2 : (f (i + 1)).2 = some k := by rw [he]
      have hf1 : (f (i + 1)).1 = q := by rw [he]
      simp only [RUN, core, T.c, T.s, T.b, T.i, sBin, sInt, sUn, isShift, asInt, P1.cells, loadT, ptrC, storeT, putC, fillP, Nat.reduceAdd, reduceIte, Nat.reduceEqDiff, Nat.reduceLT, Nat.reduceLeDiff, reduceCtorEq, eq_self, FIT, lendCs_map, verC_map, FinC, resPs, resP, lendPl, lendCs, lendC, sealC, partsT, finHs, tupT, verT, verP, verC, verB, verAt, Blk.ver, handsAre, forall_const, UKv_3, e5, e6, e2, eH2, k1, List.length_map, encK_len, takeK, Nat.le_refl]
      refine callRc hC2 rfl rfl (by simp [closedA, closedP, closedC]) (closed_map _) eH ⟨rfl, ?_⟩
      simp only [RUN, core, T.c, T.s, T.b, T.i, sBin, sInt, sUn, isShift, asInt, P1.cells, loadT, ptrC, storeT, putC, fillP, Nat.reduceAdd, reduceIte, Nat.reduceEqDiff, Nat.reduceLT, Nat.reduceLeDiff, reduceCtorEq, eq_self, FIT, lendCs_map, verC_map, FinC, resPs, resP, lendPl, lendCs, lendC, sealC, partsT, finHs, tupT, verT, verP, verC, verB, verAt, Blk.ver, handsAre, forall_const, UKv_3, List.length_map, encK_len, takeK, Nat.le_refl]
      refine callC (kindOkS_ok k (hBk.le (by omega))) rfl rfl (by simp [closedA, closedP, closedC]) rfl ?_
      cases hk : okK k with
      | true =>
        obtain ⟨r1, r2⟩ := hres i k hlt g0 hf2 hk
        subst r1 r2
        simp only [RUN, core, T.c, T.s, T.b, T.i, sBin, sInt, sUn, isShift, asInt, P1.cells, loadT, ptrC, storeT, putC, fillP, Nat.reduceAdd, reduceIte, Nat.reduceEqDiff, Nat.reduceLT, Nat.reduceLeDiff, reduceCtorEq, eq_self, FIT, lendCs_map, verC_map, FinC, resPs, resP, lendPl, lendCs, lendC, sealC, partsT, finHs, tupT, verT, verP, verC, verB, verAt, Blk.ver, handsAre, forall_const, CHT, disj, Nat.reduceBEq, beq_self_eq_true, UKv_3, e2, eH2, e4, eH4, rdr, hf1, List.length_map, encK_len, takeK, Nat.le_refl]
      | false =>
        simp only [RUN, core, T.c, T.s, T.b, T.i, sBin, sInt, sUn, isShift, asInt, P1.cells, loadT, ptrC, storeT, putC, fillP, Nat.reduceAdd, reduceIte, Nat.reduceEqDiff, Nat.reduceLT, Nat.reduceLeDiff, reduceCtorEq, eq_self, FIT, lendCs_map, verC_map, FinC, resPs, resP, lendPl, lendCs, lendC, sealC, partsT, finHs, tupT, verT, verP, verC, verB, verAt, Blk.ver, handsAre, forall_const, UKv_3, e6, gw]
        refine ⟨hlt, fun j k2 hj hj2 => ?_, ⟨u2, e2, eH2⟩, ⟨u4, e4, eH4⟩, e5, rfl, by rw [hf1]; rfl⟩
        rcases Nat.lt_succ_iff_lt_or_eq.1 hj with hj | rfl
        · exact g0 j k2 hj hj2
        · rw [hf2] at hj2; cases hj2; exact hk
    · have hi3 : i = 3 := by omega
      subst hi3
      have k1 : ¬ (((3 : Nat) : Int)) < 3 := by omega
      obtain ⟨r1, r2⟩ := hend g0
      subst r1 r2
      simp only [RUN, core, T.c, T.s, T.b, T.i, sBin, sInt, sUn, isShift, asInt, P1.cells, loadT, ptrC, storeT, putC, fillP, Nat.reduceAdd, reduceIte, Nat.reduceEqDiff, Nat.reduceLT, Nat.reduceLeDiff, reduceCtorEq, eq_self, FIT, lendCs_map, verC_map, FinC, resPs, resP, lendPl, lendCs, lendC, sealC, partsT, finHs, tupT, verT, verP, verC, verB, verAt, Blk.ver, handsAre, forall_const, CHT, disj, Nat.reduceBEq, beq_self_eq_true, UKv_3, UKv_2, e6, k1, e2, eH2, e4, eH4, eH, rdr, List.length_map, encK_len, takeK, Nat.le_refl]
end Go.V
set_option linter.unusedSimpArgs false
namespace Go.V
open Go.Proofs
/- loop.example/teagle/spec.DrawKindWiden -/
def r8_0 : List AOper := [ao 0 2 (.alloc 26 [(.v (.s (.int .i64 0))), .nil0, .nil0]),
  ao 1 3 (.alloc 26 [(.v (.s (.int .i64 0))), .nil0, .nil0]),
  ao 2 4 (.alloc 29 [(.v (.s (.int .i64 0))), (.v (.s (.int .i64 0))), (.v (.s (.string ⟨#[]⟩))), .nil0, .nil0])]
def r8_1 : List AOper := [ao 0 12 (.mv (.t 0)),
  ao 1 13 (.call (.k (.c (.fn 33 []))) [(.t 12)]),
  ao 2 5 (.mv (.t 13))]
def r8_2 : List AOper := [ao 0 15 (.mv (.t 5)),
  ao 1 16 (.call (.k (.c (.fn 34 []))) [(.t 15)]),
  ao 2 14 (.mv (.t 16)),
  ao 3 17 (.ext 0 (.t 14)),
  ao 4 18 (.ext 1 (.t 14)),
  ao 5 6 (.alloc 26 [(.v (.s (.int .i64 0))), .nil0, .nil0]),
  ao 6 7 (.alloc 26 [(.v (.s (.int .i64 0))), .nil0, .nil0]),
  an 7 (.st 3 (.t 6) (.t 17)),
  an 8 (.st 3 (.t 7) (.t 18))]
def r8_3 : List AOper := [ao 0 19 (.mv (.t 5)),
  ao 1 20 (.ld 3 true (.t 6)),
  ao 2 21 (.call (.k (.c (.fn 35 []))) [(.t 19), (.t 20)]),
  ao 3 8 (.alloc 29 [(.v (.s (.int .i64 0))), (.v (.s (.int .i64 0))), (.v (.s (.string ⟨#[]⟩))), .nil0, .nil0]),
  an 4 (.st 5 (.t 8) (.t 21))]
def r8_4 : List AOper := [ao 0 22 (.mv (.t 5)),
  ao 1 23 (.call (.k (.c (.fn 36 []))) [(.t 22), (.k (.i 16))])]
def r8_5 : List AOper := [ao 0 25 (.bin .eql (.t 23) (.k (.i 0))),
  ao 1 24 (.mv (.t 25))]
def r8_6 : List AOper := [ao 0 26 (.ld 3 true (.t 6)),
  au 1 27 [0] (.ld 3 true (.t 7)),
  au 2 28 [0, 1] (.mv (.t 5)),
  au 3 29 (ru 3) (.ld 5 true (.t 8)),
  au 4 30 [0, 1] (.call (.k (.c (.fn 37 []))) [(.t 28), (.t 29)]),
  ax 5 none none [1] (.st 3 (.t 2) (.t 26)),
  an 6 (.st 3 (.t 3) (.t 27)),
  an 7 (.st 5 (.t 4) (.t 30))]
def c8_7 : ACode := .seq (.reg r8_6) .ret
def r8_8 : List AOper := [ao 0 32 (.bin .eql (.t 23) (.k (.i 1))),
  ao 1 31 (.mv (.t 32))]
def r8_9 : List AOper := [ao 0 33 (.ld 3 true (.t 7)),
  au 1 34 [0] (.ld 3 true (.t 6)),
  au 2 35 [0, 1] (.ld 5 true (.t 8)),
  ax 3 none none [1, 2] (.st 3 (.t 2) (.t 33)),
  ax 4 none none [2] (.st 3 (.t 3) (.t 34)),
  an 5 (.st 5 (.t 4) (.t 35))]
def c8_10 : ACode := .seq (.reg r8_9) .ret
def r8_11 : List AOper := [ao 0 37 (.bin .eql (.t 23) (.k (.i 2))),
  ao 1 36 (.mv (.t 37))]
def r8_12 : List AOper := [ao 0 38 (.ld 3 true (.t 6)),
  au 1 39 [0] (.mv (.t 5)),
  au 2 40 [0, 1] (.ld 3 true (.t 7)),
  au 3 41 [0] (.call (.k (.c (.fn 38 []))) [(.t 39), (.t 40)]),
  au 4 42 (ru 4) (.ld 5 true (.t 8)),
  ax 5 none none [4] (.st 3 (.t 2) (.t 38)),
  ax 6 none none [4] (.st 3 (.t 3) (.t 41)),
  an 7 (.st 5 (.t 4) (.t 42))]
def c8_13 : ACode := .seq (.reg r8_12) .ret
def r8_14 : List AOper := [ao 0 44 (.bin .eql (.t 23) (.k (.i 3))),
  ao 1 43 (.mv (.t 44))]
def r8_15 : List AOper := [ao 0 45 (.build [(.v (.s (.int .i64 0))), .nil0, .nil0] [(0, 1, (.k (.i 1)))]),
  ao 1 9 (.alloc 26 [(.v (.s (.int .i64 0))), .nil0, .nil0]),
  an 2 (.st 3 (.t 9) (.t 45))]
def r8_16 : List AOper := [ao 0 46 (.ld 3 true (.t 9)),
  ao 1 47 (.bsl 3 26 [(.t 46)]),
  ao 2 48 (.build [(.v (.s (.int .i64 0))), .nil0, .nil0] [(0, 1, (.k (.i 4))), (2, 1, (.t 47))]),
  ao 3 10 (.alloc 26 [(.v (.s (.int .i64 0))), .nil0, .nil0]),
  an 4 (.st 3 (.t 10) (.t 48))]
def r8_17 : List AOper := [ao 0 49 (.bsl 1 9 [(.k (.s (.string ⟨#[97]⟩))), (.k (.s (.string ⟨#[98]⟩)))]),
  ao 1 50 (.ld 3 true (.t 10)),
  ao 2 51 (.bsl 3 26 [(.t 50)]),
  ao 3 52 (.build [(.v (.s (.int .i64 0))), .nil0, .nil0] [(0, 1, (.k (.i 4))), (2, 1, (.t 51))]),
  ao 4 53 (.ld 3 true (.t 10)),
  ao 5 54 (.bsl 3 26 [(.t 52), (.t 53)]),
  ao 6 55 (.build [(.v (.s (.int .i64 0))), .nil0, .nil0] [(0, 1, (.k (.i 5))), (1, 1, (.t 49)), (2, 1, (.t 54))]),
  ao 7 11 (.alloc 26 [(.v (.s (.int .i64 0))), .nil0, .nil0]),
  an 8 (.st 3 (.t 11) (.t 55))]
def r8_18 : List AOper := [ao 0 56 (.ld 3 true (.t 11)),
  au 1 57 [0] (.ld 3 true (.t 11)),
  au 2 58 [0] (.bsl 3 26 [(.t 57)]),
  au 3 59 [0] (.build [(.v (.s (.int .i64 0))), .nil0, .nil0] [(0, 1, (.k (.i 6))), (2, 1, (.t 58))]),
  au 4 60 (ru 4) (.mv (.t 5)),
  au 5 61 (ru 4) (.call (.k (.c (.fn 36 []))) [(.t 60), (.k (.i 2))]),
  au 6 62 (ru 4) (.bin .sub (.k (.i 120)) (.t 61)),
  au 7 63 (ru 4) (.call (.k (.c (.fn 39 []))) [(.t 62)]),
  ax 8 none none [1, 2, 3] (.st 3 (.t 2) (.t 56)),
  an 9 (.st 3 (.t 3) (.t 59)),
  an 10 (.st 5 (.t 4) (.t 63))]
def c8_19 : ACode := .seq (.reg r8_15) (.seq (.reg r8_16) (.seq (.reg r8_17) (.seq (.reg r8_18) .ret)))
def c8_20 : ACode := .cond (.t 43) c8_19 .skip
def c8_21 : ACode := .seq (.reg r8_14) c8_20
def c8_22 : ACode := .cond (.t 36) c8_13 c8_21
def c8_23 : ACode := .seq (.reg r8_11) c8_22
def c8_24 : ACode := .cond (.t 31) c8_10 c8_23
def c8_25 : ACode := .seq (.reg r8_8) c8_24
def c8_26 : ACode := .cond (.t 24) c8_7 c8_25
def c8_27 : ACode := .seq (.reg r8_5) c8_26
def c8_28 : ACode := .block 0 c8_27
def c8_29 : ACode := .seq (.reg r8_4) c8_28
def r8_30 : List AOper := [ao 0 64 (.ld 3 true (.t 6)),
  au 1 65 [0] (.ld 3 true (.t 7)),
  au 2 66 [0, 1] (.ld 5 true (.t 8)),
  ax 3 none none [1, 2] (.st 3 (.t 2) (.t 64)),
  ax 4 none none [2] (.st 3 (.t 3) (.t 65)),
  an 5 (.st 5 (.t 4) (.t 66))]
def c8 : ACode := .seq (.reg r8_0) (.seq (.reg r8_1) (.seq (.reg r8_2) (.seq (.reg r8_3) (.seq c8_29 (.seq (.reg r8_30) .ret)))))
def s8 : List ARes := [.cell 2 3 true, .cell 3 3 true, .cell 4 5 true]
theorem ok8 : okF Try.prog 8 67 c8 s8 := ⟨Try.f8, Try.func8, Try.ntmps8, by kernel_rfl, by kernel_rfl, by kernel_rfl⟩
abbrev tKKT (a b : Kd) (t : Tr) : T := .tup [.agg ((encK a).map .v), .agg ((encK b).map .v), .agg ((encT t).map .v)]
def numK : Kd := .mk 1 [] []
def listK : Kd := .mk 4 [] [numK]
def formK : Kd := .mk 5 [⟨#[97]⟩, ⟨#[98]⟩] [.mk 4 [] [listK], listK]
theorem enc_listK : encK listK = [.s (.int .i64 4), .sl [], .sl [[.s (.int .i64 1), .sl [], .sl []]]] := by simp [listK, numK, encK_mk, encKs, encS]
theorem enc_formK : encK formK = [.s (.int .i64 5), .sl [[.s (.string ⟨#[97]⟩)], [.s (.string ⟨#[98]⟩)]], .sl [[.s (.int .i64 4), .sl [], .sl [[.s (.int .i64 4), .sl [], .sl [[.s (.int .i64 1), .sl [], .sl []]]]]], [.s (.int .i64 4), .sl [], .sl [[.s (.int .i64 1), .sl [], .sl []]]]]] := by
  simp [formK, listK, numK, encK_mk, encKs, encS]
theorem enc_mformK : encK (.mk 6 [] [formK]) = [.s (.int .i64 6), .sl [], .sl [encK formK]] := by simp [encK_mk, encKs, encS]
theorem numK_KB : KB 2000 numK := .mk _ _ _ (by simp) (by simp) (by simp) (by simp)
theorem listK_KB : KB 2000 listK := .mk _ _ _ (by simp) (by simp) (by simp) (by simpa using numK_KB)
theorem formK_KB : KB 2000 formK := .mk _ _ _ (by simp) (by simp) (by decide) (by
  intro k hk
  simp only [List.mem_cons, List.not_mem_nil, or_false] at hk
  rcases hk with rfl | rfl
  · exact .mk _ _ _ (by simp) (by simp) (by simp) (by simpa using listK_KB)
  · exact listK_KB)
theorem UKw_1 : (type_of% (uA c8.eq_1)) ∧ (type_of% (uR r8_0.eq_1)) ∧ (type_of% (uR r8_1.eq_1)) ∧ (type_of% (uR r8_2.eq_1)) ∧ (type_of% (uR r8_3.eq_1)) ∧ (type_of% (uA c8_29.eq_1)) ∧ (type_of% (uR r8_4.eq_1)) ∧ (type_of% (uR r8_30.eq_1)) ∧ (type_of% s8.eq_1) :=
  ⟨uA c8.eq_1, uR r8_0.eq_1, uR r8_1.eq_1, uR r8_2.eq_1, uR r8_3.eq_1, uA c8_29.eq_1, uR r8_4.eq_1, uR r8_30.eq_1, s8.eq_1⟩
theorem UKw_2 : (type_of% (uA c8.eq_1)) ∧ (type_of% (uR r8_0.eq_1)) ∧ (type_of% (uR r8_1.eq_1)) ∧ (type_of% (uR r8_2.eq_1)) ∧ (type_of% (uR r8_3.eq_1)) ∧ (type_of% (uA c8_29.eq_1)) ∧ (type_of% (uR r8_4.eq_1)) ∧ (type_of% (uA c8_28.eq_1)) ∧ (type_of% (uA c8_27.eq_1)) ∧ (type_of% (uR r8_5.eq_1)) ∧ (type_of% (uA c8_26.eq_1)) ∧ (type_of% (uA c8_7.eq_1)) ∧ (type_of% (uR r8_6.eq_1)) ∧ (type_of% (uA c8_25.eq_1)) ∧ (type_of% (uR r8_8.eq_1)) ∧ (type_of% (uA c8_24.eq_1)) ∧ (type_of% (uA c8_10.eq_1)) ∧ (type_of% (uR r8_9.eq_1)) ∧ (type_of% (uA c8_23.eq_1)) ∧ (type_of% (uR r8_11.eq_1)) ∧ (type_of% (uA c8_22.eq_1)) ∧ (type_of% (uA c8_13.eq_1)) ∧ (type_of% (uR r8_12.eq_1)) ∧ (type_of% (uA c8_21.eq_1)) ∧ (type_of% (uR r8_14.eq_1)) ∧ (type_of% (uA c8_20.eq_1)) ∧ (type_of% (uA c8_19.eq_1)) ∧ (type_of% (uR r8_15.eq_1)) ∧ (type_of% (uR r8_16.eq_1)) ∧ (type_of% (uR r8_17.eq_1)) ∧ (type_of% (uR r8_18.eq_1)) ∧ (type_of% (uR r8_30.eq_1)) ∧ (type_of% s8.eq_1) :=
  ⟨uA c8.eq_1, uR r8_0.eq_1, uR r8_1.eq_1, uR r8_2.eq_1, uR r8_3.eq_1, uA c8_29.eq_1, uR r8_4.eq_1, uA c8_28.eq_1, uA c8_27.eq_1, uR r8_5.eq_1, uA c8_26.eq_1, uA c8_7.eq_1, uR r8_6.eq_1, uA c8_25.eq_1, uR r8_8.eq_1, uA c8_24.eq_1, uA c8_10.eq_1, uR r8_9.eq_1, uA c8_23.eq_1, uR r8_11.eq_1, uA c8_22.eq_1, uA c8_13.eq_1, uR r8_12.eq_1, uA c8_21.eq_1, uR r8_14.eq_1, uA c8_20.eq_1, uA c8_19.eq_1, uR r8_15.eq_1, uR r8_16.eq_1, uR r8_17.eq_1, uR r8_18.eq_1, uR r8_30.eq_1, s8.eq_1⟩
theorem drawWiden_ok (bs0 : List UInt8) : ∃ a b t, KB 2000 a ∧ KB 2000 b ∧ TB 2000 t ∧ ACallsF Try.prog 8 [.c (.v (.sl (encB bs0)))] [] (tKKT a b t) := by
  have hbt : (bs0.take 2000).length ≤ 2000 := by rw [List.length_take]; omega
  obtain ⟨p1, a, b, i1, i2, hBa, hOa, hBb, hOb, hC1⟩ := pair_ok 0 (bs0.take 2000) hbt 0 (by omega)
  have ha := okK_true.1 hOa
  have hb := okK_true.1 hOb
  have hcost : tcost a ≤ 38880 := Nat.le_trans (tcost_le a 1 ha.1) (by
    have := ha.2
    have h2 : 4 * 3 ^ (6 - 1) * parts a ≤ 4 * 3 ^ (6 - 1) * 40 := Nat.mul_le_mul_left _ this
    exact h2)
  obtain ⟨p2, t, i3, i4, hBt, hC2⟩ := tree_ok 0 (bs0.take 2000) hbt a 1 ha.1 hBa p1 (by omega)
  obtain ⟨n, n0, n1, hC3⟩ := pick_ok 0 (bs0.take 2000) hbt p2 16 (by omega) (by omega)
  have hBa2 := hBa.le (show 1000 ≤ 2000 by omega)
  have hBb2 := hBb.le (show 1000 ≤ 2000 by omega)
  have hBt2 := hBt.1.le (show 1000 ≤ 2000 by omega)
  have pre : ∀ (a' b' : Kd) (t' : Tr), (∀ (X : Ctx) (t1 : Nat → T) (H : HMap) (c v : Nat), (∃ u, t1 2 = .c (.ptr 2 u 0) ∧ H 2 = some (.var u 26 [.v (.s (.int .i64 0)), .nil0, .nil0])) → (∃ u, t1 3 = .c (.ptr 3 u 0) ∧ H 3 = some (.var u 26 [.v (.s (.int .i64 0)), .nil0, .nil0])) → (∃ u, t1 4 = .c (.ptr 4 u 0) ∧ H 4 = some (.var u 29 zT)) → t1 5 = rP v →
      (∃ u, t1 6 = .c (.ptr 6 u 0) ∧ H 6 = some (.var u 26 ((encK a).map .v))) → (∃ u, t1 7 = .c (.ptr 7 u 0) ∧ H 7 = some (.var u 26 ((encK b).map .v))) → (∃ u, t1 8 = .c (.ptr 8 u 0) ∧ H 8 = some (.var u 29 ((encT t).map .v))) → t1 23 = .i n → H 1000 = some (rdr v (bs0.take 2000) (p2 + 1)) →
      wpa Try.prog X c8_28 (thenW Try.prog X (.seq (.reg r8_30) .ret) (endA (FinC s8 (tKKT a' b' t') []))) ⟨t1, H, c⟩) → ACallsF Try.prog 8 [.c (.v (.sl (encB bs0)))] [] (tKKT a' b' t') := by
    intro a' b' t' hrest
    refine ACallsF.intro ok8 follows fun X c0 => ?_
    simp only [RUN, core, T.c, T.s, T.b, T.i, sBin, sInt, sUn, isShift, asInt, P1.cells, loadT, ptrC, storeT, putC, fillP, Nat.reduceAdd, reduceIte, Nat.reduceEqDiff, Nat.reduceLT, Nat.reduceLeDiff, reduceCtorEq, eq_self, FIT, lendCs_map, verC_map, FinC, resPs, resP, lendPl, lendCs, lendC, sealC, partsT, finHs, tupT, verT, verP, verC, verB, verAt, Blk.ver, handsAre, forall_const, CHT, disj, Nat.reduceBEq, beq_self_eq_true, APT, srcOf, sealPs, sealCs, sealC, List.mem_singleton, forall_eq, ALT, UKw_1, rdr]
    refine callOpen rfl rfl ⟨rfl, ?_⟩
    simp only [RUN, core, T.c, T.s, T.b, T.i, sBin, sInt, sUn, isShift, asInt, P1.cells, loadT, ptrC, storeT, putC, fillP, Nat.reduceAdd, reduceIte, Nat.reduceEqDiff, Nat.reduceLT, Nat.reduceLeDiff, reduceCtorEq, eq_self, FIT, lendCs_map, verC_map, FinC, resPs, resP, lendPl, lendCs, lendC, sealC, partsT, finHs, tupT, verT, verP, verC, verB, verAt, Blk.ver, handsAre, forall_const, CHT, disj, Nat.reduceBEq, beq_self_eq_true, APT, srcOf, sealPs, sealCs, sealC, List.mem_singleton, forall_eq, ALT, UKw_1, rdr]
    generalize hv : c0 + 3 + 1 = v
    refine callRc (anyV hC1 rfl (by simp [closedT, closedP, closedC]) v) rfl rfl rfl (by simp [closedT, closedP, closedC]) rfl ⟨rfl, ?_⟩
    simp only [RUN, core, T.c, T.s, T.b, T.i, sBin, sInt, sUn, isShift, asInt, P1.cells, loadT, ptrC, storeT, putC, fillP, Nat.reduceAdd, reduceIte, Nat.reduceEqDiff, Nat.reduceLT, Nat.reduceLeDiff, reduceCtorEq, eq_self, FIT, lendCs_map, verC_map, FinC, resPs, resP, lendPl, lendCs, lendC, sealC, partsT, finHs, tupT, verT, verP, verC, verB, verAt, Blk.ver, handsAre, forall_const, CHT, disj, Nat.reduceBEq, beq_self_eq_true, APT, srcOf, sealPs, sealCs, sealC, List.mem_singleton, forall_eq, ALT, UKw_1, rdr, List.length_map, encK_len, takeK, Nat.le_refl]
    refine callRc (anyV hC2 (by simp [closedA, closedP, closedC]) (closed_map _) v) rfl rfl (by simp [closedA, closedP, closedC]) (closed_map _) rfl ⟨?_, ?_⟩
    · simp only [RUN, core, T.c, T.s, T.b, T.i, sBin, sInt, sUn, isShift, asInt, P1.cells, loadT, ptrC, storeT, putC, fillP, Nat.reduceAdd, reduceIte, Nat.reduceEqDiff, Nat.reduceLT, Nat.reduceLeDiff, reduceCtorEq, eq_self, FIT, lendCs_map, verC_map, FinC, resPs, resP, lendPl, lendCs, lendC, sealC, partsT, finHs, tupT, verT, verP, verC, verB, verAt, Blk.ver, handsAre, forall_const, CHT, disj, Nat.reduceBEq, beq_self_eq_true, APT, srcOf, sealPs, sealCs, sealC, List.mem_singleton, forall_eq]
    simp only [RUN, core, T.c, T.s, T.b, T.i, sBin, sInt, sUn, isShift, asInt, P1.cells, loadT, ptrC, storeT, putC, fillP, Nat.reduceAdd, reduceIte, Nat.reduceEqDiff, Nat.reduceLT, Nat.reduceLeDiff, reduceCtorEq, eq_self, FIT, lendCs_map, verC_map, FinC, resPs, resP, lendPl, lendCs, lendC, sealC, partsT, finHs, tupT, verT, verP, verC, verB, verAt, Blk.ver, handsAre, forall_const, CHT, disj, Nat.reduceBEq, beq_self_eq_true, APT, srcOf, sealPs, sealCs, sealC, List.mem_singleton, forall_eq, ALT, UKw_1, rdr, List.length_map, encT_len, takeT, Nat.le_refl]
    refine callRc (anyV hC3 rfl rfl v) rfl rfl rfl rfl rfl ⟨rfl, ?_⟩
    simp only [RUN, core, T.c, T.s, T.b, T.i, sBin, sInt, sUn, isShift, asInt, P1.cells, loadT, ptrC, storeT, putC, fillP, Nat.reduceAdd, reduceIte, Nat.reduceEqDiff, Nat.reduceLT, Nat.reduceLeDiff, reduceCtorEq, eq_self, FIT, lendCs_map, verC_map, FinC, resPs, resP, lendPl, lendCs, lendC, sealC, partsT, finHs, tupT, verT, verP, verC, verB, verAt, Blk.ver, handsAre, forall_const, CHT, disj, Nat.reduceBEq, beq_self_eq_true, APT, srcOf, sealPs, sealCs, sealC, List.mem_singleton, forall_eq, ALT, UKw_1, rdr]
    exact hrest X _ _ _ v ⟨_, rfl, rfl⟩ ⟨_, rfl, rfl⟩ ⟨_, rfl, rfl⟩ rfl ⟨_, rfl, rfl⟩ ⟨_, rfl, rfl⟩ ⟨_, rfl, rfl⟩ rfl rfl
  rcases (by omega : n = 0 ∨ n = 1 ∨ n = 2 ∨ n = 3 ∨ (n ≠ 0 ∧ n ≠ 1 ∧ n ≠ 2 ∧ n ≠ 3)) with rfl | rfl | rfl | rfl | h
  · obtain ⟨p3, t', i5, i6, hBt', hC4⟩ := spoilT_ok 0 (bs0.take 2000) hbt t 6 hBt.2 hBt.1 (p2 + 1) (by omega)
    refine ⟨a, b, t', hBa2, hBb2, hBt', pre _ _ _ fun X t1 H c v h2 h3 h4 e5 h6 h7 h8 e23 eH => ?_⟩
    obtain ⟨u2, e2, eH2⟩ := h2
    obtain ⟨u3, e3, eH3⟩ := h3
    obtain ⟨u4, e4, eH4⟩ := h4
    obtain ⟨u6, e6, eH6⟩ := h6
    obtain ⟨u7, e7, eH7⟩ := h7
    obtain ⟨u8, e8, eH8⟩ := h8
    simp only [T.c, T.i, zT, rdr] at e2 eH2 e3 eH3 e4 eH4 e5 e6 eH6 e7 eH7 e8 eH8 e23 eH
    simp only [RUN, core, T.c, T.s, T.b, T.i, sBin, sInt, sUn, isShift, asInt, P1.cells, loadT, ptrC, storeT, putC, fillP, Nat.reduceAdd, reduceIte, Nat.reduceEqDiff, Nat.reduceLT, Nat.reduceLeDiff, reduceCtorEq, eq_self, FIT, lendCs_map, verC_map, FinC, resPs, resP, lendPl, lendCs, lendC, sealC, partsT, finHs, tupT, verT, verP, verC, verB, verAt, Blk.ver, handsAre, forall_const, CHT, disj, Nat.reduceBEq, beq_self_eq_true, APT, srcOf, sealPs, sealCs, sealC, List.mem_singleton, forall_eq, ALT, UKw_2, rdr, e2, eH2, e3, eH3, e4, eH4, e5, e6, eH6, e7, eH7, e8, eH8, e23, Int.reduceBEq, List.length_map, encK_len, takeK, encT_len, takeT, Nat.le_refl]
    refine callRc (anyV hC4 (by simp [closedA, closedP, closedC]) (closed_map _) v) rfl rfl (by simp [closedA, closedP, closedC]) (closed_map _) eH ⟨?_, ?_⟩
    · simp only [RUN, core, T.c, T.s, T.b, T.i, sBin, sInt, sUn, isShift, asInt, P1.cells, loadT, ptrC, storeT, putC, fillP, Nat.reduceAdd, reduceIte, Nat.reduceEqDiff, Nat.reduceLT, Nat.reduceLeDiff, reduceCtorEq, eq_self, FIT, lendCs_map, verC_map, FinC, resPs, resP, lendPl, lendCs, lendC, sealC, partsT, finHs, tupT, verT, verP, verC, verB, verAt, Blk.ver, handsAre, forall_const, CHT, disj, Nat.reduceBEq, beq_self_eq_true, APT, srcOf, sealPs, sealCs, sealC, List.mem_singleton, forall_eq]
    simp only [RUN, core, T.c, T.s, T.b, T.i, sBin, sInt, sUn, isShift, asInt, P1.cells, loadT, ptrC, storeT, putC, fillP, Nat.reduceAdd, reduceIte, Nat.reduceEqDiff, Nat.reduceLT, Nat.reduceLeDiff, reduceCtorEq, eq_self, FIT, lendCs_map, verC_map, FinC, resPs, resP, lendPl, lendCs, lendC, sealC, partsT, finHs, tupT, verT, verP, verC, verB, verAt, Blk.ver, handsAre, forall_const, CHT, disj, Nat.reduceBEq, beq_self_eq_true, APT, srcOf, sealPs, sealCs, sealC, List.mem_singleton, forall_eq, ALT, UKw_2, rdr, e2, eH2, e3, eH3, e4, eH4, e5, e6, eH6, e7, eH7, e8, eH8, e23, List.length_map, encK_len, takeK, encT_len, takeT, Nat.le_refl]
  · refine ⟨b, a, t, hBb2, hBa2, hBt2, pre _ _ _ fun X t1 H c v h2 h3 h4 e5 h6 h7 h8 e23 eH => ?_⟩
    obtain ⟨u2, e2, eH2⟩ := h2
    obtain ⟨u3, e3, eH3⟩ := h3
    obtain ⟨u4, e4, eH4⟩ := h4
    obtain ⟨u6, e6, eH6⟩ := h6
    obtain ⟨u7, e7, eH7⟩ := h7
    obtain ⟨u8, e8, eH8⟩ := h8
    simp only [T.c, T.i, zT, rdr] at e2 eH2 e3 eH3 e4 eH4 e5 e6 eH6 e7 eH7 e8 eH8 e23 eH
    simp only [RUN, core, T.c, T.s, T.b, T.i, sBin, sInt, sUn, isShift, asInt, P1.cells, loadT, ptrC, storeT, putC, fillP, Nat.reduceAdd, reduceIte, Nat.reduceEqDiff, Nat.reduceLT, Nat.reduceLeDiff, reduceCtorEq, eq_self, FIT, lendCs_map, verC_map, FinC, resPs, resP, lendPl, lendCs, lendC, sealC, partsT, finHs, tupT, verT, verP, verC, verB, verAt, Blk.ver, handsAre, forall_const, CHT, disj, Nat.reduceBEq, beq_self_eq_true, APT, srcOf, sealPs, sealCs, sealC, List.mem_singleton, forall_eq, ALT, UKw_2, rdr, e2, eH2, e3, eH3, e4, eH4, e5, e6, eH6, e7, eH7, e8, eH8, e23, Int.reduceBEq, List.length_map, encK_len, takeK, encT_len, takeT, Nat.le_refl]
  · obtain ⟨p3, b', i5, i6, hBb', hC4⟩ := spoilK_ok 0 (bs0.take 2000) hbt b 1 hb.1 hBb (p2 + 1) (by omega)
    refine ⟨a, b', t, hBa2, hBb', hBt2, pre _ _ _ fun X t1 H c v h2 h3 h4 e5 h6 h7 h8 e23 eH => ?_⟩
    obtain ⟨u2, e2, eH2⟩ := h2
    obtain ⟨u3, e3, eH3⟩ := h3
    obtain ⟨u4, e4, eH4⟩ := h4
    obtain ⟨u6, e6, eH6⟩ := h6
    obtain ⟨u7, e7, eH7⟩ := h7
    obtain ⟨u8, e8, eH8⟩ := h8
    simp only [T.c, T.i, zT, rdr] at e2 eH2 e3 eH3 e4 eH4 e5 e6 eH6 e7 eH7 e8 eH8 e23 eH
    simp only [RUN, core, T.c, T.s, T.b, T.i, sBin, sInt, sUn, isShift, asInt, P1.cells, loadT, ptrC, storeT, putC, fillP, Nat.reduceAdd, reduceIte, Nat.reduceEqDiff, Nat.reduceLT, Nat.reduceLeDiff, reduceCtorEq, eq_self, FIT, lendCs_map, verC_map, FinC, resPs, resP, lendPl, lendCs, lendC, sealC, partsT, finHs, tupT, verT, verP, verC, verB, verAt, Blk.ver, handsAre, forall_const, CHT, disj, Nat.reduceBEq, beq_self_eq_true, APT, srcOf, sealPs, sealCs, sealC, List.mem_singleton, forall_eq, ALT, UKw_2, rdr, e2, eH2, e3, eH3, e4, eH4, e5, e6, eH6, e7, eH7, e8, eH8, e23, Int.reduceBEq, List.length_map, encK_len, takeK, encT_len, takeT, Nat.le_refl]
    refine callRc (anyV hC4 (by simp [closedA, closedP, closedC]) (closed_map _) v) rfl rfl (by simp [closedA, closedP, closedC]) (closed_map _) eH ⟨?_, ?_⟩
    · simp only [RUN, core, T.c, T.s, T.b, T.i, sBin, sInt, sUn, isShift, asInt, P1.cells, loadT, ptrC, storeT, putC, fillP, Nat.reduceAdd, reduceIte, Nat.reduceEqDiff, Nat.reduceLT, Nat.reduceLeDiff, reduceCtorEq, eq_self, FIT, lendCs_map, verC_map, FinC, resPs, resP, lendPl, lendCs, lendC, sealC, partsT, finHs, tupT, verT, verP, verC, verB, verAt, Blk.ver, handsAre, forall_const, CHT, disj, Nat.reduceBEq, beq_self_eq_true, APT, srcOf, sealPs, sealCs, sealC, List.mem_singleton, forall_eq]
    simp only [RUN, core, T.c, T.s, T.b, T.i, sBin, sInt, sUn, isShift, asInt, P1.cells, loadT, ptrC, storeT, putC, fillP, Nat.reduceAdd, reduceIte, Nat.reduceEqDiff, Nat.reduceLT, Nat.reduceLeDiff, reduceCtorEq, eq_self, FIT, lendCs_map, verC_map, FinC, resPs, resP, lendPl, lendCs, lendC, sealC, partsT, finHs, tupT, verT, verP, verC, verB, verAt, Blk.ver, handsAre, forall_const, CHT, disj, Nat.reduceBEq, beq_self_eq_true, APT, srcOf, sealPs, sealCs, sealC, List.mem_singleton, forall_eq, ALT, UKw_2, rdr, e2, eH2, e3, eH3, e4, eH4, e5, e6, eH6, e7, eH7, e8, eH8, e23, List.length_map, encK_len, takeK, encT_len, takeT, Nat.le_refl]
  · obtain ⟨m, m0, m1, hC4⟩ := pick_ok 0 (bs0.take 2000) hbt (p2 + 1) 2 (by omega) (by omega)
    obtain ⟨N, hN⟩ : ∃ N : Nat, 120 - m = ((103 + N : Nat) : Int) := ⟨(17 - m).toNat, by omega⟩
    have gw : IntKind.i64.wrap (120 - m) = ((103 + N : Nat) : Int) := (wrap64 ⟨by omega, by omega⟩).trans hN
    have hF := full_ok N (by omega)
    refine ⟨formK, .mk 6 [] [formK], fullT N, formK_KB, .mk _ _ _ (by simp) (by simp) (by simp) (by simpa using formK_KB), fullT_TB N (by omega), pre _ _ _ fun X t1 H c v h2 h3 h4 e5 h6 h7 h8 e23 eH => ?_⟩
    obtain ⟨u2, e2, eH2⟩ := h2
    obtain ⟨u3, e3, eH3⟩ := h3
    obtain ⟨u4, e4, eH4⟩ := h4
    simp only [T.c, T.i, zT, rdr] at e2 eH2 e3 eH3 e4 eH4 e5 e23 eH
    simp only [RUN, core, T.c, T.s, T.b, T.i, sBin, sInt, sUn, isShift, asInt, P1.cells, loadT, ptrC, storeT, putC, fillP, Nat.reduceAdd, reduceIte, Nat.reduceEqDiff, Nat.reduceLT, Nat.reduceLeDiff, reduceCtorEq, eq_self, FIT, lendCs_map, verC_map, FinC, resPs, resP, lendPl, lendCs, lendC, sealC, partsT, finHs, tupT, verT, verP, verC, verB, verAt, Blk.ver, handsAre, forall_const, CHT, disj, Nat.reduceBEq, beq_self_eq_true, APT, srcOf, sealPs, sealCs, sealC, List.mem_singleton, forall_eq, ALT, UKw_2, rdr, e2, eH2, e3, eH3, e4, eH4, e5, e23, Int.reduceBEq]
    refine callRc (anyV hC4 rfl rfl v) rfl rfl rfl rfl eH ⟨?_, ?_⟩
    · simp only [RUN, core, T.c, T.s, T.b, T.i, sBin, sInt, sUn, isShift, asInt, P1.cells, loadT, ptrC, storeT, putC, fillP, Nat.reduceAdd, reduceIte, Nat.reduceEqDiff, Nat.reduceLT, Nat.reduceLeDiff, reduceCtorEq, eq_self, FIT, lendCs_map, verC_map, FinC, resPs, resP, lendPl, lendCs, lendC, sealC, partsT, finHs, tupT, verT, verP, verC, verB, verAt, Blk.ver, handsAre, forall_const, CHT, disj, Nat.reduceBEq, beq_self_eq_true, APT, srcOf, sealPs, sealCs, sealC, List.mem_singleton, forall_eq]
    simp only [RUN, core, T.c, T.s, T.b, T.i, sBin, sInt, sUn, isShift, asInt, P1.cells, loadT, ptrC, storeT, putC, fillP, Nat.reduceAdd, reduceIte, Nat.reduceEqDiff, Nat.reduceLT, Nat.reduceLeDiff, reduceCtorEq, eq_self, FIT, lendCs_map, verC_map, FinC, resPs, resP, lendPl, lendCs, lendC, sealC, partsT, finHs, tupT, verT, verP, verC, verB, verAt, Blk.ver, handsAre, forall_const, CHT, disj, Nat.reduceBEq, beq_self_eq_true, APT, srcOf, sealPs, sealCs, sealC, List.mem_singleton, forall_eq, ALT, UKw_2, rdr, gw]
    refine callC hF rfl rfl rfl (closed_map _) ?_
    simp only [RUN, core, T.c, T.s, T.b, T.i, sBin, sInt, sUn, isShift, asInt, P1.cells, loadT, ptrC, storeT, putC, fillP, Nat.reduceAdd, reduceIte, Nat.reduceEqDiff, Nat.reduceLT, Nat.reduceLeDiff, reduceCtorEq, eq_self, FIT, lendCs_map, verC_map, FinC, resPs, resP, lendPl, lendCs, lendC, sealC, partsT, finHs, tupT, verT, verP, verC, verB, verAt, Blk.ver, handsAre, forall_const, CHT, disj, Nat.reduceBEq, beq_self_eq_true, APT, srcOf, sealPs, sealCs, sealC, List.mem_singleton, forall_eq, ALT, UKw_2, rdr, e2, eH2, e3, eH3, e4, eH4, List.length_map, encK_len, takeK, encT_len, takeT, Nat.le_refl, enc_mformK, enc_formK]
  · have b0 : (n == 0) = false := beq_eq_false_iff_ne.2 h.1
    have b1 : (n == 1) = false := beq_eq_false_iff_ne.2 h.2.1
    have b2 : (n == 2) = false := beq_eq_false_iff_ne.2 h.2.2.1
    have b3 : (n == 3) = false := beq_eq_false_iff_ne.2 h.2.2.2
    refine ⟨a, b, t, hBa2, hBb2, hBt2, pre _ _ _ fun X t1 H c v h2 h3 h4 e5 h6 h7 h8 e23 eH => ?_⟩
    obtain ⟨u2, e2, eH2⟩ := h2
    obtain ⟨u3, e3, eH3⟩ := h3
    obtain ⟨u4, e4, eH4⟩ := h4
    obtain ⟨u6, e6, eH6⟩ := h6
    obtain ⟨u7, e7, eH7⟩ := h7
    obtain ⟨u8, e8, eH8⟩ := h8
    simp only [T.c, T.i, zT, rdr] at e2 eH2 e3 eH3 e4 eH4 e5 e6 eH6 e7 eH7 e8 eH8 e23 eH
    simp only [RUN, core, T.c, T.s, T.b, T.i, sBin, sInt, sUn, isShift, asInt, P1.cells, loadT, ptrC, storeT, putC, fillP, Nat.reduceAdd, reduceIte, Nat.reduceEqDiff, Nat.reduceLT, Nat.reduceLeDiff, reduceCtorEq, eq_self, FIT, lendCs_map, verC_map, FinC, resPs, resP, lendPl, lendCs, lendC, sealC, partsT, finHs, tupT, verT, verP, verC, verB, verAt, Blk.ver, handsAre, forall_const, CHT, disj, Nat.reduceBEq, beq_self_eq_true, APT, srcOf, sealPs, sealCs, sealC, List.mem_singleton, forall_eq, ALT, UKw_2, rdr, e2, eH2, e3, eH3, e4, eH4, e5, e6, eH6, e7, eH7, e8, eH8, e23, b0, b1, b2, b3, List.length_map, encK_len, takeK, encT_len, takeT, Nat.le_refl]
end Go.V

/- The program's LogPlay returns what the reference's returns, for all arguments. -/
import Derived.Test.YtaojogkldejmhaaGreatDoorMX5
import Derived.Test.YtaojogkldejmhaaGreatDoorMK1
set_option linter.unusedVariables false
set_option linter.unusedSimpArgs false
set_option maxRecDepth 20000
namespace Go.V
open Go.Proofs
def nLA : LA := ⟨0, ⟨#[]⟩, false, 0, 0, []⟩
/-- An act's cells, its numbers a block of their own. -/
abbrev kLA (m u : Nat) (a : LA) : List C := [.v (.s (.int .i64 a.kind)), .v (.s (.string a.data)), .v (.s (.bool a.cuts)), .v (.s (.int .i64 a.after)), .v (.s (.int .i64 a.moves)), .own m u a.keep.length]
abbrev zkLA : List C := [.v (.s (.int .i64 0)), .v (.s (.string ⟨#[]⟩)), .v (.s (.bool false)), .v (.s (.int .i64 0)), .v (.s (.int .i64 0)), .v (.sl [])]
theorem flatI (xs : List Int) : ∀ e ∈ en eI xs, flatFrom 3 0 e = true := by
  intro e he
  simp only [en, List.mem_map] at he
  obtain ⟨x, _, rfl⟩ := he
  rfl
theorem moveLA {H : HMap} {m u : Nat} (a : LA) (h : H m = some (.arr u true 1 3 (en eI a.keep))) : moveCs H 32 0 (kLA m u a) = some (eLA a, [m]) := by
  have h5 : tsub 32 5 = some (1, 3) := rfl
  have hm : moveC H (some (1, 3)) (.own m u a.keep.length) = some (.sl (en eI a.keep), [m]) := by
    simp only [moveC, h]
    rw [if_pos ⟨trivial, by rw [en_len]; exact Nat.le_refl _, trivial, flatI _⟩, en_take]
  have e0 : tsub 32 0 = none := rfl
  have e1 : tsub 32 1 = none := rfl
  have e2 : tsub 32 2 = none := rfl
  have e3 : tsub 32 3 = none := rfl
  have e4 : tsub 32 4 = none := rfl
  simp only [kLA, moveCs, Nat.reduceAdd, h5, hm, e0, e1, e2, e3, e4, moveC.eq_1, if_true, List.nil_append, List.append_nil, eLA]
def ok26 := okF.gu (P := Tryz.prog) tab Tryz.func26 Tryz.ntmps26 (by conv => lhs; cbv) (by kernel_rfl)
/-- The row before a round: the element that was made last may still stand open. -/
def inv26 (xs : List LA) (i : Nat) (σ : St) : Prop := σ.t 0 = tL (en eLA xs) ∧ σ.t 4 = .i i ∧ ∃ v, σ.t 3 = .c (.tr 7 v xs.length) ∧
  ((i = 0 ∧ σ.H 7 = some (.tree v true 6 32 (en eLA (part xs nLA 0)) none)) ∨ ∃ j x u, i = j + 1 ∧ xs[j]? = some x ∧ σ.H 7 = some (.tree v true 6 32 (en eLA (part xs nLA j)) (some (j, kLA 1001 u x))) ∧ σ.H 1001 = some (.arr u true 1 3 (en eI x.keep)))
def mid26 (xs : List LA) (i : Nat) (σ : St) : Prop := σ.t 0 = tL (en eLA xs) ∧ σ.t 4 = .i i ∧ ∃ v, σ.t 3 = .c (.tr 7 v xs.length) ∧
  (i < xs.length → σ.H 7 = some (.tree v true 6 32 (en eLA (part xs nLA i)) (some (i, zkLA)))) ∧ (i = xs.length → σ.H 7 = some (.tree v true 6 32 (en eLA xs) none))
theorem toLAs_ok (xs : List LA) (hl : xs.length ≤ 1048576) (hk : ∀ x ∈ xs, x.keep.length ≤ 1048576) (m : Nat) : ACallsF Tryz.prog 26 [tL (en eLA xs)] [newT 7 m 6 32 (en eLA xs)] (.c (.tr 7 0 xs.length)) := by
  refine ACallsF.intro ok26 follows fun X c0 => ?_
  have q0 : (0 : Int) ≤ xs.length := by omega
  have q1 : ((72 : Nat) : Int) * (xs.length : Int) ≤ 281474976710656 := by omega
  have q2 : (xs.length : Int) ≤ 9223372036854775807 := by omega
  simp only [go_sem, q0, q1, q2, Int.le_refl]
  refine oneW.plantT 3 rfl rfl (fun e he => ?_) ?_
  · have := (List.mem_replicate.1 he).2
    subst this; rfl
  refine AW.uptoG xs.length (inv26 xs) (mid26 xs) ?_ (fun i t H c hi h => ?_) fun i t H c hi h => ?_
  · refine ⟨rfl, rfl, _, rfl, .inl ⟨rfl, ?_⟩⟩
    rw [part_zero, ← en_rep]
    rfl
  · obtain ⟨e0, e4, v, e3, hH⟩ := h
    obtain ⟨H1, g1, k1⟩ : ∃ H1, Gh H c H1 c ∧ H1 7 = some (.tree v true 6 32 (en eLA (part xs nLA i)) none) := by
      rcases hH with ⟨rfl, hH⟩ | ⟨j, x, u, rfl, hx, hH, hK⟩
      · exact ⟨H, Gh.refl H c, hH⟩
      · have := gh_close (c := c) hH (moveLA x hK) (by simp) (by decide)
        rw [en_set, part_set xs nLA hx] at this
        exact ⟨_, this, closeH_id _ _ _ _⟩
    by_cases hlt : i < xs.length
    · refine ⟨_, _, g1.trans (gh_open 5000 k1 (en_at eLA (part_at xs nLA hlt)) (by decide)), e0, e4, v, e3, fun _ => (openH_id H1 7 v 6 32 _ i (eLA nLA) 5000 c), fun h => absurd h (by omega)⟩
    · have : i = xs.length := by omega
      subst this
      rw [part_end] at k1
      exact ⟨_, _, g1, e0, e4, v, e3, fun h => absurd h hlt, fun _ => k1⟩
  · obtain ⟨e0, e4, v, e3, hm, hn⟩ := h
    simp only [T.c, T.i, tL] at e0 e3 e4
    have hpl : (part xs nLA i).length = xs.length := part_len xs nLA hi
    by_cases hlt : i < xs.length
    · have eH : H 7 = _ := hm hlt
      obtain ⟨x, hx⟩ : ∃ x, xs[i]? = some x := ⟨_, List.getElem?_eq_getElem hlt⟩
      have ex := en_at eLA hx
      have k1 : (i : Int) < xs.length := by omega
      have gz : (0 : Int) ≤ i := by omega
      have gm : i < xs.length := hlt
      have gw : IntKind.i64.wrap ((i : Int) + 1) = ((i + 1 : Nat) : Int) := wrap64 (x := (i : Int) + 1) ⟨by omega, by omega⟩
      simp only [go_sem, e0, e3, eH, e4, en_len, k1, gz, gm, ex, eLA, Int.toNat_natCast, hpl, gw]
      refine callLAc (m := 1001) (ws := []) (ns := []) (toLA_ok x (hk x (List.mem_of_getElem? hx)) 1001) rfl rfl rfl ⟨?_, ?_⟩
      · simp only [go_sem]
      simp only [go_sem, e0, e3, eH, e4, en_len, k1, gz, gm, ex, eLA, Int.toNat_natCast, hpl, gw]
      exact ⟨e0, rfl, v, e3, .inr ⟨i, x, _, rfl, hx, rfl, rfl⟩⟩
    · have k1 : ¬ (i : Int) < xs.length := by omega
      have hi2 : i = xs.length := by omega
      have eH : H 7 = _ := hn hi2
      subst hi2
      simp only [go_sem, e0, e3, eH, e4, en_len, k1, imp_self]
end Go.V
set_option linter.unusedSimpArgs false
set_option maxRecDepth 20000
namespace Go.V
open Go.Proofs
def ok25 := okF.gu (P := Tryz.prog) tab Tryz.func25 Tryz.ntmps25 (by conv => lhs; cbv) (by kernel_rfl)
def inv25 (xs : List LA) (left : Int) (i : Nat) (σ : St) : Prop := ((xs.length + wsum wLA (xs.take i) : Nat) : Int) ≤ left ∧ σ.t 0 = .c (.v (.sl (en eLA xs))) ∧ σ.t 1 = .i (left - ((xs.length + wsum wLA (xs.take i) : Nat) : Int)) ∧ σ.t 5 = .i i
theorem szLAs_ok (xs : List LA) (left : Int) (h0 : 0 ≤ left ∧ left ≤ 1048576) (hl : xs.length ≤ 9223372036854775807) (hw : ∀ x ∈ xs, okLA x) : ACallsF Tryz.prog 25 [.c (.v (.sl (en eLA xs))), .i left] [] (.i (sub1 left (xs.length + wsum wLA xs))) := by
  refine ACallsF.intro ok25 follows fun X c0 => ?_
  have gw0 : IntKind.i64.wrap (left - xs.length) = left - xs.length := wrap64 ⟨by omega, by omega⟩
  by_cases hA : (xs.length : Int) ≤ left
  · have k0 : ¬ left - (xs.length : Int) < 0 := by omega
    simp only [go_sem, gw0, k0, en_len]
    refine AW.upto xs.length (inv25 xs left) ⟨by simpa [wsum] using hA, rfl, by show T.i (left - (xs.length : Int)) = _; simp [wsum], rfl⟩ fun i t H c hi h => ?_
    obtain ⟨g, e0, e1, e5⟩ := h
    simp only [T.c, T.i] at e0 e1 e5
    by_cases hlt : i < xs.length
    · obtain ⟨x, hx⟩ : ∃ x, xs[i]? = some x := ⟨_, List.getElem?_eq_getElem hlt⟩
      have ex := en_at eLA hx
      have k1 : (i : Int) < xs.length := by omega
      have gz : (0 : Int) ≤ i := by omega
      have gw : IntKind.i64.wrap ((i : Int) + 1) = ((i + 1 : Nat) : Int) := wrap64 (x := (i : Int) + 1) ⟨by omega, by omega⟩
      have hs : wsum wLA (xs.take (i + 1)) = wsum wLA (xs.take i) + wLA x := wsum_take wLA hx
      have hle : wsum wLA (xs.take (i + 1)) ≤ wsum wLA xs := wsum_le wLA xs _
      have hwx := hw x (List.mem_of_getElem? hx)
      simp only [go_sem, e0, e1, e5, en_len, k1, gz, ex, Int.toNat_natCast, eLA]
      refine callC (szLA_ok x _ ⟨by omega, by omega⟩ hwx) rfl rfl (by simp [closedA, closedP, closedC]) rfl ?_
      by_cases hB : ((wLA x : Nat) : Int) ≤ left - ((xs.length + wsum wLA (xs.take i) : Nat) : Int)
      · have k2 : sub1 (left - ((xs.length + wsum wLA (xs.take i) : Nat) : Int)) (wLA x) = left - ((xs.length + wsum wLA (xs.take (i + 1)) : Nat) : Int) := by rw [sub1, if_pos hB]; omega
        have k3 : ¬ left - ((xs.length + wsum wLA (xs.take (i + 1)) : Nat) : Int) < 0 := by omega
        simp only [go_sem, e5, k2, k3, gw]
        exact ⟨hlt, by omega, e0, rfl, rfl⟩
      · have k2 : sub1 (left - ((xs.length + wsum wLA (xs.take i) : Nat) : Int)) (wLA x) = -1 := by rw [sub1, if_neg hB]
        have k3 : sub1 left (xs.length + wsum wLA xs) = -1 := by rw [sub1, if_neg (by omega)]
        simp only [go_sem, k2, k3, Int.reduceLT]
    · have k1 : ¬ (i : Int) < xs.length := by omega
      have hi2 : i = xs.length := by omega
      subst hi2
      rw [List.take_length] at g
      rw [List.take_length] at e1
      have k3 : sub1 left (xs.length + wsum wLA xs) = left - ((xs.length + wsum wLA xs : Nat) : Int) := by rw [sub1, if_pos g]
      simp only [go_sem, e0, e1, e5, en_len, k1, k3]
  · have k0 : left - (xs.length : Int) < 0 := by omega
    have k3 : sub1 left (xs.length + wsum wLA xs) = -1 := by rw [sub1, if_neg (by omega)]
    simp only [go_sem, gw0, k0, k3, en_len]
def ok29 := okF.gu (P := Tryz.prog) tab Tryz.func29 Tryz.ntmps29 (by conv => lhs; cbv) (by kernel_rfl)
def inv29 (xs : List LA) (i : Nat) (σ : St) : Prop := σ.t 0 = tL (en eLA xs) ∧ σ.t 1 = tL (en eLA xs) ∧ σ.t 5 = .i i
theorem eqLAs_ok (xs : List LA) (hl : xs.length ≤ 9000000000000000000) (hk : ∀ x ∈ xs, x.keep.length ≤ 9000000000000000000) : ACallsF Tryz.prog 29 [tL (en eLA xs), tL (en eLA xs)] [] (.b true) := by
  have n0 : ((xs.length : Int) != xs.length) = false := by simp
  refine ACallsF.intro ok29 follows fun X c0 => ?_
  simp only [go_sem, n0, en_len]
  refine AW.upto xs.length (inv29 xs) ⟨rfl, rfl, rfl⟩ fun i t H c hi h => ?_
  obtain ⟨e0, e1, e5⟩ := h
  simp only [T.c, T.i, tL] at e0 e1 e5
  by_cases hlt : i < xs.length
  · obtain ⟨x, hx⟩ : ∃ x, xs[i]? = some x := ⟨_, List.getElem?_eq_getElem hlt⟩
    have ex := en_at eLA hx
    have k1 : (i : Int) < xs.length := by omega
    have gz : (0 : Int) ≤ i := by omega
    have gw : IntKind.i64.wrap ((i : Int) + 1) = ((i + 1 : Nat) : Int) := wrap64 (x := (i : Int) + 1) ⟨by omega, by omega⟩
    simp only [go_sem, e0, e1, e5, en_len, k1, gz, ex, eLA, Int.toNat_natCast]
    refine callC (eqLA_ok x (hk x (List.mem_of_getElem? hx))) rfl rfl (by simp [closedA, closedP, closedC]) rfl ?_
    simp only [go_sem, e5, gw]
    exact ⟨hlt, e0, e1, rfl⟩
  · have k1 : ¬ (i : Int) < xs.length := by omega
    simp only [go_sem, e0, e1, e5, en_len, k1]
theorem markI0_ok (k : Nat) : ACallsF Tryz.prog 32 [.c (.v (.sl [])), .i k] [] (.i (k : Nat)) := by
  refine ACallsF.intro ok32 follows fun X c0 => ?_
  simp only [go_sem]
  refine AW.upto 0 (fun i σ => i = 0 ∧ σ.t 0 = .c (.v (.sl [])) ∧ σ.t 1 = .i (k : Nat) ∧ σ.t 5 = .i 0) ⟨rfl, rfl, rfl, rfl⟩ fun i t H c hi h => ?_
  obtain ⟨_, e0, e1, e5⟩ := h
  simp only [T.c, T.i] at e0 e1 e5
  simp only [go_sem, e0, e1, e5, Int.lt_irrefl, Int.natCast_zero]
/-- An act, marked from k on. -/
def mkA (k : Nat) (a : LA) : LA := ⟨k, mt (k + 1), (((k + 2) % 3 : Nat) : Int) == 0, ((k + 3 : Nat) : Int), ((k + 4 : Nat) : Int), marks mI 1 (k + 5) a.keep.length⟩
abbrev wMA (a : LA) : Nat := 5 + a.keep.length
def mkAs : Nat → List LA → List LA
  | _, [] => []
  | k, a :: l => mkA k a :: mkAs (k + wMA a) l
theorem mkAs_len : ∀ (l : List LA) (k : Nat), (mkAs k l).length = l.length
  | [], _ => rfl
  | a :: l, k => by simp [mkAs, mkAs_len l]
def mrkA (xs : List LA) (k i : Nat) : List LA := mkAs k (xs.take i) ++ xs.drop i
theorem mrkA_len (xs : List LA) (k : Nat) {i : Nat} (h : i ≤ xs.length) : (mrkA xs k i).length = xs.length := by simp [mrkA, mkAs_len]; omega
theorem mrkA_at (xs : List LA) (k : Nat) {i : Nat} {x : LA} (h : xs[i]? = some x) : (mrkA xs k i)[i]? = some x := by
  have hi : i < xs.length := (List.getElem?_eq_some_iff.1 h).1
  have hl : (mkAs k (xs.take i)).length = i := by rw [mkAs_len]; simp; omega
  unfold mrkA
  rw [List.getElem?_append_right (by omega), hl, Nat.sub_self, List.getElem?_drop, Nat.add_zero]
  exact h
theorem mkAs_snoc : ∀ (l : List LA) (k : Nat) (x : LA), mkAs k (l ++ [x]) = mkAs k l ++ [mkA (k + wsum wMA l) x]
  | [], k, x => by simp [mkAs, wsum]
  | a :: l, k, x => by
    simp only [List.cons_append, mkAs, mkAs_snoc l, wsum, List.map_cons, List.sum_cons]
    rw [Nat.add_assoc]
theorem mrkA_set (xs : List LA) (k : Nat) {i : Nat} {x : LA} (h : xs[i]? = some x) : (mrkA xs k i).set i (mkA (k + wsum wMA (xs.take i)) x) = mrkA xs k (i + 1) := by
  have hi : i < xs.length := (List.getElem?_eq_some_iff.1 h).1
  have hl : (mkAs k (xs.take i)).length = i := by rw [mkAs_len]; simp; omega
  have e1 : xs.take (i + 1) = xs.take i ++ [x] := by rw [List.take_add_one, h]; rfl
  have e2 : xs.drop i = x :: xs.drop (i + 1) := by
    have := List.drop_eq_getElem_cons hi
    rw [this, (List.getElem?_eq_some_iff.1 h).2]
  unfold mrkA
  rw [e1, mkAs_snoc, e2, List.set_append_right _ _ (by omega), hl, Nat.sub_self, List.append_assoc]
  rfl
theorem mrkA_zero (xs : List LA) (k : Nat) : mrkA xs k 0 = xs := by simp [mrkA, mkAs]
theorem mrkA_end (xs : List LA) (k : Nat) : mrkA xs k xs.length = mkAs k xs := by simp [mrkA]
end Go.V
set_option linter.unusedSimpArgs false
set_option maxRecDepth 20000
namespace Go.V
open Go.Proofs
/-- An act's cells, its numbers none. -/
abbrev eLA0 (a : LA) : List C := [.v (.s (.int .i64 a.kind)), .v (.s (.string a.data)), .v (.s (.bool a.cuts)), .v (.s (.int .i64 a.after)), .v (.s (.int .i64 a.moves)), .v (.sl [])]
theorem moveLA0 {H : HMap} (a : LA) (h : a.keep = []) : moveCs H 32 0 (eLA0 a) = some (eLA a, []) := by
  have h5 : tsub 32 5 = some (1, 3) := rfl
  have e0 : tsub 32 0 = none := rfl
  have e1 : tsub 32 1 = none := rfl
  have e2 : tsub 32 2 = none := rfl
  have e3 : tsub 32 3 = none := rfl
  have e4 : tsub 32 4 = none := rfl
  have hm : moveC H (some (1, 3)) (.v (.sl [])) = some (.sl [], []) := by simp [moveC]
  simp only [eLA0, moveCs, Nat.reduceAdd, h5, hm, e0, e1, e2, e3, e4, moveC.eq_1, if_true, List.nil_append, eLA, h, en_nil]
theorem openLA {base nv : Nat} (a : LA) : (a.keep = [] ∧ openCs 32 base nv 0 (eLA a) = eLA0 a) ∨ (openCs 32 base nv 0 (eLA a) = kLA (base + 5) nv a ∧ openB 32 nv (eLA a) 5 = some (.arr nv true 1 3 (en eI a.keep))) := by
  cases hk : a.keep with
  | nil => left; refine ⟨rfl, ?_⟩; unfold eLA; rw [hk]; rfl
  | cons y ys => right; unfold eLA kLA; rw [hk]; exact ⟨by simp only [List.length_cons, ← en_len eI ys]; rfl, rfl⟩
def ok30 := okF.gu (P := Tryz.prog) tab Tryz.func30 Tryz.ntmps30 (by conv => lhs; cbv) (by kernel_rfl)
def inv30 (xs : List LA) (k v : Nat) (i : Nat) (σ : St) : Prop := σ.t 0 = .c (.tr 2001 v xs.length) ∧ σ.t 1 = .i ((k + wsum wMA (xs.take i) : Nat) : Int) ∧ σ.t 5 = .i i ∧
  ((i = 0 ∧ σ.H 2001 = some (.tree v true 6 32 (en eLA xs) none)) ∨ ∃ j x cs ns, i = j + 1 ∧ xs[j]? = some x ∧ σ.H 2001 = some (.tree v true 6 32 (en eLA (mrkA xs k j)) (some (j, cs))) ∧ moveCs σ.H 32 0 cs = some (eLA (mkA (k + wsum wMA (xs.take j)) x), ns) ∧ ns.Nodup ∧ 2001 ∉ ns)
def mid30 (xs : List LA) (k v : Nat) (i : Nat) (σ : St) : Prop := σ.t 0 = .c (.tr 2001 v xs.length) ∧ σ.t 1 = .i ((k + wsum wMA (xs.take i) : Nat) : Int) ∧ σ.t 5 = .i i ∧
  (i < xs.length → ∃ x, xs[i]? = some x ∧ ((x.keep = [] ∧ σ.H 2001 = some (.tree v true 6 32 (en eLA (mrkA xs k i)) (some (i, eLA0 x)))) ∨ ∃ u, σ.H 2001 = some (.tree v true 6 32 (en eLA (mrkA xs k i)) (some (i, kLA 5005 u x))) ∧ σ.H 5005 = some (.arr u true 1 3 (en eI x.keep)))) ∧
  (i = xs.length → σ.H 2001 = some (.tree v true 6 32 (en eLA (mkAs k xs)) none))
theorem markLAs_ok (xs : List LA) (k : Nat) (h1 : 1 ≤ k) (hk : k + wsum wMA xs ≤ 100000000) (hl : xs.length ≤ 1048576) (m v : Nat) : ACallsF Tryz.prog 30 [.c (.tr 2001 v xs.length), .i k] [trH 2001 m v 6 32 (en eLA xs) (en eLA (mkAs k xs))] (.i ((k + wsum wMA xs : Nat) : Int)) := by
  refine ACallsF.intro ok30 follows fun X c0 => ?_
  simp only [go_sem]
  refine AW.uptoG xs.length (inv30 xs k v) (mid30 xs k v) ⟨rfl, rfl, rfl, .inl ⟨rfl, rfl⟩⟩ (fun i t H c hi h => ?_) fun i t H c hi h => ?_
  · obtain ⟨e0, e1, e5, hH⟩ := h
    obtain ⟨H1, g1, k1⟩ : ∃ H1, Gh H c H1 c ∧ H1 2001 = some (.tree v true 6 32 (en eLA (mrkA xs k i)) none) := by
      rcases hH with ⟨rfl, hH⟩ | ⟨j, x, cs, ns, rfl, hx, hH, hM, hn1, hn2⟩
      · exact ⟨H, Gh.refl H c, by rw [mrkA_zero]; exact hH⟩
      · have := gh_close (c := c) hH hM hn1 hn2
        rw [en_set, mrkA_set xs k hx] at this
        exact ⟨_, this, closeH_id _ _ _ _⟩
    by_cases hlt : i < xs.length
    · obtain ⟨x, hx⟩ : ∃ x, xs[i]? = some x := ⟨_, List.getElem?_eq_getElem hlt⟩
      refine ⟨_, _, g1.trans (gh_open 5000 k1 (en_at eLA (mrkA_at xs k hx)) (by decide)), e0, e1, e5, fun _ => ⟨x, hx, ?_⟩, fun h => absurd h (by omega)⟩
      have a1 := openH_id H1 2001 v 6 32 (en eLA (mrkA xs k i)) i (eLA x) 5000 c
      have a2 := openH_in H1 2001 v 6 32 (en eLA (mrkA xs k i)) i (eLA x) 5000 c 5 (by decide) (by decide)
      rcases openLA (base := 5000) (nv := c) x with ⟨b1, b2⟩ | ⟨b1, b2⟩
      · rw [b2] at a1; exact .inl ⟨b1, a1⟩
      · rw [b1] at a1; rw [b2] at a2; exact .inr ⟨c, a1, a2⟩
    · have : i = xs.length := by omega
      subst this
      rw [mrkA_end] at k1
      exact ⟨_, _, g1, e0, e1, e5, fun h => absurd h hlt, fun _ => k1⟩
  · obtain ⟨e0, e1, e5, hm, hn⟩ := h
    simp only [T.c, T.i] at e0 e1 e5
    have hpl : (mrkA xs k i).length = xs.length := mrkA_len xs k hi
    by_cases hlt : i < xs.length
    · obtain ⟨x, hx, hH⟩ := hm hlt
      have k1 : (i : Int) < xs.length := by omega
      have gz : (0 : Int) ≤ i := by omega
      have gm : i < xs.length := hlt
      have gw : IntKind.i64.wrap ((i : Int) + 1) = ((i + 1 : Nat) : Int) := wrap64 (x := (i : Int) + 1) ⟨by omega, by omega⟩
      have hs : wsum wMA (xs.take (i + 1)) = wsum wMA (xs.take i) + wMA x := wsum_take wMA hx
      have hle := wsum_le wMA xs (i + 1)
      have hww : wMA x = 5 + x.keep.length := rfl
      obtain ⟨K, hK⟩ : ∃ K, K = k + wsum wMA (xs.take i) := ⟨_, rfl⟩
      rw [← hK] at e1
      have hsn : k + wsum wMA (xs.take (i + 1)) = K + 5 + 1 * x.keep.length := by omega
      have hle2 : K + 5 + x.keep.length ≤ 100000000 := by omega
      have hge : 1 ≤ K := by omega
      have h30 : ¬ (3 : Int) = 0 := by omega
      have q3 : ((K + 2 : Nat) : Int).tmod 3 = (((K + 2) % 3 : Nat) : Int) := rfl
      have g0 : IntKind.i64.wrap ((K : Int) + 1) = ((K + 1 : Nat) : Int) := (wrap64 (x := (K : Int) + 1) ⟨by omega, by omega⟩).trans (by omega)
      have g1 : IntKind.i64.wrap (((K + 1 : Nat) : Int) + 1) = ((K + 2 : Nat) : Int) := (wrap64 (x := ((K + 1 : Nat) : Int) + 1) ⟨by omega, by omega⟩).trans (by omega)
      have g2 : IntKind.i64.wrap (((K + 2 : Nat) : Int) + 1) = ((K + 3 : Nat) : Int) := (wrap64 (x := ((K + 2 : Nat) : Int) + 1) ⟨by omega, by omega⟩).trans (by omega)
      have g3 : IntKind.i64.wrap (((K + 3 : Nat) : Int) + 1) = ((K + 4 : Nat) : Int) := (wrap64 (x := ((K + 3 : Nat) : Int) + 1) ⟨by omega, by omega⟩).trans (by omega)
      have g4 : IntKind.i64.wrap (((K + 4 : Nat) : Int) + 1) = ((K + 5 : Nat) : Int) := (wrap64 (x := ((K + 4 : Nat) : Int) + 1) ⟨by omega, by omega⟩).trans (by omega)
      rcases hH with ⟨hk0, eH⟩ | ⟨u, eH, eK⟩
      · replace eH : H 2001 = _ := eH
        simp only [go_sem, e0, eH, e1, e5, en_len, hpl, k1, gz, gm, g0, g1, g2, g3, g4, gw, h30, q3, Int.toNat_natCast]
        refine callC (mark_ok (K + 1) (by omega) (by omega)) rfl rfl rfl rfl ?_
        simp only [go_sem, e0, eH, e1, e5, en_len, hpl, k1, gz, gm, g0, g1, g2, g3, g4, gw, h30, q3, Int.toNat_natCast]
        refine callC (markI0_ok (K + 5)) rfl rfl rfl rfl ?_
        simp only [go_sem, e0, eH, e1, e5, en_len, hpl, k1, gz, gm, g0, g1, g2, g3, g4, gw, h30, q3, Int.toNat_natCast]
        have hkz : (mkA K x).keep = [] := by show marks mI 1 (K + 5) x.keep.length = []; rw [hk0]; rfl
        exact ⟨e0, by rw [hsn, hk0]; rfl, rfl, .inr ⟨i, x, _, [], rfl, hx, rfl, by rw [← hK]; exact moveLA0 (mkA K x) hkz, by simp, by simp⟩⟩
      · replace eH : H 2001 = _ := eH
        replace eK : H 5005 = _ := eK
        simp only [go_sem, e0, eH, eK, e1, e5, en_len, hpl, k1, gz, gm, g0, g1, g2, g3, g4, gw, h30, q3, Int.toNat_natCast]
        refine callC (mark_ok (K + 1) (by omega) (by omega)) rfl rfl rfl rfl ?_
        simp only [go_sem, e0, eH, eK, e1, e5, en_len, hpl, k1, gz, gm, g0, g1, g2, g3, g4, gw, h30, q3, Int.toNat_natCast]
        refine callM1 (m := 5005) (markIs_ok x.keep (K + 5) (by omega) (by omega) 5005 u) rfl rfl ?_ rfl rfl ⟨?_, ?_⟩
        · simp only [go_sem, eK]
        · simp only [go_sem]
        simp only [go_sem, e0, eH, eK, e1, e5, en_len, hpl, k1, gz, gm, g0, g1, g2, g3, g4, gw, h30, q3, Int.toNat_natCast]
        have hml : (mkA K x).keep.length = x.keep.length := marks_len mI 1 (K + 5) x.keep.length
        have hmv := fun (H' : HMap) hh => moveLA (H := H') (m := 5005) (u := u) (mkA K x) hh
        simp only [kLA, hml] at hmv
        exact ⟨e0, by rw [hsn]; rfl, rfl, .inr ⟨i, x, _, [5005], rfl, hx, rfl, by rw [← hK]; exact hmv _ rfl, by simp, by simp⟩⟩
    · have k1 : ¬ (i : Int) < xs.length := by omega
      have hi2 : i = xs.length := by omega
      have eH : H 2001 = _ := hn hi2
      subst hi2
      rw [List.take_length] at e1
      simp only [go_sem, e0, eH, e1, e5, en_len, k1, imp_self]
end Go.V
set_option linter.unusedSimpArgs false
set_option maxRecDepth 20000
namespace Go.V
open Go.Proofs
/-- A disk and numbers, given with what they hold. -/
abbrev loH (c1 c2 c3 c4 m1 m2 m3 m4 : Nat) (r : Dk × List Int) : List Hand := [newH c1 m1 3 92 (en eF r.1.files), newH c2 m2 1 9 (en eS r.1.names), newH c3 m3 2 94 (en eM r.1.moves), newH c4 m4 1 3 (en eI r.2)]
abbrev oLo (c1 v1 c2 v2 c3 v3 c4 v4 : Nat) (r : Dk × List Int) : T := .tup [oDk c1 v1 c2 v2 c3 v3 r.1, .one (.own c4 v4 r.2.length)]
/-- An empty disk of nil slices is one of empty arrays, too. -/
theorem ownNil5 {P : Program} {f : FuncId} {args : List T} {c1 c2 c3 c4 m1 m2 m3 m4 : Nat} (hcs : (c1 ≠ c2 ∧ c1 ≠ c3 ∧ c2 ≠ c3) ∧ c1 ≠ c4 ∧ c2 ≠ c4 ∧ c3 ≠ c4) (h : ACallsF P f args [] (.tup [.agg [.nil0, .nil0, .nil0], .one .nil0])) :
    ACallsF P f args (loH c1 c2 c3 c4 m1 m2 m3 m4 (⟨[], [], []⟩, [])) (oLo c1 0 c2 0 c3 0 c4 0 (⟨[], [], []⟩, [])) := by
  obtain ⟨⟨h12, h13, h23⟩, h14, h24, h34⟩ := hcs
  refine ⟨h.1, fun w imm L c vs hH hT => ?_⟩
  have e0 : hinOf (loH c1 c2 c3 c4 m1 m2 m3 m4 (⟨[], [], []⟩, [])) = hinOf [] := by
    funext k; simp only [hinOf_cons, hinOf_nil]; split; rfl; split; rfl; split; rfl; split <;> rfl
  rw [e0] at hH hT ⊢
  refine (h.2 w imm L c vs hH hT).mono ?_
  rintro e w' ⟨x, r, h', imm', L', c', he, ⟨ν, hr, _⟩, hx, hHo, hS, hN, hE⟩
  subst hr
  obtain ⟨xs, rfl, hxl, hxp⟩ : ∃ xs : List Value, x = .tuple xs.toArray ∧ xs.length = 2 ∧ ∀ (k : Nat) u y, xs[k]? = some u → [P1.agg [.nil0, .nil0, .nil0], .one .nil0][k]? = some y → PRep w' imm' h' L' (· < c') u y := hx
  obtain ⟨a, b, rfl⟩ : ∃ a b, xs = [a, b] := by
    match xs, hxl with
    | [a, b], _ => exact ⟨a, b, rfl⟩
  obtain ⟨ys, rfl, hyl, hyp⟩ : ∃ ys : List Value, a = .agg ys.toArray ∧ CsRep w' imm' h' L' (· < c') ys [.nil0, .nil0, .nil0] := hxp 0 a _ rfl rfl
  obtain ⟨y1, y2, y3, rfl⟩ : ∃ y1 y2 y3, ys = [y1, y2, y3] := by
    match ys, hyl with
    | [y1, y2, y3], _ => exact ⟨y1, y2, y3, rfl⟩
  obtain ⟨a1, rfl⟩ : ∃ a, y1 = .slice a 0 0 := hyp 0 y1 _ rfl rfl
  obtain ⟨a2, rfl⟩ : ∃ a, y2 = .slice a 0 0 := hyp 1 y2 _ rfl rfl
  obtain ⟨a3, rfl⟩ : ∃ a, y3 = .slice a 0 0 := hyp 2 y3 _ rfl rfl
  obtain ⟨a4, rfl⟩ : ∃ a, b = .slice a 0 0 := hxp 1 b _ rfl rfl
  have hcc : c ≤ c' := by
    rcases Nat.eq_zero_or_pos c with h0 | h0
    · omega
    · have := hE.use (c - 1) (by omega); omega
  let hn : HMap := fun k => if k = c1 then some (.arr c' true 3 92 []) else if k = c2 then some (.arr c' true 1 9 []) else if k = c3 then some (.arr c' true 2 94 []) else if k = c4 then some (.arr c' true 1 3 []) else none
  have hnk : ∀ k B, hn k = some B → ∃ st ty, 0 < st ∧ B = .arr c' true st ty [] := fun k B hk => by
    simp only [hn] at hk
    split at hk
    · cases hk; exact ⟨3, 92, by decide, rfl⟩
    · split at hk
      · cases hk; exact ⟨1, 9, by decide, rfl⟩
      · split at hk
        · cases hk; exact ⟨2, 94, by decide, rfl⟩
        · split at hk
          · cases hk; exact ⟨1, 3, by decide, rfl⟩
          · cases hk
  have own : ∀ a cc, CRep w' imm' hn ⟨fun _ => none, fun _ _ => False⟩ (· < c' + 1) (.slice a 0 0) (.own cc c' 0) := fun a cc =>
    ⟨Nat.lt_succ_self _, ⟨a, 0, rfl, Nat.le_refl _⟩, fun wr st' ty' es hes => ⟨Nat.zero_le _, .inl ⟨a, rfl, rfl⟩⟩⟩
  refine ⟨.tuple #[.agg #[.slice a1 0 0, .slice a2 0 0, .slice a3 0 0], .slice a4 0 0], oLo c1 c' c2 c' c3 c' c4 c' (⟨[], [], []⟩, []), hn, imm', ⟨fun _ => none, fun _ _ => False⟩, c' + 1, he, ⟨fun _ => c', rfl, fun k hd hh => ?_⟩, ?_, ⟨fun k B hB => ?_, fun _ _ g _ _ hg => (by rcases hg with hg | hg <;> cases hg), fun _ _ _ hg => hg.elim, hHo.glob, hHo.imm⟩, hS, fun _ g _ hg => (by rcases hg with hg | hg <;> cases hg), ⟨fun v hv => ?_, fun k ver ty' cs hu hk => ?_, fun k ver wr st' ty' es hu hk => ?_, fun k ver wr st' ty' es g cur hu hk hg => (by cases hg), fun k ver wr st' ty' es op hu hk => ?_, fun k ver wr st' ty' es op g cur hu hk hg => (by cases hg)⟩⟩
  · obtain ⟨h1, h2⟩ := renN_mem hh
    simp only [List.mem_cons, List.not_mem_nil, or_false] at h1
    rcases h1 with rfl | rfl | rfl | rfl
    · have : c1 = k := h2
      subst this; simp [hn, newH, verB, en_nil]
    · have : c2 = k := h2
      subst this; simp [hn, newH, verB, en_nil, h12.symm]
    · have : c3 = k := h2
      subst this; simp [hn, newH, verB, en_nil, h13.symm, h23.symm]
    · have : c4 = k := h2
      subst this; simp [hn, newH, verB, en_nil, h14.symm, h24.symm, h34.symm]
  · refine ⟨[.agg #[.slice a1 0 0, .slice a2 0 0, .slice a3 0 0], .slice a4 0 0], rfl, rfl, fun k u y hu hy => ?_⟩
    cases k with
    | zero =>
      simp only [List.getElem?_cons_zero, Option.some.injEq] at hu hy
      subst hu hy
      refine ⟨[.slice a1 0 0, .slice a2 0 0, .slice a3 0 0], rfl, rfl, fun j x y hx hy => ?_⟩
      match j, hx, hy with
      | 0, hx, hy => cases hx; cases hy; exact own _ _
      | 1, hx, hy => cases hx; cases hy; exact own _ _
      | 2, hx, hy => cases hx; cases hy; exact own _ _
      | j + 3, hx, hy => simp at hx
    | succ k =>
      cases k with
      | zero =>
        simp only [List.getElem?_cons_succ, List.getElem?_cons_zero, Option.some.injEq] at hu hy
        subst hu hy
        exact own _ _
      | succ k => simp at hu
  · obtain ⟨st, ty, h1, rfl⟩ := hnk k B hB
    exact ⟨Nat.lt_succ_self _, h1, fun e he => (by cases he), .inl ⟨rfl, rfl⟩⟩
  · have := hE.use v hv; omega
  · obtain ⟨st, ty, _, h2⟩ := hnk k _ hk; cases h2
  · obtain ⟨st, ty, _, h2⟩ := hnk k _ hk
    cases h2; omega
  · obtain ⟨st, ty, _, h2⟩ := hnk k _ hk; cases h2
def ok17 := okF.gu (P := Tryz.prog) tab Tryz.func17 Tryz.ntmps17 (by conv => lhs; cbv) (by kernel_rfl)
/-- The disk and the numbers as they stand ahead of a round. -/
def invO (acts : List LA) (i : Nat) (σ : St) : Prop := ∃ d codes v v1 v2 v3, (d, codes) = playG (zDk, []) (acts.take i) ∧ codes.length = i ∧ σ.t 17 = tL (en eLA acts) ∧ σ.t 18 = .i acts.length ∧ (∃ u, σ.t 2 = .c (.ptr 2 u 0) ∧ σ.H 2 = some (.var u 29 [.nil0, .nil0, .nil0])) ∧ (∃ u, σ.t 4 = .c (.ptr 4 u 0) ∧ σ.H 4 = some (.var u 29 [.own 2201 v1 d.files.length, .own 2202 v2 d.names.length, .own 2203 v3 d.moves.length])) ∧ σ.t 19 = .i i ∧ σ.t 5 = .c (.own 16 v codes.length) ∧ σ.H 16 = some (.arr v true 1 3 (en eI codes)) ∧
  σ.H 2201 = some (.arr v1 true 3 92 (en eF d.files)) ∧ σ.H 2202 = some (.arr v2 true 1 9 (en eS d.names)) ∧ σ.H 2203 = some (.arr v3 true 2 94 (en eM d.moves))
set_option maxHeartbeats 2000000 in
theorem logPlayO_ok (acts : List LA) (ha : ∀ a ∈ acts, a.data.size ≤ 1048576) : ∃ n, (n = 16 ∨ n = 2204) ∧ ∀ m1 m2 m3 m4, ACallsF Tryz.prog 17 [tL (en eLA acts)] (loH 2201 2202 2203 n m1 m2 m3 m4 (playR acts)) (oLo 2201 0 2202 0 2203 0 n 0 (playR acts)) := by
  by_cases g1 : (acts.length : Int) > 200
  · have e : playR acts = (zDk, []) := if_pos (by omega)
    rw [e]
    refine ⟨2204, .inr rfl, fun m1 m2 m3 m4 => ownNil5 (by decide) (ACallsF.intro ok17 follows fun X c0 => ?_)⟩
    simp only [go_sem, en_len, g1]
  have e : playR acts = playG (zDk, []) acts := if_neg (by omega)
  rw [e]
  refine ⟨16, .inl rfl, fun m1 m2 m3 m4 => ACallsF.intro ok17 follows fun X c0 => ?_⟩
  simp only [go_sem, en_len, g1]
  refine Gh.one (gh_reify (n := 4) (j := 0) (id := 2201) (st := 3) (aty := 92) rfl rfl rfl (by decide)) ?_
  refine Gh.one (gh_reify (n := 4) (j := 1) (id := 2202) (st := 1) (aty := 9) rfl rfl rfl (by decide)) ?_
  refine Gh.one (gh_reify (n := 4) (j := 2) (id := 2203) (st := 2) (aty := 94) rfl rfl rfl (by decide)) ?_
  refine AW.upto acts.length (invO acts) ⟨zDk, [], _, _, _, _, rfl, rfl, rfl, rfl, ⟨_, rfl, rfl⟩, ⟨_, rfl, rfl⟩, rfl, rfl, rfl, rfl, rfl, rfl⟩ fun i t H c hi h => ?_
  obtain ⟨d, codes, v, v1, v2, v3, hpl, hl, e0, e18, ⟨u2, e2, eH2⟩, ⟨u4, e4, eH4⟩, e6, e5, eH5, f1, f2, f3⟩ := h
  simp only [T.c, T.i, tL] at e0 e18 e2 eH2 e4 eH4 e6 e5 eH5 f1 f2 f3
  have ht1 : (en eI codes).take codes.length = en eI codes := en_take eI codes
  by_cases k1 : (i : Int) < acts.length
  rotate_left
  · have hi2 : i = acts.length := by omega
    rw [hi2, List.take_length] at hpl
    rw [← hpl]
    simp only [go_sem, e0, e18, e2, eH2, e4, eH4, e6, e5, eH5, f1, f2, f3, en_len, k1, ht1, false_implies, and_self, imp_self]
  obtain ⟨a, hx⟩ : ∃ x, acts[i]? = some x := ⟨_, List.getElem?_eq_getElem (by omega)⟩
  have ex := en_at eLA hx
  have gz : (0 : Int) ≤ i := by omega
  have w2 : IntKind.i64.wrap ((i : Int) + 1) = ((i + 1 : Nat) : Int) := wrap64 (x := (i : Int) + 1) ⟨by omega, by omega⟩
  have hD : DOk d := by
    have := playG_ok (acts.take i) (zDk, []) zDk_ok
    rw [← hpl] at this
    exact this
  have C1 := istep_ok d a hD (ha a (List.mem_of_getElem? hx)) 2201 2202 2203
  have hpl2 := playG_take hx (zDk, [])
  rw [← hpl] at hpl2
  simp only at hpl2
  generalize stepR d a = r at *
  obtain ⟨d', p, code⟩ := r
  have q1 : (codes.length + 1) * 8 ≤ 140737488355328 := by omega
  have q2 : codes.length ≤ 9223372036854775806 := by omega
  simp only [go_sem, e0, e18, e2, eH2, e4, eH4, e6, e5, eH5, en_len, k1, ex, gz, Int.toNat_natCast, eLA]
  refine callDkII (ws := dkL 2201 v1 2202 v2 2203 v3 d) (ns := [2201, 2202, 2203]) C1 rfl ?_ rfl (by decide) ⟨?_, ?_⟩
  · exact lend1 f1 f2 f3 rfl rfl rfl rfl
  · simp only [go_sem]
  simp only [go_sem, e0, e18, e2, eH2, e4, eH4, e6, e5, eH5, f1, f2, f3, en_len, k1, scalarT, scalarP, scalarC, List.all_cons, Bool.false_and, w2, ht1, q1, q2, ite_self]
  refine ⟨by omega, d', codes ++ [code], _, _, _, _, hpl2.symm, by rw [List.length_append, hl]; rfl, e0, e18, ⟨u2, e2, eH2⟩, ⟨u4, e4, rfl⟩, rfl, by rw [List.length_append]; rfl, ?_, rfl, rfl, rfl⟩
  rw [en_snoc]; rfl
end Go.V
set_option linter.unusedSimpArgs false
set_option maxRecDepth 20000
namespace Go.V
open Go.Proofs
def ok34 := okF.gu (P := Tryz.prog) tab Tryz.func34 Tryz.ntmps34 (by conv => lhs; cbv) (by kernel_rfl)
def inv34 (N k : Nat) (i : Nat) (σ : St) : Prop := σ.t 0 = tL (en eI (marks mI 1 k N)) ∧ σ.t 1 = .i ((k + 1 * i : Nat) : Int) ∧ σ.t 5 = .i i
theorem heldIs_ok (N k : Nat) (h1 : 1 ≤ k) (hk : k + 1 * N ≤ 100000000) : ACallsF Tryz.prog 34 [tL (en eI (marks mI 1 k N)), .i k] [] (.i ((k + 1 * N : Nat) : Int)) := by
  refine ACallsF.intro ok34 follows fun X c0 => ?_
  simp only [go_sem]
  refine AW.upto N (inv34 N k) ⟨rfl, rfl, rfl⟩ fun i t H c hi h => ?_
  obtain ⟨e0, e1, e5⟩ := h
  simp only [T.c, T.i, tL] at e0 e1 e5
  have hpl : (marks mI 1 k N).length = N := marks_len mI 1 k N
  by_cases hlt : i < N
  · have ex := en_at eI (marks_at mI 1 k hlt)
    have k1 : (i : Int) < N := by omega
    have gz : (0 : Int) ≤ i := by omega
    have gw : IntKind.i64.wrap ((i : Int) + 1) = ((i + 1 : Nat) : Int) := wrap64 (x := (i : Int) + 1) ⟨by omega, by omega⟩
    have g0 : IntKind.i64.wrap (((k + 1 * i : Nat) : Int) + 1) = ((k + 1 * (i + 1) : Nat) : Int) := (wrap64 (x := ((k + 1 * i : Nat) : Int) + 1) ⟨by omega, by omega⟩).trans (by omega)
    have n0 : (((k + 1 * i : Nat) : Int) != ((k + 1 * i : Nat) : Int)) = false := by simp
    simp only [go_sem, e0, e1, e5, en_len, hpl, k1, gz, ex, eI, mI, g0, gw, n0, Int.toNat_natCast]
    exact ⟨hlt, e0, rfl, rfl⟩
  · have k1 : ¬ (i : Int) < N := by omega
    have hi2 : i = N := by omega
    subst hi2
    simp only [go_sem, e0, e1, e5, en_len, hpl, k1]
section
variable {P : Program} {t : Nat → T} {H : HMap} {c : Nat} {f : Opd} {args : List Opd} {fid : FuncId} {argsC : List T} {ws : List (Nat × Blk)} {ns : List Nat} {k : Nat} {d : Option Nat} {un : List Nat} {l : List AOper} {prev : List (Nat × List Nat × List Nat)} {K : St → Prop}
/-- A call that makes a row that owns what it holds. -/
theorem callTn {n m N st : Nat} {ty : TypeId} {es : List (List V)} (hC : ACallsF P fid argsC [newT n m st ty es] (.c (.tr n 0 N))) (hf : ev t f = .pt (.one (.fn fid []))) (hl : lendTs H argsC (args.map (ev t)) = some (argsC, ws, ns)) (ha : argsC.all closedA = true)
    (hk : chk prev un ⟨.c (.tr m (c + k) N), [(m, .tree (c + k) true st ty es none)], ns ++ [m], [m]⟩ = true ∧ DRun P l ((k, ns ++ [m], [m]) :: prev) K ⟨updD t d (.c (.tr m (c + k) N)), upd H m (some (.tree (c + k) true st ty es none)), c⟩) :
    step P k d un (.call f args) l prev K t H c := by
  have hN : renN [newT n m st ty es] n = some (newT n m st ty es) := by simp [renN]
  refine callF (r' := .c (.tr m (c + k) N)) (ob := [(m, .tree (c + k) true st ty es none)]) [newT n m st ty es] hC hf hl ha (by simp) (by simp) (by simp) ?_ ?_ ?_ ?_
  · rfl
  · simp only [renOT, renOP, renO, hN, Option.map_some, verOf]; rfl
  · simp only [renOBs, renOB, verOf]; rfl
  · simpa [updH] using hk
/-- A call that works in place on a row that owns what it holds. -/
theorem callTm {n m v N st : Nat} {ty : TypeId} {es es' : List (List V)} {x r : T}
    (hC : ACallsF P fid [.c (.tr n v N), x] [trH n m v st ty es es'] r) (hf : ev t f = .pt (.one (.fn fid []))) (hl : args.map (ev t) = [.c (.tr m v N), x]) (hH : H m = some (.tree v true st ty es none)) (hx : closedA x = true) (hr : closedT r = true)
    (hk : chk prev un ⟨r, [(m, .tree v true st ty es' none)], [m], [m]⟩ = true ∧ DRun P l ((k, [m], [m]) :: prev) K ⟨updD t d r, upd H m (some (.tree v true st ty es' none)), c⟩) :
    step P k d un (.call f args) l prev K t H c := by
  have hN : renN [trH n m v st ty es es'] n = some (trH n m v st ty es es') := by simp [renN]
  obtain ⟨x1, x2⟩ := closed_A [trH n m v st ty es es'] H x hx
  refine callW (caps := []) («as» := [.c (.tr m v N), x]) (ws := []) (ns := []) (r' := r) (ob := [(m, .tree v true st ty es' none)]) [trH n m v st ty es es'] hC hf ?_ ?_ ⟨?_, trivial⟩ (by simp) (by simp) (closed_T _ r hr _) ?_ ?_
  · rw [hl]
    have a1 : lendT H (.c (.tr n v N)) (.c (.tr m v N)) = some (.c (.tr m v N), [], []) := rfl
    simp only [List.map_nil, List.append_nil, lendTs, a1, x1]
  · have a1 : renIT [trH n m v st ty es es'] (.c (.tr n v N)) = some (.c (.tr m v N)) := by simp only [renIT, renI, inN, hN, Option.bind_some, Option.map_some]
    simp only [renITs, a1, x2]
  · show (match renIB [trH n m v st ty es es'] (.tree v true st ty es none) with | some B => (updH H []) m = some B | none => False)
    simp only [renIB, updH]
    exact hH
  · simp only [renOBs, renOB, verOf, if_true, Blk.ver]
  · have hq : quiet r [trH n m v st ty es es'] = false := by simp [quiet]
    simpa [hq, updH] using hk
/-- A call that makes a disk and numbers. -/
theorem callLo {c4 m1 m2 m3 m4 : Nat} {r : Dk × List Int} (hC : ACallsF P fid argsC (loH 2201 2202 2203 c4 m1 m2 m3 m4 r) (oLo 2201 0 2202 0 2203 0 c4 0 r)) (h4 : c4 = 16 ∨ c4 = 2204) (hf : ev t f = .pt (.one (.fn fid []))) (hl : lendTs H argsC (args.map (ev t)) = some (argsC, ws, ns)) (ha : argsC.all closedA = true)
    (hm : [m1, m2, m3, m4].Nodup)
    (hk : chk prev un ⟨oLo m1 (c + k) m2 (c + k) m3 (c + k) m4 (c + k) r, [(m1, .arr (c + k) true 3 92 (en eF r.1.files)), (m2, .arr (c + k) true 1 9 (en eS r.1.names)), (m3, .arr (c + k) true 2 94 (en eM r.1.moves)), (m4, .arr (c + k) true 1 3 (en eI r.2))], ns ++ [m1, m2, m3, m4], [m1, m2, m3, m4]⟩ = true ∧
      DRun P l ((k, ns ++ [m1, m2, m3, m4], [m1, m2, m3, m4]) :: prev) K ⟨updD t d (oLo m1 (c + k) m2 (c + k) m3 (c + k) m4 (c + k) r), upd (upd (upd (upd H m1 (some (.arr (c + k) true 3 92 (en eF r.1.files)))) m2 (some (.arr (c + k) true 1 9 (en eS r.1.names)))) m3 (some (.arr (c + k) true 2 94 (en eM r.1.moves)))) m4 (some (.arr (c + k) true 1 3 (en eI r.2))), c⟩) :
    step P k d un (.call f args) l prev K t H c := by
  have n1 : c4 ≠ 2201 ∧ c4 ≠ 2202 ∧ c4 ≠ 2203 := by omega
  have N1 : renN (loH 2201 2202 2203 c4 m1 m2 m3 m4 r) 2201 = some (newH 2201 m1 3 92 (en eF r.1.files)) := by simp [renN]
  have N2 : renN (loH 2201 2202 2203 c4 m1 m2 m3 m4 r) 2202 = some (newH 2202 m2 1 9 (en eS r.1.names)) := by simp [renN]
  have N3 : renN (loH 2201 2202 2203 c4 m1 m2 m3 m4 r) 2203 = some (newH 2203 m3 2 94 (en eM r.1.moves)) := by simp [renN]
  have N4 : renN (loH 2201 2202 2203 c4 m1 m2 m3 m4 r) c4 = some (newH c4 m4 1 3 (en eI r.2)) := by
    simp [renN, n1.1.symm, n1.2.1.symm, n1.2.2.symm]
  refine callF (r' := oLo m1 (c + k) m2 (c + k) m3 (c + k) m4 (c + k) r) (ob := [(m1, .arr (c + k) true 3 92 (en eF r.1.files)), (m2, .arr (c + k) true 1 9 (en eS r.1.names)), (m3, .arr (c + k) true 2 94 (en eM r.1.moves)), (m4, .arr (c + k) true 1 3 (en eI r.2))]) (loH 2201 2202 2203 c4 m1 m2 m3 m4 r) hC hf hl ha (by simp) (by simpa using hm) ?_ ?_ ?_ ?_ ?_
  · simp [n1.1.symm, n1.2.1.symm, n1.2.2.symm]
  · simp only [quiet, List.all_cons, List.all_nil, flatB, en_flat eF eF_flat, en_flat eS eS_flat, en_flat eM eM_flat, en_flat eI eI_flat]; rfl
  · simp only [renOT, renOPs, renOP, renOs, renO, N1, N2, N3, N4, Option.map_some, verOf]; rfl
  · simp only [renOBs, renOB, verOf]; rfl
  · simpa [updH] using hk
end
theorem lendTr {H : HMap} {m v n st : Nat} {w : Bool} {ty : TypeId} {es : List (List V)} (h : H m = some (.tree v w st ty es none)) (e : n = es.length) : lendT H (tL es) (.c (.tr m v n)) = some (tL es, [(m, .tree v false st ty es none)], [m]) := by
  subst e
  simp only [lendT, lendC, sealC, h, Nat.le_refl, and_self, if_true, Option.map_some, List.take_length]
theorem lendIs {H : HMap} {m v n : Nat} {w : Bool} {ty : TypeId} {xs : List Int} (h : H m = some (.arr v w 1 ty (en eI xs))) (e : n = xs.length) : lendT H (tL (en eI xs)) (.c (.own m v n)) = some (tL (en eI xs), [(m, .arr v false 1 ty (en eI xs))], [m]) := by
  subst e
  simp only [lendT, lendC, sealC, h, en_len, en_take, Nat.le_refl, and_self, if_true, Option.map_some]
end Go.V
set_option linter.unusedSimpArgs false
set_option maxRecDepth 20000
namespace Go.V
open Go.Proofs
theorem wMA_le : ∀ xs : List LA, wsum wMA xs ≤ 5 * xs.length + wsum wLA xs
  | [] => by simp [wsum]
  | x :: xs => by
    have h1 := wMA_le xs
    have c1 : wsum wMA (x :: xs) = wMA x + wsum wMA xs := by simp [wsum]
    have c2 : wsum wLA (x :: xs) = wLA x + wsum wLA xs := by simp [wsum]
    have c3 : wMA x = 5 + x.keep.length := rfl
    have c4 : wLA x = x.data.size + x.keep.length := rfl
    simp only [List.length_cons]; omega
section
variable {H : HMap} {m v n st m' v' n' : Nat} {w w' : Bool} {ty : TypeId} {es : List (List V)}
theorem lendTr1 (h : H m = some (.tree v w st ty es none)) (e : n = es.length) : lendTs H [tL es] [.c (.tr m v n)] = some ([tL es], [(m, .tree v false st ty es none)], [m]) := by
  simp only [lendTs, lendTr h e, List.append_nil]
theorem lendTr2 (h : H m = some (.tree v w st ty es none)) (h' : H m' = some (.tree v' w' st ty es none)) (e : n = es.length) (e' : n' = es.length) :
    lendTs H [tL es, tL es] [.c (.tr m v n), .c (.tr m' v' n')] = some ([tL es, tL es], [(m, .tree v false st ty es none), (m', .tree v' false st ty es none)], [m, m']) := by
  simp only [lendTs, lendTr h e, lendTr h' e', List.append_nil, List.cons_append, List.nil_append]
theorem lendI1 {xs : List Int} {x : T} (h : H m = some (.arr v w 1 ty (en eI xs))) (e : n = xs.length) (hx : closedA x = true) : lendTs H [tL (en eI xs), x] [.c (.own m v n), x] = some ([tL (en eI xs), x], [(m, .arr v false 1 ty (en eI xs))], [m]) := by
  obtain ⟨x1, _⟩ := closed_A [] H x hx
  simp only [lendTs, lendIs h e, x1, List.append_nil]
end
def ok7 := okF.gu (P := Tryz.prog) tab Tryz.func7 Tryz.ntmps7 (by conv => lhs; cbv) (by kernel_rfl)
set_option maxRecDepth 20000 in
set_option maxHeartbeats 4000000 in
theorem lawLP_ok (xs : List LA) (hl : xs.length ≤ 9223372036854775807) (ha : ∀ a ∈ xs, okLA a) : ACallsF Tryz.prog 7 [tL (en eLA xs)] [] (.b true) := by
  have hC1 := szLAs_ok xs 1048576 (by omega) hl ha
  by_cases hB : ((xs.length + wsum wLA xs : Nat) : Int) ≤ 1048576
  rotate_left
  · have e3 : sub1 1048576 (xs.length + wsum wLA xs) = -1 := by rw [sub1, if_neg hB]
    rw [e3] at hC1
    refine ACallsF.intro ok7 follows fun X c0 => ?_
    simp only [go_sem]
    refine callC hC1 rfl rfl rfl rfl ?_
    simp only [go_sem, Int.reduceLT]
  have e3 : sub1 1048576 (xs.length + wsum wLA xs) = 1048576 - ((xs.length + wsum wLA xs : Nat) : Int) := by rw [sub1, if_pos hB]
  rw [e3] at hC1
  have nq : ¬ (1048576 : Int) - ((xs.length + wsum wLA xs : Nat) : Int) < 0 := by omega
  have hsz : ∀ a ∈ xs, a.data.size + a.keep.length ≤ 1048576 := fun a h => by
    have h1 := wsum_mem wLA h
    have h2 : wLA a = a.data.size + a.keep.length := rfl
    omega
  have hd : ∀ a ∈ xs, a.data.size ≤ 1048576 := fun a h => by have := hsz a h; omega
  have hkp : ∀ a ∈ xs, a.keep.length ≤ 1048576 := fun a h => by have := hsz a h; omega
  have hwm := wMA_le xs
  have hCS := logPlayB_ok xs hd
  obtain ⟨c4, h4, hCI⟩ : ∃ c4, (c4 = 16 ∨ c4 = 2204) ∧ ∀ m1 m2 m3 m4, ACallsF Tryz.prog 17 [tL (en eLA xs)] (loH 2201 2202 2203 c4 m1 m2 m3 m4 (playR xs)) (oLo 2201 0 2202 0 2203 0 c4 0 (playR xs)) := logPlayO_ok xs hd
  have hD := playR_ok xs
  have hcl : (playR xs).2.length ≤ 200 := by
    unfold playR
    split
    · simp
    · rw [playG_len]; simp; omega
  have hto := toLAs_ok xs (by omega) hkp
  generalize playR xs = r at *
  have hds := hD.fine.s
  have s1 := hds.f
  have s2 := hds.n
  have s3 := hds.m
  have l1 := hD.f
  have l2 := hD.n
  have l3 := hD.m
  have hE1 := eqDk_ok r.1 hds
  have hE2 := eqIs_ok r.2 (by omega)
  have hE3 := eqLAs_ok xs (by omega) fun a h => by have := hkp a h; omega
  have hkg : mkN 1 r.1 ≤ 10000000 := by unfold mkN; omega
  have hk1 : 1 ≤ mkN 1 r.1 := by unfold mkN; omega
  have hM3 := fun m v => markLAs_ok xs 1 (by omega) (by omega) (by omega) m v
  have hH := heldDk_ok r.1 1 (by omega) (by omega)
  have hH2 := heldIs_ok r.2.length (mkN 1 r.1) hk1 (by omega)
  have nkx : ¬ ((1 + wsum wMA xs : Nat) : Int) < 0 := by omega
  have nkg : ¬ ((mkN 1 r.1 : Nat) : Int) < 0 := by omega
  have nkh : ¬ ((mkN 1 r.1 + 1 * r.2.length : Nat) : Int) < 0 := by omega
  have nm : (((mkN 1 r.1 + 1 * r.2.length : Nat) : Int) != ((mkN 1 r.1 + 1 * r.2.length : Nat) : Int)) = false := by simp
  obtain ⟨rd, rc⟩ := r
  have hcl2 : rc.length ≤ 200 := hcl
  have hkg2 : mkN 1 rd ≤ 10000000 := hkg
  have hlx := en_len eLA xs
  refine ACallsF.intro ok7 follows fun X c0 => ?_
  simp only [go_sem]
  refine callC hC1 rfl rfl rfl rfl ?_
  simp only [go_sem, nq]
  refine callTn (m := 3001) (ws := []) (ns := []) (hto 3001) rfl rfl rfl ⟨rfl, ?_⟩
  simp only [go_sem]
  refine callL (ws := [(3001, .tree _ false 6 32 (en eLA xs) none)]) (ns := [3001]) hCS rfl (lendTr1 rfl hlx.symm) rfl rfl ⟨?_, ?_⟩
  · simp only [go_sem]
  simp only [go_sem, scalarT, scalarP, scalarC, List.all_cons, Bool.false_and]
  refine callTn (m := 3101) (ws := []) (ns := []) (hto 3101) rfl rfl rfl ⟨rfl, ?_⟩
  simp only [go_sem]
  refine callLo (m1 := 3201) (m2 := 3202) (m3 := 3203) (m4 := 3204) (ws := [(3101, .tree _ false 6 32 (en eLA xs) none)]) (ns := [3101]) (hCI 3201 3202 3203 3204) h4 rfl (lendTr1 rfl hlx.symm) rfl (by decide) ⟨?_, ?_⟩
  · simp only [go_sem]
  simp only [go_sem]
  refine callL (ws := dkL 3201 _ 3202 _ 3203 _ rd) (ns := [3201, 3202, 3203]) hE1 rfl (lend1 rfl rfl rfl rfl rfl rfl rfl) rfl rfl ⟨?_, ?_⟩
  · simp only [go_sem, scalarT, scalarP, scalarC]
  simp only [go_sem, scalarT, scalarP, scalarC]
  refine callL (ws := [(3204, .arr _ false 1 3 (en eI rc))]) (ns := [3204]) hE2 rfl (lendI1 rfl rfl rfl) rfl rfl ⟨?_, ?_⟩
  · simp only [go_sem, scalarT, scalarP, scalarC]
  simp only [go_sem, scalarT, scalarP, scalarC]
  refine callTn (m := 3301) (ws := []) (ns := []) (hto 3301) rfl rfl rfl ⟨?_, ?_⟩
  · simp only [go_sem]
  simp only [go_sem]
  refine callL (ws := [(3101, .tree _ false 6 32 (en eLA xs) none), (3301, .tree _ false 6 32 (en eLA xs) none)]) (ns := [3101, 3301]) hE3 rfl (lendTr2 rfl rfl hlx.symm hlx.symm) rfl rfl ⟨?_, ?_⟩
  · simp only [go_sem, scalarT, scalarP, scalarC]
  simp only [go_sem, scalarT, scalarP, scalarC]
  refine callTm (m := 3101) (hM3 3101 _) rfl rfl rfl rfl rfl ⟨rfl, ?_⟩
  simp only [go_sem, nkx]
  refine callL (ws := dkL 3201 _ 3202 _ 3203 _ rd) (ns := [3201, 3202, 3203]) hE1 rfl (lend1 rfl rfl rfl rfl rfl rfl rfl) rfl rfl ⟨?_, ?_⟩
  · simp only [go_sem, scalarT, scalarP, scalarC]
  simp only [go_sem, scalarT, scalarP, scalarC]
  refine callL (ws := [(3204, .arr _ false 1 3 (en eI rc))]) (ns := [3204]) hE2 rfl (lendI1 rfl rfl rfl) rfl rfl ⟨?_, ?_⟩
  · simp only [go_sem, scalarT, scalarP, scalarC]
  simp only [go_sem, scalarT, scalarP, scalarC]
  refine callMk (markDk_ok rd 1 (by omega) (by omega) 3201 3202 3203 _ _ _) rfl rfl rfl rfl (by decide) rfl rfl rfl ⟨rfl, ?_⟩
  simp only [go_sem]
  refine callM1 (m := 3204) (markIs_ok rc (mkN 1 rd) hk1 (by omega) 3204 _) rfl rfl rfl rfl rfl ⟨rfl, ?_⟩
  simp only [go_sem]
  refine callL (ws := dkL 3201 _ 3202 _ 3203 _ (mkDk 1 rd)) (ns := [3201, 3202, 3203]) hH rfl (lend1 rfl rfl rfl (mk_len 1 rd).1 (mk_len 1 rd).2.1 (mk_len 1 rd).2.2 rfl) rfl rfl ⟨?_, ?_⟩
  · simp only [go_sem, scalarT, scalarP, scalarC]
  simp only [go_sem, scalarT, scalarP, scalarC, nkg]
  refine callL (ws := [(3204, .arr _ false 1 3 (en eI (marks mI 1 (mkN 1 rd) rc.length)))]) (ns := [3204]) hH2 rfl (lendI1 rfl (marks_len mI 1 (mkN 1 rd) rc.length).symm rfl) rfl rfl ⟨?_, ?_⟩
  · simp only [go_sem, scalarT, scalarP, scalarC]
  simp only [go_sem, scalarT, scalarP, scalarC, nkh, nm]
  refine callTn (m := 3401) (ws := []) (ns := []) (hto 3401) rfl rfl rfl ⟨rfl, ?_⟩
  simp only [go_sem]
  refine callLo (m1 := 3501) (m2 := 3502) (m3 := 3503) (m4 := 3504) (ws := [(3401, .tree _ false 6 32 (en eLA xs) none)]) (ns := [3401]) (hCI 3501 3502 3503 3504) h4 rfl (lendTr1 rfl hlx.symm) rfl (by decide) ⟨?_, ?_⟩
  · simp only [go_sem]
  simp only [go_sem]
  refine callL (ws := dkL 3501 _ 3502 _ 3503 _ rd) (ns := [3501, 3502, 3503]) hE1 rfl (lend1 rfl rfl rfl rfl rfl rfl rfl) rfl rfl ⟨?_, ?_⟩
  · simp only [go_sem, scalarT, scalarP, scalarC]
  simp only [go_sem, scalarT, scalarP, scalarC]
  refine callL (ws := [(3504, .arr _ false 1 3 (en eI rc))]) (ns := [3504]) hE2 rfl (lendI1 rfl rfl rfl) rfl rfl ⟨?_, ?_⟩
  · simp only [go_sem, scalarT, scalarP, scalarC]
  simp only [go_sem, scalarT, scalarP, scalarC]
  refine callL (ws := dkL 3201 _ 3202 _ 3203 _ (mkDk 1 rd)) (ns := [3201, 3202, 3203]) hH rfl (lend1 rfl rfl rfl (mk_len 1 rd).1 (mk_len 1 rd).2.1 (mk_len 1 rd).2.2 rfl) rfl rfl ⟨?_, ?_⟩
  · simp only [go_sem, scalarT, scalarP, scalarC]
  simp only [go_sem, scalarT, scalarP, scalarC, nkg]
  refine callL (ws := [(3204, .arr _ false 1 3 (en eI (marks mI 1 (mkN 1 rd) rc.length)))]) (ns := [3204]) hH2 rfl (lendI1 rfl (marks_len mI 1 (mkN 1 rd) rc.length).symm rfl) rfl rfl ⟨?_, ?_⟩
  · simp only [go_sem, scalarT, scalarP, scalarC]
  simp only [go_sem, scalarT, scalarP, scalarC, nkh, nm]
end Go.V

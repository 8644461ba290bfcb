/- The Go function laws.FnLogMend returns true for every input, in the program's own Lean form: however power was lost, the log can be mended, and goes on. Conditions: those of the given row and card. -/
import Derived.Test.YtaojogkldejmhaaGreatDoorMX5
import Derived.Test.YtaojogkldejmhaaGreatDoorMK1
set_option linter.unusedVariables false
set_option linter.unusedSimpArgs false
namespace Go.V
open Go.Proofs
/-! Records in bytes, as a chain. -/
inductive Chain (s : ByteArray) : Nat → List LR → Nat → Prop
  | nil (a : Nat) : Chain s a [] a
  | cons {a c b : Nat} {r : LR} {rs : List LR} (h : frAt s a = some (r, c)) (t : Chain s c rs b) : Chain s a (r :: rs) b
theorem Chain.le {s : ByteArray} {a b : Nat} {rs : List LR} (h : Chain s a rs b) : a ≤ b := by
  induction h with
  | nil => exact Nat.le_refl _
  | cons h _ ih => have := frAt_le h; omega
theorem Chain.app {s : ByteArray} {a b c : Nat} {rs qs : List LR} (h : Chain s a rs b) (g : Chain s b qs c) : Chain s a (rs ++ qs) c := by
  induction h with
  | nil => exact g
  | cons h _ ih => exact .cons h (ih g)
theorem frAt_end {s : ByteArray} {a : Nat} (h : s.size < a + 5) : frAt s a = none := if_neg fun g => by omega
theorem frL_chain (s : ByteArray) : ∀ (k a : Nat), s.size - a ≤ k → Chain s a (frL s a k).1 (frL s a k).2 ∧ frAt s (frL s a k).2 = none
  | 0, a, h => ⟨.nil a, frAt_end (by simp only [frL]; omega)⟩
  | k + 1, a, h => by
    cases hf : frAt s a with
    | none => rw [frL_none hf]; exact ⟨.nil a, hf⟩
    | some x =>
      obtain ⟨r, b⟩ := x
      have hb := frAt_le hf
      obtain ⟨h1, h2⟩ := frL_chain s k b (by omega)
      rw [frL_some hf]
      exact ⟨.cons hf h1, h2⟩
theorem frL_of {s : ByteArray} : ∀ {k a : Nat} {rs : List LR} {b : Nat}, s.size - a ≤ k → Chain s a rs b → frAt s b = none → frL s a k = (rs, b) := by
  intro k a rs b hk h hn
  induction h generalizing k with
  | nil a => exact frL_none hn k
  | cons h _ ih =>
    have hb := frAt_le h
    obtain ⟨j, rfl⟩ : ∃ j, k = j + 1 := ⟨k - 1, by omega⟩
    rw [frL_some h, ih (k := j) (by omega) hn]
theorem frames_chain (s : ByteArray) : Chain s 0 (frames s).1 (frames s).2 ∧ frAt s (frames s).2 = none := frL_chain s s.size 0 (by omega)
theorem frames_of {s : ByteArray} {rs : List LR} {b : Nat} (h : Chain s 0 rs b) (hn : frAt s b = none) : frames s = (rs, b) := frL_of (by omega) h hn
/-- Two texts have the same first bytes. -/
def same (s t : ByteArray) (m : Nat) : Prop := m ≤ s.size ∧ m ≤ t.size ∧ ∀ i, i < m → s.data[i]? = t.data[i]?
theorem same.symm {s t : ByteArray} {m : Nat} (h : same s t m) : same t s m := ⟨h.2.1, h.1, fun i hi => (h.2.2 i hi).symm⟩
theorem same.ext {s t : ByteArray} {m : Nat} (h : same s t m) (a b : Nat) (hb : b ≤ m) : s.extract a b = t.extract a b := by
  apply ByteArray.ext
  rw [ByteArray.data_extract, ByteArray.data_extract]
  apply Array.ext_getElem?
  intro i
  have h1 := h.1
  have h2 := h.2.1
  rw [size_data] at h1 h2
  rw [Array.getElem?_extract, Array.getElem?_extract, Nat.min_eq_left (by omega), Nat.min_eq_left (by omega)]
  split
  · exact h.2.2 _ (by omega)
  · rfl
theorem frAt_same {s t : ByteArray} {m a b : Nat} {r : LR} (h : same s t m) (hb : b ≤ m) (hf : frAt s a = some (r, b)) : frAt t a = some (r, b) := by
  have hl := frAt_le hf
  have hbt : ∀ i, i < m → bt t i = bt s i := fun i hi => by rw [bt, bt, h.2.2 i hi]
  have h2 := h.2.1
  unfold frAt at hf ⊢
  split at hf
  · rename_i g
    rw [Option.some.injEq, Prod.mk.injEq] at hf
    obtain ⟨hr, hb2⟩ := hf
    rw [hbt a (by omega), hbt (a + 1) (by omega), hbt (a + 2) (by omega), hbt (a + 3) (by omega), hbt (a + 4) (by omega), if_pos ⟨by omega, g.2.1, g.2.2.1, g.2.2.2.1, by omega⟩]
    rw [Option.some.injEq, Prod.mk.injEq]
    refine ⟨?_, hb2⟩
    rw [← hr, h.ext _ _ (by omega)]
  · cases hf
theorem Chain.same {s t : ByteArray} {m a b : Nat} {rs : List LR} (h : Chain s a rs b) (hs : Go.V.same s t m) (hb : b ≤ m) : Chain t a rs b := by
  induction h with
  | nil a => exact .nil a
  | cons h t ih => exact .cons (frAt_same hs (Nat.le_trans t.le hb) h) (ih hb)
theorem same_app (x y : ByteArray) : same x (x ++ y) x.size := ⟨Nat.le_refl _, by rw [ByteArray.size_append]; omega, fun i hi => by
  rw [ByteArray.data_append, Array.getElem?_append_left (by rw [← size_data]; exact hi)]⟩
theorem same_ext (x : ByteArray) (n : Nat) (h : n ≤ x.size) : same x (x.extract 0 n) n := ⟨h, by rw [ByteArray.size_extract]; omega, fun i hi => by
  rw [ByteArray.data_extract, Array.getElem?_extract, Nat.min_eq_left (by rw [← size_data]; exact h), if_pos (by omega), Nat.zero_add]⟩
theorem frames_cut (x : ByteArray) : frames (x.extract 0 (frames x).2) = frames x := by
  obtain ⟨h1, h2⟩ := frames_chain x
  have hl := (frames_le x).1
  exact frames_of (h1.same (same_ext x _ hl) (Nat.le_refl _)) (frAt_end (by show (x.extract 0 (frames x).2).size < (frames x).2 + 5; rw [ByteArray.size_extract]; omega))
theorem frB_at (r : LR) : ∀ i : Nat, (frB r).data[i]? = ([UInt8.ofNat (r.data.size / 256), UInt8.ofNat (r.data.size % 256), UInt8.ofNat (r.pos.toNat / 65536), UInt8.ofNat (r.pos.toNat / 256 % 256), UInt8.ofNat (r.pos.toNat % 256)] ++ r.data.data.toList : List UInt8)[i]? := by
  intro i
  have e : (frB r).data.toList = [UInt8.ofNat (r.data.size / 256), UInt8.ofNat (r.data.size % 256), UInt8.ofNat (r.pos.toNat / 65536), UInt8.ofNat (r.pos.toNat / 256 % 256), UInt8.ofNat (r.pos.toNat % 256)] ++ r.data.data.toList := by
    rw [frB, ByteArray.data_append, Array.toList_append]
    rfl
  rw [← e, Array.getElem?_toList]
theorem ext_app (x y : ByteArray) : (x ++ y).extract x.size (x ++ y).size = y := by
  apply ByteArray.ext
  rw [ByteArray.data_extract, ByteArray.data_append]
  apply Array.ext_getElem?
  intro i
  have e1 : x.size = x.data.size := rfl
  have e2 : (x ++ y).size = x.data.size + y.data.size := by rw [ByteArray.size_append]; rfl
  rw [Array.getElem?_extract, e1, e2, Array.size_append, Nat.min_self, Nat.add_sub_cancel_left]
  split
  · rw [Array.getElem?_append_right (by omega), Nat.add_sub_cancel_left]
  · exact (Array.getElem?_eq_none (by omega)).symm
set_option maxRecDepth 100000 in
theorem frAt_new {x : ByteArray} {r : LR} (hr : recOk r = true) : frAt (x ++ frB r) x.size = some (r, x.size + (r.data.size + 5)) := by
  simp only [recOk, Bool.and_eq_true, decide_eq_true_eq] at hr
  obtain ⟨⟨r1, r2⟩, r3⟩ := hr
  obtain ⟨p, hp⟩ : ∃ p : Nat, r.pos = p := ⟨r.pos.toNat, (Int.toNat_of_nonneg (by omega)).symm⟩
  have hpt : r.pos.toNat = p := by omega
  have c : x.size + 5 ≤ x.size + (r.data.size + 5) ∧ r.data.size ≤ 2000 ∧ 1 ≤ p ∧ p ≤ 999999 ∧ x.size + 5 + r.data.size ≤ x.size + (r.data.size + 5) := ⟨by omega, by omega, by omega, by omega, by omega⟩
  have hB : ∀ i : Nat, bt (x ++ frB r) (x.size + i) = (((([UInt8.ofNat (r.data.size / 256), UInt8.ofNat (r.data.size % 256), UInt8.ofNat (p / 65536), UInt8.ofNat (p / 256 % 256), UInt8.ofNat (p % 256)] ++ r.data.data.toList : List UInt8)[i]?).getD 0).toNat) := fun i => by
    have e1 : x.size = x.data.size := rfl
    rw [bt, ByteArray.data_append, e1, Array.getElem?_append_right (by omega), Nat.add_sub_cancel_left, frB_at, hpt]
  have hn : ∀ n, n < 256 → (UInt8.ofNat n).toNat = n := fun n h => by rw [UInt8.toNat_ofNat']; omega
  have b0 : bt (x ++ frB r) x.size = r.data.size / 256 := (hB 0).trans (hn _ (by omega))
  have b1 : bt (x ++ frB r) (x.size + 1) = r.data.size % 256 := (hB 1).trans (hn _ (by omega))
  have b2 : bt (x ++ frB r) (x.size + 2) = p / 65536 := (hB 2).trans (hn _ (by omega))
  have b3 : bt (x ++ frB r) (x.size + 3) = p / 256 % 256 := (hB 3).trans (hn _ (by omega))
  have b4 : bt (x ++ frB r) (x.size + 4) = p % 256 := (hB 4).trans (hn _ (by omega))
  have hsz : (x ++ frB r).size = x.size + (r.data.size + 5) := by rw [ByteArray.size_append, frB_size]
  have hd : r.data.size / 256 * 256 + r.data.size % 256 = r.data.size := by omega
  have hp2 : p / 65536 * 65536 + p / 256 % 256 * 256 + p % 256 = p := by
    have h1 : p / 65536 = p / 256 / 256 := (Nat.div_div_eq_div_mul p 256 256).symm
    have h2 := Nat.div_add_mod p 256
    have h3 := Nat.div_add_mod (p / 256) 256
    rw [h1]
    clear hB b0 b1 b2 b3 b4 hn
    generalize p / 256 / 256 = u at *
    generalize p / 256 % 256 = v at *
    generalize p / 256 = w at *
    generalize p % 256 = y at *
    omega
  unfold frAt
  rw [b0, b1, b2, b3, b4, hd, hp2, hsz, if_pos c]
  have e : (x ++ frB r).extract (x.size + 5) (x.size + 5 + r.data.size) = r.data := by
    have hf : frB r = pushB [((r.data.size / 256 : Nat) : Int), ((r.data.size % 256 : Nat) : Int), ((r.pos.toNat / 65536 : Nat) : Int), ((r.pos.toNat / 256 % 256 : Nat) : Int), ((r.pos.toNat % 256 : Nat) : Int)] ++ r.data := rfl
    have h5 : (pushB [((r.data.size / 256 : Nat) : Int), ((r.data.size % 256 : Nat) : Int), ((r.pos.toNat / 65536 : Nat) : Int), ((r.pos.toNat / 256 % 256 : Nat) : Int), ((r.pos.toNat % 256 : Nat) : Int)]).size = 5 := rfl
    rw [hf]
    generalize pushB [((r.data.size / 256 : Nat) : Int), ((r.data.size % 256 : Nat) : Int), ((r.pos.toNat / 65536 : Nat) : Int), ((r.pos.toNat / 256 % 256 : Nat) : Int), ((r.pos.toNat % 256 : Nat) : Int)] = P at h5
    have e2 := ext_app (x ++ P) r.data
    have e3 : (x ++ P).size = x.size + 5 := by rw [ByteArray.size_append, h5]
    have e4 : (x ++ P ++ r.data).size = x.size + 5 + r.data.size := by rw [ByteArray.size_append, e3]
    rw [e3, e4, ba_assoc] at e2
    exact e2
  rw [e, ← hp, Nat.add_assoc, Nat.add_comm 5]
theorem frames_app {x : ByteArray} {r : LR} (hx : (frames x).2 = x.size) (hr : recOk r = true) : frames (x ++ frB r) = ((frames x).1 ++ [r], x.size + (r.data.size + 5)) := by
  obtain ⟨h1, h2⟩ := frames_chain x
  rw [hx] at h1
  refine frames_of ((h1.same (same_app x _) (Nat.le_refl _)).app (.cons (frAt_new hr) (.nil _))) (frAt_end ?_)
  rw [ByteArray.size_append, frB_size]; omega
end Go.V
set_option linter.unusedSimpArgs false
namespace Go.V
open Go.Proofs
/-! What is read of a disk, and what writes make of it. -/
abbrev Vw := ByteArray → Option ByteArray
def eff (w : DW) (v : Vw) : Vw := fun nm =>
  if w.kind = 1 then (if nm = w.name then some ⟨#[]⟩ else v nm)
  else if w.kind = 2 then (if nm = w.name then (v nm).map (· ++ w.data) else v nm)
  else if w.kind = 4 then (if nm = w.name then none else v nm)
  else v nm
theorem has_snoc (ns : List ByteArray) (x nm : ByteArray) : has (ns ++ [x]) nm = (has ns nm || decide (x = nm)) := by simp [has]
theorem has_wo (ns : List ByteArray) (x nm : ByteArray) : has (wo x ns) nm = (has ns nm && !decide (nm = x)) := by
  rw [Bool.eq_iff_iff, Bool.and_eq_true, has_true, has_true]
  simp [wo]
theorem fileOf_snoc (fs : List DF) (g : DF) {nm : ByteArray} (h : g.name ≠ nm) : fileOf (fs ++ [g]) nm = fileOf fs nm := by
  rw [fileOf, fileOf, List.find?_append]
  simp [h]
theorem fnd_neg {fs : List DF} {nm : ByteArray} (h : ¬ 0 ≤ fnd fs nm) : ∀ f ∈ fs, f.name ≠ nm := by
  unfold fnd at h
  split at h
  · omega
  · rename_i hn
    rw [List.findIdx?_eq_none_iff] at hn
    intro f hf e
    have := hn f hf
    simp [e] at this
theorem fileOf_new (fs : List DF) (g : DF) (h : ¬ 0 ≤ fnd fs g.name) : fileOf (fs ++ [g]) g.name = g := by
  have hn := fnd_neg h
  rw [fileOf, List.find?_append]
  have : fs.find? (fun f => decide (f.name = g.name)) = none := by
    rw [List.find?_eq_none]
    intro f hf
    simpa using hn f hf
  rw [this]
  simp
theorem fileOf_set : ∀ (fs : List DF) (i : Nat) (f g : DF), fs[i]? = some f → g.name = f.name → (∀ (j : Nat) (x : DF), j < i → fs[j]? = some x → x.name ≠ f.name) → ∀ nm, fileOf (fs.set i g) nm = if nm = f.name then g else fileOf fs nm
  | [], i, f, g, h, _, _, _ => by simp at h
  | x :: fs, 0, f, g, h, hg, _, nm => by
    simp at h
    subst h
    rw [List.set_cons_zero, fileOf, fileOf, List.find?_cons, List.find?_cons, hg]
    by_cases e : x.name = nm
    · rw [if_pos e.symm]; simp [e]
    · rw [if_neg fun h => e h.symm]; simp [e]
  | x :: fs, i + 1, f, g, h, hg, hb, nm => by
    have hx := hb 0 x (by omega) rfl
    have ih := fileOf_set fs i f g (by simpa using h) hg (fun j y hj hy => hb (j + 1) y (by omega) (by simpa using hy)) nm
    rw [List.set_cons_succ, fileOf, fileOf, List.find?_cons, List.find?_cons]
    rw [fileOf, fileOf] at ih
    by_cases e : x.name = nm
    · rw [if_neg fun h => hx (e.trans h)]; simp [e]
    · simp only [e, decide_false]
      exact ih
theorem fileOf_map : ∀ (ns : List ByteArray) (g : ByteArray → DF), (∀ x ∈ ns, (g x).name = x) → ∀ nm ∈ ns, fileOf (ns.map g) nm = g nm
  | [], _, _, nm, h => by cases h
  | x :: ns, g, hg, nm, h => by
    rw [List.map_cons, fileOf, List.find?_cons, hg x (by simp)]
    by_cases e : x = nm
    · simp [e]
    · simp only [e, decide_false]
      rcases List.mem_cons.1 h with h | h
      · exact absurd h.symm e
      · exact fileOf_map ns g (fun y hy => hg y (by simp [hy])) nm h
theorem lk_some {d : Dk} {nm x : ByteArray} (h : lk d nm = some x) : nm ∈ th d := by
  unfold lk at h
  split at h
  · rename_i hm; exact has_true.1 hm
  · cases h
theorem lk_mem {d : Dk} {nm : ByteArray} (h : nm ∈ th d) : lk d nm = some (fileOf d.files nm).data := by
  unfold lk
  rw [if_pos (has_true.2 h)]
/-- The first of that name. -/
theorem fnd_first {fs : List DF} {nm : ByteArray} {i : Nat} {f : DF} (h : fnd fs nm = i) (hf : fs[i]? = some f) : ∀ (j : Nat) (x : DF), j < i → fs[j]? = some x → x.name ≠ nm := by
  unfold fnd at h
  split at h
  · rename_i k hk
    have e : k = i := by omega
    subst e
    rw [List.findIdx?_eq_some_iff_getElem] at hk
    obtain ⟨a1, a2, a3⟩ := hk
    intro j x hj hx
    have := a3 j hj
    rw [(List.getElem?_eq_some_iff.1 hx).2] at this
    simpa using this
  · omega
theorem lk_do {d : Dk} {w : DW} (hD : DOk d) (h : (doS d w).2 = 0) : lk (doS d w).1 = eff w (lk d) := by
  funext nm
  unfold doS at h ⊢
  by_cases k1 : w.kind = 1
  · rw [if_pos k1] at h ⊢
    by_cases hN : nameOk w.name = false ∨ 0 ≤ fnd d.files w.name
    · rw [if_pos hN] at h; cases h
    rw [if_neg hN] at h ⊢
    by_cases hL : 64 ≤ d.files.length ∨ 128 ≤ d.moves.length
    · rw [if_pos hL] at h; cases h
    rw [if_neg hL]
    have hth : th ⟨d.files ++ [⟨w.name, ⟨#[]⟩, 0⟩], d.names, d.moves ++ [⟨false, w.name⟩]⟩ = th d ++ [w.name] := by
      simp only [th]; rw [aft_snoc]; rfl
    unfold lk eff
    rw [if_pos k1, hth, has_snoc]
    by_cases e : nm = w.name
    · subst e
      have := fileOf_new d.files ⟨w.name, ⟨#[]⟩, 0⟩ fun h => hN (.inr h)
      simp only [decide_true, Bool.or_true, if_true]
      rw [this]
    · have e2 : ¬ w.name = nm := fun h => e h.symm
      rw [if_neg e, fileOf_snoc d.files ⟨w.name, ⟨#[]⟩, 0⟩ e2]
      simp only [e2, decide_false, Bool.or_false]
  rw [if_neg k1] at h ⊢
  by_cases k5 : w.kind = 5
  · rw [if_pos k5]
    have hth : th (keepD d (aft d.names d.moves)) = th d := rfl
    have e : eff w (lk d) nm = lk d nm := by
      have a1 : ¬ w.kind = 2 := by omega
      have a2 : ¬ w.kind = 4 := by omega
      simp only [eff, k1, a1, a2, if_false]
    rw [e]
    unfold lk
    rw [hth]
    by_cases hm : nm ∈ th d
    · rw [if_pos (has_true.2 hm), if_pos (has_true.2 hm)]
      have := fileOf_map (aft d.names d.moves) (fileOf d.files) (fun x hx => (by obtain ⟨_, _, _, k3⟩ := lk_file hD (nm := x) hx; exact k3)) nm hm
      simp only [keepD]
      rw [this]
    · have h1 := has_false.2 hm
      rw [if_neg (by rw [h1]; decide), if_neg (by rw [h1]; decide)]
  rw [if_neg k5] at h ⊢
  by_cases hr : ¬ (1 ≤ w.kind ∧ w.kind ≤ 5)
  · rw [if_pos hr] at h; cases h
  rw [if_neg hr] at h ⊢
  by_cases hh : has (aft d.names d.moves) w.name = false
  · rw [if_pos hh] at h; cases h
  rw [if_neg hh] at h ⊢
  have hin : w.name ∈ th d := has_true.1 (by cases hq : has (aft d.names d.moves) w.name with | true => exact hq | false => exact absurd hq hh)
  obtain ⟨i, f1, f2, f3⟩ := lk_file hD hin
  have hfirst := fnd_first f1 f2
  by_cases k2 : w.kind = 2
  · rw [if_pos k2] at h ⊢
    by_cases hs : 20000 < (fileOf d.files w.name).data.size + w.data.size
    · rw [if_pos hs] at h; cases h
    rw [if_neg hs, f1, Int.toNat_natCast]
    have hset := fileOf_set d.files i (fileOf d.files w.name) ⟨(fileOf d.files w.name).name, (fileOf d.files w.name).data ++ w.data, (fileOf d.files w.name).kept⟩ f2 rfl (by rw [f3]; exact hfirst) nm
    have e : eff w (lk d) nm = if nm = w.name then (lk d nm).map (· ++ w.data) else lk d nm := by
      simp only [eff, k2, if_true]; rfl
    rw [e]
    unfold lk
    show (if has (th d) nm = true then some (fileOf (d.files.set i _) nm).data else none) = _
    rw [hset, f3]
    by_cases e : nm = w.name
    · subst e
      rw [if_pos rfl, if_pos rfl, if_pos (has_true.2 hin), if_pos (has_true.2 hin)]; rfl
    · rw [if_neg e, if_neg e]
  rw [if_neg k2] at h ⊢
  by_cases k3 : w.kind = 3
  · rw [if_pos k3, f1, Int.toNat_natCast]
    have hset := fileOf_set d.files i (fileOf d.files w.name) ⟨(fileOf d.files w.name).name, (fileOf d.files w.name).data, (fileOf d.files w.name).data.size⟩ f2 rfl (by rw [f3]; exact hfirst) nm
    have e : eff w (lk d) nm = lk d nm := by
      simp only [eff, k3]; rfl
    rw [e]
    unfold lk
    show (if has (th d) nm = true then some (fileOf (d.files.set i _) nm).data else none) = _
    rw [hset, f3]
    by_cases e : nm = w.name
    · subst e
      rw [if_pos rfl]
    · rw [if_neg e]
  rw [if_neg k3] at h ⊢
  have k4 : w.kind = 4 := by omega
  by_cases hL : 128 ≤ d.moves.length
  · rw [if_pos hL] at h; cases h
  rw [if_neg hL]
  have hth : th ⟨d.files, d.names, d.moves ++ [⟨true, w.name⟩]⟩ = wo w.name (th d) := by
    simp only [th]; rw [aft_snoc]; rfl
  have e : eff w (lk d) nm = if nm = w.name then none else lk d nm := by
    simp only [eff, k4]; rfl
  rw [e]
  unfold lk
  rw [hth, has_wo]
  by_cases e : nm = w.name
  · rw [if_pos e]; simp [e]
  · rw [if_neg e]; simp [e]
theorem do_same {d : Dk} {w : DW} (h : (doS d w).2 ≠ 0) : (doS d w).1 = d := by
  unfold doS at h ⊢
  split at h
  · rename_i k; rw [if_pos k]
    split at h
    · rename_i k; rw [if_pos k]
    · rename_i k; rw [if_neg k]
      split at h
      · rename_i k; rw [if_pos k]
      · exact absurd rfl h
  · rename_i k; rw [if_neg k]
    split at h
    · exact absurd rfl h
    · rename_i k; rw [if_neg k]
      split at h
      · rename_i k; rw [if_pos k]
      · rename_i k; rw [if_neg k]
        split at h
        · rename_i k; rw [if_pos k]
        · rename_i k; rw [if_neg k]
          split at h
          · rename_i k; rw [if_pos k]
            split at h
            · rename_i k; rw [if_pos k]
            · exact absurd rfl h
          · rename_i k; rw [if_neg k]
            split at h
            · exact absurd rfl h
            · rename_i k; rw [if_neg k]
              split at h
              · rename_i k; rw [if_pos k]
              · exact absurd rfl h
/-- Writes that are all done. -/
theorem goS_done (a : LA) : ∀ (ws : List DW) (i : Nat) (d : Dk), DOk d → (goS a i d ws).2 = 0 → a.cuts = false ∧ lk (goS a i d ws).1 = ws.foldl (fun v w => eff w v) (lk d) ∧ DOk (goS a i d ws).1
  | [], i, d, hD, h => by
    unfold goS at h ⊢
    split at h
    · cases h
    · rename_i hc
      rw [if_neg hc]
      exact ⟨by cases hq : a.cuts with | true => exact absurd hq hc | false => rfl, rfl, hD⟩
  | w :: ws, i, d, hD, h => by
    unfold goS at h ⊢
    split at h
    · cases h
    · rename_i hc
      rw [if_neg hc]
      split at h
      · rename_i h0
        rw [if_pos h0]
        obtain ⟨g1, g2, g3⟩ := goS_done a ws (i + 1) _ (hD.step w) h
        refine ⟨g1, ?_, g3⟩
        rw [g2, lk_do hD h0]; rfl
      · cases h
/-- A disk stays ok, whatever comes of it. -/
theorem goS_ok (a : LA) : ∀ (ws : List DW) (i : Nat) (d : Dk), DOk d → (∀ d m k, DOk d → DOk (cutD d m k)) → DOk (goS a i d ws).1
  | [], i, d, hD, hc => by
    unfold goS
    split
    · exact hc _ _ _ hD
    · exact hD
  | w :: ws, i, d, hD, hc => by
    unfold goS
    split
    · exact hc _ _ _ hD
    · split
      · exact goS_ok a ws (i + 1) _ (hD.step w) hc
      · exact hD.step w
end Go.V
set_option linter.unusedSimpArgs false
namespace Go.V
open Go.Proofs
/-! A log, as it is read. -/
def prtV (v : Vw) (p : LP) : Option (List LR) := match v (seg p.num) with
  | none => none
  | some x => if (x.size : Int) < p.size then none else
    if ((frames (x.extract 0 p.size.toNat)).2 : Int) = p.size ∧ posOk p.next p.first (frames (x.extract 0 p.size.toNat)).1 = true then some (frames (x.extract 0 p.size.toNat)).1 else none
def prtsV (v : Vw) : List LP → Option (List LR)
  | [] => some []
  | p :: ps => match prtV v p with
    | none => none
    | some l => (prtsV v ps).map (l ++ ·)
theorem prt_V (d : Dk) (p : LP) : prt d p = prtV (lk d) p := rfl
theorem prts_V (d : Dk) : ∀ ps, prts d ps = prtsV (lk d) ps
  | [] => rfl
  | p :: ps => by rw [prts, prtsV, prt_V, prts_V d ps]; cases prtV (lk d) p <;> rfl
theorem prtsV_congr {v v' : Vw} : ∀ ps : List LP, (∀ p ∈ ps, v' (seg p.num) = v (seg p.num)) → prtsV v' ps = prtsV v ps
  | [], _ => rfl
  | p :: ps, h => by
    have e : prtV v' p = prtV v p := by rw [prtV, prtV, h p (by simp)]
    rw [prtsV, prtsV, e, prtsV_congr ps fun q hq => h q (by simp [hq])]
theorem prtsV_app (v : Vw) : ∀ (ps qs : List LP) {l m : List LR}, prtsV v ps = some l → prtsV v qs = some m → prtsV v (ps ++ qs) = some (l ++ m)
  | [], qs, l, m, h, g => by
    rw [prtsV] at h; cases h; simpa using g
  | p :: ps, qs, l, m, h, g => by
    rw [prtsV] at h
    rw [List.cons_append, prtsV]
    split at h
    · cases h
    · rename_i a ha
      cases hq : prtsV v ps with
      | none => rw [hq] at h; cases h
      | some b =>
        rw [hq] at h
        cases h
        rw [prtsV_app v ps qs hq g]
        simp
theorem prtsV_some {v : Vw} : ∀ (ps : List LP) {l : List LR}, prtsV v ps = some l → ∀ p ∈ ps, v (seg p.num) ≠ none
  | [], _, _, p, hp => by cases hp
  | q :: ps, l, h, p, hp => by
    rw [prtsV] at h
    split at h
    · cases h
    · rename_i a ha
      rcases List.mem_cons.1 hp with rfl | hp
      · intro hn
        rw [prtV, hn] at ha
        cases ha
      · cases hq : prtsV v ps with
        | none => rw [hq] at h; cases h
        | some b => exact prtsV_some ps hq p hp
structure LogAt (v : Vw) (n : Int) (p : Pl) (rs : List LR) (x : ByteArray) : Prop where
  hn : 1 ≤ n ∧ n ≤ 999999
  plan : ∃ y, v (pln n) = some y ∧ rd y = (p, true)
  top : ∀ m, n < m → m ≤ 999999 → ∀ y, v (pln m) = some y → (rd y).2 = false
  parts : prtsV v p.parts = some rs
  opn : v (seg p.opn) = some x
  run : posRun p.first (frames x).1 = true
def lsOf (n : Int) (p : Pl) (rs : List LR) (x : ByteArray) : Ls := ⟨0, n, p, (frames x).2, decide (((frames x).2 : Int) < x.size), p.first + (frames x).1.length, rs ++ (frames x).1⟩
theorem LogAt.ok {v : Vw} {n : Int} {p : Pl} {rs : List LR} {x : ByteArray} (h : LogAt v n p rs x) : planOk p = true := by
  obtain ⟨y, _, h2⟩ := h.plan
  exact (rd_ok h2).1
theorem numOf_pln {m : Int} (h : 1 ≤ m ∧ m ≤ 999999) : numOf 109 (pln m) = m := numOf_same 109 h
theorem seg_inj {a b : Int} (ha : 1 ≤ a ∧ a ≤ 999999) (hb : 1 ≤ b ∧ b ≤ 999999) (h : seg a = seg b) : a = b := by
  rw [← vN_seg ha, ← vN_seg hb, h]
theorem pln_inj {a b : Int} (ha : 1 ≤ a ∧ a ≤ 999999) (hb : 1 ≤ b ∧ b ≤ 999999) (h : pln a = pln b) : a = b := by
  rw [← vN_pln ha, ← vN_pln hb, h]
theorem seg_pln (a b : Int) : seg a ≠ pln b := fun h => by
  have h1 := cons_head 115 (dc a)
  have h2 := cons_head 109 (dc b)
  have : (seg a).data[0]? = (pln b).data[0]? := by rw [h]
  unfold seg pln at this
  rw [h1, h2] at this
  exact absurd this (by decide)
/-- What is known of the plan that was found. -/
def npP (d : Dk) (st : Pl × Int) (l : List ByteArray) : Prop := (st.2 = 0 ∨ (1 ≤ st.2 ∧ ∃ y, lk d (pln st.2) = some y ∧ rd y = (st.1, true))) ∧ ∀ nm ∈ l, numOf 109 nm > st.2 → (rd ((lk d nm).getD ⟨#[]⟩)).2 = false
theorem np_fold (d : Dk) : ∀ (l seen : List ByteArray) (st : Pl × Int), (∀ nm ∈ l, nm ∈ th d) → npP d st seen → npP d (l.foldl (npStep d) st) (seen ++ l)
  | [], seen, st, _, h => by rw [List.append_nil]; exact h
  | x :: l, seen, st, hl, h => by
    have e : seen ++ x :: l = (seen ++ [x]) ++ l := by simp
    rw [e]
    refine np_fold d l (seen ++ [x]) _ (fun nm hm => hl nm (by simp [hm])) ?_
    obtain ⟨h1, h2⟩ := h
    have hle := numOf_le 109 x
    have h0 : 0 ≤ st.2 := by rcases h1 with h1 | ⟨h1, _⟩ <;> omega
    unfold npStep
    split
    · rename_i hgt
      have hx : pln (numOf 109 x) = x := (numOf_name (show numOf 109 x ≠ 0 by omega)).symm
      have hlk := lk_mem (hl x (by simp))
      split
      · rename_i hr
        refine ⟨.inr ⟨by simp only; omega, _, by simp only; rw [hx]; exact hlk, ?_⟩, fun nm hm hg => ?_⟩
        · rw [hlk, Option.getD_some] at hr ⊢
          rw [← hr]
        · simp only at hg
          rcases List.mem_append.1 hm with hm | hm
          · exact h2 nm hm (by omega)
          · rw [List.mem_singleton] at hm
            subst hm
            omega
      · rename_i hr
        refine ⟨h1, fun nm hm hg => ?_⟩
        rcases List.mem_append.1 hm with hm | hm
        · exact h2 nm hm hg
        · rw [List.mem_singleton] at hm
          subst hm
          cases hq : (rd ((lk d nm).getD ⟨#[]⟩)).2 with
          | true => exact absurd hq hr
          | false => rfl
    · rename_i hgt
      refine ⟨h1, fun nm hm hg => ?_⟩
      rcases List.mem_append.1 hm with hm | hm
      · exact h2 nm hm hg
      · rw [List.mem_singleton] at hm
        subst hm
        exact absurd hg hgt
theorem np_char (d : Dk) : npP d (np d) (th d) := by
  have := np_fold d (th d) [] (zPl, 0) (fun _ h => h) ⟨.inl rfl, fun nm hm => (by cases hm)⟩
  rwa [List.nil_append] at this
theorem np_of {d : Dk} {n : Int} {p : Pl} (hn : 1 ≤ n ∧ n ≤ 999999) (hp : ∃ y, lk d (pln n) = some y ∧ rd y = (p, true)) (ht : ∀ m, n < m → m ≤ 999999 → ∀ y, lk d (pln m) = some y → (rd y).2 = false) : np d = (p, n) := by
  obtain ⟨y, h1, h2⟩ := hp
  obtain ⟨c1, c2⟩ := np_char d
  have hin := lk_some h1
  have hge : ¬ (np d).2 < n := fun hlt => by
    have := c2 _ hin (by rw [numOf_pln hn]; exact hlt)
    rw [h1, Option.getD_some, h2] at this
    cases this
  have hm : (np d).2 ≤ 999999 := by rcases np_ok d with ⟨_, h⟩ | ⟨_, _, h⟩ <;> omega
  rcases c1 with c1 | ⟨c1, z, z1, z2⟩
  · omega
  · have hle : ¬ n < (np d).2 := fun hlt => by
      have := ht _ hlt hm z z1
      rw [z2] at this
      cases this
    have e : (np d).2 = n := by omega
    rw [e, h1] at z1
    cases z1
    rw [h2] at z2
    have e2 : p = (np d).1 := congrArg Prod.fst z2
    rw [e2, ← e]
theorem opn_of {d : Dk} {n : Int} {p : Pl} {rs : List LR} {x : ByteArray} (h : LogAt (lk d) n p rs x) : opn d = lsOf n p rs x := by
  have hn := np_of h.hn h.plan h.top
  unfold opn
  rw [hn]
  simp only
  have hn0 := h.hn
  rw [if_neg (by omega), prts_V, h.parts]
  simp only
  rw [h.opn]
  simp only
  rw [if_pos h.run]
  rfl
theorem opn_at {d : Dk} (hc : (opn d).code = 0) : ∃ n p rs x, LogAt (lk d) n p rs x ∧ opn d = lsOf n p rs x := by
  have hno := np_ok d
  obtain ⟨c1, c2⟩ := np_char d
  unfold opn at hc ⊢
  by_cases k0 : (np d).2 = 0
  · rw [if_pos k0] at hc; cases hc
  rw [if_neg k0] at hc ⊢
  obtain ⟨ho, hn1, hn2⟩ : planOk (np d).1 = true ∧ 1 ≤ (np d).2 ∧ (np d).2 ≤ 999999 := by
    rcases hno with ⟨_, h⟩ | h
    · exact absurd h k0
    · exact h
  rcases c1 with c1 | ⟨_, y, y1, y2⟩
  · exact absurd c1 k0
  cases hr : prts d (np d).1.parts with
  | none => rw [hr] at hc; cases hc
  | some rs =>
    rw [hr] at hc
    simp only at hc ⊢
    cases hx : lk d (seg (np d).1.opn) with
    | none => rw [hx] at hc; cases hc
    | some x =>
      rw [hx] at hc
      simp only at hc ⊢
      by_cases hrun : posRun (np d).1.first (frames x).1 = true
      · rw [if_pos hrun]
        refine ⟨(np d).2, (np d).1, rs, x, ⟨⟨hn1, hn2⟩, ⟨y, y1, y2⟩, fun m hm hm2 z hz => ?_, by rw [← prts_V]; exact hr, hx, hrun⟩, rfl⟩
        have := c2 _ (lk_some hz) (by rw [numOf_pln ⟨by omega, hm2⟩]; exact hm)
        rw [hz, Option.getD_some] at this
        exact this
      · rw [if_neg hrun] at hc; cases hc
theorem plGo_ne : ∀ (ps : List LP) (seen : List Int) (nx f : Int), plGo seen nx ps = some f → ∀ q ∈ ps, q.num ∉ seen
  | [], _, _, _, _, q, hq => by cases hq
  | p :: ps, seen, nx, f, h, q, hq => by
    rw [plGo] at h
    split at h
    · rename_i hp
      rcases List.mem_cons.1 hq with rfl | hq
      · exact hp.2.1
      · intro hm
        exact plGo_ne ps _ _ _ h q hq (List.mem_append.2 (.inl hm))
    · cases h
theorem plan_ne {p : Pl} (h : planOk p = true) {q : LP} (hq : q ∈ p.parts) : q.num ≠ p.opn := fun e => by
  have h3 := ((planOk_iff p).1 h).2.2
  exact plGo_ne _ _ _ _ h3 q hq (by simp [e])
/-- A record more. -/
theorem LogAt.append {v : Vw} {n : Int} {p : Pl} {rs : List LR} {x : ByteArray} (h : LogAt v n p rs x) (hx : (frames x).2 = x.size) {r : LR} (hr : recOk r = true) (hp : r.pos = p.first + (frames x).1.length) :
    LogAt (eff ⟨2, seg p.opn, frB r⟩ v) n p rs (x ++ frB r) ∧ (frames (x ++ frB r)).1 = (frames x).1 ++ [r] := by
  have ho := h.ok
  obtain ⟨h5, h6, h7, h8, h9⟩ := planOk_ok ho
  have e : ∀ nm, eff ⟨2, seg p.opn, frB r⟩ v nm = if nm = seg p.opn then (v nm).map (· ++ frB r) else v nm := fun nm => rfl
  have hf := frames_app hx hr
  have hr2 : ∀ (ls : List LR) (lo : Int), posRun lo ls = true → r.pos = lo + ls.length → posRun lo (ls ++ [r]) = true := by
    intro ls
    induction ls with
    | nil => intro lo _ h; simp at h; simp [posRun, h]
    | cons q ls ih =>
      intro lo h1 h2
      rw [posRun, Bool.and_eq_true] at h1
      rw [List.cons_append, posRun, Bool.and_eq_true]
      exact ⟨h1.1, ih _ h1.2 (by rw [List.length_cons] at h2; omega)⟩
  refine ⟨⟨h.hn, ?_, fun m hm hm2 y hy => ?_, ?_, ?_, ?_⟩, by rw [hf]⟩
  · obtain ⟨y, h1, h2⟩ := h.plan
    exact ⟨y, by rw [e, if_neg fun h => seg_pln _ _ h.symm]; exact h1, h2⟩
  · rw [e, if_neg fun h => seg_pln _ _ h.symm] at hy
    exact h.top m hm hm2 y hy
  · rw [prtsV_congr (v := v) _ fun q hq => ?_]
    · exact h.parts
    · rw [e, if_neg fun h => plan_ne ho hq (seg_inj (h6 q hq).num h7 h)]
  · rw [e, if_pos rfl, h.opn]; rfl
  · rw [hf]; exact hr2 _ _ h.run hp
/-- What remains if only these are kept. -/
theorem LogAt.only {v : Vw} {n : Int} {p : Pl} {rs : List LR} {x : ByteArray} (h : LogAt v n p rs x) (ns : List ByteArray) (h1 : pln n ∈ ns) (h2 : seg p.opn ∈ ns) (h3 : ∀ q ∈ p.parts, seg q.num ∈ ns) : LogAt (fun nm => if has ns nm = true then v nm else none) n p rs x := by
  refine ⟨h.hn, ?_, fun m hm hm2 y hy => ?_, ?_, ?_, h.run⟩
  · obtain ⟨y, g1, g2⟩ := h.plan
    exact ⟨y, by simp only [has_true.2 h1, if_true]; exact g1, g2⟩
  · split at hy
    · exact h.top m hm hm2 y hy
    · cases hy
  · rw [prtsV_congr (v := v) _ fun q hq => ?_]
    · exact h.parts
    · simp only [has_true.2 (h3 q hq), if_true]
  · simp only [has_true.2 h2, if_true]; exact h.opn
def runW (ws : List DW) (v : Vw) : Vw := ws.foldl (fun v w => eff w v) v
theorem run_app (ws us : List DW) (v : Vw) : runW (ws ++ us) v = runW us (runW ws v) := by rw [runW, List.foldl_append]; rfl
theorem run_gone : ∀ (ns : List ByteArray) (v : Vw) (nm : ByteArray), runW (goneL ns) v nm = if has ns nm = true then none else v nm
  | [], v, nm => rfl
  | x :: ns, v, nm => by
    have e : runW (goneL (x :: ns)) v = runW (goneL ns) (eff ⟨4, x, e0⟩ v) := rfl
    rw [e, run_gone ns]
    have e2 : eff ⟨4, x, e0⟩ v nm = if nm = x then none else v nm := rfl
    have e3 : has (x :: ns) nm = (decide (x = nm) || has ns nm) := rfl
    rw [e2, e3]
    by_cases g : nm = x
    · subst g; simp
    · have g2 : ¬ x = nm := fun h => g h.symm
      simp [g, g2]
end Go.V
set_option linter.unusedSimpArgs false
namespace Go.V
open Go.Proofs
/-! Acts of a log. -/
theorem DOk.keep {d : Dk} (h : DOk d) {n : Nat} (hn : n ≤ d.moves.length) : DOk (keepD d (aft d.names (d.moves.take n))) := by
  have h2 := h.two
  apply DOk2.ok
  have hnm : ∀ x ∈ aft d.names (d.moves.take n), x ∈ made d := fun x hx => DOk.aft_made hx
  have hN := (List.nodup_append.1 (nmI_aft h2.nd n hn).2).1
  have hmade : made (keepD d (aft d.names (d.moves.take n))) = aft d.names (d.moves.take n) := by simp [made, keepD, mades]
  have hl : (aft d.names (d.moves.take n)).length ≤ (made d).length := by
    have h1 := aft_len2 (d.moves.take n) d.names
    have h2 : (mades d.moves).length = (mades (d.moves.take n)).length + (mades (d.moves.drop n)).length := by
      conv => lhs; rw [← List.take_append_drop n d.moves]
      simp only [mades, List.filter_append, List.map_append, List.length_append]
    have h3 : (made d).length = d.names.length + (mades d.moves).length := by simp [made]
    omega
  have hml : (made d).length = d.files.length := h.l
  have hf := h2.f
  refine ⟨by simp only [keepD, List.length_map]; omega, by simp only [keepD]; omega, by simp [keepD], ?_, ?_, ?_, fun i m hm => by simp [keepD] at hm⟩
  · rw [hmade]
    simp only [keepD, List.map_map]
    have : (aft d.names (d.moves.take n)).map (DF.name ∘ fileOf d.files) = (aft d.names (d.moves.take n)).map id := List.map_congr_left fun x hx => by
      obtain ⟨_, _, _, h4⟩ := h.find (hnm x hx)
      exact h4
    rw [this, List.map_id]
  · rw [hmade]; exact hN
  · intro f hf
    simp only [keepD, List.mem_map] at hf
    obtain ⟨x, hx, rfl⟩ := hf
    obtain ⟨i, _, h3, _⟩ := h.find (hnm x hx)
    exact h2.good _ (List.mem_of_getElem? h3)
theorem DOk.cut {d : Dk} (h : DOk d) (m : Int) (keep : List Int) : DOk (cutD d m keep) :=
  (h.cutA keep).keep (n := cutN m d) (by show cutN m d ≤ d.moves.length; unfold cutN; omega)
def zDk : Dk := ⟨[], [], []⟩
theorem zDk_ok : DOk zDk := DOk2.ok ⟨by decide, by decide, by decide, rfl, List.nodup_nil, fun f h => (by cases h), fun i m h => by simp [zDk] at h⟩
theorem e0_app (x : ByteArray) : (⟨#[]⟩ : ByteArray) ++ x = x := by
  apply ByteArray.ext
  simp
theorem rd_planT {p : Pl} (h : planOk p = true) : rd (planT p) = (p, true) := by
  have e : pI (planT p) = p := pI_planT h
  have hw : planW p = planT p := if_pos h
  have hne : planT p ≠ ⟨#[]⟩ := fun hz => by
    have h1 := congrArg ByteArray.size hz
    rw [planT_end, ByteArray.size_append, endB, ByteArray.size_append] at h1
    have h2 : (⟨#[10, 101, 110, 100, 10]⟩ : ByteArray).size = 5 := rfl
    have h3 : (⟨#[]⟩ : ByteArray).size = 0 := rfl
    rw [h2, h3] at h1
    omega
  unfold rd rdI
  rw [e, if_pos ⟨hw, hne⟩]
theorem posOk_run : ∀ (ls : List LR) (lo nx : Int), posRun lo ls = true → lo + ls.length ≤ nx → posOk nx lo ls = true
  | [], _, _, _, _ => rfl
  | r :: ls, lo, nx, h, hn => by
    rw [posRun, Bool.and_eq_true, decide_eq_true_eq] at h
    rw [List.length_cons] at hn
    rw [posOk, Bool.and_eq_true, Bool.and_eq_true, decide_eq_true_eq, decide_eq_true_eq]
    refine ⟨⟨by omega, by omega⟩, ?_⟩
    rw [h.1]
    exact posOk_run ls (lo + 1) nx h.2 (by omega)
theorem frames_nil : frames ⟨#[]⟩ = ([], 0) := rfl
theorem LogAt.gs {v : Vw} {n : Int} {p : Pl} {rs : List LR} {x : ByteArray} (h : LogAt v n p rs x) (hx : x.size ≤ 20000) : Gs (lsOf n p rs x) ∧ 1 ≤ p.first := by
  obtain ⟨h5, h6, h7, h8, h9⟩ := planOk_ok h.ok
  have hfl := frames_le x
  have hnx := posRun_le _ _ h.run (fun r hr => (hfl.2.2 r hr).2.1) h9
  exact ⟨⟨h.ok, h.hn, ⟨by simp only [lsOf]; omega, hnx⟩, ⟨by simp only [lsOf]; omega, by simp only [lsOf]; omega⟩⟩, h8⟩
theorem LogAt.ge {v : Vw} {n : Int} {p : Pl} {rs : List LR} {x : ByteArray} (h : LogAt v n p rs x) {t : Int} (ht : ∀ nm, v nm ≠ none → vN nm ≤ t) : Ge (lsOf n p rs x) t ∧ n ≤ t := by
  obtain ⟨h5, h6, h7, h8, h9⟩ := planOk_ok h.ok
  refine ⟨⟨?_, fun q hq => ?_⟩, ?_⟩
  · have := ht (seg p.opn) (by rw [h.opn]; simp)
    rwa [vN_seg h7] at this
  · have := ht (seg q.num) (prtsV_some _ h.parts q hq)
    rwa [vN_seg (h6 q hq).num] at this
  · obtain ⟨y, h1, _⟩ := h.plan
    have := ht (pln n) (by rw [h1]; simp)
    rwa [vN_pln h.hn] at this
theorem run_close (v : Vw) (s : Ls) (t : Int) (nm : ByteArray) : runW (clL t s) v nm = if nm = pln s.num then none else if nm = pln (t + 1) then some (planT (nxP s t)) else if nm = seg (t + 1) then some ⟨#[]⟩ else v nm := by
  have e : runW (clL t s) v nm = eff ⟨4, pln s.num, e0⟩ (eff ⟨2, pln (t + 1), planT (nxP s t)⟩ (eff ⟨1, pln (t + 1), e0⟩ (eff ⟨1, seg (t + 1), e0⟩ v))) nm := rfl
  have e1 : ∀ (w : ByteArray) (u : Vw) (nm : ByteArray), eff ⟨4, w, e0⟩ u nm = if nm = w then none else u nm := fun _ _ _ => rfl
  have e2 : ∀ (w x : ByteArray) (u : Vw) (nm : ByteArray), eff ⟨2, w, x⟩ u nm = if nm = w then (u nm).map (· ++ x) else u nm := fun _ _ _ _ => rfl
  have e3 : ∀ (w : ByteArray) (u : Vw) (nm : ByteArray), eff ⟨1, w, e0⟩ u nm = if nm = w then some ⟨#[]⟩ else u nm := fun _ _ _ => rfl
  rw [e, e1, e2, e3, e3]
  by_cases h1 : nm = pln s.num
  · rw [if_pos h1, if_pos h1]
  rw [if_neg h1, if_neg h1]
  by_cases h2 : nm = pln (t + 1)
  · rw [if_pos h2, if_pos h2, if_pos h2, Option.map_some, e0_app]
  · rw [if_neg h2, if_neg h2, if_neg h2]
/-- A segment more. -/
theorem LogAt.roll {v : Vw} {n : Int} {p : Pl} {rs : List LR} {x : ByteArray} (h : LogAt v n p rs x) (hx : x.size ≤ 20000) {t : Int} (ht : ∀ nm, v nm ≠ none → vN nm ≤ t) (ht9 : t < 999999) (hl : p.parts.length < 40) :
    LogAt (runW (clL t (lsOf n p rs x)) v) (t + 1) (nxP (lsOf n p rs x) t) (rs ++ (frames x).1) ⟨#[]⟩ := by
  obtain ⟨hg, hf1⟩ := h.gs hx
  obtain ⟨he, hnt⟩ := h.ge ht
  have hn := h.hn
  have hpo := nxP_ok hg he ⟨by omega, ht9⟩ hl
  obtain ⟨h5, h6, h7, h8, h9⟩ := planOk_ok h.ok
  have hfl := frames_le x
  have hopn : p.opn ≤ t := he.opn
  have hparts : ∀ q ∈ p.parts, q.num ≤ t := he.parts
  have R : ∀ nm, runW (clL t (lsOf n p rs x)) v nm = if nm = pln n then none else if nm = pln (t + 1) then some (planT (nxP (lsOf n p rs x) t)) else if nm = seg (t + 1) then some ⟨#[]⟩ else v nm := run_close v (lsOf n p rs x) t
  generalize runW (clL t (lsOf n p rs x)) v = v' at R
  have old : ∀ m, 1 ≤ m ∧ m ≤ 999999 → m ≤ t → v' (seg m) = v (seg m) := fun m hm hmt => by
    rw [R, if_neg (seg_pln _ _), if_neg (seg_pln _ _), if_neg fun h => by have := seg_inj hm ⟨by omega, by omega⟩ h; omega]
  refine ⟨⟨by omega, by omega⟩, ⟨planT (nxP (lsOf n p rs x) t), ?_, rd_planT hpo⟩, fun m hm hm2 y hy => ?_, ?_, ?_, by rw [frames_nil]; rfl⟩
  · rw [R, if_neg fun h => by have := pln_inj ⟨by omega, by omega⟩ hn h; omega, if_pos rfl]
  · rw [R] at hy
    split at hy
    · cases hy
    · split at hy
      · rename_i e
        have := pln_inj ⟨by omega, hm2⟩ ⟨by omega, by omega⟩ e
        omega
      · split at hy
        · rename_i e; exact absurd e.symm (seg_pln _ _)
        · have := ht (pln m) (by rw [hy]; simp)
          rw [vN_pln ⟨by omega, hm2⟩] at this
          omega
  · refine prtsV_app v' p.parts [⟨p.opn, p.first, p.first + (frames x).1.length, ((frames x).2 : Nat)⟩] ?_ ?_
    · rw [prtsV_congr (v := v) _ fun q hq => old q.num (h6 q hq).num (hparts q hq)]
      exact h.parts
    · have hz : prtV v' ⟨p.opn, p.first, p.first + (frames x).1.length, ((frames x).2 : Nat)⟩ = some (frames x).1 := by
        rw [prtV]
        simp only
        rw [old p.opn h7 hopn, h.opn]
        simp only
        rw [if_neg (by omega), Int.toNat_natCast, frames_cut, if_pos ⟨rfl, posOk_run _ _ _ h.run (Int.le_refl _)⟩]
      rw [prtsV, hz]
      simp [prtsV]
  · have e : (nxP (lsOf n p rs x) t).opn = t + 1 := rfl
    rw [e, R, if_neg (seg_pln _ _), if_neg (seg_pln _ _), if_pos rfl]
/-- What a mend leaves. -/
theorem run_mend (d : Dk) (s : Ls) (nm : ByteArray) : runW (mdL s (th d) ++ [⟨5, e0, e0⟩]) (lk d) nm = if has (ours s) nm = true then lk d nm else none := by
  have e : runW (mdL s (th d) ++ [⟨5, e0, e0⟩]) (lk d) nm = runW (goneL (notOurs s (th d))) (lk d) nm := by
    rw [run_app]; rfl
  rw [e, run_gone]
  by_cases hm : nm ∈ th d
  · cases ho : has (ours s) nm with
    | true =>
      have : has (notOurs s (th d)) nm = false := has_false.2 fun h => by
        have := (List.mem_filter.1 h).2
        rw [ho] at this; cases this
      rw [this]; simp
    | false =>
      have : has (notOurs s (th d)) nm = true := has_true.2 (List.mem_filter.2 ⟨hm, by rw [ho]; rfl⟩)
      rw [this]; simp
  · have h1 : lk d nm = none := by
      cases h : lk d nm with
      | none => rfl
      | some x => exact absurd (lk_some h) hm
    rw [h1]
    split <;> split <;> rfl
theorem LogAt.mend {d : Dk} {n : Int} {p : Pl} {rs : List LR} {x : ByteArray} (h : LogAt (lk d) n p rs x) : LogAt (runW (mdL (lsOf n p rs x) (th d) ++ [⟨5, e0, e0⟩]) (lk d)) n p rs x := by
  have e : runW (mdL (lsOf n p rs x) (th d) ++ [⟨5, e0, e0⟩]) (lk d) = fun nm => if has (ours (lsOf n p rs x)) nm = true then lk d nm else none := funext fun nm => run_mend d (lsOf n p rs x) nm
  rw [e]
  refine h.only (ours (lsOf n p rs x)) (by simp [ours, lsOf]) (by simp [ours, lsOf]) fun q hq => ?_
  simp only [ours, List.mem_cons, List.mem_map]
  exact .inr (.inr ⟨q, hq, rfl⟩)
end Go.V
set_option linter.unusedSimpArgs false
namespace Go.V
open Go.Proofs
theorem step_zero {d : Dk} (hD : DOk d) {a : LA} (h0 : (stepR d a).2.2 = 0) : (wr d a).2.2 = 0 ∧ (goS a 0 d (wr d a).1).2 = 0 ∧ stepR d a = ((goS a 0 d (wr d a).1).1, (wr d a).2.1, 0) ∧ a.cuts = false ∧ lk (stepR d a).1 = runW (wr d a).1 (lk d) ∧ DOk (stepR d a).1 := by
  by_cases k : (wr d a).2.2 = 0
  · have e : stepR d a = ((goS a 0 d (wr d a).1).1, if (goS a 0 d (wr d a).1).2 = 0 then (wr d a).2.1 else 0, (goS a 0 d (wr d a).1).2) := by rw [stepR, if_neg (by rw [k]; decide)]
    rw [e] at h0
    have h1 : (goS a 0 d (wr d a).1).2 = 0 := h0
    rw [if_pos h1, h1] at e
    obtain ⟨g1, g2, g3⟩ := goS_done a _ 0 d hD h1
    refine ⟨k, h1, e, g1, ?_, ?_⟩
    · rw [e]; exact g2
    · rw [e]; exact g3
  · rw [stepR, if_pos k] at h0
    exact absurd h0 k
theorem step_none {d : Dk} {a : LA} (hc : (opn d).code ≠ 0) (hw : (wr d a).2.2 = 0) : (opn d).code = 1 ∧ a.kind = 4 ∧ (wr d a).2.1 = 0 ∧ ∃ l, bi d = some l ∧ (wr d a).1 = l := by
  generalize hW : wr d a = W at *
  unfold wr at hW
  by_cases k : (opn d).code = 1 ∧ a.kind = 4
  · rw [if_pos k] at hW
    subst hW
    refine ⟨k.1, k.2, rfl, ?_⟩
    cases hb : bi d with
    | none => rw [hb] at hw; cases hw
    | some l => exact ⟨l, rfl, rfl⟩
  · rw [if_neg k, if_pos hc] at hW
    subst hW
    exact absurd hw hc
/-- What an act that is refused does. -/
theorem step_no {d : Dk} (hD : DOk d) {a : LA} (h0 : (stepR d a).2.2 ≠ 0) : (stepR d a).2.1 = 0 ∧ DOk (stepR d a).1 ∧ ((stepR d a).2.2 = 6 ∨ ((stepR d a).2.2 = 4 ∧ (a.kind = 3 ∨ a.kind = 4)) ∨ (stepR d a).1 = d) := by
  by_cases k : (wr d a).2.2 = 0
  rotate_left
  · have e : stepR d a = (d, 0, (wr d a).2.2) := by rw [stepR, if_pos k]
    rw [e]
    exact ⟨rfl, hD, .inr (.inr rfl)⟩
  have e : stepR d a = ((goS a 0 d (wr d a).1).1, if (goS a 0 d (wr d a).1).2 = 0 then (wr d a).2.1 else 0, (goS a 0 d (wr d a).1).2) := by rw [stepR, if_neg (by rw [k]; decide)]
  rw [e] at h0 ⊢
  have h1 : (goS a 0 d (wr d a).1).2 ≠ 0 := h0
  simp only
  refine ⟨if_neg h1, goS_ok a _ 0 d hD fun d m k h => h.cut m k, ?_⟩
  by_cases k34 : a.kind = 3 ∨ a.kind = 4
  · have hgo : ∀ (ws : List DW) (i : Nat) (d : Dk), (goS a i d ws).2 = 0 ∨ (goS a i d ws).2 = 6 ∨ (goS a i d ws).2 = 4 := by
      intro ws
      induction ws with
      | nil => intro i d; unfold goS; split <;> simp
      | cons w ws ih =>
        intro i d
        unfold goS
        split
        · simp
        · split
          · exact ih _ _
          · simp
    rcases hgo (wr d a).1 0 d with h | h | h
    · exact absurd h h1
    · exact .inl h
    · exact .inr (.inl ⟨h, k34⟩)
  · have hone : ∃ w, (wr d a).1 = [w] := by
      have hc : (opn d).code = 0 := Classical.byContradiction fun hc => k34 (.inr (step_none hc k).2.1)
      generalize hW : wr d a = W at *
      unfold wr at hW
      rw [if_neg (by omega), if_neg (by omega)] at hW
      by_cases kr : 1 ≤ a.kind ∧ a.kind ≤ 4
      rotate_left
      · rw [if_pos kr] at hW; subst hW; cases k
      rw [if_neg (by omega), if_neg (by omega)] at hW
      split at hW
      · subst hW; cases k
      split at hW
      · subst hW; exact ⟨_, rfl⟩
      rw [if_neg (by omega)] at hW
      split at hW
      · subst hW; cases k
      split at hW
      · subst hW; cases k
      subst hW
      exact ⟨_, rfl⟩
    obtain ⟨w, hw⟩ := hone
    rw [hw] at h1 ⊢
    unfold goS at h1 ⊢
    split at h1
    · rename_i hcut
      rw [if_pos hcut]; exact .inl rfl
    · rename_i hcut
      rw [if_neg hcut]
      split at h1
      · rename_i hd
        rw [if_pos hd]
        unfold goS at h1 ⊢
        split at h1
        · rename_i hc; rw [if_pos hc]; exact .inl rfl
        · exact absurd rfl h1
      · rename_i hd
        rw [if_neg hd]
        exact .inr (.inr (do_same hd))
end Go.V

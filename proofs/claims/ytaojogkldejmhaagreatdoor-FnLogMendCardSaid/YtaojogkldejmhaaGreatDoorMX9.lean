/- The Go function laws.FnLogMend returns true for every input, in the program's own Lean form: however power was lost, the log can be mended, and goes on. Conditions: those of the given row and card. -/
import Derived.Test.YtaojogkldejmhaaGreatDoorMX8
import Derived.Test.YtaojogkldejmhaaGreatDoorMK1
set_option linter.unusedVariables false
set_option linter.unusedSimpArgs false
namespace Go.V
open Go.Proofs
/-! A disk as names, moves, and what is in each file. -/
structure Is (d : Dk) (N : List ByteArray) (M : List DM) (φ : ByteArray → DF) : Prop where
  ok : DOk d
  n : d.names = N
  m : d.moves = M
  f : ∀ nm ∈ made d, fileOf d.files nm = φ nm
def upF (φ : ByteArray → DF) (nm : ByteArray) (f : DF) : ByteArray → DF := fun x => if x = nm then f else φ x
theorem upF_at (φ : ByteArray → DF) (nm : ByteArray) (f : DF) : upF φ nm f nm = f := if_pos rfl
theorem upF_ne {φ : ByteArray → DF} {nm x : ByteArray} {f : DF} (h : x ≠ nm) : upF φ nm f x = φ x := if_neg h
theorem Is.of {d : Dk} (h : DOk d) : Is d d.names d.moves (fileOf d.files) := ⟨h, rfl, rfl, fun _ _ => rfl⟩
section
variable {d : Dk} {N : List ByteArray} {M : List DM} {φ : ByteArray → DF} (h : Is d N M φ)
include h
theorem Is.made : Go.V.made d = N ++ mades M := by rw [← h.n, ← h.m]; rfl
theorem Is.th : th d = aft N M := by rw [← h.n, ← h.m]; rfl
theorem Is.nodup : (N ++ mades M).Nodup := by rw [← h.made]; exact h.ok.two.nd
theorem Is.len : d.files.length = (N ++ mades M).length := by rw [← h.made]; exact h.ok.l.symm
theorem Is.mem {nm : ByteArray} (hm : nm ∈ aft N M) : nm ∈ Go.V.made d := by
  have e : d.moves.take d.moves.length = d.moves := List.take_length
  exact DOk.aft_made (n := d.moves.length) (by rw [e, h.n, h.m]; exact hm)
theorem Is.lk (nm : ByteArray) : lk d nm = if has (aft N M) nm = true then some (φ nm).data else none := by
  rw [Go.V.lk, h.th]
  split
  · rename_i g
    rw [h.f nm (h.mem (has_true.1 g))]
  · rfl
theorem Is.name {nm : ByteArray} (hm : nm ∈ Go.V.made d) : (φ nm).name = nm := by
  obtain ⟨i, h1, h2, h3⟩ := h.ok.find hm
  rw [← h.f nm hm]; exact h3
theorem Is.good {nm : ByteArray} (hm : nm ∈ Go.V.made d) : (φ nm).data.size ≤ 20000 ∧ 0 ≤ (φ nm).kept ∧ (φ nm).kept ≤ (φ nm).data.size := by
  obtain ⟨i, h1, h2, h3⟩ := h.ok.find hm
  rw [← h.f nm hm]
  exact (h.ok.two.good _ (List.mem_of_getElem? h2)).2
theorem Is.fresh {nm : ByteArray} (hm : nm ∉ N ++ mades M) : ∀ f ∈ d.files, f.name ≠ nm := fun f hf e => by
  refine hm ?_
  rw [← h.made, ← h.ok.two.l, List.mem_map]
  exact ⟨f, hf, e⟩
theorem Is.make {nm x : ByteArray} (h1 : nameOk nm = true) (h2 : nm ∉ N ++ mades M) (h3 : (N ++ mades M).length < 64) (h4 : M.length < 128) : (doS d ⟨1, nm, x⟩).2 = 0 ∧ Is (doS d ⟨1, nm, x⟩).1 N (M ++ [⟨false, nm⟩]) (upF φ nm ⟨nm, ⟨#[]⟩, 0⟩) := by
  have hno : fnd d.files nm = -1 := fnd_no fun j g hg => h.fresh h2 g (List.mem_of_getElem? hg)
  have hs := h.ok.step ⟨1, nm, x⟩
  have hd : doS d ⟨1, nm, x⟩ = (⟨d.files ++ [⟨nm, ⟨#[]⟩, 0⟩], d.names, d.moves ++ [⟨false, nm⟩]⟩, 0) := by
    unfold doS
    rw [if_pos rfl, if_neg (by simp [h1, hno]), if_neg (by rw [h.len, h.m]; omega)]
  rw [hd] at hs ⊢
  refine ⟨rfl, hs, h.n, by rw [← h.m], fun y hy => ?_⟩
  have hy2 : y = nm ∨ y ∈ Go.V.made d := by
    have e : Go.V.made ⟨d.files ++ [⟨nm, ⟨#[]⟩, 0⟩], d.names, d.moves ++ [⟨false, nm⟩]⟩ = Go.V.made d ++ [nm] := by simp [Go.V.made, mades]
    rw [e, List.mem_append, List.mem_singleton] at hy
    exact hy.symm
  by_cases e : y = nm
  · rw [e, upF_at]
    exact fileOf_new d.files ⟨nm, ⟨#[]⟩, 0⟩ (by rw [hno]; omega)
  · rw [upF_ne e, ← h.f y (hy2.resolve_left e)]
    exact fileOf_snoc d.files ⟨nm, ⟨#[]⟩, 0⟩ fun g => e g.symm
theorem Is.setF {nm : ByteArray} {g : DF} (hin : nm ∈ aft N M) (hg : g.name = nm) : ∀ y, fileOf (d.files.set (fnd d.files nm).toNat g) y = if y = nm then g else fileOf d.files y := fun y => by
  obtain ⟨i, f1, f2, f3⟩ := h.ok.find (h.mem hin)
  rw [f1, Int.toNat_natCast]
  have := fileOf_set d.files i (fileOf d.files nm) g f2 (by rw [f3]; exact hg) (by rw [f3]; exact fnd_first f1 f2) y
  rw [f3] at this
  exact this
theorem Is.add {nm x : ByteArray} (hin : nm ∈ aft N M) (hs : (φ nm).data.size + x.size ≤ 20000) : (doS d ⟨2, nm, x⟩).2 = 0 ∧ Is (doS d ⟨2, nm, x⟩).1 N M (upF φ nm ⟨nm, (φ nm).data ++ x, (φ nm).kept⟩) := by
  have hm := h.mem hin
  have hf := h.f nm hm
  have hst := h.ok.step ⟨2, nm, x⟩
  have hh : has (aft d.names d.moves) nm = true := by rw [h.n, h.m]; exact has_true.2 hin
  have hd : doS d ⟨2, nm, x⟩ = (⟨d.files.set (fnd d.files nm).toNat ⟨nm, (φ nm).data ++ x, (φ nm).kept⟩, d.names, d.moves⟩, 0) := by
    unfold doS
    simp only [hh, hf, h.name hm]
    rw [if_neg (by decide), if_neg (by decide), if_neg (by decide), if_neg (by decide), if_pos trivial, if_neg (by omega)]
  rw [hd] at hst ⊢
  refine ⟨rfl, hst, h.n, h.m, fun y hy => ?_⟩
  simp only
  rw [h.setF hin rfl y]
  unfold upF
  split
  · rfl
  · exact h.f y hy
theorem Is.sync {nm x : ByteArray} (hin : nm ∈ aft N M) : (doS d ⟨3, nm, x⟩).2 = 0 ∧ Is (doS d ⟨3, nm, x⟩).1 N M (upF φ nm ⟨nm, (φ nm).data, (φ nm).data.size⟩) := by
  have hm := h.mem hin
  have hf := h.f nm hm
  have hst := h.ok.step ⟨3, nm, x⟩
  have hh : has (aft d.names d.moves) nm = true := by rw [h.n, h.m]; exact has_true.2 hin
  have hd : doS d ⟨3, nm, x⟩ = (⟨d.files.set (fnd d.files nm).toNat ⟨nm, (φ nm).data, (φ nm).data.size⟩, d.names, d.moves⟩, 0) := by
    unfold doS
    simp only [hh, hf, h.name hm]
    rw [if_neg (by decide), if_neg (by decide), if_neg (by decide), if_neg (by decide), if_neg (by decide), if_pos trivial]
  rw [hd] at hst ⊢
  refine ⟨rfl, hst, h.n, h.m, fun y hy => ?_⟩
  simp only
  rw [h.setF hin rfl y]
  unfold upF
  split
  · rfl
  · exact h.f y hy
theorem Is.gone {nm x : ByteArray} (hin : nm ∈ aft N M) (h4 : M.length < 128) : (doS d ⟨4, nm, x⟩).2 = 0 ∧ Is (doS d ⟨4, nm, x⟩).1 N (M ++ [⟨true, nm⟩]) φ := by
  have hst := h.ok.step ⟨4, nm, x⟩
  have hh : has (aft d.names d.moves) nm = true := by rw [h.n, h.m]; exact has_true.2 hin
  have hd : doS d ⟨4, nm, x⟩ = (⟨d.files, d.names, d.moves ++ [⟨true, nm⟩]⟩, 0) := by
    unfold doS
    simp only [hh]
    rw [if_neg (by decide), if_neg (by decide), if_neg (by decide), if_neg (by decide), if_neg (by decide), if_neg (by decide), if_neg (by rw [h.m]; omega)]
  rw [hd] at hst ⊢
  refine ⟨rfl, hst, h.n, by rw [← h.m], fun y hy => h.f y ?_⟩
  simpa [Go.V.made, mades] using hy
theorem Is.keep {n : Nat} (hn : n ≤ M.length) : Is (keepD d (aft N (M.take n))) (aft N (M.take n)) [] φ := by
  have hk : DOk (keepD d (aft d.names (d.moves.take n))) := h.ok.keep (by rw [h.m]; exact hn)
  rw [h.n, h.m] at hk
  have hsub : ∀ x ∈ aft N (M.take n), x ∈ Go.V.made d := fun x hx => DOk.aft_made (n := n) (by rw [h.n, h.m]; exact hx)
  refine ⟨hk, rfl, rfl, fun y hy => ?_⟩
  have hy2 : y ∈ aft N (M.take n) := by simpa [Go.V.made, mades, keepD] using hy
  rw [← h.f y (hsub y hy2)]
  exact fileOf_map _ (fileOf d.files) (fun x hx => (h.ok.find (hsub x hx)).choose_spec.2.2) y hy2
theorem Is.dirs {nm x : ByteArray} : (doS d ⟨5, nm, x⟩).2 = 0 ∧ Is (doS d ⟨5, nm, x⟩).1 (aft N M) [] φ := by
  have hd : doS d ⟨5, nm, x⟩ = (keepD d (aft N M), 0) := by
    unfold doS
    rw [if_neg (by simp), if_pos rfl, h.n, h.m]
  rw [hd]
  have := h.keep (n := M.length) (Nat.le_refl _)
  rw [List.take_length] at this
  exact ⟨rfl, this⟩
/-- What a loss of power leaves. -/
theorem Is.cut (m : Int) (keep : List Int) : ∃ (j : Nat) (ψ : ByteArray → DF), j ≤ M.length ∧ Is (cutD d m keep) (aft N (M.take j)) [] ψ ∧ ∀ nm ∈ N ++ mades M, ∃ l : Nat, (φ nm).kept ≤ l ∧ l ≤ (φ nm).data.size ∧ ψ nm = ⟨nm, (φ nm).data.extract 0 l, l⟩ := by
  have hA := h.ok.cutA keep
  have hI : Is (cutA keep d) N M (fileOf (cutA keep d).files) := ⟨hA, h.n, h.m, fun _ _ => rfl⟩
  have hj : cutN m d ≤ M.length := by rw [← h.m]; unfold cutN; omega
  refine ⟨cutN m d, fileOf (cutA keep d).files, hj, ?_, fun nm hm => ?_⟩
  · have := hI.keep hj
    rw [← h.n, ← h.m] at this ⊢
    exact this
  · rw [← h.made] at hm
    obtain ⟨i, f1, f2, f3⟩ := h.ok.find hm
    have hmA : nm ∈ Go.V.made (cutA keep d) := hm
    obtain ⟨k, g1, g2, g3⟩ := hA.find hmA
    have hk : k < d.files.length := by
      have := (List.getElem?_eq_some_iff.1 g2).1
      simp only [cutA, cutP_len] at this
      exact this
    obtain ⟨f, hf⟩ : ∃ f, d.files[k]? = some f := ⟨_, List.getElem?_eq_getElem hk⟩
    have e : (cutA keep d).files[k]? = _ := cutP_at keep hf d.files.length
    rw [if_pos hk, g2] at e
    have e := Option.some.inj e
    have hfn : f.name = nm := by rw [e] at g3; exact g3
    have h1 := (h.ok.files k f hf).one
    rw [hfn, f1] at h1
    have h2 : i = k := by omega
    rw [h2, hf] at f2
    have f2 := Option.some.inj f2
    rw [h.f nm hm] at f2
    have hg := h.good hm
    rw [← f2] at hg ⊢
    have hM := cutM_le (k := keepAt keep k) hg.2.1 hg.2.2
    refine ⟨(f.kept + cutM (keepAt keep k) f).toNat, by omega, by omega, ?_⟩
    rw [e, cutF, hfn, Int.toNat_of_nonneg (by omega)]
end
/-- Writes that all go well; what is so before each of them, and what at the end. -/
def Safe (G : Dk → Prop) : Dk → List DW → (Dk → Prop) → Prop
  | d, [], E => G d ∧ E d
  | d, w :: ws, E => G d ∧ (doS d w).2 = 0 ∧ Safe G (doS d w).1 ws E
theorem Safe.app {G : Dk → Prop} {E : Dk → Prop} {us : List DW} : ∀ (ws : List DW) (d : Dk), Safe G d ws (fun d' => Safe G d' us E) → Safe G d (ws ++ us) E
  | [], _, h => h.2
  | _ :: ws, _, h => ⟨h.1, h.2.1, Safe.app ws _ h.2.2⟩
theorem Safe.go {G E : Dk → Prop} {a : LA} : ∀ (ws : List DW) (i : Nat) (d : Dk), Safe G d ws E → (a.cuts = true → ∃ d', G d' ∧ goS a i d ws = (cutD d' a.moves a.keep, 6)) ∧ (a.cuts = false → (goS a i d ws).2 = 0 ∧ E (goS a i d ws).1)
  | [], i, d, h => by
    unfold goS
    refine ⟨fun hc => ⟨d, h.1, by rw [if_pos hc]⟩, fun hc => ?_⟩
    rw [if_neg (by rw [hc]; decide)]
    exact ⟨rfl, h.2⟩
  | w :: ws, i, d, h => by
    unfold goS
    obtain ⟨h1, h2, h3⟩ := h
    obtain ⟨g1, g2⟩ := Safe.go (a := a) ws (i + 1) _ h3
    refine ⟨fun hc => ?_, fun hc => ?_⟩
    · by_cases ha : a.cuts = true ∧ (i : Int) ≥ a.after
      · exact ⟨d, h1, by rw [if_pos ha]⟩
      · obtain ⟨d', e1, e2⟩ := g1 hc
        exact ⟨d', e1, by rw [if_neg ha, if_pos h2]; exact e2⟩
    · rw [if_neg (by rw [hc]; simp), if_pos h2]
      exact g2 hc
section
variable {G E : Dk → Prop} {d : Dk} {N : List ByteArray} {M : List DM} {φ : ByteArray → DF} {nm x : ByteArray} {ws : List DW}
theorem Safe.make (h : Is d N M φ) (hG : G d) (h1 : nameOk nm = true) (h2 : nm ∉ N ++ mades M) (h3 : (N ++ mades M).length < 64) (h4 : M.length < 128) (hk : ∀ d', Is d' N (M ++ [⟨false, nm⟩]) (upF φ nm ⟨nm, ⟨#[]⟩, 0⟩) → Safe G d' ws E) : Safe G d (⟨1, nm, x⟩ :: ws) E :=
  have := h.make (x := x) h1 h2 h3 h4
  ⟨hG, this.1, hk _ this.2⟩
theorem Safe.add (h : Is d N M φ) (hG : G d) (hin : nm ∈ aft N M) (hs : (φ nm).data.size + x.size ≤ 20000) (hk : ∀ d', Is d' N M (upF φ nm ⟨nm, (φ nm).data ++ x, (φ nm).kept⟩) → Safe G d' ws E) : Safe G d (⟨2, nm, x⟩ :: ws) E :=
  have := h.add hin hs
  ⟨hG, this.1, hk _ this.2⟩
theorem Safe.sync (h : Is d N M φ) (hG : G d) (hin : nm ∈ aft N M) (hk : ∀ d', Is d' N M (upF φ nm ⟨nm, (φ nm).data, (φ nm).data.size⟩) → Safe G d' ws E) : Safe G d (⟨3, nm, x⟩ :: ws) E :=
  have := h.sync (x := x) hin
  ⟨hG, this.1, hk _ this.2⟩
theorem Safe.gone (h : Is d N M φ) (hG : G d) (hin : nm ∈ aft N M) (h4 : M.length < 128) (hk : ∀ d', Is d' N (M ++ [⟨true, nm⟩]) φ → Safe G d' ws E) : Safe G d (⟨4, nm, x⟩ :: ws) E :=
  have := h.gone (x := x) hin h4
  ⟨hG, this.1, hk _ this.2⟩
theorem Safe.dirs (h : Is d N M φ) (hG : G d) (hk : ∀ d', Is d' (aft N M) [] φ → Safe G d' ws E) : Safe G d (⟨5, nm, x⟩ :: ws) E :=
  have := h.dirs (nm := nm) (x := x)
  ⟨hG, this.1, hk _ this.2⟩
end
end Go.V
set_option linter.unusedSimpArgs false
namespace Go.V
open Go.Proofs
/-! What is read of a part of a text. -/
theorem chain_pre {s : ByteArray} {a b : Nat} {rs : List LR} (h : Chain s a rs b) : ∀ k, s.size - a ≤ k → ∃ qs, (frL s a k).1 = rs ++ qs := by
  induction h with
  | nil a => exact fun k _ => ⟨_, rfl⟩
  | cons h _ ih =>
    intro k hk
    have hb := frAt_le h
    obtain ⟨j, rfl⟩ : ∃ j, k = j + 1 := ⟨k - 1, by omega⟩
    obtain ⟨qs, hq⟩ := ih j (by omega)
    exact ⟨qs, by rw [frL_some h]; simp only [hq]; rfl⟩
theorem frames_pre {s t : ByteArray} (h : same s t s.size) : ∃ qs, (frames t).1 = (frames s).1 ++ qs :=
  chain_pre ((frames_chain s).1.same h (frames_le s).1) _ (by omega)
theorem extP_size (x : ByteArray) {l : Nat} (h : l ≤ x.size) : (x.extract 0 l).size = l := by rw [ByteArray.size_extract]; omega
theorem ext_all (x : ByteArray) : x.extract 0 x.size = x := by
  have h := same_ext x x.size (Nat.le_refl _)
  apply ByteArray.ext
  apply Array.ext_getElem?
  intro i
  by_cases hi : i < x.size
  · exact (h.2.2 i hi).symm
  · have h1 := extP_size x (Nat.le_refl x.size)
    rw [size_data] at h1
    have e : x.size = x.data.size := rfl
    rw [Array.getElem?_eq_none (by omega), Array.getElem?_eq_none (by omega)]
theorem same_ext2 (x : ByteArray) {l m : Nat} (h : l ≤ m) (hm : m ≤ x.size) : same (x.extract 0 l) (x.extract 0 m) (x.extract 0 l).size := by
  have h1 := same_ext x l (by omega)
  have h2 := same_ext x m hm
  rw [extP_size x (by omega)]
  exact ⟨by rw [extP_size x (by omega)]; exact Nat.le_refl _, by rw [extP_size x hm]; exact h, fun i hi => (h1.2.2 i hi).symm.trans (h2.2.2 i (by omega))⟩
theorem frames_mono (x : ByteArray) {l m : Nat} (h : l ≤ m) (hm : m ≤ x.size) : ∃ qs, (frames (x.extract 0 m)).1 = (frames (x.extract 0 l)).1 ++ qs := frames_pre (same_ext2 x h hm)
theorem planTLs (p : Pl) : (planT p).data.toList = (linesL p.parts ++ (endL p ++ [10, 101, 110])) ++ [100, 10] := by
  have h : (planT p).data.toList = linesL p.parts ++ (endB p).data.toList := by rw [planT]; simp [ofL]
  rw [h, endB_L]
  simp
theorem nd100 : ¬ isDig 100 := by decide
theorem planT_no {p : Pl} (h : planOk p = true) : (100 : UInt8) ∉ linesL p.parts ++ (endL p ++ [10, 101, 110]) := by
  obtain ⟨h5, h6, h7, h8, h9⟩ := planOk_ok h
  have n1 := dL_no p.opn (by omega) 100 nd100
  have n2 := dL_no p.first (by omega) 100 nd100
  have hl : (100 : UInt8) ∉ linesL p.parts := fun hm => by
    simp only [linesL, List.mem_flatMap] at hm
    obtain ⟨x, hx, hm⟩ := hm
    have hX := h6 x hx
    have m1 := dL_no x.num (by have := hX.num; omega) 100 nd100
    have m2 := dL_no x.first (by have := hX.first; omega) 100 nd100
    have m3 := dL_no x.next (by have := hX.next; have := hX.first; omega) 100 nd100
    have m4 := dL_no x.size hX.size.1 100 nd100
    rw [lineB_L] at hm
    simp [lineL, m1, m2, m3, m4] at hm
  simp [hl, endL, n1, n2]
/-- A plan that is torn is never read. -/
theorem rd_part {p : Pl} (h : planOk p = true) {l : Nat} (hl : l < (planT p).size) : (rd ((planT p).extract 0 l)).2 = false := by
  cases hq : (rd ((planT p).extract 0 l)).2 with
  | false => rfl
  | true =>
    obtain ⟨q1, q2⟩ := rd_ok (text := (planT p).extract 0 l) (p := (rd ((planT p).extract 0 l)).1) (by rw [← hq])
    have e1 := planTLs p
    have e2 := planTLs (rd ((planT p).extract 0 l)).1
    have hn := planT_no h
    generalize linesL p.parts ++ (endL p ++ [10, 101, 110]) = B at *
    generalize linesL (rd ((planT p).extract 0 l)).1.parts ++ (endL (rd ((planT p).extract 0 l)).1 ++ [10, 101, 110]) = B2 at *
    rw [q2] at e2
    have hz : (planT p).size = B.length + 2 := by
      rw [size_data, ← Array.length_toList, e1, List.length_append]; rfl
    have hz2 : l = B2.length + 2 := by
      rw [← extP_size (planT p) (Nat.le_of_lt hl), size_data, ← Array.length_toList, e2, List.length_append]; rfl
    have hs := (same_ext (planT p) l (Nat.le_of_lt hl)).2.2 B2.length (by omega)
    rw [← Array.getElem?_toList, ← Array.getElem?_toList, e1, e2, List.getElem?_append_left (by omega), List.getElem?_append_right (Nat.le_refl _), Nat.sub_self] at hs
    exact absurd (List.mem_of_getElem? hs) hn
/-! The invariant of a log that is played. -/
def recsL (L : List ByteArray) : List LR := L.mapIdx fun i s => ⟨(i : Int) + 1, s⟩
theorem recsL_len (L : List ByteArray) : (recsL L).length = L.length := by simp [recsL]
theorem recsL_at (L : List ByteArray) (i : Nat) : (recsL L)[i]? = (L[i]?).map fun s => ⟨(i : Int) + 1, s⟩ := by simp [recsL]
theorem recsL_take (L : List ByteArray) (k : Nat) : recsL (L.take k) = (recsL L).take k := by
  apply List.ext_getElem?
  intro i
  rw [recsL_at, List.getElem?_take, List.getElem?_take, recsL_at]
  split <;> rfl
theorem recsL_snoc (L : List ByteArray) (s : ByteArray) : recsL (L ++ [s]) = recsL L ++ [⟨(L.length : Int) + 1, s⟩] := by simp [recsL, List.mapIdx_append]
def vw (N : List ByteArray) (φ : ByteArray → DF) : Vw := fun nm => if has N nm = true then some (φ nm).data else none
theorem vw_in {N : List ByteArray} {φ : ByteArray → DF} {nm : ByteArray} (h : nm ∈ N) : vw N φ nm = some (φ nm).data := if_pos (has_true.2 h)
theorem vw_mem {N : List ByteArray} {φ : ByteArray → DF} {nm y : ByteArray} (h : vw N φ nm = some y) : nm ∈ N ∧ (φ nm).data = y := by
  unfold vw at h
  split at h
  · rename_i g; exact ⟨has_true.1 g, Option.some.inj h⟩
  · cases h
theorem Is.vw {d : Dk} {N : List ByteArray} {φ : ByteArray → DF} (h : Is d N [] φ) : Go.V.lk d = Go.V.vw N φ := funext fun nm => h.lk nm
def NoLog (v : Vw) : Prop := ∀ m, 1 ≤ m → m ≤ 999999 → ∀ y, v (pln m) = some y → (rd y).2 = false
theorem opn_none {d : Dk} (h : NoLog (lk d)) : opn d = zLs 1 := by
  obtain ⟨c1, _⟩ := np_char d
  have hno := np_ok d
  rcases c1 with c1 | ⟨c1, y, y1, y2⟩
  · unfold opn; rw [if_pos c1]
  · have := h (np d).2 c1 (by rcases hno with ⟨_, h⟩ | ⟨_, _, h⟩ <;> omega) y y1
    rw [y2] at this
    cases this
structure LI (N : List ByteArray) (φ : ByteArray → DF) (n : Int) (p : Pl) (rs : List LR) (x : ByteArray) (L : List ByteArray) : Prop where
  here : LogAt (vw N φ) n p rs x
  recs : rs ++ (frames x).1 = recsL L
  first : p.first = (rs.length : Int) + 1
  kept : ∀ nm ∈ N, nm ≠ seg p.opn → (φ nm).kept = (φ nm).data.size
def InvL (N : List ByteArray) (φ : ByteArray → DF) (L : List ByteArray) (lo : Nat) : Prop := (NoLog (vw N φ) ∧ L = [] ∧ lo = 0 ∧ (∀ nm ∈ N, (φ nm).kept = (φ nm).data.size) ∧ N.length ≤ 2) ∨ ∃ n p rs x, LI N φ n p rs x L ∧ lo ≤ rs.length + (frames (x.extract 0 (φ (seg p.opn)).kept.toNat)).1.length
theorem LogAt.congr {v v' : Vw} {n : Int} {p : Pl} {rs : List LR} {x : ByteArray} (h : LogAt v n p rs x) (h1 : v' (pln n) = v (pln n)) (h2 : v' (seg p.opn) = v (seg p.opn)) (h3 : ∀ q ∈ p.parts, v' (seg q.num) = v (seg q.num)) (h4 : ∀ m, n < m → m ≤ 999999 → ∀ y, v' (pln m) = some y → v (pln m) = some y ∨ (rd y).2 = false) : LogAt v' n p rs x := by
  refine ⟨h.hn, ?_, fun m hm hm2 y hy => ?_, ?_, ?_, h.run⟩
  · rw [h1]; exact h.plan
  · rcases h4 m hm hm2 y hy with g | g
    · exact h.top m hm hm2 y g
    · exact g
  · rw [prtsV_congr p.parts h3]; exact h.parts
  · rw [h2]; exact h.opn
theorem posRun_pre : ∀ (a b : List LR) (lo : Int), posRun lo (a ++ b) = true → posRun lo a = true
  | [], _, _, _ => rfl
  | r :: a, b, lo, h => by
    rw [List.cons_append, posRun, Bool.and_eq_true] at h
    rw [posRun, Bool.and_eq_true]
    exact ⟨h.1, posRun_pre a b _ h.2⟩
section
variable {N : List ByteArray} {φ : ByteArray → DF} {n : Int} {p : Pl} {rs : List LR} {x : ByteArray} {L : List ByteArray} (h : LI N φ n p rs x L)
include h
theorem LI.data : seg p.opn ∈ N ∧ (φ (seg p.opn)).data = x := vw_mem h.here.opn
theorem LI.len : L.length = rs.length + (frames x).1.length := by rw [← recsL_len, ← h.recs, List.length_append]
theorem LI.part {q : LP} (hq : q ∈ p.parts) : seg q.num ∈ N ∧ seg q.num ≠ seg p.opn := by
  obtain ⟨h5, h6, h7, h8, h9⟩ := planOk_ok h.here.ok
  refine ⟨?_, fun e => plan_ne h.here.ok hq (seg_inj (h6 q hq).num h7 e)⟩
  have := prtsV_some _ h.here.parts q hq
  cases hv : Go.V.vw N φ (seg q.num) with
  | none => exact absurd hv this
  | some y => exact (vw_mem hv).1
theorem LI.plan : pln n ∈ N := by
  obtain ⟨y, h1, _⟩ := h.here.plan
  exact (vw_mem h1).1
theorem LI.ours {nm : ByteArray} (hm : nm ∈ ours (lsOf n p rs x)) : nm ∈ N := by
  simp only [Go.V.ours, List.mem_cons, List.mem_map] at hm
  rcases hm with rfl | rfl | ⟨q, hq, rfl⟩
  · exact h.plan
  · exact h.data.1
  · exact (h.part hq).1
/-- Behind a loss of power the log is the same, but for records at its end. -/
theorem LI.stay {lo : Nat} (hlo : lo ≤ rs.length + (frames (x.extract 0 (φ (seg p.opn)).kept.toNat)).1.length) {N' : List ByteArray} {ψ : ByteArray → DF} (h1 : ∀ nm ∈ Go.V.ours (lsOf n p rs x), nm ∈ N') (h2 : ∀ nm ∈ N', nm ∉ N → ∀ m, nm = pln m → (rd (ψ nm).data).2 = false)
    (h3 : ∀ nm ∈ N', nm ∈ N → ∃ l : Nat, (φ nm).kept ≤ l ∧ l ≤ (φ nm).data.size ∧ ψ nm = ⟨nm, (φ nm).data.extract 0 l, l⟩) (h4 : ∀ nm ∈ N', (ψ nm).kept = (ψ nm).data.size) : ∃ k, lo ≤ k ∧ k ≤ L.length ∧ InvL N' ψ (L.take k) k := by
  obtain ⟨ho, hx⟩ := h.data
  have ho' : seg p.opn ∈ N' := h1 _ (by simp [Go.V.ours, lsOf])
  obtain ⟨l, l1, l2, l3⟩ := h3 _ ho' ho
  rw [hx] at l2 l3
  have old : ∀ nm ∈ N', nm ∈ N → nm ≠ seg p.opn → (ψ nm).data = (φ nm).data := fun nm hm hn hne => by
    obtain ⟨k, k1, k2, k3⟩ := h3 nm hm hn
    have hk := h.kept nm hn hne
    have e : k = (φ nm).data.size := by omega
    rw [k3, e, ext_all]
  have oldv : ∀ nm ∈ N', nm ∈ N → nm ≠ seg p.opn → Go.V.vw N' ψ nm = Go.V.vw N φ nm := fun nm hm hn hne => by
    rw [vw_in hm, vw_in hn, old nm hm hn hne]
  obtain ⟨qs, hqs⟩ := frames_mono x l2 (Nat.le_refl _)
  rw [ext_all] at hqs
  have hlen := h.len
  rw [hqs, List.length_append] at hlen
  have hlk : (φ (seg p.opn)).kept.toNat ≤ l := by omega
  obtain ⟨ks, hks⟩ := frames_mono x hlk l2
  have hkl := congrArg List.length hks
  rw [List.length_append] at hkl
  refine ⟨rs.length + (frames (x.extract 0 l)).1.length, by omega, by omega, .inr ⟨n, p, rs, x.extract 0 l, ⟨⟨h.here.hn, ?_, fun m hm hm2 y hy => ?_, ?_, ?_, ?_⟩, ?_, h.first, fun nm hm _ => h4 nm hm⟩, ?_⟩⟩
  · obtain ⟨y, y1, y2⟩ := h.here.plan
    exact ⟨y, by rw [oldv _ (h1 _ (by simp [Go.V.ours, lsOf])) h.plan fun e => seg_pln _ _ e.symm]; exact y1, y2⟩
  · obtain ⟨y1, y2⟩ := vw_mem hy
    by_cases hN : pln m ∈ N
    · refine h.here.top m hm hm2 y ?_
      rw [← hy, oldv _ y1 hN fun e => seg_pln _ _ e.symm]
    · rw [← y2]; exact h2 _ y1 hN m rfl
  · rw [prtsV_congr (v := Go.V.vw N φ) p.parts fun q hq => ?_]
    · exact h.here.parts
    · exact oldv _ (h1 _ (by simp only [Go.V.ours, List.mem_cons, List.mem_map]; exact .inr (.inr ⟨q, hq, rfl⟩))) (h.part hq).1 (h.part hq).2
  · rw [vw_in ho', l3]
  · have := h.here.run
    rw [hqs] at this
    exact posRun_pre _ _ _ this
  · rw [recsL_take, ← h.recs, hqs, ← List.append_assoc, List.take_left' (by rw [List.length_append])]
  · rw [l3]
    show _ ≤ rs.length + (frames ((x.extract 0 l).extract 0 l)).1.length
    have e : (x.extract 0 l).extract 0 l = x.extract 0 l := by
      have := ext_all (x.extract 0 l)
      rwa [extP_size x l2] at this
    rw [e]
    exact Nat.le_refl _
/-- A log with a segment more. -/
theorem LI.fresh (hx : x.size ≤ 20000) {t : Int} (ht : ∀ nm ∈ N, vN nm ≤ t) (ht9 : t < 999999) (hl : p.parts.length < 40) {N' : List ByteArray} {ψ : ByteArray → DF} (hN : ∀ nm ∈ N', nm ∈ N ∨ nm = seg (t + 1) ∨ nm = pln (t + 1))
    (h1 : seg (t + 1) ∈ N' ∧ pln (t + 1) ∈ N') (hd1 : (ψ (seg (t + 1))).data = ⟨#[]⟩) (hd2 : (ψ (pln (t + 1))).data = planT (nxP (lsOf n p rs x) t)) (h2 : ∀ nm ∈ Go.V.ours (lsOf n p rs x), nm ≠ pln n → nm ∈ N') (h3 : ∀ nm ∈ N, nm ∈ N' → (ψ nm).data = (φ nm).data)
    (h4 : ∀ nm ∈ N', (ψ nm).kept = (ψ nm).data.size) : LI N' ψ (t + 1) (nxP (lsOf n p rs x) t) (rs ++ (frames x).1) ⟨#[]⟩ L := by
  have htv : ∀ nm, Go.V.vw N φ nm ≠ none → vN nm ≤ t := fun nm hn => by
    cases hv : Go.V.vw N φ nm with
    | none => exact absurd hv hn
    | some y => exact ht nm (vw_mem hv).1
  obtain ⟨h5, h6, h7, h8, h9⟩ := planOk_ok h.here.ok
  obtain ⟨he, hnt⟩ := h.here.ge htv
  have hn := h.here.hn
  have R : ∀ nm, runW (clL t (lsOf n p rs x)) (Go.V.vw N φ) nm = if nm = pln n then none else if nm = pln (t + 1) then some (planT (nxP (lsOf n p rs x) t)) else if nm = seg (t + 1) then some ⟨#[]⟩ else Go.V.vw N φ nm := run_close _ (lsOf n p rs x) t
  have hroll := h.here.roll hx htv ht9 hl
  have hopn : p.opn ≤ t := he.opn
  have hparts : ∀ q ∈ p.parts, q.num ≤ t := he.parts
  have olds : ∀ m, 1 ≤ m ∧ m ≤ 999999 → m ≤ t → seg m ∈ N → seg m ∈ N' → Go.V.vw N' ψ (seg m) = runW (clL t (lsOf n p rs x)) (Go.V.vw N φ) (seg m) := fun m hm hmt g1 g2 => by
    rw [R, if_neg (seg_pln _ _), if_neg (seg_pln _ _), if_neg fun h => by have := seg_inj hm ⟨by omega, by omega⟩ h; omega, vw_in g1, vw_in g2, h3 _ g1 g2]
  have hs1 : seg p.opn ∈ N' := h2 _ (by simp [Go.V.ours, lsOf]) (seg_pln _ _)
  have hnew : LogAt (Go.V.vw N' ψ) (t + 1) (nxP (lsOf n p rs x) t) (rs ++ (frames x).1) ⟨#[]⟩ := by
    refine hroll.congr ?_ ?_ (fun q hq => ?_) fun m hm hm2 y hy => ?_
    · rw [R, if_neg fun e => by have := pln_inj ⟨by omega, by omega⟩ hn e; omega, if_pos rfl, vw_in h1.2, hd2]
    · show Go.V.vw N' ψ (seg (t + 1)) = runW _ _ (seg (t + 1))
      rw [R, if_neg (seg_pln _ _), if_neg (seg_pln _ _), if_pos rfl, vw_in h1.1, hd1]
    · rcases List.mem_append.1 (show q ∈ p.parts ++ [_] from hq) with hq | hq
      · exact olds _ (h6 q hq).num (hparts q hq) (h.part hq).1 (h2 _ (by simp only [Go.V.ours, List.mem_cons, List.mem_map]; exact .inr (.inr ⟨q, hq, rfl⟩)) (seg_pln _ _))
      · rw [List.mem_singleton] at hq
        subst hq
        exact olds _ h7 hopn h.data.1 hs1
    · obtain ⟨y1, y2⟩ := vw_mem hy
      rcases hN _ y1 with g | g | g
      · have := ht _ g
        rw [vN_pln ⟨by omega, hm2⟩] at this
        omega
      · exact absurd g.symm (seg_pln _ _)
      · have := pln_inj ⟨by omega, hm2⟩ ⟨by omega, by omega⟩ g
        omega
  refine ⟨hnew, ?_, ?_, fun nm hm _ => h4 nm hm⟩
  · rw [frames_nil, List.append_nil]; exact h.recs
  · show p.first + ((frames x).1.length : Int) = _
    rw [h.first, List.length_append]; omega
theorem LI.inv (hfull : (φ (seg p.opn)).kept = (φ (seg p.opn)).data.size) : InvL N φ L L.length := by
  refine .inr ⟨n, p, rs, x, h, ?_⟩
  rw [hfull, h.data.2, Int.toNat_natCast, ext_all, h.len]; exact Nat.le_refl _
end
/-- A log that is born. -/
theorem born {t : Int} (ht : 0 ≤ t ∧ t < 999999) {N' : List ByteArray} {ψ : ByteArray → DF} (hN : ∀ nm ∈ N', nm = seg (t + 1) ∨ nm = pln (t + 1)) (h1 : seg (t + 1) ∈ N' ∧ pln (t + 1) ∈ N') (hd1 : (ψ (seg (t + 1))).data = ⟨#[]⟩) (hd2 : (ψ (pln (t + 1))).data = planT ⟨[], t + 1, 1⟩) (h4 : ∀ nm ∈ N', (ψ nm).kept = (ψ nm).data.size) : LI N' ψ (t + 1) ⟨[], t + 1, 1⟩ [] ⟨#[]⟩ [] := by
  have hp : planOk ⟨[], t + 1, 1⟩ = true := by
    rw [planOk_iff]
    exact ⟨by simp, ⟨by simp only; omega, by simp only; omega⟩, rfl⟩
  refine ⟨⟨⟨by omega, by omega⟩, ⟨_, by rw [vw_in h1.2, hd2], rd_planT hp⟩, fun m hm hm2 y hy => ?_, rfl, by rw [vw_in h1.1, hd1], by rw [frames_nil]; rfl⟩, by rw [frames_nil]; rfl, rfl, fun nm hm _ => h4 nm hm⟩
  obtain ⟨y1, y2⟩ := vw_mem hy
  rcases hN _ y1 with g | g
  · exact absurd g.symm (seg_pln _ _)
  · have := pln_inj ⟨by omega, hm2⟩ ⟨by omega, by omega⟩ g
    omega
end Go.V
set_option linter.unusedSimpArgs false
namespace Go.V
open Go.Proofs
/-! A log through losses of power. -/
def Inv (d : Dk) (L : List ByteArray) (lo : Nat) (T : Int) : Prop := ∃ N φ, Is d N [] φ ∧ (∀ nm ∈ N, vN nm ≤ T) ∧ (L.length : Int) ≤ T ∧ InvL N φ L lo
/-- Whatever a loss of power leaves, it is well. -/
def Gd (L : List ByteArray) (lo : Nat) (T : Int) (d : Dk) : Prop := ∀ m keep, ∃ k, lo ≤ k ∧ k ≤ L.length ∧ Inv (cutD d m keep) (L.take k) k T
theorem Gd.mono {L : List ByteArray} {lo lo' : Nat} {T : Int} {d : Dk} (h : Gd L lo' T d) (hl : lo ≤ lo') : Gd L lo T d := fun m keep => by
  obtain ⟨k, h1, h2, h3⟩ := h m keep
  exact ⟨k, by omega, h2, h3⟩
abbrev CutF (φ ψ : ByteArray → DF) (nm : ByteArray) : Prop := ∃ l : Nat, (φ nm).kept ≤ l ∧ l ≤ (φ nm).data.size ∧ ψ nm = ⟨nm, (φ nm).data.extract 0 l, l⟩
theorem CutF.all {φ ψ : ByteArray → DF} {nm : ByteArray} (h : CutF φ ψ nm) (hk : (φ nm).kept = (φ nm).data.size) : (ψ nm).data = (φ nm).data := by
  obtain ⟨k, k1, k2, k3⟩ := h
  have e : k = (φ nm).data.size := by omega
  rw [k3, e, ext_all]
theorem CutF.kept {φ ψ : ByteArray → DF} {nm : ByteArray} (h : CutF φ ψ nm) : (ψ nm).kept = (ψ nm).data.size := by
  obtain ⟨k, k1, k2, k3⟩ := h
  rw [k3]
  simp only [extP_size _ k2]
theorem Gd.of {d : Dk} {N : List ByteArray} {M : List DM} {φ : ByteArray → DF} {L : List ByteArray} {lo : Nat} {T : Int} (h : Is d N M φ) (hT : ∀ nm ∈ N ++ mades M, vN nm ≤ T) (hL : (L.length : Int) ≤ T)
    (hc : ∀ (j : Nat) (ψ : ByteArray → DF), j ≤ M.length → (∀ nm ∈ aft N (M.take j), nm ∈ N ++ mades M) → (∀ nm ∈ aft N (M.take j), CutF φ ψ nm) → ∃ k, lo ≤ k ∧ k ≤ L.length ∧ InvL (aft N (M.take j)) ψ (L.take k) k) : Gd L lo T d := fun m keep => by
  obtain ⟨j, ψ, hj, hI, hψ⟩ := h.cut m keep
  have hsub : ∀ nm ∈ aft N (M.take j), nm ∈ N ++ mades M := fun nm hm => by
    have := DOk.aft_made (d := d) (n := j) (x := nm) (by rw [h.n, h.m]; exact hm)
    rwa [h.made] at this
  obtain ⟨k, k1, k2, k3⟩ := hc j ψ hj hsub fun nm hm => hψ nm (hsub nm hm)
  refine ⟨k, k1, k2, _, ψ, hI, fun nm hm => hT nm (hsub nm hm), ?_, k3⟩
  rw [List.length_take]; omega
theorem name_num (c : UInt8) (hc : lower c = true) {n : Int} (h : 1 ≤ n ∧ n ≤ 999999) : nameOk ((⟨#[c]⟩ : ByteArray) ++ dc n) = true := by
  have h7 := dc_le7 n ⟨by omega, by omega⟩
  have hd := dL_dig n (by omega)
  have e : ((⟨#[c]⟩ : ByteArray) ++ dc n).data.toList = c :: dL n := by
    rw [ba_data, dc, ofL_toL]; rfl
  have h1 : ((⟨#[c]⟩ : ByteArray) ++ dc n).size = 1 + (dc n).size := by rw [ByteArray.size_append]; rfl
  simp only [nameOk, e, h1, Bool.and_eq_true, decide_eq_true_eq, List.head?_cons, Option.any_some, List.all_cons, List.all_eq_true, Bool.or_eq_true, hc, true_or]
  refine ⟨⟨⟨by omega, by omega⟩, trivial⟩, trivial, fun b hb => ?_⟩
  have := hd b hb
  right
  simp only [digit, Bool.and_eq_true, decide_eq_true_eq]
  exact this
theorem segN_ok {n : Int} (h : 1 ≤ n ∧ n ≤ 999999) : nameOk (seg n) = true := name_num 115 (by decide) h
theorem plnN_ok {n : Int} (h : 1 ≤ n ∧ n ≤ 999999) : nameOk (pln n) = true := name_num 109 (by decide) h
theorem rd_nil : (rd ⟨#[]⟩).2 = false := by
  unfold rd rdI
  rw [if_neg fun h => h.2 rfl]
theorem ext_nil (l : Nat) : (⟨#[]⟩ : ByteArray).extract 0 l = ⟨#[]⟩ := by
  apply ByteArray.ext
  simp
theorem planT_fit {p : Pl} (h : planOk p = true) : (planT p).size ≤ 20000 := by
  have h1 := planT_le (planOk_pl h)
  have h2 := (planOk_ok h).1
  omega
theorem aft2 (N : List ByteArray) (a b : ByteArray) : aft N ([] ++ [⟨false, a⟩] ++ [⟨false, b⟩]) = N ++ [a, b] := by simp [aft]
section
variable {N : List ByteArray} {φ : ByteArray → DF} {n : Int} {p : Pl} {rs : List LR} {x : ByteArray} {L : List ByteArray} (h : LI N φ n p rs x L) (hfull : (φ (seg p.opn)).kept = (φ (seg p.opn)).data.size) {t T : Int}
include h
theorem LI.lo_full (hfull : (φ (seg p.opn)).kept = (φ (seg p.opn)).data.size) : L.length ≤ rs.length + (frames (x.extract 0 (φ (seg p.opn)).kept.toNat)).1.length := by
  rw [hfull, h.data.2, Int.toNat_natCast, ext_all, h.len]; exact Nat.le_refl _
theorem LI.keptA (hfull : (φ (seg p.opn)).kept = (φ (seg p.opn)).data.size) : ∀ nm ∈ N, (φ nm).kept = (φ nm).data.size := fun nm hm => by
  by_cases e : nm = seg p.opn
  · rw [e]; exact hfull
  · exact h.kept nm hm e
include hfull
/-- .. while a segment more is made. -/
theorem close_cut (hx : x.size ≤ 20000) (ht : ∀ nm ∈ N, vN nm ≤ t) (ht9 : 0 ≤ t ∧ t < 999999) (hl : p.parts.length < 40) (hpk : planOk (nxP (lsOf n p rs x) t) = true) (hT : t + 1 ≤ T) (hL : (L.length : Int) ≤ T) {d : Dk} {M : List DM} {φ' : ByteArray → DF} (hd : Is d N M φ')
    (hM : M = [] ∨ M = [] ++ [⟨false, seg (t + 1)⟩] ∨ M = [] ++ [⟨false, seg (t + 1)⟩] ++ [⟨false, pln (t + 1)⟩]) (hφ : ∀ nm ∈ N, φ' nm = φ nm) (hs : M ≠ [] → (φ' (seg (t + 1))).data = ⟨#[]⟩) (hpm : M.length = 2 → (φ' (pln (t + 1))).data = ⟨#[]⟩ ∨ (φ' (pln (t + 1))).data = planT (nxP (lsOf n p rs x) t)) : Gd L L.length T d := by
  have hv1 : vN (seg (t + 1)) = t + 1 := vN_seg ⟨by omega, by omega⟩
  have hv2 : vN (pln (t + 1)) = t + 1 := vN_pln ⟨by omega, by omega⟩
  have hmd : ∀ nm ∈ mades M, nm = seg (t + 1) ∨ nm = pln (t + 1) := fun nm hm => by
    rcases hM with e | e | e <;> subst e <;> simp [mades] at hm
    · exact .inl hm
    · exact hm
  have hns : seg (t + 1) ∉ N := fun hm => by have := ht _ hm; omega
  have hnp : pln (t + 1) ∉ N := fun hm => by have := ht _ hm; omega
  refine Gd.of hd (fun nm hm => ?_) hL fun j ψ hj hsub hψ => ?_
  · rcases List.mem_append.1 hm with hm | hm
    · have := ht nm hm; omega
    · rcases hmd nm hm with e | e <;> rw [e] <;> omega
  have hN : aft N (M.take j) = N ∨ (aft N (M.take j) = N ++ [seg (t + 1)] ∧ M ≠ []) ∨ (aft N (M.take j) = N ++ [seg (t + 1), pln (t + 1)] ∧ M.length = 2) := by
    rcases hM with e | e | e <;> subst e
    · exact .inl (by rw [List.take_nil]; rfl)
    · rcases Nat.lt_or_ge j 1 with g | g
      · have : j = 0 := by omega
        subst this; exact .inl rfl
      · have : j = 1 := by simp at hj; omega
        subst this; exact .inr (.inl ⟨rfl, by simp⟩)
    · rcases Nat.lt_or_ge j 1 with g | g
      · have : j = 0 := by omega
        subst this; exact .inl rfl
      · rcases Nat.lt_or_ge j 2 with g | g
        · have : j = 1 := by omega
          subst this; exact .inr (.inl ⟨rfl, by simp⟩)
        · have : j = 2 := by simp at hj; omega
          subst this; exact .inr (.inr ⟨by simp [aft], rfl⟩)
  have hsN : ∀ nm ∈ N, nm ∈ aft N (M.take j) := fun nm hm => by
    rcases hN with e | ⟨e, _⟩ | ⟨e, _⟩ <;> rw [e]
    · exact hm
    · exact List.mem_append.2 (.inl hm)
    · exact List.mem_append.2 (.inl hm)
  have hkA := h.keptA hfull
  have hψN : ∀ nm ∈ N, CutF φ ψ nm := fun nm hm => by
    have := hψ nm (hsN nm hm)
    unfold CutF at this ⊢
    rwa [hφ nm hm] at this
  by_cases hfr : (aft N (M.take j) = N ++ [seg (t + 1), pln (t + 1)] ∧ M.length = 2) ∧ (ψ (pln (t + 1))).data = planT (nxP (lsOf n p rs x) t)
  · obtain ⟨⟨e, h2⟩, e2⟩ := hfr
    have hMn : M ≠ [] := fun e => by rw [e] at h2; simp at h2
    refine ⟨L.length, Nat.le_refl _, Nat.le_refl _, ?_⟩
    rw [List.take_length]
    rw [e] at hψ ⊢
    refine LI.inv (h.fresh hx ht ht9.2 hl (fun nm hm => ?_) ⟨by simp, by simp⟩ ?_ e2 (fun nm hm _ => List.mem_append.2 (.inl (h.ours hm))) (fun nm hm _ => (hψN nm hm).all (hkA nm hm)) fun nm hm => (hψ nm hm).kept) (hψ (seg (t + 1)) (by simp)).kept
    · simpa [or_assoc] using hm
    · obtain ⟨l, _, _, l3⟩ := hψ (seg (t + 1)) (by simp)
      rw [l3, hs hMn]
      exact ext_nil l
  · refine h.stay (h.lo_full hfull) (fun nm hm => hsN nm (h.ours hm)) (fun nm hm hnN m em => ?_) (fun nm hm hn => hψN nm hn) fun nm hm => (hψ nm hm).kept
    subst em
    have h2 : pln m = pln (t + 1) := by
      rcases hN with e | ⟨e, _⟩ | ⟨e, _⟩ <;> rw [e] at hm
      · exact absurd hm hnN
      · rcases List.mem_append.1 hm with g | g
        · exact absurd g hnN
        · rw [List.mem_singleton] at g; exact absurd g.symm (seg_pln _ _)
      · rcases List.mem_append.1 hm with g | g
        · exact absurd g hnN
        · simp only [List.mem_cons, List.not_mem_nil, or_false] at g
          rcases g with g | g
          · exact absurd g.symm (seg_pln _ _)
          · exact g
    rw [h2] at hm ⊢
    have hcase : aft N (M.take j) = N ++ [seg (t + 1), pln (t + 1)] ∧ M.length = 2 := by
      rcases hN with e | ⟨e, _⟩ | e
      · rw [e] at hm; exact absurd hm hnp
      · rw [e] at hm
        rcases List.mem_append.1 hm with g | g
        · exact absurd g hnp
        · rw [List.mem_singleton] at g; exact absurd g.symm (seg_pln _ _)
      · exact e
    obtain ⟨l, l1, l2, l3⟩ := hψ _ hm
    have hnot : (ψ (pln (t + 1))).data ≠ planT (nxP (lsOf n p rs x) t) := fun e => hfr ⟨hcase, e⟩
    rw [l3] at hnot ⊢
    rcases hpm hcase.2 with g | g
    · simp only [g, ext_nil]
      exact rd_nil
    · simp only [g] at hnot l2 ⊢
      refine rd_part hpk (Nat.lt_of_le_of_ne l2 fun e => hnot ?_)
      rw [e]; exact ext_all _
end
end Go.V
set_option linter.unusedSimpArgs false
namespace Go.V
open Go.Proofs
/-- What is there behind a segment more. -/
def EndC (N : List ByteArray) (L : List ByteArray) (t : Int) (s : Ls) (rs : List LR) (d' : Dk) : Prop := ∃ φ', Is d' (wo (pln s.num) (N ++ [seg (t + 1), pln (t + 1)])) [] φ' ∧ LI (wo (pln s.num) (N ++ [seg (t + 1), pln (t + 1)])) φ' (t + 1) (nxP s t) rs ⟨#[]⟩ L ∧ ∀ nm ∈ wo (pln s.num) (N ++ [seg (t + 1), pln (t + 1)]), (φ' nm).kept = (φ' nm).data.size
theorem wo_mem {nm x : ByteArray} {ns : List ByteArray} : x ∈ wo nm ns ↔ x ∈ ns ∧ x ≠ nm := by simp [wo]
section
variable {N : List ByteArray} {φ : ByteArray → DF} {n : Int} {p : Pl} {rs : List LR} {x : ByteArray} {L : List ByteArray} (h : LI N φ n p rs x L) (hfull : (φ (seg p.opn)).kept = (φ (seg p.opn)).data.size) {t T : Int}
include h hfull
theorem safe_close (hx : x.size ≤ 20000) (ht : ∀ nm ∈ N, vN nm ≤ t) (ht9 : 0 ≤ t ∧ t < 999999) (hN : N.length ≤ 62) (hl : p.parts.length < 40) (hT : t + 1 ≤ T) (hL : (L.length : Int) ≤ T) {d : Dk} (hd : Is d N [] φ) :
    Safe (Gd L L.length T) d (clL t (lsOf n p rs x)) (EndC N L t (lsOf n p rs x) (rs ++ (frames x).1)) := by
  have htv : ∀ nm, vw N φ nm ≠ none → vN nm ≤ t := fun nm hn => by
    cases hv : vw N φ nm with
    | none => exact absurd hv hn
    | some y => exact ht nm (vw_mem hv).1
  have hpk := nxP_ok (h.here.gs hx).1 (h.here.ge htv).1 ht9 hl
  have hps := planT_fit hpk
  have hv1 : vN (seg (t + 1)) = t + 1 := vN_seg ⟨by omega, by omega⟩
  have hv2 : vN (pln (t + 1)) = t + 1 := vN_pln ⟨by omega, by omega⟩
  have hns : seg (t + 1) ∉ N := fun hm => by have := ht _ hm; omega
  have hnp : pln (t + 1) ∉ N := fun hm => by have := ht _ hm; omega
  have hsp : seg (t + 1) ≠ pln (t + 1) := seg_pln _ _
  have hnt : n ≤ t := (h.here.ge htv).2
  have hn := h.here.hn
  have hne : pln n ≠ pln (t + 1) := fun e => by have := pln_inj hn ⟨by omega, by omega⟩ e; omega
  have cc := @close_cut N φ n p rs x L h hfull t T hx ht ht9 hl hpk hT hL
  have ne1 : ∀ nm ∈ N, nm ≠ seg (t + 1) := fun nm hm e => hns (e ▸ hm)
  have ne2 : ∀ nm ∈ N, nm ≠ pln (t + 1) := fun nm hm e => hnp (e ▸ hm)
  have hkA := h.keptA hfull
  -- what is so behind the directory's sync
  have late : ∀ {N' : List ByteArray} {ψ : ByteArray → DF}, (∀ nm ∈ N', nm ∈ N ++ [seg (t + 1), pln (t + 1)]) → (∀ nm ∈ N ++ [seg (t + 1), pln (t + 1)], nm ≠ pln n → nm ∈ N') → (∀ nm ∈ N, nm ∈ N' → (ψ nm).data = (φ nm).data) → (ψ (seg (t + 1))).data = ⟨#[]⟩ → (ψ (pln (t + 1))).data = planT (nxP (lsOf n p rs x) t) → (∀ nm ∈ N', (ψ nm).kept = (ψ nm).data.size) → LI N' ψ (t + 1) (nxP (lsOf n p rs x) t) (rs ++ (frames x).1) ⟨#[]⟩ L := by
    intro N' ψ a1 a2 a3 a4 a5 a6
    refine h.fresh hx ht ht9.2 hl (fun nm hm => ?_) ⟨a2 _ (by simp) (seg_pln _ _), a2 _ (by simp) hne.symm⟩ a4 a5 (fun nm hm hnn => a2 _ (List.mem_append.2 (.inl (h.ours hm))) hnn) a3 a6
    have := a1 nm hm
    simpa [or_assoc] using this
  refine Safe.make hd (cc hd (.inl rfl) (fun _ _ => rfl) (fun h => absurd rfl h) fun h => by simp at h) (segN_ok ⟨by omega, by omega⟩) (by simpa [mades] using hns) (by simp [mades]; omega) (by simp) fun d1 hd1 => ?_
  have q1 : ∀ nm ∈ N, upF φ (seg (t + 1)) ⟨seg (t + 1), ⟨#[]⟩, 0⟩ nm = φ nm := fun nm hm => upF_ne (ne1 nm hm)
  have r1 : (upF φ (seg (t + 1)) ⟨seg (t + 1), ⟨#[]⟩, 0⟩ (seg (t + 1))) = ⟨seg (t + 1), ⟨#[]⟩, 0⟩ := upF_at _ _ _
  generalize upF φ (seg (t + 1)) ⟨seg (t + 1), ⟨#[]⟩, 0⟩ = φ1 at *
  refine Safe.make hd1 (cc hd1 (.inr (.inl rfl)) q1 (fun _ => by rw [r1]) fun h => by simp at h) (plnN_ok ⟨by omega, by omega⟩) (by simp [mades, hnp, hsp.symm]) (by simp [mades]; omega) (by simp) fun d2 hd2 => ?_
  have q2 : ∀ nm ∈ N, upF φ1 (pln (t + 1)) ⟨pln (t + 1), ⟨#[]⟩, 0⟩ nm = φ nm := fun nm hm => by rw [upF_ne (ne2 nm hm), q1 nm hm]
  have r2 : upF φ1 (pln (t + 1)) ⟨pln (t + 1), ⟨#[]⟩, 0⟩ (seg (t + 1)) = ⟨seg (t + 1), ⟨#[]⟩, 0⟩ := by rw [upF_ne hsp, r1]
  have s2 : upF φ1 (pln (t + 1)) ⟨pln (t + 1), ⟨#[]⟩, 0⟩ (pln (t + 1)) = ⟨pln (t + 1), ⟨#[]⟩, 0⟩ := upF_at _ _ _
  generalize upF φ1 (pln (t + 1)) ⟨pln (t + 1), ⟨#[]⟩, 0⟩ = φ2 at *
  have in2 : pln (t + 1) ∈ aft N ([] ++ [⟨false, seg (t + 1)⟩] ++ [⟨false, pln (t + 1)⟩]) := by rw [aft2]; simp
  refine Safe.add hd2 (cc hd2 (.inr (.inr rfl)) q2 (fun _ => by rw [r2]) fun _ => .inl (by rw [s2])) in2 (by rw [s2]; show 0 + _ ≤ _; omega) fun d3 hd3 => ?_
  rw [s2] at hd3
  simp only [e0_app] at hd3
  have q3 : ∀ nm ∈ N, upF φ2 (pln (t + 1)) ⟨pln (t + 1), planT (nxP (lsOf n p rs x) t), 0⟩ nm = φ nm := fun nm hm => by rw [upF_ne (ne2 nm hm), q2 nm hm]
  have r3 : upF φ2 (pln (t + 1)) ⟨pln (t + 1), planT (nxP (lsOf n p rs x) t), 0⟩ (seg (t + 1)) = ⟨seg (t + 1), ⟨#[]⟩, 0⟩ := by rw [upF_ne hsp, r2]
  have s3 : upF φ2 (pln (t + 1)) ⟨pln (t + 1), planT (nxP (lsOf n p rs x) t), 0⟩ (pln (t + 1)) = ⟨pln (t + 1), planT (nxP (lsOf n p rs x) t), 0⟩ := upF_at _ _ _
  generalize upF φ2 (pln (t + 1)) ⟨pln (t + 1), planT (nxP (lsOf n p rs x) t), 0⟩ = φ3 at *
  refine Safe.sync hd3 (cc hd3 (.inr (.inr rfl)) q3 (fun _ => by rw [r3]) fun _ => .inr (by rw [s3])) in2 fun d4 hd4 => ?_
  rw [s3] at hd4
  have q4 : ∀ nm ∈ N, upF φ3 (pln (t + 1)) ⟨pln (t + 1), planT (nxP (lsOf n p rs x) t), (planT (nxP (lsOf n p rs x) t)).size⟩ nm = φ nm := fun nm hm => by rw [upF_ne (ne2 nm hm), q3 nm hm]
  have r4 : upF φ3 (pln (t + 1)) ⟨pln (t + 1), planT (nxP (lsOf n p rs x) t), (planT (nxP (lsOf n p rs x) t)).size⟩ (seg (t + 1)) = ⟨seg (t + 1), ⟨#[]⟩, 0⟩ := by rw [upF_ne hsp, r3]
  have s4 : upF φ3 (pln (t + 1)) ⟨pln (t + 1), planT (nxP (lsOf n p rs x) t), (planT (nxP (lsOf n p rs x) t)).size⟩ (pln (t + 1)) = ⟨pln (t + 1), planT (nxP (lsOf n p rs x) t), (planT (nxP (lsOf n p rs x) t)).size⟩ := upF_at _ _ _
  simp only at hd4
  generalize upF φ3 (pln (t + 1)) ⟨pln (t + 1), planT (nxP (lsOf n p rs x) t), (planT (nxP (lsOf n p rs x) t)).size⟩ = φ4 at *
  refine Safe.dirs hd4 (cc hd4 (.inr (.inr rfl)) q4 (fun _ => by rw [r4]) fun _ => .inr (by rw [s4])) fun d5 hd5 => ?_
  rw [aft2] at hd5
  have k4 : ∀ nm ∈ N ++ [seg (t + 1), pln (t + 1)], (φ4 nm).kept = (φ4 nm).data.size := fun nm hm => by
    simp only [List.mem_append, List.mem_cons, List.not_mem_nil, or_false] at hm
    rcases hm with hm | hm | hm
    · rw [q4 nm hm]; exact hkA nm hm
    · rw [hm, r4]; rfl
    · rw [hm, s4]
  have hvT : ∀ nm ∈ N ++ [seg (t + 1), pln (t + 1)], vN nm ≤ T := fun nm hm => by
    simp only [List.mem_append, List.mem_cons, List.not_mem_nil, or_false] at hm
    rcases hm with hm | hm | hm
    · have := ht nm hm; omega
    · rw [hm]; omega
    · rw [hm]; omega
  have g5 : ∀ {d' : Dk} {M : List DM}, Is d' (N ++ [seg (t + 1), pln (t + 1)]) M φ4 → M = [] ∨ M = [] ++ [⟨true, pln n⟩] → Gd L L.length T d' := by
    intro d' M hd' hM
    have hmd : mades M = [] := by rcases hM with e | e <;> subst e <;> rfl
    refine Gd.of hd' (by rw [hmd, List.append_nil]; exact hvT) hL fun j ψ hj hsub hψ => ⟨L.length, Nat.le_refl _, Nat.le_refl _, ?_⟩
    rw [List.take_length]
    rw [hmd, List.append_nil] at hsub
    have hin : ∀ nm ∈ N ++ [seg (t + 1), pln (t + 1)], nm ≠ pln n → nm ∈ aft (N ++ [seg (t + 1), pln (t + 1)]) (M.take j) := fun nm hm hnn => by
      rcases hM with e | e <;> subst e
      · rw [List.take_nil]; exact hm
      · rcases Nat.lt_or_ge j 1 with g | g
        · have : j = 0 := by omega
          subst this; exact hm
        · have : j = 1 := by simp at hj; omega
          subst this
          show nm ∈ wo (pln n) _
          exact wo_mem.2 ⟨hm, hnn⟩
    refine LI.inv (late hsub hin (fun nm hm hm' => ?_) ?_ ?_ fun nm hm => (hψ nm hm).kept) (hψ (seg (t + 1)) (hin _ (by simp) (seg_pln _ _))).kept
    · rw [(hψ nm hm').all (k4 nm (hsub nm hm')), q4 nm hm]
    · have hm' := hin (seg (t + 1)) (by simp) (seg_pln _ _)
      rw [(hψ _ hm').all (k4 _ (hsub _ hm')), r4]
    · have hm' := hin (pln (t + 1)) (by simp) hne.symm
      rw [(hψ _ hm').all (k4 _ (hsub _ hm')), s4]
  refine Safe.gone hd5 (g5 hd5 (.inl rfl)) (List.mem_append.2 (.inl h.plan)) (by simp) fun d6 hd6 => ?_
  refine Safe.dirs hd6 (g5 hd6 (.inr rfl)) fun d7 hd7 => ?_
  have hd7 : Is d7 (wo (pln n) (N ++ [seg (t + 1), pln (t + 1)])) [] φ4 := hd7
  have kw : ∀ nm ∈ wo (pln n) (N ++ [seg (t + 1), pln (t + 1)]), (φ4 nm).kept = (φ4 nm).data.size := fun nm hm => k4 nm (wo_mem.1 hm).1
  have hI := late (N' := wo (pln n) (N ++ [seg (t + 1), pln (t + 1)])) (ψ := φ4) (fun nm hm => (wo_mem.1 hm).1) (fun nm hm hnn => wo_mem.2 ⟨hm, hnn⟩) (fun nm hm _ => by rw [q4 nm hm]) (by rw [r4]) (by rw [s4]) kw
  refine ⟨Gd.of hd7 (fun nm hm => hvT nm (by simp only [mades, List.filter_nil, List.map_nil, List.append_nil] at hm; exact (wo_mem.1 hm).1)) hL fun j ψ hj hsub hψ => ⟨L.length, Nat.le_refl _, Nat.le_refl _, ?_⟩, φ4, hd7, hI, kw⟩
  have hj0 : j = 0 := by simpa using hj
  subst hj0
  rw [List.take_length]
  have hin : ∀ nm ∈ N ++ [seg (t + 1), pln (t + 1)], nm ≠ pln n → nm ∈ wo (pln n) (N ++ [seg (t + 1), pln (t + 1)]) := fun nm hm hnn => wo_mem.2 ⟨hm, hnn⟩
  refine LI.inv (late (fun nm hm => (wo_mem.1 hm).1) hin (fun nm hm hm' => ?_) ?_ ?_ fun nm hm => (hψ nm hm).kept) (hψ (seg (t + 1)) (hin _ (by simp) (seg_pln _ _))).kept
  · rw [(hψ nm hm').all (kw nm hm'), q4 nm hm]
  · have hm' := hin (seg (t + 1)) (by simp) (seg_pln _ _)
    rw [(hψ _ hm').all (kw _ hm'), r4]
  · have hm' := hin (pln (t + 1)) (by simp) hne.symm
    rw [(hψ _ hm').all (kw _ hm'), s4]
end
abbrev gn (nm : ByteArray) : DM := ⟨true, nm⟩
theorem mades_gn (l : List ByteArray) : mades (l.map gn) = [] := by simp [mades]
theorem aft_gn : ∀ (l ns : List ByteArray), ∀ x, x ∈ aft ns (l.map gn) ↔ x ∈ ns ∧ x ∉ l
  | [], ns, x => by simp [aft]
  | a :: l, ns, x => by
    rw [List.map_cons, aft]
    simp only [if_true]
    rw [aft_gn l, wo_mem, List.mem_cons]
    constructor
    · rintro ⟨⟨h1, h2⟩, h3⟩; exact ⟨h1, fun h => h.elim h2 h3⟩
    · rintro ⟨h1, h2⟩; exact ⟨⟨h1, fun e => h2 (.inl e)⟩, fun h => h2 (.inr h)⟩
theorem aft_gn_len (l ns : List ByteArray) : (aft ns (l.map gn)).length ≤ ns.length := by
  induction l generalizing ns with
  | nil => exact Nat.le_refl _
  | cons a l ih =>
    rw [List.map_cons, aft]
    exact Nat.le_trans (ih _) (wo_len a ns)
/-- Names are struck. -/
theorem safe_gone {G E : Dk → Prop} {N gs : List ByteArray} {φ : ByteArray → DF} {ws : List DW} (hnd : gs.Nodup) (hsub : ∀ x ∈ gs, x ∈ N) (hl : gs.length ≤ 100) (hG : ∀ d' (l : List ByteArray), (∀ x ∈ l, x ∈ gs) → Is d' N (l.map gn) φ → G d') (hk : ∀ d', Is d' N (gs.map gn) φ → Safe G d' ws E) :
    ∀ (r l : List ByteArray) (d : Dk), gs = l ++ r → Is d N (l.map gn) φ → Safe G d (goneL r ++ ws) E
  | [], l, d, e, hd => by
    rw [List.append_nil] at e
    subst e
    exact hk d hd
  | a :: r, l, d, e, hd => by
    have e2 : gs = (l ++ [a]) ++ r := by rw [e]; simp
    have hal : a ∉ l := fun hm => by
      rw [e] at hnd
      exact (List.nodup_append.1 hnd).2.2 a hm a (by simp) rfl
    have hlen : l.length < 100 := by rw [e, List.length_append, List.length_cons] at hl; omega
    refine Safe.gone hd (hG d l (fun x hx => by rw [e]; exact List.mem_append.2 (.inl hx)) hd) ((aft_gn l N a).2 ⟨hsub a (by rw [e]; simp), hal⟩) (by rw [List.length_map]; omega) fun d' hd' => ?_
    exact safe_gone hnd hsub hl hG hk r (l ++ [a]) d' e2 (by simpa using hd')
end Go.V
set_option linter.unusedSimpArgs false
namespace Go.V
open Go.Proofs
/-! An act on a log that is played. -/
/-- A log that is whole. -/
def InvW (d : Dk) (L : List ByteArray) (lo : Nat) (T : Int) : Prop := ∃ N φ n p rs x, Is d N [] φ ∧ (∀ nm ∈ N, vN nm ≤ T) ∧ (L.length : Int) ≤ T ∧ LI N φ n p rs x L ∧ lo ≤ rs.length + (frames (x.extract 0 (φ (seg p.opn)).kept.toNat)).1.length ∧ (frames x).2 = x.size
/-- .. and all that is there is its. -/
def Neat (d : Dk) (L : List ByteArray) (T : Int) : Prop := ∃ N φ n p rs x, Is d N [] φ ∧ (∀ nm ∈ N, vN nm ≤ T) ∧ (L.length : Int) ≤ T ∧ LI N φ n p rs x L ∧ (∀ nm ∈ N, (φ nm).kept = (φ nm).data.size) ∧ (frames x).2 = x.size ∧ ∀ nm ∈ N, nm ∈ ours (lsOf n p rs x)
theorem InvW.inv {d : Dk} {L : List ByteArray} {lo : Nat} {T : Int} (h : InvW d L lo T) : Inv d L lo T := by
  obtain ⟨N, φ, n, p, rs, x, h1, h2, h3, h4, h5, h6⟩ := h
  exact ⟨N, φ, h1, h2, h3, .inr ⟨n, p, rs, x, h4, h5⟩⟩
theorem Neat.whole {d : Dk} {L : List ByteArray} {T : Int} (h : Neat d L T) : InvW d L L.length T := by
  obtain ⟨N, φ, n, p, rs, x, h1, h2, h3, h4, h5, h6, h7⟩ := h
  exact ⟨N, φ, n, p, rs, x, h1, h2, h3, h4, h4.lo_full (h5 _ h4.data.1), h6⟩
theorem Gd.more {L : List ByteArray} {lo : Nat} {T T' : Int} {d : Dk} {s : ByteArray} (h : Gd L lo T d) (hT : T ≤ T') : Gd (L ++ [s]) lo T' d := fun m keep => by
  obtain ⟨k, h1, h2, N, φ, g1, g2, g3, g4⟩ := h m keep
  refine ⟨k, h1, by rw [List.length_append]; omega, N, φ, g1, fun nm hm => by have := g2 nm hm; omega, ?_, ?_⟩
  · rw [List.take_append_of_le_length h2]; omega
  · rw [List.take_append_of_le_length h2]; exact g4
theorem Gd.up {L : List ByteArray} {lo : Nat} {T T' : Int} {d : Dk} (h : Gd L lo T d) (hT : T ≤ T') : Gd L lo T' d := fun m keep => by
  obtain ⟨k, h1, h2, N, φ, g1, g2, g3, g4⟩ := h m keep
  exact ⟨k, h1, h2, N, φ, g1, fun nm hm => by have := g2 nm hm; omega, by omega, g4⟩
theorem gd_log {d : Dk} {N : List ByteArray} {φ : ByteArray → DF} {n : Int} {p : Pl} {rs : List LR} {x : ByteArray} {L : List ByteArray} {lo : Nat} {T : Int} (hd : Is d N [] φ) (h : LI N φ n p rs x L) (hlo : lo ≤ rs.length + (frames (x.extract 0 (φ (seg p.opn)).kept.toNat)).1.length) (hT : ∀ nm ∈ N, vN nm ≤ T) (hL : (L.length : Int) ≤ T) : Gd L lo T d := by
  refine Gd.of hd (by simpa [mades] using hT) hL fun j ψ hj hsub hψ => ?_
  rw [List.take_nil] at hψ ⊢
  have e : aft N [] = N := rfl
  rw [e] at hψ ⊢
  exact h.stay hlo (fun nm hm => h.ours hm) (fun nm hm hn => absurd hm hn) (fun nm hm _ => hψ nm hm) fun nm hm => (hψ nm hm).kept
theorem LI.sync {N : List ByteArray} {φ : ByteArray → DF} {n : Int} {p : Pl} {rs : List LR} {x : ByteArray} {L : List ByteArray} (h : LI N φ n p rs x L) : LI N (upF φ (seg p.opn) ⟨seg p.opn, (φ (seg p.opn)).data, (φ (seg p.opn)).data.size⟩) n p rs x L := by
  have e : vw N (upF φ (seg p.opn) ⟨seg p.opn, (φ (seg p.opn)).data, (φ (seg p.opn)).data.size⟩) = vw N φ := funext fun nm => by
    unfold vw upF
    by_cases g : nm = seg p.opn
    · rw [if_pos g, g]
    · rw [if_neg g]
  refine ⟨by rw [e]; exact h.here, h.recs, h.first, fun nm hm hn => ?_⟩
  rw [upF_ne hn]
  exact h.kept nm hm hn
theorem LI.add {N : List ByteArray} {φ : ByteArray → DF} {n : Int} {p : Pl} {rs : List LR} {x : ByteArray} {L : List ByteArray} (h : LI N φ n p rs x L) (hx : (frames x).2 = x.size) {s : ByteArray} (hr : recOk ⟨p.first + (frames x).1.length, s⟩ = true) :
    LI N (upF φ (seg p.opn) ⟨seg p.opn, (φ (seg p.opn)).data ++ frB ⟨p.first + (frames x).1.length, s⟩, (φ (seg p.opn)).kept⟩) n p rs (x ++ frB ⟨p.first + (frames x).1.length, s⟩) (L ++ [s]) ∧ frames (x ++ frB ⟨p.first + (frames x).1.length, s⟩) = ((frames x).1 ++ [⟨p.first + (frames x).1.length, s⟩], (x ++ frB ⟨p.first + (frames x).1.length, s⟩).size) := by
  obtain ⟨ha, hf⟩ := h.here.append hx hr rfl
  have hfa := frames_app hx hr
  have hsz : (x ++ frB ⟨p.first + (frames x).1.length, s⟩).size = x.size + (s.size + 5) := by rw [ByteArray.size_append, frB_size]
  generalize hR : (⟨p.first + (frames x).1.length, s⟩ : LR) = R at *
  have e : vw N (upF φ (seg p.opn) ⟨seg p.opn, (φ (seg p.opn)).data ++ frB R, (φ (seg p.opn)).kept⟩) = eff ⟨2, seg p.opn, frB R⟩ (vw N φ) := funext fun nm => by
    have e2 : eff ⟨2, seg p.opn, frB R⟩ (vw N φ) nm = if nm = seg p.opn then (vw N φ nm).map (· ++ frB R) else vw N φ nm := rfl
    rw [e2]
    unfold vw upF
    by_cases g : nm = seg p.opn
    · rw [if_pos g, if_pos g, g]
      split <;> rfl
    · rw [if_neg g, if_neg g]
  refine ⟨⟨by rw [e]; exact ha, ?_, h.first, fun nm hm hn => ?_⟩, ?_⟩
  · rw [hf, ← List.append_assoc, h.recs, recsL_snoc, ← hR]
    congr 2
    rw [LR.mk.injEq]
    refine ⟨?_, rfl⟩
    rw [h.first, h.len]; omega
  · rw [upF_ne hn]; exact h.kept nm hm hn
  · rw [hfa, hsz, ← hR]
theorem topN_bd {ns : List ByteArray} {T : Int} (h : ∀ nm ∈ ns, vN nm ≤ T) (h0 : 0 ≤ T) : topN ns ≤ T := by
  rcases (fold_max ns 0).2.2 with h3 | ⟨nm, h4, h5⟩
  · have : topN ns = 0 := h3
    omega
  · have : topN ns = vN nm := h5
    have := h nm h4
    omega
theorem Is.nms {d : Dk} {N : List ByteArray} {φ : ByteArray → DF} (h : Is d N [] φ) : nmsOf d = N ∧ Go.V.th d = N ∧ d.files.length = N.length := by
  have e : d.files.map DF.name = Go.V.made d := h.ok.two.l
  refine ⟨?_, h.th, ?_⟩
  · rw [nmsOf, e, h.made]; simp [mades]
  · rw [h.len]; simp [mades]
theorem mades_app (a b : List DM) : mades (a ++ b) = mades a ++ mades b := by simp [mades]
theorem aft_app (a b : List DM) : ∀ ns, aft ns (a ++ b) = aft (aft ns a) b := by
  induction a with
  | nil => intro ns; rfl
  | cons m a ih => intro ns; rw [List.cons_append, aft, aft, ih]
/-- A log is begun. -/
theorem safe_birth {d : Dk} {N : List ByteArray} {φ : ByteArray → DF} (hd : Is d N [] φ) (hno : NoLog (vw N φ)) (hkA : ∀ nm ∈ N, (φ nm).kept = (φ nm).data.size) (h2 : N.length ≤ 2) {t T : Int} (ht : ∀ nm ∈ N, vN nm ≤ t) (ht9 : 0 ≤ t ∧ t < 999999) (hT : t + 1 ≤ T) :
    Safe (Gd [] 0 T) d (goneL N ++ (⟨1, seg (t + 1), e0⟩ :: plL (t + 1) (planT ⟨[], t + 1, 1⟩))) (fun d' => Neat d' [] T) := by
  have hpk : planOk ⟨[], t + 1, 1⟩ = true := by
    rw [planOk_iff]
    exact ⟨by simp, ⟨by simp only; omega, by simp only; omega⟩, rfl⟩
  have hps := planT_fit hpk
  have hv1 : vN (seg (t + 1)) = t + 1 := vN_seg ⟨by omega, by omega⟩
  have hv2 : vN (pln (t + 1)) = t + 1 := vN_pln ⟨by omega, by omega⟩
  have hns : seg (t + 1) ∉ N := fun hm => by have := ht _ hm; omega
  have hnp : pln (t + 1) ∉ N := fun hm => by have := ht _ hm; omega
  have hsp : seg (t + 1) ≠ pln (t + 1) := seg_pln _ _
  have ne1 : ∀ nm ∈ N, nm ≠ seg (t + 1) := fun nm hm e => hns (e ▸ hm)
  have ne2 : ∀ nm ∈ N, nm ≠ pln (t + 1) := fun nm hm e => hnp (e ▸ hm)
  have hall : aft N (N.map gn) = [] := List.eq_nil_iff_forall_not_mem.2 fun x hx => by
    have := (aft_gn N N x).1 hx
    exact this.2 this.1
  have hN0 : N.Nodup := by have := hd.nodup; simpa [mades] using this
  -- what a loss of power leaves
  have cc : ∀ {d' : Dk} {M2 : List DM} {l : List ByteArray} {φ' : ByteArray → DF}, Is d' N (l.map gn ++ M2) φ' → (∀ x ∈ l, x ∈ N) → (M2 = [] ∨ (l = N ∧ (M2 = [⟨false, seg (t + 1)⟩] ∨ M2 = [⟨false, seg (t + 1)⟩, ⟨false, pln (t + 1)⟩]))) → (∀ nm ∈ N, φ' nm = φ nm) → (M2 ≠ [] → (φ' (seg (t + 1))).data = ⟨#[]⟩) → (M2.length = 2 → (φ' (pln (t + 1))).data = ⟨#[]⟩ ∨ (φ' (pln (t + 1))).data = planT ⟨[], t + 1, 1⟩) → Gd [] 0 T d' := by
    intro d' M2 l φ' hd' hl hM hφ hs hpm
    have hmd : ∀ nm ∈ mades (l.map gn ++ M2), nm = seg (t + 1) ∨ nm = pln (t + 1) := fun nm hm => by
      rw [mades_app, mades_gn, List.nil_append] at hm
      rcases hM with e | ⟨_, e | e⟩ <;> subst e <;> simp [mades] at hm
      · exact .inl hm
      · exact hm
    refine Gd.of hd' (fun nm hm => ?_) (by simp only [List.length_nil]; omega) fun j ψ hj hsub hψ => ⟨0, Nat.le_refl _, Nat.le_refl _, ?_⟩
    · rcases List.mem_append.1 hm with hm | hm
      · have := ht nm hm; omega
      · rcases hmd nm hm with e | e <;> rw [e] <;> omega
    have hcase : (∀ x ∈ aft N ((l.map gn ++ M2).take j), x ∈ N) ∧ (aft N ((l.map gn ++ M2).take j)).length ≤ 2 ∨ aft N ((l.map gn ++ M2).take j) = [seg (t + 1)] ∨ (aft N ((l.map gn ++ M2).take j) = [seg (t + 1), pln (t + 1)] ∧ M2.length = 2) := by
      by_cases hjl : j ≤ l.length
      · left
        have e : (l.map gn ++ M2).take j = (l.take j).map gn := by rw [List.take_append_of_le_length (by rw [List.length_map]; exact hjl), List.map_take]
        rw [e]
        exact ⟨fun x hx => ((aft_gn _ _ x).1 hx).1, Nat.le_trans (aft_gn_len _ _) h2⟩
      · right
        have hj2 : j - l.length ≤ M2.length := by rw [List.length_append, List.length_map] at hj; omega
        have e : (l.map gn ++ M2).take j = l.map gn ++ M2.take (j - l.length) := by
          rw [List.take_append, List.length_map, List.take_of_length_le (by rw [List.length_map]; omega)]
        rw [e, aft_app]
        have hp : 0 < j - l.length := by omega
        generalize j - l.length = i at hj2 hp
        rcases hM with e | ⟨el, e | e⟩
        · subst e; simp at hj2; omega
        · subst e
          rw [el, hall]
          have : i = 1 := by simp at hj2; omega
          subst this
          exact .inl rfl
        · subst e
          rw [el, hall]
          rcases Nat.lt_or_ge i 2 with g | g
          · have : i = 1 := by omega
            subst this; exact .inl rfl
          · have : i = 2 := by simp at hj2; omega
            subst this; exact .inr ⟨rfl, rfl⟩
    rw [List.take_nil]
    have hkep : ∀ nm ∈ aft N ((l.map gn ++ M2).take j), (ψ nm).kept = (ψ nm).data.size := fun nm hm => (hψ nm hm).kept
    have hseg : seg (t + 1) ∈ aft N ((l.map gn ++ M2).take j) → M2 ≠ [] → (ψ (seg (t + 1))).data = ⟨#[]⟩ := fun hm hne => by
      obtain ⟨k, _, _, k3⟩ := hψ _ hm
      rw [k3]
      simp only [hs hne, ext_nil]
    have nolog : (pln (t + 1) ∈ aft N ((l.map gn ++ M2).take j) → (rd (ψ (pln (t + 1))).data).2 = false) → NoLog (vw (aft N ((l.map gn ++ M2).take j)) ψ) := fun hp m m1 m2 y hy => by
      obtain ⟨y1, y2⟩ := vw_mem hy
      have h3 := hsub _ y1
      rcases List.mem_append.1 h3 with h3 | h3
      · refine hno m m1 m2 y ?_
        have := hψ _ y1
        unfold CutF at this
        rw [hφ _ h3] at this
        rw [vw_in h3, ← y2]
        exact congrArg some (CutF.all (φ := φ) (ψ := ψ) this (hkA _ h3)).symm
      · rcases hmd _ h3 with g | g
        · exact absurd g.symm (seg_pln _ _)
        · rw [g] at y1 y2
          rw [← y2]; exact hp y1
    rcases hcase with ⟨c1, c2⟩ | c1 | ⟨c1, c2⟩
    · exact .inl ⟨nolog fun hm => absurd (c1 _ hm) hnp, rfl, rfl, hkep, c2⟩
    · refine .inl ⟨nolog fun hm => ?_, rfl, rfl, hkep, by rw [c1]; simp⟩
      rw [c1, List.mem_singleton] at hm
      exact absurd hm.symm hsp
    · have hM2 : M2 ≠ [] := fun e => by rw [e] at c2; simp at c2
      have hin : pln (t + 1) ∈ aft N ((l.map gn ++ M2).take j) := by rw [c1]; simp
      have hin1 : seg (t + 1) ∈ aft N ((l.map gn ++ M2).take j) := by rw [c1]; simp
      by_cases hfull : (ψ (pln (t + 1))).data = planT ⟨[], t + 1, 1⟩
      · exact (born ht9 (fun nm hm => by rw [c1] at hm; simpa using hm) ⟨hin1, hin⟩ (hseg hin1 hM2) hfull hkep).inv (hkep _ hin1)
      · refine .inl ⟨nolog fun hm => ?_, rfl, rfl, hkep, by rw [c1]; simp⟩
        obtain ⟨k, k1, k2, k3⟩ := hψ _ hm
        rw [k3] at hfull ⊢
        rcases hpm c2 with g | g
        · simp only [g, ext_nil]
          exact rd_nil
        · simp only [g] at hfull k2 ⊢
          refine rd_part hpk (Nat.lt_of_le_of_ne k2 fun e => hfull ?_)
          rw [e]; exact ext_all _
  refine safe_gone hN0 (fun x hx => hx) (by omega) (fun d' l hl hd' => cc (M2 := []) (by rw [List.append_nil]; exact hd') hl (.inl rfl) (fun _ _ => rfl) (fun h => absurd rfl h) fun h => by simp at h) (fun d1 hd1 => ?_) N [] d rfl (by simpa using hd)
  refine Safe.make hd1 (cc (M2 := []) (by rw [List.append_nil]; exact hd1) (fun _ h => h) (.inl rfl) (fun _ _ => rfl) (fun h => absurd rfl h) fun h => by simp at h) (segN_ok ⟨by omega, by omega⟩) (by rw [mades_gn, List.append_nil]; exact hns) (by rw [mades_gn, List.append_nil]; omega) (by rw [List.length_map]; omega) fun d2 hd2 => ?_
  have q1 : ∀ nm ∈ N, upF φ (seg (t + 1)) ⟨seg (t + 1), ⟨#[]⟩, 0⟩ nm = φ nm := fun nm hm => upF_ne (ne1 nm hm)
  have r1 : (upF φ (seg (t + 1)) ⟨seg (t + 1), ⟨#[]⟩, 0⟩ (seg (t + 1))) = ⟨seg (t + 1), ⟨#[]⟩, 0⟩ := upF_at _ _ _
  generalize upF φ (seg (t + 1)) ⟨seg (t + 1), ⟨#[]⟩, 0⟩ = φ1 at *
  have m1 : mades (N.map gn ++ [⟨false, seg (t + 1)⟩]) = [seg (t + 1)] := by rw [mades_app, mades_gn]; rfl
  refine Safe.make hd2 (cc hd2 (fun _ h => h) (.inr ⟨rfl, .inl rfl⟩) q1 (fun _ => by rw [r1]) fun h => by simp at h) (plnN_ok ⟨by omega, by omega⟩) (by rw [m1]; simp [hnp, hsp.symm]) (by rw [m1, List.length_append]; simp; omega) (by simp; omega) fun d3 hd3 => ?_
  have eM : N.map gn ++ [⟨false, seg (t + 1)⟩] ++ [⟨false, pln (t + 1)⟩] = N.map gn ++ [⟨false, seg (t + 1)⟩, ⟨false, pln (t + 1)⟩] := by simp
  rw [eM] at hd3
  have q2 : ∀ nm ∈ N, upF φ1 (pln (t + 1)) ⟨pln (t + 1), ⟨#[]⟩, 0⟩ nm = φ nm := fun nm hm => by rw [upF_ne (ne2 nm hm), q1 nm hm]
  have r2 : upF φ1 (pln (t + 1)) ⟨pln (t + 1), ⟨#[]⟩, 0⟩ (seg (t + 1)) = ⟨seg (t + 1), ⟨#[]⟩, 0⟩ := by rw [upF_ne hsp, r1]
  have s2 : upF φ1 (pln (t + 1)) ⟨pln (t + 1), ⟨#[]⟩, 0⟩ (pln (t + 1)) = ⟨pln (t + 1), ⟨#[]⟩, 0⟩ := upF_at _ _ _
  generalize upF φ1 (pln (t + 1)) ⟨pln (t + 1), ⟨#[]⟩, 0⟩ = φ2 at *
  have eA : aft N (N.map gn ++ [⟨false, seg (t + 1)⟩, ⟨false, pln (t + 1)⟩]) = [seg (t + 1), pln (t + 1)] := by
    rw [aft_app, hall]; rfl
  have in2 : pln (t + 1) ∈ aft N (N.map gn ++ [⟨false, seg (t + 1)⟩, ⟨false, pln (t + 1)⟩]) := by rw [eA]; simp
  refine Safe.add hd3 (cc hd3 (fun _ h => h) (.inr ⟨rfl, .inr rfl⟩) q2 (fun _ => by rw [r2]) fun _ => .inl (by rw [s2])) in2 (by rw [s2]; show 0 + _ ≤ _; omega) fun d4 hd4 => ?_
  rw [s2] at hd4
  simp only [e0_app] at hd4
  have q3 : ∀ nm ∈ N, upF φ2 (pln (t + 1)) ⟨pln (t + 1), planT ⟨[], t + 1, 1⟩, 0⟩ nm = φ nm := fun nm hm => by rw [upF_ne (ne2 nm hm), q2 nm hm]
  have r3 : upF φ2 (pln (t + 1)) ⟨pln (t + 1), planT ⟨[], t + 1, 1⟩, 0⟩ (seg (t + 1)) = ⟨seg (t + 1), ⟨#[]⟩, 0⟩ := by rw [upF_ne hsp, r2]
  have s3 : upF φ2 (pln (t + 1)) ⟨pln (t + 1), planT ⟨[], t + 1, 1⟩, 0⟩ (pln (t + 1)) = ⟨pln (t + 1), planT ⟨[], t + 1, 1⟩, 0⟩ := upF_at _ _ _
  generalize upF φ2 (pln (t + 1)) ⟨pln (t + 1), planT ⟨[], t + 1, 1⟩, 0⟩ = φ3 at *
  refine Safe.sync hd4 (cc hd4 (fun _ h => h) (.inr ⟨rfl, .inr rfl⟩) q3 (fun _ => by rw [r3]) fun _ => .inr (by rw [s3])) in2 fun d5 hd5 => ?_
  rw [s3] at hd5
  have q4 : ∀ nm ∈ N, upF φ3 (pln (t + 1)) ⟨pln (t + 1), planT ⟨[], t + 1, 1⟩, (planT ⟨[], t + 1, 1⟩).size⟩ nm = φ nm := fun nm hm => by rw [upF_ne (ne2 nm hm), q3 nm hm]
  have r4 : upF φ3 (pln (t + 1)) ⟨pln (t + 1), planT ⟨[], t + 1, 1⟩, (planT ⟨[], t + 1, 1⟩).size⟩ (seg (t + 1)) = ⟨seg (t + 1), ⟨#[]⟩, 0⟩ := by rw [upF_ne hsp, r3]
  have s4 : upF φ3 (pln (t + 1)) ⟨pln (t + 1), planT ⟨[], t + 1, 1⟩, (planT ⟨[], t + 1, 1⟩).size⟩ (pln (t + 1)) = ⟨pln (t + 1), planT ⟨[], t + 1, 1⟩, (planT ⟨[], t + 1, 1⟩).size⟩ := upF_at _ _ _
  simp only at hd5
  generalize upF φ3 (pln (t + 1)) ⟨pln (t + 1), planT ⟨[], t + 1, 1⟩, (planT ⟨[], t + 1, 1⟩).size⟩ = φ4 at *
  refine Safe.dirs hd5 (cc hd5 (fun _ h => h) (.inr ⟨rfl, .inr rfl⟩) q4 (fun _ => by rw [r4]) fun _ => .inr (by rw [s4])) fun d6 hd6 => ?_
  rw [eA] at hd6
  have k4 : ∀ nm ∈ [seg (t + 1), pln (t + 1)], (φ4 nm).kept = (φ4 nm).data.size := fun nm hm => by
    simp only [List.mem_cons, List.not_mem_nil, or_false] at hm
    rcases hm with hm | hm
    · rw [hm, r4]; rfl
    · rw [hm, s4]
  have hvT : ∀ nm ∈ [seg (t + 1), pln (t + 1)], vN nm ≤ T := fun nm hm => by
    simp only [List.mem_cons, List.not_mem_nil, or_false] at hm
    rcases hm with hm | hm <;> rw [hm] <;> omega
  have hb := born ht9 (N' := [seg (t + 1), pln (t + 1)]) (ψ := φ4) (fun nm hm => by simpa using hm) ⟨by simp, by simp⟩ (by rw [r4]) (by rw [s4]) k4
  have hz : (([] : List ByteArray).length : Int) ≤ T := by simp only [List.length_nil]; omega
  refine ⟨gd_log hd6 hb (Nat.zero_le _) hvT hz, _, _, _, _, _, _, hd6, hvT, hz, hb, k4, rfl, fun nm hm => ?_⟩
  simp only [List.mem_cons, List.not_mem_nil, or_false] at hm
  rcases hm with hm | hm <;> rw [hm] <;> simp [ours, lsOf]
end Go.V
set_option linter.unusedSimpArgs false
namespace Go.V
open Go.Proofs
theorem LI.torn {N : List ByteArray} {φ : ByteArray → DF} {n : Int} {p : Pl} {rs : List LR} {x : ByteArray} {L : List ByteArray} (_h : LI N φ n p rs x L) : (lsOf n p rs x).torn = false ↔ (frames x).2 = x.size := by
  have := (frames_le x).1
  show decide (((frames x).2 : Int) < x.size) = false ↔ _
  rw [decide_eq_false_iff_not]
  omega
theorem Is.opn {d : Dk} {N : List ByteArray} {φ : ByteArray → DF} {n : Int} {p : Pl} {rs : List LR} {x : ByteArray} {L : List ByteArray} (hd : Is d N [] φ) (h : LI N φ n p rs x L) : opn d = lsOf n p rs x ∧ x.size ≤ 20000 := by
  have hl : LogAt (Go.V.lk d) n p rs x := by rw [hd.vw]; exact h.here
  refine ⟨opn_of hl, ?_⟩
  have := (hd.good (nm := seg p.opn) (hd.mem h.data.1)).1
  rwa [h.data.2] at this
theorem LI.upT {N : List ByteArray} {T : Int} (h : ∀ nm ∈ N, vN nm ≤ T) : ∀ nm ∈ N, vN nm ≤ T + 1 := fun nm hm => by have := h nm hm; omega
/-- Segments closed: what is there behind it. -/
theorem EndC.neat {N : List ByteArray} {L : List ByteArray} {t T : Int} {s : Ls} {rs : List LR} {d' : Dk} (h : EndC N L t s rs d') (ht : ∀ nm ∈ N, vN nm ≤ t) (ht9 : 0 ≤ t ∧ t < 999999) (hT : t + 1 ≤ T) (hL : (L.length : Int) ≤ T) : InvW d' L L.length T ∧ ((∀ nm ∈ N, nm ∈ ours s) → Neat d' L T) := by
  have hv1 : vN (seg (t + 1)) = t + 1 := vN_seg ⟨by omega, by omega⟩
  have hv2 : vN (pln (t + 1)) = t + 1 := vN_pln ⟨by omega, by omega⟩
  obtain ⟨φ', h1, h2, h3⟩ := h
  have hvT : ∀ nm ∈ wo (pln s.num) (N ++ [seg (t + 1), pln (t + 1)]), vN nm ≤ T := fun nm hm => by
    have hm := (wo_mem.1 hm).1
    simp only [List.mem_append, List.mem_cons, List.not_mem_nil, or_false] at hm
    rcases hm with hm | hm | hm
    · have := ht nm hm; omega
    · rw [hm]; omega
    · rw [hm]; omega
  refine ⟨⟨_, φ', _, _, _, _, h1, hvT, hL, h2, h2.lo_full (h3 _ h2.data.1), rfl⟩, fun ho => ⟨_, φ', _, _, _, _, h1, hvT, hL, h2, h3, rfl, fun nm hm => ?_⟩⟩
  obtain ⟨hm, hne⟩ := wo_mem.1 hm
  simp only [List.mem_append, List.mem_cons, List.not_mem_nil, or_false] at hm
  simp only [ours, lsOf, List.mem_cons, nxP, List.map_append, List.mem_append, List.map_cons, List.map_nil, List.not_mem_nil, or_false]
  rcases hm with hm | hm | hm
  · have := ho nm hm
    simp only [ours, List.mem_cons] at this
    rcases this with g | g | g
    · exact absurd g hne
    · exact .inr (.inr (.inr g))
    · exact .inr (.inr (.inl g))
  · exact .inr (.inl hm)
  · exact .inl hm
section
variable {d : Dk} {N : List ByteArray} {φ : ByteArray → DF} {n : Int} {p : Pl} {rs : List LR} {x : ByteArray} {L : List ByteArray} {lo : Nat} {T : Int} (hd : Is d N [] φ) (h : LI N φ n p rs x L) (hlo : lo ≤ rs.length + (frames (x.extract 0 (φ (seg p.opn)).kept.toNat)).1.length) (hT : ∀ nm ∈ N, vN nm ≤ T) (hL : (L.length : Int) ≤ T)
include hd h hlo hT hL
/-- What is not the log's is struck, and a torn segment closed. -/
theorem safe_mend {l : List DW} (hm : md d (lsOf n p rs x) = some l) : Safe (Gd L lo (T + 1)) d l (fun d' => Neat d' L (T + 1)) := by
  obtain ⟨hop, hx⟩ := hd.opn h
  have hth : th d = N := hd.nms.2.1
  have hLlen : lo ≤ L.length := by
    obtain ⟨k, k1, k2, _⟩ := gd_log hd h hlo hT hL 0 []
    omega
  have hN0 : N.Nodup := by have := hd.nodup; simpa [mades] using this
  have hNl : N.length ≤ 64 := by rw [← hd.nms.2.2]; exact hd.ok.f
  have h1 := h.sync
  have hk1 : (upF φ (seg p.opn) ⟨seg p.opn, (φ (seg p.opn)).data, (φ (seg p.opn)).data.size⟩ (seg p.opn)).kept = (upF φ (seg p.opn) ⟨seg p.opn, (φ (seg p.opn)).data, (φ (seg p.opn)).data.size⟩ (seg p.opn)).data.size := by rw [upF_at]
  have hgn : (notOurs (lsOf n p rs x) N).Nodup := List.Nodup.sublist List.filter_sublist hN0
  have hgs : ∀ y ∈ notOurs (lsOf n p rs x) N, y ∈ N := fun y hy => (List.mem_filter.1 hy).1
  have hgo : ∀ y ∈ notOurs (lsOf n p rs x) N, y ∉ ours (lsOf n p rs x) := fun y hy => by
    have := (List.mem_filter.1 hy).2
    exact has_false.1 (by simpa using this)
  have hgl := notOurs_len (lsOf n p rs x) N
  -- the first two parts
  have first : ∀ (ws : List DW), (∀ d', Is d' (aft N ((notOurs (lsOf n p rs x) N).map gn)) [] (upF φ (seg p.opn) ⟨seg p.opn, (φ (seg p.opn)).data, (φ (seg p.opn)).data.size⟩) → Safe (Gd L lo (T + 1)) d' ws (fun d' => Neat d' L (T + 1))) → Safe (Gd L lo (T + 1)) d (mdL (lsOf n p rs x) (th d) ++ [⟨5, e0, e0⟩] ++ ws) (fun d' => Neat d' L (T + 1)) := by
    intro ws hk
    rw [hth]
    have e : mdL (lsOf n p rs x) N ++ [⟨5, e0, e0⟩] ++ ws = ⟨3, seg p.opn, e0⟩ :: (goneL (notOurs (lsOf n p rs x) N) ++ (⟨5, e0, e0⟩ :: ws)) := by
      rw [mdL, List.cons_append, List.cons_append, List.append_assoc]; rfl
    rw [e]
    refine Safe.sync hd ((gd_log hd h hlo hT hL).up (by omega)) h.data.1 fun d1 hd1 => ?_
    generalize upF φ (seg p.opn) ⟨seg p.opn, (φ (seg p.opn)).data, (φ (seg p.opn)).data.size⟩ = φ1 at *
    have G : ∀ d' (l : List ByteArray), (∀ y ∈ l, y ∈ notOurs (lsOf n p rs x) N) → Is d' N (l.map gn) φ1 → Gd L lo (T + 1) d' := fun d' l hl hd' => by
      refine Gd.mono (lo' := L.length) ?_ hLlen
      refine Gd.of hd' (by rw [mades_gn, List.append_nil]; exact LI.upT hT) (by omega) fun j ψ hj hsub hψ => ?_
      rw [← List.map_take] at hψ hsub ⊢
      have hin := aft_gn (l.take j) N
      refine h1.stay (h1.lo_full hk1) (fun nm hm => (hin nm).2 ⟨h1.ours hm, fun hc => hgo nm (hl nm (List.mem_of_mem_take hc)) hm⟩) (fun nm hm hn => absurd ((hin nm).1 hm).1 hn) (fun nm hm _ => hψ nm hm) fun nm hm => (hψ nm hm).kept
    refine safe_gone hgn hgs (by omega) G (fun d2 hd2 => ?_) _ [] d1 rfl (by simpa using hd1)
    exact Safe.dirs hd2 (G d2 _ (fun _ h => h) hd2) hk
  have hin := aft_gn (notOurs (lsOf n p rs x) N) N
  have hours : ∀ nm ∈ aft N ((notOurs (lsOf n p rs x) N).map gn), nm ∈ ours (lsOf n p rs x) := fun nm hm => by
    obtain ⟨g1, g2⟩ := (hin nm).1 hm
    exact Classical.byContradiction fun hc => g2 (List.mem_filter.2 ⟨g1, by rw [has_false.2 hc]; rfl⟩)
  have hT2 : ∀ nm ∈ aft N ((notOurs (lsOf n p rs x) N).map gn), vN nm ≤ T := fun nm hm => hT nm ((hin nm).1 hm).1
  generalize hN2 : aft N ((notOurs (lsOf n p rs x) N).map gn) = N2 at *
  generalize hφ1 : upF φ (seg p.opn) ⟨seg p.opn, (φ (seg p.opn)).data, (φ (seg p.opn)).data.size⟩ = φ1 at *
  have h2 : LI N2 φ1 n p rs x L := by
    have hi : ∀ nm ∈ ours (lsOf n p rs x), nm ∈ N2 := fun nm hm => (hin nm).2 ⟨h.ours hm, fun hc => hgo nm hc hm⟩
    have hv : ∀ nm ∈ ours (lsOf n p rs x), vw N2 φ1 nm = vw N φ1 nm := fun nm hm => by rw [vw_in (hi nm hm), vw_in (h.ours hm)]
    refine ⟨h1.here.congr (hv _ (by simp [ours, lsOf])) (hv _ (by simp [ours, lsOf])) (fun q hq => hv _ (by simp only [ours, List.mem_cons, List.mem_map]; exact .inr (.inr ⟨q, hq, rfl⟩))) (fun m _ _ y hy => .inl ?_), h1.recs, h1.first, fun nm hm hn => h1.kept nm ((hin nm).1 hm).1 hn⟩
    obtain ⟨y1, y2⟩ := vw_mem hy
    rw [vw_in ((hin _).1 y1).1, y2]
  have hk2 := h2.keptA hk1
  unfold md at hm
  by_cases ht : (lsOf n p rs x).torn = true
  · rw [if_pos ht] at hm
    cases hc : cl (ours (lsOf n p rs x)).length (topN (ours (lsOf n p rs x))) (lsOf n p rs x) with
    | none => rw [hc] at hm; cases hm
    | some cs =>
      rw [hc] at hm
      cases hm
      unfold cl at hc
      split at hc
      · rename_i hcond
        cases hc
        have htop : topN (ours (lsOf n p rs x)) ≤ T := topN_bd (fun nm hm => hT nm (h.ours hm)) (by have := hL; omega)
        have ht0 := (topN_le (ours (lsOf n p rs x))).1
        have hbd : ∀ nm ∈ N2, vN nm ≤ topN (ours (lsOf n p rs x)) := fun nm hm => topN_ge (hours nm hm)
        have hN2d : ∀ d', Is d' N2 [] φ1 → N2.length ≤ 62 := fun d' hd' => Nat.le_trans (sub_len N2 (ours (lsOf n p rs x)) (by have := hd'.nodup; simpa [mades] using this) hours) (by omega)
        refine first _ fun d' hd' => ?_
        have hsc := safe_close h2 hk1 hx hbd ⟨ht0, hcond.1⟩ (hN2d d' hd') hcond.2.2 (T := T + 1) (by omega) (by omega) hd'
        have key : ∀ (ws : List DW) (d : Dk), Safe (Gd L L.length (T + 1)) d ws (EndC N2 L (topN (ours (lsOf n p rs x))) (lsOf n p rs x) (rs ++ (frames x).1)) → Safe (Gd L lo (T + 1)) d ws (fun d' => Neat d' L (T + 1)) := by
          intro ws
          induction ws with
          | nil => exact fun d g => ⟨g.1.mono hLlen, (g.2.neat hbd ⟨ht0, hcond.1⟩ (by omega) (by omega)).2 hours⟩
          | cons w ws ih => exact fun d g => ⟨g.1.mono hLlen, g.2.1, ih _ g.2.2⟩
        exact key _ _ hsc
      · cases hc
  · rw [if_neg ht] at hm
    cases hm
    have hw : (frames x).2 = x.size := h.torn.1 (by cases hq : (lsOf n p rs x).torn with | false => rfl | true => exact absurd hq ht)
    have := first [] fun d' hd' => ⟨(gd_log hd' h2 (h2.lo_full hk1) (LI.upT hT2) (by omega)).mono hLlen, N2, φ1, n, p, rs, x, hd', LI.upT hT2, by omega, h2, hk2, hw, hours⟩
    rwa [List.append_nil] at this
end
/-- Each act keeps a played log well. -/
theorem wr_safe {d : Dk} {L : List ByteArray} {lo : Nat} {T : Int} (hI : Inv d L lo T) (a : LA) (hw : (wr d a).2.2 = 0) :
    Safe (Gd (if a.kind = 1 then L ++ [a.data] else L) lo (T + 1)) d (wr d a).1 (fun d' => InvW d' (if a.kind = 1 then L ++ [a.data] else L) (if a.kind = 1 then lo else L.length) (T + 1) ∧ (a.kind = 4 → Neat d' L (T + 1))) ∧ (a.kind = 1 → (wr d a).2.1 = (L.length : Int) + 1) := by
  obtain ⟨N, φ, hd, hT, hL, hI⟩ := hI
  have hT0 : 0 ≤ T := by omega
  generalize hW : wr d a = W at *
  unfold wr at hW
  rcases hI with ⟨g1, g2, g3, g4, g5⟩ | ⟨n, p, rs, x, h, hlo⟩
  · have hop : opn d = zLs 1 := opn_none (by rw [hd.vw]; exact g1)
    rw [hop] at hW
    by_cases k : a.kind = 4
    · rw [if_pos ⟨rfl, k⟩] at hW
      have k1 : ¬ a.kind = 1 := by omega
      subst g2
      subst g3
      cases hb : bi d with
      | none => rw [hb] at hW; subst hW; cases hw
      | some l =>
        rw [hb] at hW
        subst hW
        simp only [Option.getD_some]
        unfold bi at hb
        split at hb
        · rename_i hc
          cases hb
          obtain ⟨e1, e2, e3⟩ := hd.nms
          rw [e1] at hc
          rw [e1, e2]
          have htop := topN_bd hT hT0
          have hs := safe_birth hd g1 g4 g5 (t := topN N) (T := T + 1) (fun nm hm => topN_ge hm) ⟨(topN_le N).1, hc.1⟩ (by omega)
          refine ⟨?_, fun h => absurd h k1⟩
          simp only [k1, if_false, List.length_nil]
          have key : ∀ (ws : List DW) (d : Dk), Safe (Gd [] 0 (T + 1)) d ws (fun d' => Neat d' [] (T + 1)) → Safe (Gd [] 0 (T + 1)) d ws (fun d' => InvW d' [] 0 (T + 1) ∧ (a.kind = 4 → Neat d' [] (T + 1))) := by
            intro ws
            induction ws with
            | nil => exact fun d g => ⟨g.1, g.2.whole, fun _ => g.2⟩
            | cons w ws ih => exact fun d g => ⟨g.1, g.2.1, ih _ g.2.2⟩
          exact key _ _ hs
        · cases hb
    · rw [if_neg fun h => k h.2, if_pos (by show (1 : Int) ≠ 0; decide)] at hW
      subst hW
      cases hw
  obtain ⟨hop, hx⟩ := hd.opn h
  rw [hop] at hW
  rw [if_neg (fun h => by cases h.1), if_neg (fun h => h rfl)] at hW
  by_cases kr : 1 ≤ a.kind ∧ a.kind ≤ 4
  rotate_left
  · rw [if_pos kr] at hW
    subst hW
    cases hw
  rw [if_neg (by omega)] at hW
  have hLlen : lo ≤ L.length := by
    obtain ⟨k, k1, k2, _⟩ := gd_log hd h hlo hT hL 0 []
    omega
  by_cases k4 : a.kind = 4
  · rw [if_pos k4] at hW
    have k1 : ¬ a.kind = 1 := by omega
    cases hm : md d (lsOf n p rs x) with
    | none =>
      rw [hm] at hW
      subst hW
      cases hw
    | some l =>
      rw [hm] at hW
      subst hW
      simp only [Option.getD_some, k1, if_false]
      refine ⟨?_, fun h => absurd h (by trivial)⟩
      have hs := safe_mend hd h hlo hT hL hm
      have key : ∀ (ws : List DW) (d : Dk), Safe (Gd L lo (T + 1)) d ws (fun d' => Neat d' L (T + 1)) → Safe (Gd L lo (T + 1)) d ws (fun d' => InvW d' L L.length (T + 1) ∧ (a.kind = 4 → Neat d' L (T + 1))) := by
        intro ws
        induction ws with
        | nil => exact fun d g => ⟨g.1, g.2.whole, fun _ => g.2⟩
        | cons w ws ih => exact fun d g => ⟨g.1, g.2.1, ih _ g.2.2⟩
      exact key _ _ hs
  rw [if_neg k4] at hW
  by_cases ht : (lsOf n p rs x).torn = true
  · rw [if_pos ht] at hW
    subst hW
    cases hw
  rw [if_neg ht] at hW
  have hwh : (frames x).2 = x.size := h.torn.1 (by cases hq : (lsOf n p rs x).torn with | false => rfl | true => exact absurd hq ht)
  have h1 := h.sync
  have hk1 : (upF φ (seg p.opn) ⟨seg p.opn, (φ (seg p.opn)).data, (φ (seg p.opn)).data.size⟩ (seg p.opn)).kept = (upF φ (seg p.opn) ⟨seg p.opn, (φ (seg p.opn)).data, (φ (seg p.opn)).data.size⟩ (seg p.opn)).data.size := by rw [upF_at]
  have hG0 : Gd L lo (T + 1) d := (gd_log hd h hlo hT hL).up (by omega)
  by_cases k2 : a.kind = 2
  · rw [if_pos k2] at hW
    have k1 : ¬ a.kind = 1 := by omega
    subst hW
    simp only [k1, if_false]
    refine ⟨Safe.sync hd hG0 h.data.1 fun d1 hd1 => ⟨(gd_log hd1 h1 (h1.lo_full hk1) (LI.upT hT) (by omega)).mono hLlen, ⟨N, _, n, p, rs, x, hd1, LI.upT hT, by omega, h1, h1.lo_full hk1, hwh⟩, fun h => absurd h k4⟩, fun h => absurd h (by trivial)⟩
  rw [if_neg k2] at hW
  by_cases k3 : a.kind = 3
  · rw [if_pos k3] at hW
    have k1 : ¬ a.kind = 1 := by omega
    cases hc : cl d.files.length (topN (nmsOf d)) (lsOf n p rs x) with
    | none =>
      rw [hc] at hW
      subst hW
      cases hw
    | some cs =>
      rw [hc] at hW
      subst hW
      unfold cl at hc
      split at hc
      · rename_i hcond
        cases hc
        obtain ⟨e1, e2, e3⟩ := hd.nms
        rw [e1] at hcond ⊢
        rw [e3] at hcond
        have htop := topN_bd hT hT0
        have ht0 := (topN_le N).1
        have hbd : ∀ nm ∈ N, vN nm ≤ topN N := fun nm hm => topN_ge hm
        simp only [k1, if_false]
        refine ⟨Safe.sync hd hG0 h.data.1 fun d1 hd1 => ?_, fun h => absurd h (by trivial)⟩
        have hsc := safe_close h1 hk1 hx hbd ⟨ht0, hcond.1⟩ hcond.2.1 hcond.2.2 (T := T + 1) (by omega) (by omega) hd1
        have key : ∀ (ws : List DW) (d : Dk), Safe (Gd L L.length (T + 1)) d ws (EndC N L (topN N) (lsOf n p rs x) (rs ++ (frames x).1)) → Safe (Gd L lo (T + 1)) d ws (fun d' => InvW d' L L.length (T + 1) ∧ (a.kind = 4 → Neat d' L (T + 1))) := by
          intro ws
          induction ws with
          | nil => exact fun d g => ⟨g.1.mono hLlen, (g.2.neat hbd ⟨ht0, hcond.1⟩ (by omega) (by omega)).1, fun h => absurd h k4⟩
          | cons w ws ih => exact fun d g => ⟨g.1.mono hLlen, g.2.1, ih _ g.2.2⟩
        exact key _ _ hsc
      · cases hc
  rw [if_neg k3] at hW
  have k1 : a.kind = 1 := by omega
  by_cases kd : 2000 < a.data.size
  · rw [if_pos kd] at hW
    subst hW
    cases hw
  rw [if_neg kd] at hW
  by_cases kn : (lsOf n p rs x).next > 999999 ∨ (lsOf n p rs x).size + 5 + a.data.size > 8000
  · rw [if_pos kn] at hW
    subst hW
    cases hw
  rw [if_neg kn] at hW
  subst hW
  have hnx : (lsOf n p rs x).next = p.first + (frames x).1.length := rfl
  have hsz : (lsOf n p rs x).size = ((frames x).2 : Nat) := rfl
  rw [hnx, hsz] at kn
  have hf1 := (h.here.gs hx).2
  have hrec : recOk ⟨p.first + (frames x).1.length, a.data⟩ = true := by
    simp only [recOk, Bool.and_eq_true, decide_eq_true_eq]
    omega
  obtain ⟨ha, hfr⟩ := h.add hwh hrec
  have hfb : (frB ⟨p.first + (frames x).1.length, a.data⟩).size = a.data.size + 5 := frB_size _
  simp only [k1, if_true]
  refine ⟨Safe.add hd (hG0.more (by omega)) h.data.1 ?_ fun d1 hd1 => ?_, fun _ => ?_⟩
  · show (φ (seg p.opn)).data.size + (frB ⟨p.first + (frames x).1.length, a.data⟩).size ≤ 20000
    rw [h.data.2]
    show x.size + (frB ⟨p.first + (frames x).1.length, a.data⟩).size ≤ 20000
    omega
  · have hk := (hd.good (nm := seg p.opn) (hd.mem h.data.1))
    rw [h.data.2] at hk
    have hlo1 : lo ≤ rs.length + (frames ((x ++ frB ⟨p.first + (frames x).1.length, a.data⟩).extract 0 (upF φ (seg p.opn) ⟨seg p.opn, (φ (seg p.opn)).data ++ frB ⟨p.first + (frames x).1.length, a.data⟩, (φ (seg p.opn)).kept⟩ (seg p.opn)).kept.toNat)).1.length := by
      rw [upF_at, ← (same_app x _).ext 0 _ (by simp only; omega)]
      exact hlo
    have hLT : ((L ++ [a.data]).length : Int) ≤ T + 1 := by rw [List.length_append, List.length_singleton]; omega
    exact ⟨gd_log hd1 ha hlo1 (LI.upT hT) hLT, ⟨N, _, n, p, rs, _, hd1, LI.upT hT, hLT, ha, hlo1, by rw [hfr]⟩, fun h => absurd h (by decide)⟩
  · show p.first + ((frames x).1.length : Int) = _
    rw [h.first, h.len]; omega
end Go.V

/- The Go function laws.FnLogStep returns true for every slice of bytes, in the program's own Lean form: an act of the log that is refused changes nothing, and an append adds just its record. Conditions: those of the given row and card. -/
import Derived.Test.YtaojogkldejmhaaGreatDoorMX6
import Derived.Test.YtaojogkldejmhaaGreatDoorMK1
set_option linter.unusedSimpArgs false
namespace Go.V
open Go.Proofs
/-! A disk as names, moves, and what is in each file. -/
structure Is (d : Dk) (N : List ByteArray) (M : List DM) (φ : ByteArray → DF) : Prop where
  ok : DOk d
  n : d.names = N
  m : d.moves = M
  f : ∀ nm ∈ made d, fileOf d.files nm = φ nm
def upF (φ : ByteArray → DF) (nm : ByteArray) (f : DF) : ByteArray → DF := fun x => if x = nm then f else φ x
theorem upF_at (φ : ByteArray → DF) (nm : ByteArray) (f : DF) : upF φ nm f nm = f := if_pos rfl
theorem upF_ne {φ : ByteArray → DF} {nm x : ByteArray} {f : DF} (h : x ≠ nm) : upF φ nm f x = φ x := if_neg h
theorem Is.of {d : Dk} (h : DOk d) : Is d d.names d.moves (fileOf d.files) := ⟨h, rfl, rfl, fun _ _ => rfl⟩
section
variable {d : Dk} {N : List ByteArray} {M : List DM} {φ : ByteArray → DF} (h : Is d N M φ)
include h
theorem Is.made : Go.V.made d = N ++ mades M := by rw [← h.n, ← h.m]; rfl
theorem Is.th : th d = aft N M := by rw [← h.n, ← h.m]; rfl
theorem Is.len : d.files.length = (N ++ mades M).length := by rw [← h.made]; exact h.ok.l.symm
theorem Is.mem {nm : ByteArray} (hm : nm ∈ aft N M) : nm ∈ Go.V.made d := by
  have e : d.moves.take d.moves.length = d.moves := List.take_length
  exact DOk.aft_made (n := d.moves.length) (by rw [e, h.n, h.m]; exact hm)
theorem Is.lk (nm : ByteArray) : lk d nm = if has (aft N M) nm = true then some (φ nm).data else none := by
  rw [Go.V.lk, h.th]
  split
  · rename_i g
    rw [h.f nm (h.mem (has_true.1 g))]
  · rfl
theorem Is.name {nm : ByteArray} (hm : nm ∈ Go.V.made d) : (φ nm).name = nm := by
  obtain ⟨i, h1, h2, h3⟩ := h.ok.find hm
  rw [← h.f nm hm]; exact h3
theorem Is.good {nm : ByteArray} (hm : nm ∈ Go.V.made d) : (φ nm).data.size ≤ 20000 ∧ 0 ≤ (φ nm).kept ∧ (φ nm).kept ≤ (φ nm).data.size := by
  obtain ⟨i, h1, h2, h3⟩ := h.ok.find hm
  rw [← h.f nm hm]
  exact (h.ok.two.good _ (List.mem_of_getElem? h2)).2
theorem Is.fresh {nm : ByteArray} (hm : nm ∉ N ++ mades M) : ∀ f ∈ d.files, f.name ≠ nm := fun f hf e => by
  refine hm ?_
  rw [← h.made, ← h.ok.two.l, List.mem_map]
  exact ⟨f, hf, e⟩
theorem Is.make {nm x : ByteArray} (h1 : nameOk nm = true) (h2 : nm ∉ N ++ mades M) (h3 : (N ++ mades M).length < 64) (h4 : M.length < 128) : (doS d ⟨1, nm, x⟩).2 = 0 ∧ Is (doS d ⟨1, nm, x⟩).1 N (M ++ [⟨false, nm⟩]) (upF φ nm ⟨nm, ⟨#[]⟩, 0⟩) := by
  have hno : fnd d.files nm = -1 := fnd_no fun j g hg => h.fresh h2 g (List.mem_of_getElem? hg)
  have hs := h.ok.step ⟨1, nm, x⟩
  have hd : doS d ⟨1, nm, x⟩ = (⟨d.files ++ [⟨nm, ⟨#[]⟩, 0⟩], d.names, d.moves ++ [⟨false, nm⟩]⟩, 0) := by
    unfold doS
    rw [if_pos rfl, if_neg (by simp [h1, hno]), if_neg (by rw [h.len, h.m]; omega)]
  rw [hd] at hs ⊢
  refine ⟨rfl, hs, h.n, by rw [← h.m], fun y hy => ?_⟩
  have hy2 : y = nm ∨ y ∈ Go.V.made d := by
    have e : Go.V.made ⟨d.files ++ [⟨nm, ⟨#[]⟩, 0⟩], d.names, d.moves ++ [⟨false, nm⟩]⟩ = Go.V.made d ++ [nm] := by simp [Go.V.made, mades]
    rw [e, List.mem_append, List.mem_singleton] at hy
    exact hy.symm
  by_cases e : y = nm
  · rw [e, upF_at]
    exact fileOf_new d.files ⟨nm, ⟨#[]⟩, 0⟩ (by rw [hno]; omega)
  · rw [upF_ne e, ← h.f y (hy2.resolve_left e)]
    exact fileOf_snoc d.files ⟨nm, ⟨#[]⟩, 0⟩ fun g => e g.symm
theorem Is.setF {nm : ByteArray} {g : DF} (hin : nm ∈ aft N M) (hg : g.name = nm) : ∀ y, fileOf (d.files.set (fnd d.files nm).toNat g) y = if y = nm then g else fileOf d.files y := fun y => by
  obtain ⟨i, f1, f2, f3⟩ := h.ok.find (h.mem hin)
  rw [f1, Int.toNat_natCast]
  have := fileOf_set d.files i (fileOf d.files nm) g f2 (by rw [f3]; exact hg) (by rw [f3]; exact fnd_first f1 f2) y
  rw [f3] at this
  exact this
theorem Is.add {nm x : ByteArray} (hin : nm ∈ aft N M) (hs : (φ nm).data.size + x.size ≤ 20000) : (doS d ⟨2, nm, x⟩).2 = 0 ∧ Is (doS d ⟨2, nm, x⟩).1 N M (upF φ nm ⟨nm, (φ nm).data ++ x, (φ nm).kept⟩) := by
  have hm := h.mem hin
  have hf := h.f nm hm
  have hst := h.ok.step ⟨2, nm, x⟩
  have hh : has (aft d.names d.moves) nm = true := by rw [h.n, h.m]; exact has_true.2 hin
  have hd : doS d ⟨2, nm, x⟩ = (⟨d.files.set (fnd d.files nm).toNat ⟨nm, (φ nm).data ++ x, (φ nm).kept⟩, d.names, d.moves⟩, 0) := by
    unfold doS
    simp only [hh, hf, h.name hm]
    rw [if_neg (by decide), if_neg (by decide), if_neg (by decide), if_neg (by decide), if_pos trivial, if_neg (by omega)]
  rw [hd] at hst ⊢
  refine ⟨rfl, hst, h.n, h.m, fun y hy => ?_⟩
  simp only
  rw [h.setF hin rfl y]
  unfold upF
  split
  · rfl
  · exact h.f y hy
theorem Is.gone {nm x : ByteArray} (hin : nm ∈ aft N M) (h4 : M.length < 128) : (doS d ⟨4, nm, x⟩).2 = 0 ∧ Is (doS d ⟨4, nm, x⟩).1 N (M ++ [⟨true, nm⟩]) φ := by
  have hst := h.ok.step ⟨4, nm, x⟩
  have hh : has (aft d.names d.moves) nm = true := by rw [h.n, h.m]; exact has_true.2 hin
  have hd : doS d ⟨4, nm, x⟩ = (⟨d.files, d.names, d.moves ++ [⟨true, nm⟩]⟩, 0) := by
    unfold doS
    simp only [hh]
    rw [if_neg (by decide), if_neg (by decide), if_neg (by decide), if_neg (by decide), if_neg (by decide), if_neg (by decide), if_neg (by rw [h.m]; omega)]
  rw [hd] at hst ⊢
  refine ⟨rfl, hst, h.n, by rw [← h.m], fun y hy => h.f y ?_⟩
  simpa [Go.V.made, mades] using hy
theorem Is.keep {n : Nat} (hn : n ≤ M.length) : Is (keepD d (aft N (M.take n))) (aft N (M.take n)) [] φ := by
  have hk : DOk (keepD d (aft d.names (d.moves.take n))) := h.ok.keep (by rw [h.m]; exact hn)
  rw [h.n, h.m] at hk
  have hsub : ∀ x ∈ aft N (M.take n), x ∈ Go.V.made d := fun x hx => DOk.aft_made (n := n) (by rw [h.n, h.m]; exact hx)
  refine ⟨hk, rfl, rfl, fun y hy => ?_⟩
  have hy2 : y ∈ aft N (M.take n) := by simpa [Go.V.made, mades, keepD] using hy
  rw [← h.f y (hsub y hy2)]
  exact fileOf_map _ (fileOf d.files) (fun x hx => (h.ok.find (hsub x hx)).choose_spec.2.2) y hy2
/-- What a loss of power leaves. -/
theorem Is.cut (m : Int) (keep : List Int) : ∃ (j : Nat) (ψ : ByteArray → DF), j ≤ M.length ∧ Is (cutD d m keep) (aft N (M.take j)) [] ψ ∧ ∀ nm ∈ N ++ mades M, ∃ l : Nat, (φ nm).kept ≤ l ∧ l ≤ (φ nm).data.size ∧ ψ nm = ⟨nm, (φ nm).data.extract 0 l, l⟩ := by
  have hA := h.ok.cutA keep
  have hI : Is (cutA keep d) N M (fileOf (cutA keep d).files) := ⟨hA, h.n, h.m, fun _ _ => rfl⟩
  have hj : cutN m d ≤ M.length := by rw [← h.m]; unfold cutN; omega
  refine ⟨cutN m d, fileOf (cutA keep d).files, hj, ?_, fun nm hm => ?_⟩
  · have := hI.keep hj
    rw [← h.n, ← h.m] at this ⊢
    exact this
  · rw [← h.made] at hm
    obtain ⟨i, f1, f2, f3⟩ := h.ok.find hm
    have hmA : nm ∈ Go.V.made (cutA keep d) := hm
    obtain ⟨k, g1, g2, g3⟩ := hA.find hmA
    have hk : k < d.files.length := by
      have := (List.getElem?_eq_some_iff.1 g2).1
      simp only [cutA, cutP_len] at this
      exact this
    obtain ⟨f, hf⟩ : ∃ f, d.files[k]? = some f := ⟨_, List.getElem?_eq_getElem hk⟩
    have e : (cutA keep d).files[k]? = _ := cutP_at keep hf d.files.length
    rw [if_pos hk, g2] at e
    have e := Option.some.inj e
    have hfn : f.name = nm := by rw [e] at g3; exact g3
    have h1 := (h.ok.files k f hf).one
    rw [hfn, f1] at h1
    have h2 : i = k := by omega
    rw [h2, hf] at f2
    have f2 := Option.some.inj f2
    rw [h.f nm hm] at f2
    have hg := h.good hm
    rw [← f2] at hg ⊢
    have hM := cutM_le (k := keepAt keep k) hg.2.1 hg.2.2
    refine ⟨(f.kept + cutM (keepAt keep k) f).toNat, by omega, by omega, ?_⟩
    rw [e, cutF, hfn, Int.toNat_of_nonneg (by omega)]
end
/-- Writes that all go well; what is so before each of them, and what at the end. -/
def Safe (G : Dk → Prop) : Dk → List DW → (Dk → Prop) → Prop
  | d, [], E => G d ∧ E d
  | d, w :: ws, E => G d ∧ (doS d w).2 = 0 ∧ Safe G (doS d w).1 ws E
theorem Safe.app {G : Dk → Prop} {E : Dk → Prop} {us : List DW} : ∀ (ws : List DW) (d : Dk), Safe G d ws (fun d' => Safe G d' us E) → Safe G d (ws ++ us) E
  | [], _, h => h.2
  | _ :: ws, _, h => ⟨h.1, h.2.1, Safe.app ws _ h.2.2⟩
theorem Safe.go {G E : Dk → Prop} {a : LA} : ∀ (ws : List DW) (i : Nat) (d : Dk), Safe G d ws E → (a.cuts = true → ∃ d', G d' ∧ goS a i d ws = (cutD d' a.moves a.keep, 6)) ∧ (a.cuts = false → (goS a i d ws).2 = 0 ∧ E (goS a i d ws).1)
  | [], i, d, h => by
    unfold goS
    refine ⟨fun hc => ⟨d, h.1, by rw [if_pos hc]⟩, fun hc => ?_⟩
    rw [if_neg (by rw [hc]; decide)]
    exact ⟨rfl, h.2⟩
  | w :: ws, i, d, h => by
    unfold goS
    obtain ⟨h1, h2, h3⟩ := h
    obtain ⟨g1, g2⟩ := Safe.go (a := a) ws (i + 1) _ h3
    refine ⟨fun hc => ?_, fun hc => ?_⟩
    · by_cases ha : a.cuts = true ∧ (i : Int) ≥ a.after
      · exact ⟨d, h1, by rw [if_pos ha]⟩
      · obtain ⟨d', e1, e2⟩ := g1 hc
        exact ⟨d', e1, by rw [if_neg ha, if_pos h2]; exact e2⟩
    · rw [if_neg (by rw [hc]; simp), if_pos h2]
      exact g2 hc
section
variable {G E : Dk → Prop} {d : Dk} {N : List ByteArray} {M : List DM} {φ : ByteArray → DF} {nm x : ByteArray} {ws : List DW}
theorem Safe.make (h : Is d N M φ) (hG : G d) (h1 : nameOk nm = true) (h2 : nm ∉ N ++ mades M) (h3 : (N ++ mades M).length < 64) (h4 : M.length < 128) (hk : ∀ d', Is d' N (M ++ [⟨false, nm⟩]) (upF φ nm ⟨nm, ⟨#[]⟩, 0⟩) → Safe G d' ws E) : Safe G d (⟨1, nm, x⟩ :: ws) E :=
  have := h.make (x := x) h1 h2 h3 h4
  ⟨hG, this.1, hk _ this.2⟩
theorem Safe.add (h : Is d N M φ) (hG : G d) (hin : nm ∈ aft N M) (hs : (φ nm).data.size + x.size ≤ 20000) (hk : ∀ d', Is d' N M (upF φ nm ⟨nm, (φ nm).data ++ x, (φ nm).kept⟩) → Safe G d' ws E) : Safe G d (⟨2, nm, x⟩ :: ws) E :=
  have := h.add hin hs
  ⟨hG, this.1, hk _ this.2⟩
theorem Safe.gone (h : Is d N M φ) (hG : G d) (hin : nm ∈ aft N M) (h4 : M.length < 128) (hk : ∀ d', Is d' N (M ++ [⟨true, nm⟩]) φ → Safe G d' ws E) : Safe G d (⟨4, nm, x⟩ :: ws) E :=
  have := h.gone (x := x) hin h4
  ⟨hG, this.1, hk _ this.2⟩
end
end Go.V
set_option linter.unusedSimpArgs false
namespace Go.V
open Go.Proofs
/-! What is read of a part of a text. -/
theorem chain_pre {s : ByteArray} {a b : Nat} {rs : List LR} (h : Chain s a rs b) : ∀ k, s.size - a ≤ k → ∃ qs, (frL s a k).1 = rs ++ qs := by
  induction h with
  | nil a => exact fun k _ => ⟨_, rfl⟩
  | cons h _ ih =>
    intro k hk
    have hb := frAt_le h
    obtain ⟨j, rfl⟩ : ∃ j, k = j + 1 := ⟨k - 1, by omega⟩
    obtain ⟨qs, hq⟩ := ih j (by omega)
    exact ⟨qs, by rw [frL_some h]; simp only [hq]; rfl⟩
theorem frames_pre {s t : ByteArray} (h : same s t s.size) : ∃ qs, (frames t).1 = (frames s).1 ++ qs :=
  chain_pre ((frames_chain s).1.same h (frames_le s).1) _ (by omega)
theorem extP_size (x : ByteArray) {l : Nat} (h : l ≤ x.size) : (x.extract 0 l).size = l := by rw [ByteArray.size_extract]; omega
theorem ext_all (x : ByteArray) : x.extract 0 x.size = x := by
  have h := same_ext x x.size (Nat.le_refl _)
  apply ByteArray.ext
  apply Array.ext_getElem?
  intro i
  by_cases hi : i < x.size
  · exact (h.2.2 i hi).symm
  · have h1 := extP_size x (Nat.le_refl x.size)
    rw [size_data] at h1
    have e : x.size = x.data.size := rfl
    rw [Array.getElem?_eq_none (by omega), Array.getElem?_eq_none (by omega)]
theorem same_ext2 (x : ByteArray) {l m : Nat} (h : l ≤ m) (hm : m ≤ x.size) : same (x.extract 0 l) (x.extract 0 m) (x.extract 0 l).size := by
  have h1 := same_ext x l (by omega)
  have h2 := same_ext x m hm
  rw [extP_size x (by omega)]
  exact ⟨by rw [extP_size x (by omega)]; exact Nat.le_refl _, by rw [extP_size x hm]; exact h, fun i hi => (h1.2.2 i hi).symm.trans (h2.2.2 i (by omega))⟩
theorem frames_mono (x : ByteArray) {l m : Nat} (h : l ≤ m) (hm : m ≤ x.size) : ∃ qs, (frames (x.extract 0 m)).1 = (frames (x.extract 0 l)).1 ++ qs := frames_pre (same_ext2 x h hm)
/-! The invariant of a log that is played. -/
def recsL (L : List ByteArray) : List LR := L.mapIdx fun i s => ⟨(i : Int) + 1, s⟩
theorem recsL_len (L : List ByteArray) : (recsL L).length = L.length := by simp [recsL]
theorem recsL_at (L : List ByteArray) (i : Nat) : (recsL L)[i]? = (L[i]?).map fun s => ⟨(i : Int) + 1, s⟩ := by simp [recsL]
theorem recsL_take (L : List ByteArray) (k : Nat) : recsL (L.take k) = (recsL L).take k := by
  apply List.ext_getElem?
  intro i
  rw [recsL_at, List.getElem?_take, List.getElem?_take, recsL_at]
  split <;> rfl
theorem recsL_snoc (L : List ByteArray) (s : ByteArray) : recsL (L ++ [s]) = recsL L ++ [⟨(L.length : Int) + 1, s⟩] := by simp [recsL, List.mapIdx_append]
def vw (N : List ByteArray) (φ : ByteArray → DF) : Vw := fun nm => if has N nm = true then some (φ nm).data else none
theorem vw_in {N : List ByteArray} {φ : ByteArray → DF} {nm : ByteArray} (h : nm ∈ N) : vw N φ nm = some (φ nm).data := if_pos (has_true.2 h)
theorem vw_mem {N : List ByteArray} {φ : ByteArray → DF} {nm y : ByteArray} (h : vw N φ nm = some y) : nm ∈ N ∧ (φ nm).data = y := by
  unfold vw at h
  split at h
  · rename_i g; exact ⟨has_true.1 g, Option.some.inj h⟩
  · cases h
theorem Is.vw {d : Dk} {N : List ByteArray} {φ : ByteArray → DF} (h : Is d N [] φ) : Go.V.lk d = Go.V.vw N φ := funext fun nm => h.lk nm
def NoLog (v : Vw) : Prop := ∀ m, 1 ≤ m → m ≤ 999999 → ∀ y, v (pln m) = some y → (rd y).2 = false
structure LI (N : List ByteArray) (φ : ByteArray → DF) (n : Int) (p : Pl) (rs : List LR) (x : ByteArray) (L : List ByteArray) : Prop where
  here : LogAt (vw N φ) n p rs x
  recs : rs ++ (frames x).1 = recsL L
  first : p.first = (rs.length : Int) + 1
  kept : ∀ nm ∈ N, nm ≠ seg p.opn → (φ nm).kept = (φ nm).data.size
def InvL (N : List ByteArray) (φ : ByteArray → DF) (L : List ByteArray) (lo : Nat) : Prop := (NoLog (vw N φ) ∧ L = [] ∧ lo = 0 ∧ (∀ nm ∈ N, (φ nm).kept = (φ nm).data.size) ∧ N.length ≤ 2) ∨ ∃ n p rs x, LI N φ n p rs x L ∧ lo ≤ rs.length + (frames (x.extract 0 (φ (seg p.opn)).kept.toNat)).1.length
theorem LogAt.congr {v v' : Vw} {n : Int} {p : Pl} {rs : List LR} {x : ByteArray} (h : LogAt v n p rs x) (h1 : v' (pln n) = v (pln n)) (h2 : v' (seg p.opn) = v (seg p.opn)) (h3 : ∀ q ∈ p.parts, v' (seg q.num) = v (seg q.num)) (h4 : ∀ m, n < m → m ≤ 999999 → ∀ y, v' (pln m) = some y → v (pln m) = some y ∨ (rd y).2 = false) : LogAt v' n p rs x := by
  refine ⟨h.hn, ?_, fun m hm hm2 y hy => ?_, ?_, ?_, h.run⟩
  · rw [h1]; exact h.plan
  · rcases h4 m hm hm2 y hy with g | g
    · exact h.top m hm hm2 y g
    · exact g
  · rw [prtsV_congr p.parts h3]; exact h.parts
  · rw [h2]; exact h.opn
theorem posRun_pre : ∀ (a b : List LR) (lo : Int), posRun lo (a ++ b) = true → posRun lo a = true
  | [], _, _, _ => rfl
  | r :: a, b, lo, h => by
    rw [List.cons_append, posRun, Bool.and_eq_true] at h
    rw [posRun, Bool.and_eq_true]
    exact ⟨h.1, posRun_pre a b _ h.2⟩
section
variable {N : List ByteArray} {φ : ByteArray → DF} {n : Int} {p : Pl} {rs : List LR} {x : ByteArray} {L : List ByteArray} (h : LI N φ n p rs x L)
include h
theorem LI.data : seg p.opn ∈ N ∧ (φ (seg p.opn)).data = x := vw_mem h.here.opn
theorem LI.len : L.length = rs.length + (frames x).1.length := by rw [← recsL_len, ← h.recs, List.length_append]
theorem LI.part {q : LP} (hq : q ∈ p.parts) : seg q.num ∈ N ∧ seg q.num ≠ seg p.opn := by
  obtain ⟨h5, h6, h7, h8, h9⟩ := planOk_ok h.here.ok
  refine ⟨?_, fun e => plan_ne h.here.ok hq (seg_inj (h6 q hq).num h7 e)⟩
  have := prtsV_some _ h.here.parts q hq
  cases hv : Go.V.vw N φ (seg q.num) with
  | none => exact absurd hv this
  | some y => exact (vw_mem hv).1
theorem LI.plan : pln n ∈ N := by
  obtain ⟨y, h1, _⟩ := h.here.plan
  exact (vw_mem h1).1
theorem LI.ours {nm : ByteArray} (hm : nm ∈ ours (lsOf n p rs x)) : nm ∈ N := by
  simp only [Go.V.ours, List.mem_cons, List.mem_map] at hm
  rcases hm with rfl | rfl | ⟨q, hq, rfl⟩
  · exact h.plan
  · exact h.data.1
  · exact (h.part hq).1
/-- Behind a loss of power the log is the same, but for records at its end. -/
theorem LI.stay {lo : Nat} (hlo : lo ≤ rs.length + (frames (x.extract 0 (φ (seg p.opn)).kept.toNat)).1.length) {N' : List ByteArray} {ψ : ByteArray → DF} (h1 : ∀ nm ∈ Go.V.ours (lsOf n p rs x), nm ∈ N') (h2 : ∀ nm ∈ N', nm ∉ N → ∀ m, nm = pln m → (rd (ψ nm).data).2 = false)
    (h3 : ∀ nm ∈ N', nm ∈ N → ∃ l : Nat, (φ nm).kept ≤ l ∧ l ≤ (φ nm).data.size ∧ ψ nm = ⟨nm, (φ nm).data.extract 0 l, l⟩) (h4 : ∀ nm ∈ N', (ψ nm).kept = (ψ nm).data.size) : ∃ k, lo ≤ k ∧ k ≤ L.length ∧ InvL N' ψ (L.take k) k := by
  obtain ⟨ho, hx⟩ := h.data
  have ho' : seg p.opn ∈ N' := h1 _ (by simp [Go.V.ours, lsOf])
  obtain ⟨l, l1, l2, l3⟩ := h3 _ ho' ho
  rw [hx] at l2 l3
  have old : ∀ nm ∈ N', nm ∈ N → nm ≠ seg p.opn → (ψ nm).data = (φ nm).data := fun nm hm hn hne => by
    obtain ⟨k, k1, k2, k3⟩ := h3 nm hm hn
    have hk := h.kept nm hn hne
    have e : k = (φ nm).data.size := by omega
    rw [k3, e, ext_all]
  have oldv : ∀ nm ∈ N', nm ∈ N → nm ≠ seg p.opn → Go.V.vw N' ψ nm = Go.V.vw N φ nm := fun nm hm hn hne => by
    rw [vw_in hm, vw_in hn, old nm hm hn hne]
  obtain ⟨qs, hqs⟩ := frames_mono x l2 (Nat.le_refl _)
  rw [ext_all] at hqs
  have hlen := h.len
  rw [hqs, List.length_append] at hlen
  have hlk : (φ (seg p.opn)).kept.toNat ≤ l := by omega
  obtain ⟨ks, hks⟩ := frames_mono x hlk l2
  have hkl := congrArg List.length hks
  rw [List.length_append] at hkl
  refine ⟨rs.length + (frames (x.extract 0 l)).1.length, by omega, by omega, .inr ⟨n, p, rs, x.extract 0 l, ⟨⟨h.here.hn, ?_, fun m hm hm2 y hy => ?_, ?_, ?_, ?_⟩, ?_, h.first, fun nm hm _ => h4 nm hm⟩, ?_⟩⟩
  · obtain ⟨y, y1, y2⟩ := h.here.plan
    exact ⟨y, by rw [oldv _ (h1 _ (by simp [Go.V.ours, lsOf])) h.plan fun e => seg_pln _ _ e.symm]; exact y1, y2⟩
  · obtain ⟨y1, y2⟩ := vw_mem hy
    by_cases hN : pln m ∈ N
    · refine h.here.top m hm hm2 y ?_
      rw [← hy, oldv _ y1 hN fun e => seg_pln _ _ e.symm]
    · rw [← y2]; exact h2 _ y1 hN m rfl
  · rw [prtsV_congr (v := Go.V.vw N φ) p.parts fun q hq => ?_]
    · exact h.here.parts
    · exact oldv _ (h1 _ (by simp only [Go.V.ours, List.mem_cons, List.mem_map]; exact .inr (.inr ⟨q, hq, rfl⟩))) (h.part hq).1 (h.part hq).2
  · rw [vw_in ho', l3]
  · have := h.here.run
    rw [hqs] at this
    exact posRun_pre _ _ _ this
  · rw [recsL_take, ← h.recs, hqs, ← List.append_assoc, List.take_left' (by rw [List.length_append])]
  · rw [l3]
    show _ ≤ rs.length + (frames ((x.extract 0 l).extract 0 l)).1.length
    have e : (x.extract 0 l).extract 0 l = x.extract 0 l := by
      have := ext_all (x.extract 0 l)
      rwa [extP_size x l2] at this
    rw [e]
    exact Nat.le_refl _
/-- A log with a segment more. -/
theorem LI.fresh (hx : x.size ≤ 20000) {t : Int} (ht : ∀ nm ∈ N, vN nm ≤ t) (ht9 : t < 999999) (hl : p.parts.length < 40) {N' : List ByteArray} {ψ : ByteArray → DF} (hN : ∀ nm ∈ N', nm ∈ N ∨ nm = seg (t + 1) ∨ nm = pln (t + 1))
    (h1 : seg (t + 1) ∈ N' ∧ pln (t + 1) ∈ N') (hd1 : (ψ (seg (t + 1))).data = ⟨#[]⟩) (hd2 : (ψ (pln (t + 1))).data = planT (nxP (lsOf n p rs x) t)) (h2 : ∀ nm ∈ Go.V.ours (lsOf n p rs x), nm ≠ pln n → nm ∈ N') (h3 : ∀ nm ∈ N, nm ∈ N' → (ψ nm).data = (φ nm).data)
    (h4 : ∀ nm ∈ N', (ψ nm).kept = (ψ nm).data.size) : LI N' ψ (t + 1) (nxP (lsOf n p rs x) t) (rs ++ (frames x).1) ⟨#[]⟩ L := by
  have htv : ∀ nm, Go.V.vw N φ nm ≠ none → vN nm ≤ t := fun nm hn => by
    cases hv : Go.V.vw N φ nm with
    | none => exact absurd hv hn
    | some y => exact ht nm (vw_mem hv).1
  obtain ⟨h5, h6, h7, h8, h9⟩ := planOk_ok h.here.ok
  obtain ⟨he, hnt⟩ := h.here.ge htv
  have hn := h.here.hn
  have R : ∀ nm, runW (clL t (lsOf n p rs x)) (Go.V.vw N φ) nm = if nm = pln n then none else if nm = pln (t + 1) then some (planT (nxP (lsOf n p rs x) t)) else if nm = seg (t + 1) then some ⟨#[]⟩ else Go.V.vw N φ nm := run_close _ (lsOf n p rs x) t
  have hroll := h.here.roll hx htv ht9 hl
  have hopn : p.opn ≤ t := he.opn
  have hparts : ∀ q ∈ p.parts, q.num ≤ t := he.parts
  have olds : ∀ m, 1 ≤ m ∧ m ≤ 999999 → m ≤ t → seg m ∈ N → seg m ∈ N' → Go.V.vw N' ψ (seg m) = runW (clL t (lsOf n p rs x)) (Go.V.vw N φ) (seg m) := fun m hm hmt g1 g2 => by
    rw [R, if_neg (seg_pln _ _), if_neg (seg_pln _ _), if_neg fun h => by have := seg_inj hm ⟨by omega, by omega⟩ h; omega, vw_in g1, vw_in g2, h3 _ g1 g2]
  have hs1 : seg p.opn ∈ N' := h2 _ (by simp [Go.V.ours, lsOf]) (seg_pln _ _)
  have hnew : LogAt (Go.V.vw N' ψ) (t + 1) (nxP (lsOf n p rs x) t) (rs ++ (frames x).1) ⟨#[]⟩ := by
    refine hroll.congr ?_ ?_ (fun q hq => ?_) fun m hm hm2 y hy => ?_
    · rw [R, if_neg fun e => by have := pln_inj ⟨by omega, by omega⟩ hn e; omega, if_pos rfl, vw_in h1.2, hd2]
    · show Go.V.vw N' ψ (seg (t + 1)) = runW _ _ (seg (t + 1))
      rw [R, if_neg (seg_pln _ _), if_neg (seg_pln _ _), if_pos rfl, vw_in h1.1, hd1]
    · rcases List.mem_append.1 (show q ∈ p.parts ++ [_] from hq) with hq | hq
      · exact olds _ (h6 q hq).num (hparts q hq) (h.part hq).1 (h2 _ (by simp only [Go.V.ours, List.mem_cons, List.mem_map]; exact .inr (.inr ⟨q, hq, rfl⟩)) (seg_pln _ _))
      · rw [List.mem_singleton] at hq
        subst hq
        exact olds _ h7 hopn h.data.1 hs1
    · obtain ⟨y1, y2⟩ := vw_mem hy
      rcases hN _ y1 with g | g | g
      · have := ht _ g
        rw [vN_pln ⟨by omega, hm2⟩] at this
        omega
      · exact absurd g.symm (seg_pln _ _)
      · have := pln_inj ⟨by omega, hm2⟩ ⟨by omega, by omega⟩ g
        omega
  refine ⟨hnew, ?_, ?_, fun nm hm _ => h4 nm hm⟩
  · rw [frames_nil, List.append_nil]; exact h.recs
  · show p.first + ((frames x).1.length : Int) = _
    rw [h.first, List.length_append]; omega
end
end Go.V
set_option linter.unusedSimpArgs false
namespace Go.V
open Go.Proofs
/-! A log through losses of power. -/
def Inv (d : Dk) (L : List ByteArray) (lo : Nat) (T : Int) : Prop := ∃ N φ, Is d N [] φ ∧ (∀ nm ∈ N, vN nm ≤ T) ∧ (L.length : Int) ≤ T ∧ InvL N φ L lo
/-- Whatever a loss of power leaves, it is well. -/
def Gd (L : List ByteArray) (lo : Nat) (T : Int) (d : Dk) : Prop := ∀ m keep, ∃ k, lo ≤ k ∧ k ≤ L.length ∧ Inv (cutD d m keep) (L.take k) k T
theorem Gd.mono {L : List ByteArray} {lo lo' : Nat} {T : Int} {d : Dk} (h : Gd L lo' T d) (hl : lo ≤ lo') : Gd L lo T d := fun m keep => by
  obtain ⟨k, h1, h2, h3⟩ := h m keep
  exact ⟨k, by omega, h2, h3⟩
abbrev CutF (φ ψ : ByteArray → DF) (nm : ByteArray) : Prop := ∃ l : Nat, (φ nm).kept ≤ l ∧ l ≤ (φ nm).data.size ∧ ψ nm = ⟨nm, (φ nm).data.extract 0 l, l⟩
theorem CutF.all {φ ψ : ByteArray → DF} {nm : ByteArray} (h : CutF φ ψ nm) (hk : (φ nm).kept = (φ nm).data.size) : (ψ nm).data = (φ nm).data := by
  obtain ⟨k, k1, k2, k3⟩ := h
  have e : k = (φ nm).data.size := by omega
  rw [k3, e, ext_all]
theorem CutF.kept {φ ψ : ByteArray → DF} {nm : ByteArray} (h : CutF φ ψ nm) : (ψ nm).kept = (ψ nm).data.size := by
  obtain ⟨k, k1, k2, k3⟩ := h
  rw [k3]
  simp only [extP_size _ k2]
theorem Gd.of {d : Dk} {N : List ByteArray} {M : List DM} {φ : ByteArray → DF} {L : List ByteArray} {lo : Nat} {T : Int} (h : Is d N M φ) (hT : ∀ nm ∈ N ++ mades M, vN nm ≤ T) (hL : (L.length : Int) ≤ T)
    (hc : ∀ (j : Nat) (ψ : ByteArray → DF), j ≤ M.length → (∀ nm ∈ aft N (M.take j), nm ∈ N ++ mades M) → (∀ nm ∈ aft N (M.take j), CutF φ ψ nm) → ∃ k, lo ≤ k ∧ k ≤ L.length ∧ InvL (aft N (M.take j)) ψ (L.take k) k) : Gd L lo T d := fun m keep => by
  obtain ⟨j, ψ, hj, hI, hψ⟩ := h.cut m keep
  have hsub : ∀ nm ∈ aft N (M.take j), nm ∈ N ++ mades M := fun nm hm => by
    have := DOk.aft_made (d := d) (n := j) (x := nm) (by rw [h.n, h.m]; exact hm)
    rwa [h.made] at this
  obtain ⟨k, k1, k2, k3⟩ := hc j ψ hj hsub fun nm hm => hψ nm (hsub nm hm)
  refine ⟨k, k1, k2, _, ψ, hI, fun nm hm => hT nm (hsub nm hm), ?_, k3⟩
  rw [List.length_take]; omega
section
variable {N : List ByteArray} {φ : ByteArray → DF} {n : Int} {p : Pl} {rs : List LR} {x : ByteArray} {L : List ByteArray} (h : LI N φ n p rs x L) (hfull : (φ (seg p.opn)).kept = (φ (seg p.opn)).data.size) {t T : Int}
include h
theorem LI.lo_full (hfull : (φ (seg p.opn)).kept = (φ (seg p.opn)).data.size) : L.length ≤ rs.length + (frames (x.extract 0 (φ (seg p.opn)).kept.toNat)).1.length := by
  rw [hfull, h.data.2, Int.toNat_natCast, ext_all, h.len]; exact Nat.le_refl _
include hfull
end
end Go.V
set_option linter.unusedSimpArgs false
namespace Go.V
open Go.Proofs
section
variable {N : List ByteArray} {φ : ByteArray → DF} {n : Int} {p : Pl} {rs : List LR} {x : ByteArray} {L : List ByteArray} (h : LI N φ n p rs x L) (hfull : (φ (seg p.opn)).kept = (φ (seg p.opn)).data.size) {t T : Int}
include h hfull
end
abbrev gn (nm : ByteArray) : DM := ⟨true, nm⟩
end Go.V
set_option linter.unusedSimpArgs false
namespace Go.V
open Go.Proofs
/-! An act on a log that is played. -/
/-- A log that is whole. -/
def InvW (d : Dk) (L : List ByteArray) (lo : Nat) (T : Int) : Prop := ∃ N φ n p rs x, Is d N [] φ ∧ (∀ nm ∈ N, vN nm ≤ T) ∧ (L.length : Int) ≤ T ∧ LI N φ n p rs x L ∧ lo ≤ rs.length + (frames (x.extract 0 (φ (seg p.opn)).kept.toNat)).1.length ∧ (frames x).2 = x.size
/-- .. and all that is there is its. -/
def Neat (d : Dk) (L : List ByteArray) (T : Int) : Prop := ∃ N φ n p rs x, Is d N [] φ ∧ (∀ nm ∈ N, vN nm ≤ T) ∧ (L.length : Int) ≤ T ∧ LI N φ n p rs x L ∧ (∀ nm ∈ N, (φ nm).kept = (φ nm).data.size) ∧ (frames x).2 = x.size ∧ ∀ nm ∈ N, nm ∈ ours (lsOf n p rs x)
theorem Neat.whole {d : Dk} {L : List ByteArray} {T : Int} (h : Neat d L T) : InvW d L L.length T := by
  obtain ⟨N, φ, n, p, rs, x, h1, h2, h3, h4, h5, h6, h7⟩ := h
  exact ⟨N, φ, n, p, rs, x, h1, h2, h3, h4, h4.lo_full (h5 _ h4.data.1), h6⟩
theorem Gd.more {L : List ByteArray} {lo : Nat} {T T' : Int} {d : Dk} {s : ByteArray} (h : Gd L lo T d) (hT : T ≤ T') : Gd (L ++ [s]) lo T' d := fun m keep => by
  obtain ⟨k, h1, h2, N, φ, g1, g2, g3, g4⟩ := h m keep
  refine ⟨k, h1, by rw [List.length_append]; omega, N, φ, g1, fun nm hm => by have := g2 nm hm; omega, ?_, ?_⟩
  · rw [List.take_append_of_le_length h2]; omega
  · rw [List.take_append_of_le_length h2]; exact g4
theorem Gd.up {L : List ByteArray} {lo : Nat} {T T' : Int} {d : Dk} (h : Gd L lo T d) (hT : T ≤ T') : Gd L lo T' d := fun m keep => by
  obtain ⟨k, h1, h2, N, φ, g1, g2, g3, g4⟩ := h m keep
  exact ⟨k, h1, h2, N, φ, g1, fun nm hm => by have := g2 nm hm; omega, by omega, g4⟩
theorem LI.add {N : List ByteArray} {φ : ByteArray → DF} {n : Int} {p : Pl} {rs : List LR} {x : ByteArray} {L : List ByteArray} (h : LI N φ n p rs x L) (hx : (frames x).2 = x.size) {s : ByteArray} (hr : recOk ⟨p.first + (frames x).1.length, s⟩ = true) :
    LI N (upF φ (seg p.opn) ⟨seg p.opn, (φ (seg p.opn)).data ++ frB ⟨p.first + (frames x).1.length, s⟩, (φ (seg p.opn)).kept⟩) n p rs (x ++ frB ⟨p.first + (frames x).1.length, s⟩) (L ++ [s]) ∧ frames (x ++ frB ⟨p.first + (frames x).1.length, s⟩) = ((frames x).1 ++ [⟨p.first + (frames x).1.length, s⟩], (x ++ frB ⟨p.first + (frames x).1.length, s⟩).size) := by
  obtain ⟨ha, hf⟩ := h.here.append hx hr rfl
  have hfa := frames_app hx hr
  have hsz : (x ++ frB ⟨p.first + (frames x).1.length, s⟩).size = x.size + (s.size + 5) := by rw [ByteArray.size_append, frB_size]
  generalize hR : (⟨p.first + (frames x).1.length, s⟩ : LR) = R at *
  have e : vw N (upF φ (seg p.opn) ⟨seg p.opn, (φ (seg p.opn)).data ++ frB R, (φ (seg p.opn)).kept⟩) = eff ⟨2, seg p.opn, frB R⟩ (vw N φ) := funext fun nm => by
    have e2 : eff ⟨2, seg p.opn, frB R⟩ (vw N φ) nm = if nm = seg p.opn then (vw N φ nm).map (· ++ frB R) else vw N φ nm := rfl
    rw [e2]
    unfold vw upF
    by_cases g : nm = seg p.opn
    · rw [if_pos g, if_pos g, g]
      split <;> rfl
    · rw [if_neg g, if_neg g]
  refine ⟨⟨by rw [e]; exact ha, ?_, h.first, fun nm hm hn => ?_⟩, ?_⟩
  · rw [hf, ← List.append_assoc, h.recs, recsL_snoc, ← hR]
    congr 2
    rw [LR.mk.injEq]
    refine ⟨?_, rfl⟩
    rw [h.first, h.len]; omega
  · rw [upF_ne hn]; exact h.kept nm hm hn
  · rw [hfa, hsz, ← hR]
end Go.V
set_option linter.unusedSimpArgs false
namespace Go.V
open Go.Proofs
theorem LI.torn {N : List ByteArray} {φ : ByteArray → DF} {n : Int} {p : Pl} {rs : List LR} {x : ByteArray} {L : List ByteArray} (_h : LI N φ n p rs x L) : (lsOf n p rs x).torn = false ↔ (frames x).2 = x.size := by
  have := (frames_le x).1
  show decide (((frames x).2 : Int) < x.size) = false ↔ _
  rw [decide_eq_false_iff_not]
  omega
theorem Is.opn {d : Dk} {N : List ByteArray} {φ : ByteArray → DF} {n : Int} {p : Pl} {rs : List LR} {x : ByteArray} {L : List ByteArray} (hd : Is d N [] φ) (h : LI N φ n p rs x L) : opn d = lsOf n p rs x ∧ x.size ≤ 20000 := by
  have hl : LogAt (Go.V.lk d) n p rs x := by rw [hd.vw]; exact h.here
  refine ⟨opn_of hl, ?_⟩
  have := (hd.good (nm := seg p.opn) (hd.mem h.data.1)).1
  rwa [h.data.2] at this
section
variable {d : Dk} {N : List ByteArray} {φ : ByteArray → DF} {n : Int} {p : Pl} {rs : List LR} {x : ByteArray} {L : List ByteArray} {lo : Nat} {T : Int} (hd : Is d N [] φ) (h : LI N φ n p rs x L) (hlo : lo ≤ rs.length + (frames (x.extract 0 (φ (seg p.opn)).kept.toNat)).1.length) (hT : ∀ nm ∈ N, vN nm ≤ T) (hL : (L.length : Int) ≤ T)
include hd h hlo hT hL
end
end Go.V

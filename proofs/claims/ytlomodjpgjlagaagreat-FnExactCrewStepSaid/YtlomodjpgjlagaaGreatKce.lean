/- It is proved that the law FnExactCrewStep returns true for all arguments and leaves its arguments as they were; no condition. -/
import Derived.Test.YtlomodjpgjlagaaGreatSCE
import Derived.WalkKit
import Derived.ProofKit
import Derived.OpenShut
import Derived.ChangeSlices
import Derived.ChangeArms
import Derived.ChangeReads
import Derived.WideShapes
import Derived.Test.YtlomodjpgjlagaaGreatRows
set_option linter.unusedSimpArgs false
namespace Go.V
open Go.Proofs Go.ChangeShapes Go.WideShapes Go.ChangeAt Go.RowKit
/-- All that is there at the start stays. -/
def Stays (W W' : World) : Prop := W'.os = W.os ∧ W'.output = W.output ∧ ∀ b, b < W.heap.size → W'.heap[b]? = W.heap[b]?
theorem Stays.kept {W W' : World} (h : Stays W W') (may : MemPlace → Prop) : W.keptBut W' may := by
  refine ⟨h.1, h.2.1, fun i hi => ?_⟩
  rw [h.2.2 i hi]
  cases W.heap[i]? with
  | none => trivial
  | some o => cases o <;> simp
abbrev oldImm (W : World) : Imm := fun b _ => b < W.heap.size
/-- A law whose arguments are only read. -/
theorem calls_true {P : Program} {f : FuncId} {args : List T} {W : World} {vs : List Value} (hC : ACallsF P f args [] (.b true)) (hT : TsRep W (oldImm W) (hinOf []) (fun _ => none) (· < 0) vs args) :
    Calls P f vs.toArray W fun e W' => e = .returned (.bool true) ∧ Stays W W' := by
  have hH : HOk W (oldImm W) (hinOf []) (fun _ => none) (· < 0) := ⟨fun n B h => by simp [hinOf, renN] at h, fun n m g h => by simp [hinOf, renN] at h, fun b o h => h⟩
  refine (hC.2 W (oldImm W) (fun _ => none) 0 vs hH hT).mono fun e W' ⟨x, r, h, imm', L', c', he, ⟨ν, hr, _⟩, hx, _, hS, _, _⟩ => ?_
  subst hr
  have hx : x = .bool true := rep_s (y := .bool true) hx
  subst hx
  exact ⟨he, hS.os, hS.output, fun b hb => hS.frame b hb fun ⟨n, h1, _⟩ => h1 (by simp [hinOf, renN])⟩
theorem post_same {P : Program} {H : Type} {enc : TypeId × Value → H} {f : Func} {s : ChangeSpec} {apart fresh handsOn : Bool} {W W' : World} {args : Array Value} {v : Value} {ds gs : List (DataW H)} {before pa pv : List MemPlace}
    (hW : DataW.Whole enc P f.params.toList s.vars apart W args.toList ds gs before)
    (hres : ∀ (b : Nat) (sp : Nat → Bool) (hd : Bool), DataW.TrodAll enc P W' b sp hd f.resultTypes.toList (v.resultList f.resultTypes.size) (s.fn H (ds ++ gs)).results [])
    (hargs : ∀ sp : Nat → Bool, (∀ p ∈ before, sp p.block = true) → DataW.TrodAll enc P W' 0 sp true f.params.toList args.toList (s.fn H (ds ++ gs)).args pa)
    (hvars : ∀ sp : Nat → Bool, (∀ p ∈ before, sp p.block = true) → DataW.TrodVars enc P W' sp s.vars (s.fn H (ds ++ gs)).vars pv)
    (hps : before = pa ++ pv) (hk : Stays W W') : s.post enc P f apart fresh handsOn false W args v W' := by
  have hold : ∀ p ∈ before, (fun b => decide (b < W.heap.size)) p.block = true := fun p hp => by simpa using hW.lt p hp
  refine ⟨ds, gs, before, [], pa, pv, hW, hres _ _ _, hargs _ hold, hvars _ hold, World.keptBut_mono (fun p hp => ⟨hp, ?_⟩) (hk.kept (· ∈ before)), fun h => by cases h⟩
  rw [hps, List.mem_append] at hp
  exact Or.inr hp
/-- The fields lie one behind the other. -/
def Tiled (P : Program) : Nat → List Field → Nat → Prop
  | o, [], n => o = n
  | o, f :: fs, n => f.offset = o ∧ Tiled P (o + P.cellsOf f.type) fs n
theorem Tiled.le {P : Program} : ∀ (fs : List Field) (o n : Nat), Tiled P o fs n → o ≤ n ∧ ∀ f ∈ fs, o ≤ f.offset
  | [], o, n, h => ⟨by simp [Tiled] at h; omega, by simp⟩
  | f :: fs, o, n, ⟨h1, h2⟩ => by
    obtain ⟨g1, g2⟩ := Tiled.le fs _ _ h2
    refine ⟨by omega, fun x hx => ?_⟩
    rcases List.mem_cons.1 hx with rfl | hx
    · omega
    · have := g2 x hx; omega
/-- What is had of each field is had of the whole. -/
theorem tile_list {P : Program} (R : Value → V → Prop) (Q : TypeId → List V → Prop) {cs : List Value} : ∀ (fs : List Field) (o n : Nat), Tiled P o fs n → cs.length = n →
    (∀ f ∈ fs, ∃ vs, vs.length = ((cs.drop f.offset).take (P.cellsOf f.type)).length ∧ Q f.type vs ∧ ∀ (k : Nat) u y, ((cs.drop f.offset).take (P.cellsOf f.type))[k]? = some u → vs[k]? = some y → R u y) →
    ∃ vs : List V, vs.length + o = n ∧ (∀ (k : Nat) u y, cs[o + k]? = some u → vs[k]? = some y → R u y) ∧ ∀ f ∈ fs, Q f.type ((vs.drop (f.offset - o)).take (P.cellsOf f.type))
  | [], o, n, h, hl, _ => ⟨[], by simp [Tiled] at h; simp [h], fun k u y _ hy => by simp at hy, by simp⟩
  | f :: fs, o, n, ⟨h1, h2⟩, hl, hf => by
    obtain ⟨vs, g1, g2, g3⟩ := hf f (by simp)
    obtain ⟨ws, r1, r2, r3⟩ := tile_list R Q fs (o + P.cellsOf f.type) n h2 hl fun x hx => hf x (by simp [hx])
    have hle := (Tiled.le fs _ _ h2).1
    have hvl : vs.length = P.cellsOf f.type := by rw [g1, List.length_take, List.length_drop, h1, hl]; omega
    refine ⟨vs ++ ws, by simp; omega, fun k u y hu hy => ?_, fun x hx => ?_⟩
    · by_cases hk : k < vs.length
      · rw [List.getElem?_append_left hk] at hy
        refine g3 k u y ?_ hy
        rw [List.getElem?_take, if_pos (by omega), List.getElem?_drop, h1]; exact hu
      · rw [List.getElem?_append_right (by omega)] at hy
        refine r2 (k - vs.length) u y ?_ hy
        rw [← hu]; congr 1; omega
    · rcases List.mem_cons.1 hx with rfl | hx
      · rw [h1, Nat.sub_self, List.drop_zero, ← hvl, List.take_left]; exact g2
      · have hx2 := (Tiled.le fs _ _ h2).2 x hx
        have := r3 x hx
        rw [List.drop_append, List.drop_of_length_le (by omega), List.nil_append, hvl]
        rw [show x.offset - o - P.cellsOf f.type = x.offset - (o + P.cellsOf f.type) by omega]; exact this
/-- The types of plain data: numbers, texts, flags, rows and structs of them. -/
structure Plain (P : Program) (S : TypeId → Prop) : Prop where
  kind : ∀ t, S t → P.underlying t = some .bool ∨ (∃ k, P.underlying t = some (.int k)) ∨ P.underlying t = some .string ∨ (∃ e, P.underlying t = some (.slice e) ∧ S e ∧ 0 < P.cellsOf e) ∨ ∃ fs, P.underlying t = some (.struct fs) ∧ (∀ f ∈ fs.toList, S f.type) ∧ Tiled P 0 fs.toList (P.cellsOf t)
/-- Closed cells that are of a type. -/
inductive VT (P : Program) : TypeId → List V → Prop
  | bool (t : TypeId) (b : Bool) (h : P.underlying t = some .bool) : VT P t [.s (.bool b)]
  | int (t : TypeId) (k : IntKind) (n : Int) (h : P.underlying t = some (.int k)) (hw : (Lit.int k n).wf = true) : VT P t [.s (.int k n)]
  | str (t : TypeId) (s : ByteArray) (h : P.underlying t = some .string) (hs : s.size ≤ maxLen) : VT P t [.s (.string s)]
  | sl (t e : TypeId) (es : List (List V)) (h : P.underlying t = some (.slice e)) (hl : es.length ≤ maxLen) (he : ∀ x ∈ es, VT P e x) : VT P t [.sl es]
  | st (t : TypeId) (fs : Array Field) (cs : List V) (h : P.underlying t = some (.struct fs)) (hl : cs.length = P.cellsOf t) (hf : ∀ f ∈ fs.toList, VT P f.type ((cs.drop f.offset).take (P.cellsOf f.type))) : VT P t cs
theorem cells_at {w : World} {base : Nat} {a : Addr} {n : Nat} {cs : List Value} (h : w.cells? base a n = some cs) : cs.length = n ∧ ∀ i, i < n → ∃ u, cs[i]? = some u ∧ w.cell? (a.add i) = some u := by
  unfold World.cells? at h
  split at h
  · have hl : cs.length = n := by simpa using mapM_some_length h
    refine ⟨hl, fun i hi => ?_⟩
    obtain ⟨u, hu⟩ : ∃ u, cs[i]? = some u := ⟨_, List.getElem?_eq_getElem (by omega)⟩
    have := mapM_some_get h i i (by simp [hi])
    exact ⟨u, hu, by rw [this, hu]⟩
  · cases h
theorem cell_plain {w : World} {a : Addr} {u : Value} (h : w.cell? a = some u) : a = ⟨a.block, a.off, none⟩ ∧ a.block < w.heap.size := by
  unfold World.cell? at h
  split at h
  · rename_i c ty fr hh
    split at h
    · cases h
    · rename_i hs
      refine ⟨?_, heap_lt hh⟩
      obtain ⟨b, o, s⟩ := a
      simp at hs
      subst hs; rfl
  · cases h
theorem pick_list {α : Type} (P : Nat → α → Prop) : ∀ n, (∀ i, i < n → ∃ o, P i o) → ∃ outs : List α, outs.length = n ∧ ∀ (i : Nat) o, outs[i]? = some o → P i o
  | 0, _ => ⟨[], rfl, fun i o h => by simp at h⟩
  | n + 1, h => by
    obtain ⟨outs, h1, h2⟩ := pick_list P n fun i hi => h i (by omega)
    obtain ⟨o, ho⟩ := h n (by omega)
    refine ⟨outs ++ [o], by simp [h1], fun i o' hi => ?_⟩
    rcases Nat.lt_or_ge i n with hin | hin
    · rw [List.getElem?_append_left (by omega)] at hi; exact h2 i o' hi
    · rw [List.getElem?_append_right (by omega)] at hi
      have : i - outs.length = 0 := by
        have := (List.getElem?_eq_some_iff.1 hi).1
        simp at this; omega
      rw [this] at hi
      simp at hi
      have e : i = n := by omega
      rw [e, ← hi]; exact ho
section
variable {H : Type} {enc : TypeId × Value → H} {P : Program} {w : World} {held : Bool} {S : TypeId → Prop}
/-- What is read of plain data is closed values. -/
theorem open_plain (hP : Plain P S) : ∀ (n : Nat) (t : TypeId) (cs : List Value) (x : DataW H × List MemPlace), S t → DataW.trod enc P w 0 (fun _ => true) held n t cs = some x →
    ∃ vs : List V, vs.length = cs.length ∧ VT P t vs ∧ ∀ (k : Nat) u y, cs[k]? = some u → vs[k]? = some y → VRep w (oldImm w) u y := by
  intro n
  induction n with
  | zero => intro t cs x _ h; simp [DataW.trod] at h
  | succ n ih =>
    intro t cs x hS h
    have one : ∀ {u : Value} {y : V}, VRep w (oldImm w) u y → ∀ (k : Nat) u' y', [u][k]? = some u' → [y][k]? = some y' → VRep w (oldImm w) u' y' := fun hv k u' y' h1 h2 => by
      cases k with
      | zero => simp at h1 h2; subst h1 h2; exact hv
      | succ k => simp at h1
    rcases hP.kind t hS with ht | ⟨k, ht⟩ | ht | ⟨e, ht, hSe, hpos⟩ | ⟨fs, ht, hSf⟩
    · obtain ⟨b, rfl, -⟩ := DataW.trod_bool ht h
      exact ⟨[.s (.bool b)], rfl, .bool t b ht, one (.s _ rfl)⟩
    · obtain ⟨m, rfl, -, hw⟩ := DataW.trod_int ht h
      exact ⟨[.s (.int k m)], rfl, .int t k m ht hw, one (.s _ rfl)⟩
    · obtain ⟨s, rfl, -, hs⟩ := DataW.trod_string ht h
      exact ⟨[.s (.string s)], rfl, .str t s ht hs, one (.s _ rfl)⟩
    · rcases DataW.trod_slice ht h with ⟨rfl, -⟩ | ⟨a, len, cap, elems, rest, n', hn, rfl, -, -, hlc, hcm, hel, hget, -, -⟩
      · exact ⟨[.sl []], rfl, .sl t e [] ht (Nat.zero_le _) (fun x hx => by cases hx), one (.nil _ _)⟩
      · cases hn
        obtain ⟨es, hesl, hes⟩ := pick_list (fun i vs => ∃ cs', w.cells? 0 (a.add (i * P.cellsOf e)) (P.cellsOf e) = some cs' ∧ vs.length = cs'.length ∧ VT P e vs ∧ ∀ (k : Nat) u y, cs'[k]? = some u → vs[k]? = some y → VRep w (oldImm w) u y) len (fun i hi => by
          have h1 := hget i hi
          obtain ⟨z, hz⟩ : ∃ z, elems[i]? = some z := ⟨_, List.getElem?_eq_getElem (by omega)⟩
          rw [hz, Option.bind_eq_some_iff] at h1
          obtain ⟨cs', h2, h3⟩ := h1
          obtain ⟨vs, g1, g2, g3⟩ := ih e cs' z hSe h3
          exact ⟨vs, cs', h2, g1, g2, g3⟩)
        refine ⟨[.sl es], rfl, .sl t e es ht (by omega) (fun x hx => ?_), one ?_⟩
        · obtain ⟨i, hi⟩ := List.mem_iff_getElem?.1 hx
          obtain ⟨_, _, _, h4, _⟩ := hes i x hi
          exact h4
        · by_cases h0 : len = 0
          · have : es = [] := List.length_eq_zero_iff.1 (by omega)
            subst this h0
            exact .nil _ _
          · have hadd : ∀ i j : Nat, i < len → j < P.cellsOf e → ∃ u, w.cell? ((a.add (i * P.cellsOf e)).add j) = some u := fun i j hi hj => by
              obtain ⟨v, hv⟩ : ∃ v, es[i]? = some v := ⟨_, List.getElem?_eq_getElem (by omega)⟩
              obtain ⟨cs', h2, _⟩ := hes i v hv
              obtain ⟨u, _, h5⟩ := (cells_at h2).2 j hj
              exact ⟨u, h5⟩
            have ha : a = ⟨a.block, a.off, none⟩ ∧ a.block < w.heap.size := by
              obtain ⟨u, hu⟩ := hadd 0 0 (by omega) hpos
              have e0 : (a.add (0 * P.cellsOf e)).add 0 = a := by simp [Addr.add]
              rw [e0] at hu
              exact cell_plain hu
            obtain ⟨ha1, ha2⟩ := ha
            have hst : ∀ v ∈ es, v.length = P.cellsOf e := fun v hv => by
              obtain ⟨i, hi⟩ := List.mem_iff_getElem?.1 hv
              obtain ⟨cs', h2, h3, _⟩ := hes i v hi
              rw [h3, (cells_at h2).1]
            have hcell : ∀ i j y, at2 es i j = some y → ∃ u, w.cell? ⟨a.block, a.off + i * P.cellsOf e + j, none⟩ = some u ∧ VRep w (oldImm w) u y := fun i j y hy => by
              rw [at2, Option.bind_eq_some_iff] at hy
              obtain ⟨v, hv, hj⟩ := hy
              obtain ⟨cs', h2, h3, _, h5⟩ := hes i v hv
              have hjl : j < P.cellsOf e := by rw [← hst v (List.mem_of_getElem? hv)]; exact (List.getElem?_eq_some_iff.1 hj).1
              obtain ⟨u, h6, h7⟩ := (cells_at h2).2 j hjl
              have eadd : (a.add (i * P.cellsOf e)).add j = ⟨a.block, a.off + i * P.cellsOf e + j, none⟩ := by
                rw [ha1, add_eq, add_eq]
              rw [eadd] at h7
              exact ⟨u, h7, h5 j u y h6 hj⟩
            rw [ha1, ← hesl]
            refine .sl es (P.cellsOf e) a.block a.off cap (fun i j => (w.cell? ⟨a.block, a.off + i * P.cellsOf e + j, none⟩).getD .nilIface) hpos (fun hq => h0 (by rw [← hesl, hq]; rfl)) (by omega) hst (fun i j y hy => ?_) fun i j y hy => ?_
            · obtain ⟨u, h1, _⟩ := hcell i j y hy
              rw [h1]; exact ⟨rfl, ha2⟩
            · obtain ⟨u, h1, h2⟩ := hcell i j y hy
              simp only [h1, Option.getD_some]; exact h2
    · obtain ⟨xs, m, hm, rfl, hl, hxl, hf⟩ := DataW.trod_struct ht h
      cases hm
      obtain ⟨hSf, hT⟩ := hSf
      obtain ⟨vs, h1, h2, h3⟩ := tile_list (fun u y => VRep w (oldImm w) u y) (VT P) fs.toList 0 _ hT hl fun f hfm => by
        obtain ⟨i, hi⟩ := List.mem_iff_getElem?.1 hfm
        have hil := (List.getElem?_eq_some_iff.1 hi).1
        obtain ⟨z, hz⟩ : ∃ z, xs[i]? = some z := ⟨_, List.getElem?_eq_getElem (by simpa [hxl] using hil)⟩
        have := hf i f (by simpa using hi)
        rw [hz] at this
        obtain ⟨vs, q1, q2, q3⟩ := ih f.type _ z (hSf f hfm) this
        exact ⟨vs, q1, q2, q3⟩
      exact ⟨vs, by omega, .st t fs vs ht (by omega) (by simpa using h3), fun k u y hu hy => h2 k u y (by simpa using hu) hy⟩
/-- It is read again where all that was there stayed. -/
theorem trod_sp (hP : Plain P S) {sp : Nat → Bool} : ∀ (n : Nat) (t : TypeId) (cs : List Value) (x : DataW H × List MemPlace), S t → DataW.trod enc P w 0 (fun _ => true) held n t cs = some x → (∀ p ∈ x.2, sp p.block = true) → DataW.trod enc P w 0 sp held n t cs = some x := by
  intro n
  induction n with
  | zero => intro t cs x _ h; simp [DataW.trod] at h
  | succ n ih =>
    intro t cs x hS h hs
    rcases hP.kind t hS with ht | ⟨k, ht⟩ | ht | ⟨e, ht, hSe, hpos⟩ | ⟨fs, ht, hSf⟩
    · obtain ⟨b, rfl, rfl⟩ := DataW.trod_bool ht h
      simp [DataW.trod, ht]
    · obtain ⟨m, rfl, rfl, hw⟩ := DataW.trod_int ht h
      simp [DataW.trod, ht, hw]
    · obtain ⟨s, rfl, rfl, hw⟩ := DataW.trod_string ht h
      simp [DataW.trod, ht, hw]
    · rw [DataW.trod_step] at h ⊢
      unfold DataW.trodStep at h ⊢
      rw [ht] at h ⊢
      split at h <;> try (exfalso; simp_all; done)
      · exact h
      · rename_i e' a len cap he
        cases he
        simp only at h ⊢
        split at h
        · rename_i hc
          rw [if_pos hc]
          simp only [if_true, Option.map_eq_some_iff, Option.bind_eq_some_iff] at h ⊢
          obtain ⟨elems, he, rest, hrest, rfl⟩ := h
          refine ⟨elems, mapM_carry he (fun i y _ hy hv => ?_), ?_⟩
          · rw [Option.bind_eq_some_iff] at hv ⊢
            obtain ⟨cs', h1, h2⟩ := hv
            exact ⟨cs', h1, ih e cs' y hSe h2 fun p hp => hs p (by simp only [List.mem_append, List.mem_flatMap]; exact Or.inr ⟨y, Or.inl hy, hp⟩)⟩
          · have hel : elems.length = len := by simpa using mapM_some_length he
            have hrl : rest.length = cap - len := by simpa using mapM_some_length hrest
            by_cases h0 : cap = 0
            · have : rest = [] := List.length_eq_zero_iff.1 (by omega)
              subst this
              refine ⟨[], ?_, rfl⟩
              have e0 : cap - len = 0 := by omega
              rw [e0]; cases sp a.block <;> rfl
            · have hsp : sp a.block = true := hs (.cell a.block (a.off + 0)) (by
                simp only [List.mem_append]
                refine Or.inl (MemPlace.mem_row.2 ⟨0, Nat.mul_pos (by omega) hpos, rfl⟩))
              rw [hsp, if_pos rfl]
              refine ⟨rest, mapM_carry hrest (fun i y _ hy hv => ?_), rfl⟩
              rw [Option.bind_eq_some_iff] at hv ⊢
              obtain ⟨cs', h1, h2⟩ := hv
              exact ⟨cs', h1, ih e cs' y hSe h2 fun p hp => hs p (by simp only [List.mem_append, List.mem_flatMap]; exact Or.inr ⟨y, Or.inr hy, hp⟩)⟩
        · cases h
    · rw [DataW.trod_step] at h ⊢
      unfold DataW.trodStep at h ⊢
      rw [ht] at h ⊢
      simp only at h ⊢
      split at h
      · rename_i hc
        rw [if_pos hc]
        simp only [Option.map_eq_some_iff] at h ⊢
        obtain ⟨xs, h1, rfl⟩ := h
        exact ⟨xs, mapM_carry h1 (fun f y hf hy hv => ih f.type _ y (hSf.1 f hf) hv fun p hp => hs p (by simp only [List.mem_flatMap]; exact ⟨y, hy, hp⟩)), rfl⟩
      · cases h
theorem Stays.same {w w' : World} (h : Stays w w') : ∀ p : MemPlace, p.block < w.heap.size → w.sameAt w' p := by
  intro p hp
  cases p with
  | cell b i =>
    show w'.cell? _ = w.cell? _
    unfold World.cell?
    rw [h.2.2 b hp]
  | map b => exact h.2.2 b hp
theorem reread (hP : Plain P S) {sp : Nat → Bool} {w' : World} {n : Nat} {t : TypeId} {cs : List Value} {x : DataW H × List MemPlace} (hS : S t) (h : DataW.trod enc P w 0 (fun _ => true) held n t cs = some x) (hw : ∀ p ∈ x.2, p.block < w.heap.size) (hst : Stays w w') (hs : ∀ p ∈ x.2, sp p.block = true) :
    DataW.trod enc P w' 0 sp held n t cs = some x :=
  trod_sp hP n t cs x hS (DataW.trod_carry n t cs x h fun p hp => hst.same p (hw p hp)) hs
end
end Go.V
set_option linter.unusedSimpArgs false
namespace Go.V
open Go.Proofs Go.ChangeShapes Go.WideShapes Go.ChangeAt Go.RowKit
section
variable {H : Type} {enc : TypeId × Value → H} {P : Program} {w : World} {S : TypeId → Prop}
/-- A struct of plain data, as an argument. -/
theorem open_st (hP : Plain P S) {t : TypeId} {fs : Array Field} {v : Value} {d : DataW H} {p : List MemPlace} {base : Nat} (hS : S t) (ht : P.underlying t = some (.struct fs)) (hv : Value.okWide P w .any base t v)
    (h : DataW.Trod enc P w 0 (fun _ => true) true t v d p) (hlt : ∀ q ∈ p, q.block < w.heap.size) :
    ∃ vs, VT P t vs ∧ (∀ H L U, TRep w (oldImm w) H L U v (.pt (.agg (vs.map C.v)))) ∧ ∀ W', Stays w W' → ∀ sp : Nat → Bool, (∀ q ∈ p, sp q.block = true) → DataW.Trod enc P W' 0 sp true t v d p := by
  obtain ⟨cs, rfl, hcs⟩ := okWide_struct ht hv
  obtain ⟨n, hn⟩ := h
  obtain ⟨vs, h1, h2, h3⟩ := open_plain hP n t _ _ hS hn
  have h1 : vs.length = cs.toList.length := h1
  refine ⟨vs, h2, fun H L U => ⟨cs.toList, rfl, by simp [h1], fun k u y hu hy => ?_⟩, fun W' hst sp hsp => ⟨n, reread hP hS hn hlt hst hsp⟩⟩
  rw [List.getElem?_map, Option.map_eq_some_iff] at hy
  obtain ⟨z, hz, rfl⟩ := hy
  exact h3 k u z hu hz
/-- A single cell of plain data, as an argument. -/
theorem open_one (hP : Plain P S) {t : TypeId} {v : Value} {d : DataW H} {p : List MemPlace} (hS : S t) (hv : v.cells = #[v])
    (h : DataW.Trod enc P w 0 (fun _ => true) true t v d p) (hlt : ∀ q ∈ p, q.block < w.heap.size) :
    ∃ y, VT P t [y] ∧ (∀ H L U, TRep w (oldImm w) H L U v (.c (.v y))) ∧ ∀ W', Stays w W' → ∀ sp : Nat → Bool, (∀ q ∈ p, sp q.block = true) → DataW.Trod enc P W' 0 sp true t v d p := by
  obtain ⟨n, hn⟩ := h
  have hn' := hn
  rw [hv] at hn'
  obtain ⟨vs, h1, h2, h3⟩ := open_plain hP n t _ _ hS hn'
  match vs, h1 with
  | [y], _ => exact ⟨y, h2, fun H L U => h3 0 v y rfl rfl, fun W' hst sp hsp => ⟨n, reread hP hS hn hlt hst hsp⟩⟩
end
section
variable {P : Program} {t : TypeId} {cs : List V}
theorem VT.int_inv {k : IntKind} (ht : P.underlying t = some (.int k)) (h : VT P t cs) : ∃ n, cs = [.s (.int k n)] ∧ (Lit.int k n).wf = true := by
  cases h <;> simp_all
theorem VT.bool_inv (ht : P.underlying t = some .bool) (h : VT P t cs) : ∃ b, cs = [.s (.bool b)] := by
  cases h <;> simp_all
theorem VT.str_inv (ht : P.underlying t = some .string) (h : VT P t cs) : ∃ s, cs = [.s (.string s)] ∧ s.size ≤ 9223372036854775807 := by
  cases h <;> simp_all [maxLen]
theorem VT.sl_inv {e : TypeId} (ht : P.underlying t = some (.slice e)) (h : VT P t cs) : ∃ es, cs = [.sl es] ∧ es.length ≤ 9223372036854775807 ∧ ∀ x ∈ es, VT P e x := by
  cases h <;> simp_all [maxLen]
theorem VT.st_inv {fs : Array Field} (ht : P.underlying t = some (.struct fs)) (h : VT P t cs) : cs.length = P.cellsOf t ∧ ∀ f ∈ fs.toList, VT P f.type ((cs.drop f.offset).take (P.cellsOf f.type)) := by
  cases h <;> simp_all
end
/-- Rows of elements are read as rows of what they tell. -/
theorem en_of {α : Type} (e : α → List V) (Q : α → Prop) : ∀ es : List (List V), (∀ x ∈ es, ∃ y, x = e y ∧ Q y) → ∃ ys : List α, es = en e ys ∧ ∀ y ∈ ys, Q y
  | [], _ => ⟨[], rfl, by simp⟩
  | x :: es, h => by
    obtain ⟨y, rfl, hy⟩ := h x (by simp)
    obtain ⟨ys, rfl, hys⟩ := en_of e Q es fun z hz => h z (by simp [hz])
    refine ⟨y :: ys, rfl, fun z hz => ?_⟩
    rcases List.mem_cons.1 hz with rfl | hz
    · exact hy
    · exact hys z hz
theorem cl45 : Tryz.prog.cellsOf 45 = 18 := by kernel_rfl
theorem cl102 : Tryz.prog.cellsOf 102 = 2 := by kernel_rfl
theorem cl46 : Tryz.prog.cellsOf 46 = 2 := by kernel_rfl
theorem cl23 : Tryz.prog.cellsOf 23 = 1 := by kernel_rfl
theorem cl43 : Tryz.prog.cellsOf 43 = 1 := by kernel_rfl
theorem cl3 : Tryz.prog.cellsOf 3 = 1 := by kernel_rfl
theorem cells_len2 {α : Type} {cs : List α} (h : cs.length = 2) : ∃ a b, cs = [a, b] := by
  match cs, h with
  | [a, b], _ => exact ⟨a, b, rfl⟩
theorem cells_len18 {α : Type} {cs : List α} (h : cs.length = 18) : ∃ a0 a1 a2 a3 a4 a5 a6 a7 a8 a9 a10 a11 a12 a13 a14 a15 a16 a17, cs = [a0, a1, a2, a3, a4, a5, a6, a7, a8, a9, a10, a11, a12, a13, a14, a15, a16, a17] := by
  match cs, h with
  | [a0, a1, a2, a3, a4, a5, a6, a7, a8, a9, a10, a11, a12, a13, a14, a15, a16, a17], _ => exact ⟨a0, a1, a2, a3, a4, a5, a6, a7, a8, a9, a10, a11, a12, a13, a14, a15, a16, a17, rfl⟩
theorem takeI {cs : List V} (h : VT Tryz.prog 3 cs) : ∃ n, cs = eI n := by
  obtain ⟨n, h, _⟩ := VT.int_inv Tryz.underlying3 h
  exact ⟨n, h⟩
theorem takeH {cs : List V} (h : VT Tryz.prog 102 cs) : ∃ f, cs = eH f := by
  obtain ⟨hl, hf⟩ := VT.st_inv Tryz.underlying102 h
  rw [cl102] at hl
  obtain ⟨a, b, rfl⟩ := cells_len2 hl
  have h1 := hf _ (List.mem_cons_self ..)
  have h2 := hf _ (List.mem_cons_of_mem _ (List.mem_cons_self ..))
  simp only [cl3] at h1 h2
  obtain ⟨n, e1⟩ := takeI h1
  obtain ⟨k, e2⟩ := takeI h2
  simp [eI] at e1 e2
  subst e1 e2
  exact ⟨⟨n, k⟩, rfl⟩
theorem takeM {cs : List V} (h : VT Tryz.prog 46 cs) : ∃ f, cs = eM f := by
  obtain ⟨hl, hf⟩ := VT.st_inv Tryz.underlying46 h
  rw [cl46] at hl
  obtain ⟨a, b, rfl⟩ := cells_len2 hl
  have h1 := hf _ (List.mem_cons_self ..)
  have h2 := hf _ (List.mem_cons_of_mem _ (List.mem_cons_self ..))
  simp only [cl3] at h1 h2
  obtain ⟨n, e1⟩ := takeI h1
  obtain ⟨k, e2⟩ := takeI h2
  simp [eI] at e1 e2
  subst e1 e2
  exact ⟨⟨n, k⟩, rfl⟩
theorem takeIs {cs : List V} (h : VT Tryz.prog 23 cs) : ∃ xs : List Int, cs = [.sl (en eI xs)] ∧ xs.length ≤ 9223372036854775807 := by
  obtain ⟨x, e, l, k⟩ := VT.sl_inv Tryz.underlying23 h
  obtain ⟨y, rfl, q⟩ := en_of eI (fun _ => True) x fun x hx => by
    obtain ⟨n, hn⟩ := takeI (k x hx)
    exact ⟨n, hn, trivial⟩
  rw [en_len] at l
  exact ⟨y, e, l⟩
theorem takeHs {cs : List V} (h : VT Tryz.prog 43 cs) : ∃ xs : List Hd, cs = [.sl (en eH xs)] ∧ xs.length ≤ 9223372036854775807 := by
  obtain ⟨x, e, l, k⟩ := VT.sl_inv Tryz.underlying43 h
  obtain ⟨y, rfl, q⟩ := en_of eH (fun _ => True) x fun x hx => by
    obtain ⟨n, hn⟩ := takeH (k x hx)
    exact ⟨n, hn, trivial⟩
  rw [en_len] at l
  exact ⟨y, e, l⟩
theorem takeW {cs : List V} (h : VT Tryz.prog 45 cs) : ∃ w : CW, cs.map C.v = cwC w ∧ ArgW w := by
  obtain ⟨hl, hf⟩ := VT.st_inv Tryz.underlying45 h
  rw [cl45] at hl
  obtain ⟨a0, a1, a2, a3, a4, a5, a6, a7, a8, a9, a10, a11, a12, a13, a14, a15, a16, a17, rfl⟩ := cells_len18 hl
  have h0 := hf _ (List.mem_cons_self ..)
  have h1 := hf _ (List.mem_cons_of_mem _ (List.mem_cons_self ..))
  have h2 := hf _ (List.mem_cons_of_mem _ (List.mem_cons_of_mem _ (List.mem_cons_self ..)))
  have h3 := hf _ (List.mem_cons_of_mem _ (List.mem_cons_of_mem _ (List.mem_cons_of_mem _ (List.mem_cons_self ..))))
  have h4 := hf _ (List.mem_cons_of_mem _ (List.mem_cons_of_mem _ (List.mem_cons_of_mem _ (List.mem_cons_of_mem _ (List.mem_cons_self ..)))))
  have h5 := hf _ (List.mem_cons_of_mem _ (List.mem_cons_of_mem _ (List.mem_cons_of_mem _ (List.mem_cons_of_mem _ (List.mem_cons_of_mem _ (List.mem_cons_self ..))))))
  have h6 := hf _ (List.mem_cons_of_mem _ (List.mem_cons_of_mem _ (List.mem_cons_of_mem _ (List.mem_cons_of_mem _ (List.mem_cons_of_mem _ (List.mem_cons_of_mem _ (List.mem_cons_self ..)))))))
  have h7 := hf _ (List.mem_cons_of_mem _ (List.mem_cons_of_mem _ (List.mem_cons_of_mem _ (List.mem_cons_of_mem _ (List.mem_cons_of_mem _ (List.mem_cons_of_mem _ (List.mem_cons_of_mem _ (List.mem_cons_self ..))))))))
  have h8 := hf _ (List.mem_cons_of_mem _ (List.mem_cons_of_mem _ (List.mem_cons_of_mem _ (List.mem_cons_of_mem _ (List.mem_cons_of_mem _ (List.mem_cons_of_mem _ (List.mem_cons_of_mem _ (List.mem_cons_of_mem _ (List.mem_cons_self ..)))))))))
  have h9 := hf _ (List.mem_cons_of_mem _ (List.mem_cons_of_mem _ (List.mem_cons_of_mem _ (List.mem_cons_of_mem _ (List.mem_cons_of_mem _ (List.mem_cons_of_mem _ (List.mem_cons_of_mem _ (List.mem_cons_of_mem _ (List.mem_cons_of_mem _ (List.mem_cons_self ..))))))))))
  have h10 := hf _ (List.mem_cons_of_mem _ (List.mem_cons_of_mem _ (List.mem_cons_of_mem _ (List.mem_cons_of_mem _ (List.mem_cons_of_mem _ (List.mem_cons_of_mem _ (List.mem_cons_of_mem _ (List.mem_cons_of_mem _ (List.mem_cons_of_mem _ (List.mem_cons_of_mem _ (List.mem_cons_self ..)))))))))))
  have h11 := hf _ (List.mem_cons_of_mem _ (List.mem_cons_of_mem _ (List.mem_cons_of_mem _ (List.mem_cons_of_mem _ (List.mem_cons_of_mem _ (List.mem_cons_of_mem _ (List.mem_cons_of_mem _ (List.mem_cons_of_mem _ (List.mem_cons_of_mem _ (List.mem_cons_of_mem _ (List.mem_cons_of_mem _ (List.mem_cons_self ..))))))))))))
  have h12 := hf _ (List.mem_cons_of_mem _ (List.mem_cons_of_mem _ (List.mem_cons_of_mem _ (List.mem_cons_of_mem _ (List.mem_cons_of_mem _ (List.mem_cons_of_mem _ (List.mem_cons_of_mem _ (List.mem_cons_of_mem _ (List.mem_cons_of_mem _ (List.mem_cons_of_mem _ (List.mem_cons_of_mem _ (List.mem_cons_of_mem _ (List.mem_cons_self ..)))))))))))))
  have h13 := hf _ (List.mem_cons_of_mem _ (List.mem_cons_of_mem _ (List.mem_cons_of_mem _ (List.mem_cons_of_mem _ (List.mem_cons_of_mem _ (List.mem_cons_of_mem _ (List.mem_cons_of_mem _ (List.mem_cons_of_mem _ (List.mem_cons_of_mem _ (List.mem_cons_of_mem _ (List.mem_cons_of_mem _ (List.mem_cons_of_mem _ (List.mem_cons_of_mem _ (List.mem_cons_self ..))))))))))))))
  have h14 := hf _ (List.mem_cons_of_mem _ (List.mem_cons_of_mem _ (List.mem_cons_of_mem _ (List.mem_cons_of_mem _ (List.mem_cons_of_mem _ (List.mem_cons_of_mem _ (List.mem_cons_of_mem _ (List.mem_cons_of_mem _ (List.mem_cons_of_mem _ (List.mem_cons_of_mem _ (List.mem_cons_of_mem _ (List.mem_cons_of_mem _ (List.mem_cons_of_mem _ (List.mem_cons_of_mem _ (List.mem_cons_self ..)))))))))))))))
  have h15 := hf _ (List.mem_cons_of_mem _ (List.mem_cons_of_mem _ (List.mem_cons_of_mem _ (List.mem_cons_of_mem _ (List.mem_cons_of_mem _ (List.mem_cons_of_mem _ (List.mem_cons_of_mem _ (List.mem_cons_of_mem _ (List.mem_cons_of_mem _ (List.mem_cons_of_mem _ (List.mem_cons_of_mem _ (List.mem_cons_of_mem _ (List.mem_cons_of_mem _ (List.mem_cons_of_mem _ (List.mem_cons_of_mem _ (List.mem_cons_self ..))))))))))))))))
  have h16 := hf _ (List.mem_cons_of_mem _ (List.mem_cons_of_mem _ (List.mem_cons_of_mem _ (List.mem_cons_of_mem _ (List.mem_cons_of_mem _ (List.mem_cons_of_mem _ (List.mem_cons_of_mem _ (List.mem_cons_of_mem _ (List.mem_cons_of_mem _ (List.mem_cons_of_mem _ (List.mem_cons_of_mem _ (List.mem_cons_of_mem _ (List.mem_cons_of_mem _ (List.mem_cons_of_mem _ (List.mem_cons_of_mem _ (List.mem_cons_of_mem _ (List.mem_cons_self ..)))))))))))))))))
  have h17 := hf _ (List.mem_cons_of_mem _ (List.mem_cons_of_mem _ (List.mem_cons_of_mem _ (List.mem_cons_of_mem _ (List.mem_cons_of_mem _ (List.mem_cons_of_mem _ (List.mem_cons_of_mem _ (List.mem_cons_of_mem _ (List.mem_cons_of_mem _ (List.mem_cons_of_mem _ (List.mem_cons_of_mem _ (List.mem_cons_of_mem _ (List.mem_cons_of_mem _ (List.mem_cons_of_mem _ (List.mem_cons_of_mem _ (List.mem_cons_of_mem _ (List.mem_cons_of_mem _ (List.mem_cons_self ..))))))))))))))))))
  simp only [cl3, cl23, cl43] at h0 h1 h2 h3 h4 h5 h6 h7 h8 h9 h10 h11 h12 h13 h14 h15 h16 h17
  obtain ⟨x0, e0⟩ := takeI h0
  obtain ⟨x1, e1⟩ := takeI h1
  obtain ⟨x2, e2⟩ := takeI h2
  obtain ⟨x3, e3⟩ := takeI h3
  obtain ⟨x4, e4⟩ := takeI h4
  obtain ⟨x5, e5, l5⟩ := takeIs h5
  obtain ⟨x6, e6, l6⟩ := takeHs h6
  obtain ⟨x7, e7⟩ := takeI h7
  obtain ⟨x8, e8, l8⟩ := takeIs h8
  obtain ⟨x9, e9⟩ := takeI h9
  obtain ⟨x10, e10, l10⟩ := takeIs h10
  obtain ⟨x11, e11⟩ := takeI h11
  obtain ⟨x12, e12, l12⟩ := takeIs h12
  obtain ⟨x13, e13⟩ := takeI h13
  obtain ⟨x14, e14, l14⟩ := takeIs h14
  obtain ⟨x15, e15⟩ := takeI h15
  obtain ⟨x16, e16, l16⟩ := takeIs h16
  obtain ⟨x17, e17⟩ := takeI h17
  simp [eI] at e0 e1 e2 e3 e4 e5 e6 e7 e8 e9 e10 e11 e12 e13 e14 e15 e16 e17
  subst e0 e1 e2 e3 e4 e5 e6 e7 e8 e9 e10 e11 e12 e13 e14 e15 e16 e17
  exact ⟨⟨x0, x1, x2, x3, x4, x5, x6, x7, x8, x9, x10, x11, x12, x13, x14, x15, x16, x17⟩, rfl, l5, l6, l8, l10, l12, l14, l16⟩
/-- The types of worlds. -/
def SD (t : TypeId) : Prop := t = 45 ∨ t = 102 ∨ t = 23 ∨ t = 43 ∨ t = 3 ∨ t = 46
theorem plainD : Plain Tryz.prog SD := ⟨fun t h => by
  rcases h with rfl | rfl | rfl | rfl | rfl | rfl
  · exact .inr (.inr (.inr (.inr ⟨_, Tryz.underlying45, by simp [SD], by simp [Tiled, cl3, cl23, cl43, cl45]⟩)))
  · exact .inr (.inr (.inr (.inr ⟨_, Tryz.underlying102, by simp [SD], by simp [Tiled, cl3, cl102]⟩)))
  · exact .inr (.inr (.inr (.inl ⟨_, Tryz.underlying23, by simp [SD], by rw [cl3]; decide⟩)))
  · exact .inr (.inr (.inr (.inl ⟨_, Tryz.underlying43, by simp [SD], by rw [cl102]; decide⟩)))
  · exact .inr (.inl ⟨_, Tryz.underlying3⟩)
  · exact .inr (.inr (.inr (.inr ⟨_, Tryz.underlying46, by simp [SD], by simp [Tiled, cl3, cl46]⟩)))⟩
end Go.V
set_option linter.unusedSimpArgs false
set_option linter.unusedVariables false
namespace Go.Proofs.YtlomodjpgjlagaaGreat.fnExactCrewStep
open Go.ChangeShapes Go.WideShapes Go.ChangeAt Go.RowKit
theorem own : ownKnob Tryz.prog.godebug = none := by kernel_rfl
set_option maxRecDepth 100000 in
theorem contract (H : Type) (enc : TypeId × Value → H) (W : World) (base : Nat) (args : Array Value) (ds gs : List (DataW H)) (before : List MemPlace)
    (hval : ∀ (j : Nat) t v, Tryz.f6.params[j]? = some t → args[j]? = some v → Value.okWide Tryz.prog W .any base t v)
    (hW : DataW.Whole enc Tryz.prog Tryz.f6.params.toList Rows.fnExactCrewStepSpec.vars false W args.toList ds gs before) :
    Calls Tryz.prog 6 args W fun e W' => ∃ v, e = .returned v ∧ Rows.fnExactCrewStepSpec.post enc Tryz.prog Tryz.f6 false true false false W args v W' := by
  have hW' := hW
  obtain ⟨p, q, hA0, hV, rfl, hfz, hnd⟩ := hW
  have hA : DataW.TrodAll enc Tryz.prog W 0 (fun _ => true) true Tryz.f6.params.toList args.toList ds p := hA0
  rw [Tryz.params6] at hA hval
  obtain ⟨v0, vs0, d0, ds0, p0, q0, hargs, rfl, rfl, h0, r0⟩ := trodAll_cons hA
  obtain ⟨v1, vs1, d1, ds1, p1, q1, rfl, rfl, rfl, h1, r1⟩ := trodAll_cons r0
  obtain ⟨rfl, rfl, rfl⟩ := trodAll_nil r1
  obtain rfl : args = #[v0, v1] := by cases args; simp_all
  obtain ⟨rfl, rfl⟩ := trodVars_none hV
  obtain ⟨x0, T0, V0, S0⟩ := V.open_st V.plainD (.inl rfl) Tryz.underlying45 (hval 0 45 v0 rfl rfl) h0 fun q hq => hW'.lt q (by simp [hq])
  obtain ⟨w, e0, k0⟩ := V.takeW T0
  rw [e0] at V0
  obtain ⟨x1, T1, V1, S1⟩ := V.open_st V.plainD (by simp [V.SD]) Tryz.underlying46 (hval 1 46 v1 rfl rfl) h1 fun q hq => hW'.lt q (by simp [hq])
  obtain ⟨m, e1⟩ := V.takeM T1
  have V1 : ∀ H L U, V.TRep W (V.oldImm W) H L U v1 (V.tM m) := fun H L U => by have := V1 H L U; rw [e1] at this; exact this
  clear hA0
  simp only [List.append_nil] at hW'
  have hT : V.TsRep W (V.oldImm W) (V.hinOf []) (fun _ => none) (· < 0) [v0, v1] [V.tCW w, V.tM m] := ⟨rfl, fun k x y hx hy => by
    cases k with
    | zero => simp at hx hy; subst hx hy; exact V0 _ _ _
    | succ k => cases k with
      | zero => simp at hx hy; subst hx hy; exact V1 _ _ _
      | succ k => simp at hx⟩
  have law : V.ACallsF Tryz.prog 6 [V.tCW w, V.tM m] [] (.b true) := by
    by_cases h : V.Can w m
    · exact V.lawCS_yes k0 h
    · exact V.lawCS_no k0 h
  refine (V.calls_true law hT).mono fun e W' ⟨he, hS⟩ => ?_
  subst he
  refine ⟨_, rfl, V.post_same (pa := p0 ++ p1) (pv := []) hW' (fun _ _ _ => (trodAll_cons_mk (shut_bool Tryz.underlying4 _) trodAll_mk0)) (fun sp hsp => ?_) (fun _ _ => rfl) (by simp) hS⟩
  have := trodAll_cons_mk (S0 W' hS sp fun q hq => hsp q (by simp [hq])) (trodAll_cons_mk (S1 W' hS sp fun q hq => hsp q (by simp [hq])) trodAll_mk0)
  simp only [List.append_nil] at this
  exact this
set_option maxRecDepth 100000 in
theorem lifted (os : Os) (started : os.Started) (H : Type) (enc : TypeId × Value → H) :
    ReturnsInHanded {} Tryz.checked os 6 .any (Rows.fnExactCrewStepSpec.pre6 enc Tryz.prog Tryz.f6 Rows.fnExactCrewStepRow.domain false) (Rows.fnExactCrewStepSpec.post enc Tryz.prog Tryz.f6 false true false false) := by
  refine returnsInHanded_of_change (C := Tryz.checked) own started (by kernel_rfl) Tryz.func6
    (ChangeSpec.witness6 (enc := enc) (C := Tryz.checked) false ⟨#[], #[.agg #[.int .i64 0, .int .i64 0, .int .i64 0, .int .i64 0, .int .i64 0, .slice none 0 0, .slice none 0 0, .int .i64 0, .slice none 0 0, .int .i64 0, .slice none 0 0, .int .i64 0, .slice none 0 0, .int .i64 0, .slice none 0 0, .int .i64 0, .slice none 0 0, .int .i64 0], .agg #[.int .i64 0, .int .i64 0]], []⟩ 8 (by kernel_rfl) (by kernel_rfl) (by kernel_rfl) (by kernel_rfl)) ?_
  intro W base args ds gs before hval hW _ _
  exact contract H enc W base args ds gs before hval hW
theorem over : Rows.fnExactCrewStepRow.holds Tryz.pinned (OpenSpec.ofChange Rows.fnExactCrewStepSpec) :=
  OpenClaim.holds_of_wide 6 Tryz.f6 rfl rfl rfl rfl rfl rfl rfl ⟨rfl, rfl, rfl, rfl, rfl⟩ rfl rfl rfl rfl rfl (by kernel_rfl) Tryz.func6 (by kernel_rfl)
    (of_decide_eq_true (by kernel_rfl)) (by unfold Func.isWrapper; first | (rw [if_pos (by decide +kernel)]; kernel_rfl) | (rw [if_neg (by decide +kernel)]; exact ⟨rfl, rfl⟩))
    (fun os started H enc _ => lifted os started H enc)
theorem proved : Rows.FnExactCrewStepSaid := over
#print axioms proved
end Go.Proofs.YtlomodjpgjlagaaGreat.fnExactCrewStep

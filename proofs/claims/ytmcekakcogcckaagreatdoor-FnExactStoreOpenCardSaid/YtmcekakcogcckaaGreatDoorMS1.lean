/- The program's StoreOpen returns what the reference's returns, for every disk: no condition but the ones of the given statement. -/
import Derived.Test.YtmcekakcogcckaaGreatDoorMX5
import Derived.WalkKit
import Derived.ProofKit
import Derived.OpenShut
import Derived.ChangeSlices
import Derived.ChangeArms
import Derived.ChangeReads
import Derived.WideShapes
import Derived.Test.YtmcekakcogcckaaGreatDoorTie
import Derived.LaidMore
import Derived.Lay
import Derived.LaidLaws
import Derived.Lib.LaidTab
import Derived.SevenTiedAt
import Derived.Stop.Joined
set_option linter.unusedVariables false
set_option linter.unusedSimpArgs false
namespace Go.V
open Go.Proofs Go.ChangeShapes Go.WideShapes Go.ChangeAt Go.RowKit
/-- All that is there at the start stays. -/
def Stays (W W' : World) : Prop := W'.os = W.os ∧ W'.output = W.output ∧ ∀ b, b < W.heap.size → W'.heap[b]? = W.heap[b]?
theorem Stays.kept {W W' : World} (h : Stays W W') (may : MemPlace → Prop) : W.keptBut W' may := by
  refine ⟨h.1, h.2.1, fun i hi => ?_⟩
  rw [h.2.2 i hi]
  cases W.heap[i]? with
  | none => trivial
  | some o => cases o <;> simp
abbrev oldImm (W : World) : Imm := fun b _ => b < W.heap.size
/-- A law whose arguments are only read. -/
theorem calls_true {P : Program} {f : FuncId} {args : List T} {W : World} {vs : List Value} (hC : ACallsF P f args [] (.b true)) (hG : Glob W (oldImm W)) (hT : TsRep W (oldImm W) (hinOf []) ⟨fun _ => none, fun _ _ => False⟩ (· < 0) vs args) :
    Calls P f vs.toArray W fun e W' => e = .returned (.bool true) ∧ Stays W W' := by
  have hH : HOk W (oldImm W) (hinOf []) ⟨fun _ => none, fun _ _ => False⟩ (· < 0) := ⟨fun n B h => by simp [hinOf, renN] at h, fun n m g h => by simp [hinOf, renN] at h, fun n g h => by simp [hinOf, renN] at h, hG, fun b o h => h⟩
  refine (hC.2 W (oldImm W) ⟨fun _ => none, fun _ _ => False⟩ 0 vs hH hT).mono fun e W' ⟨x, r, h, imm', L', c', he, ⟨ν, hr, _⟩, hx, _, hS, _, _⟩ => ?_
  subst hr
  have hx : x = .bool true := rep_s (y := .bool true) hx
  subst hx
  exact ⟨he, hS.os, hS.output, fun b hb => hS.frame b hb fun ⟨n, h1, _⟩ => h1 (by simp [hinOf, renN])⟩
theorem post_same {P : Program} {H : Type} {enc : TypeId × Value → H} {f : Func} {s : ChangeSpec} {apart fresh handsOn : Bool} {W W' : World} {args : Array Value} {v : Value} {ds gs : List (DataW H)} {before pa pv : List MemPlace}
    (hW : DataW.Whole enc P f.params.toList s.vars apart W args.toList ds gs before)
    (hres : ∀ (b : Nat) (sp : Nat → Bool) (hd : Bool), DataW.TrodAll enc P W' b sp hd f.resultTypes.toList (v.resultList f.resultTypes.size) (s.fn H (ds ++ gs)).results [])
    (hargs : ∀ sp : Nat → Bool, (∀ p ∈ before, sp p.block = true) → DataW.TrodAll enc P W' 0 sp true f.params.toList args.toList (s.fn H (ds ++ gs)).args pa)
    (hvars : ∀ sp : Nat → Bool, (∀ p ∈ before, sp p.block = true) → DataW.TrodVars enc P W' sp s.vars (s.fn H (ds ++ gs)).vars pv)
    (hps : before = pa ++ pv) (hk : Stays W W') : s.post enc P f apart fresh handsOn false W args v W' := by
  have hold : ∀ p ∈ before, (fun b => decide (b < W.heap.size)) p.block = true := fun p hp => by simpa using hW.lt p hp
  refine ⟨ds, gs, before, [], pa, pv, hW, hres _ _ _, hargs _ hold, hvars _ hold, World.keptBut_mono (fun p hp => ⟨hp, ?_⟩) (hk.kept (· ∈ before)), fun h => by cases h⟩
  rw [hps, List.mem_append] at hp
  exact Or.inr hp
/-- The fields lie one behind the other. -/
def Tiled (P : Program) : Nat → List Field → Nat → Prop
  | o, [], n => o = n
  | o, f :: fs, n => f.offset = o ∧ Tiled P (o + P.cellsOf f.type) fs n
theorem Tiled.le {P : Program} : ∀ (fs : List Field) (o n : Nat), Tiled P o fs n → o ≤ n ∧ ∀ f ∈ fs, o ≤ f.offset
  | [], o, n, h => ⟨by simp [Tiled] at h; omega, by simp⟩
  | f :: fs, o, n, ⟨h1, h2⟩ => by
    obtain ⟨g1, g2⟩ := Tiled.le fs _ _ h2
    refine ⟨by omega, fun x hx => ?_⟩
    rcases List.mem_cons.1 hx with rfl | hx
    · omega
    · have := g2 x hx; omega
/-- What is had of each field is had of the whole. -/
theorem tile_list {P : Program} (R : Value → V → Prop) (Q : TypeId → List V → Prop) {cs : List Value} : ∀ (fs : List Field) (o n : Nat), Tiled P o fs n → cs.length = n →
    (∀ f ∈ fs, ∃ vs, vs.length = ((cs.drop f.offset).take (P.cellsOf f.type)).length ∧ Q f.type vs ∧ ∀ (k : Nat) u y, ((cs.drop f.offset).take (P.cellsOf f.type))[k]? = some u → vs[k]? = some y → R u y) →
    ∃ vs : List V, vs.length + o = n ∧ (∀ (k : Nat) u y, cs[o + k]? = some u → vs[k]? = some y → R u y) ∧ ∀ f ∈ fs, Q f.type ((vs.drop (f.offset - o)).take (P.cellsOf f.type))
  | [], o, n, h, hl, _ => ⟨[], by simp [Tiled] at h; simp [h], fun k u y _ hy => by simp at hy, by simp⟩
  | f :: fs, o, n, ⟨h1, h2⟩, hl, hf => by
    obtain ⟨vs, g1, g2, g3⟩ := hf f (by simp)
    obtain ⟨ws, r1, r2, r3⟩ := tile_list R Q fs (o + P.cellsOf f.type) n h2 hl fun x hx => hf x (by simp [hx])
    have hle := (Tiled.le fs _ _ h2).1
    have hvl : vs.length = P.cellsOf f.type := by rw [g1, List.length_take, List.length_drop, h1, hl]; omega
    refine ⟨vs ++ ws, by simp; omega, fun k u y hu hy => ?_, fun x hx => ?_⟩
    · by_cases hk : k < vs.length
      · rw [List.getElem?_append_left hk] at hy
        refine g3 k u y ?_ hy
        rw [List.getElem?_take, if_pos (by omega), List.getElem?_drop, h1]; exact hu
      · rw [List.getElem?_append_right (by omega)] at hy
        refine r2 (k - vs.length) u y ?_ hy
        rw [← hu]; congr 1; omega
    · rcases List.mem_cons.1 hx with rfl | hx
      · rw [h1, Nat.sub_self, List.drop_zero, ← hvl, List.take_left]; exact g2
      · have hx2 := (Tiled.le fs _ _ h2).2 x hx
        have := r3 x hx
        rw [List.drop_append, List.drop_of_length_le (by omega), List.nil_append, hvl]
        rw [show x.offset - o - P.cellsOf f.type = x.offset - (o + P.cellsOf f.type) by omega]; exact this
/-- The types of plain data: numbers, texts, flags, rows and structs of them. -/
structure Plain (P : Program) (S : TypeId → Prop) : Prop where
  kind : ∀ t, S t → P.underlying t = some .bool ∨ (∃ k, P.underlying t = some (.int k)) ∨ P.underlying t = some .string ∨ (∃ e, P.underlying t = some (.slice e) ∧ S e ∧ 0 < P.cellsOf e) ∨ ∃ fs, P.underlying t = some (.struct fs) ∧ (∀ f ∈ fs.toList, S f.type) ∧ Tiled P 0 fs.toList (P.cellsOf t)
/-- Closed cells that are of a type. -/
inductive VT (P : Program) : TypeId → List V → Prop
  | bool (t : TypeId) (b : Bool) (h : P.underlying t = some .bool) : VT P t [.s (.bool b)]
  | int (t : TypeId) (k : IntKind) (n : Int) (h : P.underlying t = some (.int k)) (hw : (Lit.int k n).wf = true) : VT P t [.s (.int k n)]
  | str (t : TypeId) (s : ByteArray) (h : P.underlying t = some .string) (hs : s.size ≤ maxLen) : VT P t [.s (.string s)]
  | sl (t e : TypeId) (es : List (List V)) (h : P.underlying t = some (.slice e)) (hl : es.length ≤ maxLen) (he : ∀ x ∈ es, VT P e x) : VT P t [.sl es]
  | st (t : TypeId) (fs : Array Field) (cs : List V) (h : P.underlying t = some (.struct fs)) (hl : cs.length = P.cellsOf t) (hf : ∀ f ∈ fs.toList, VT P f.type ((cs.drop f.offset).take (P.cellsOf f.type))) : VT P t cs
theorem cells_at {w : World} {base : Nat} {a : Addr} {n : Nat} {cs : List Value} (h : w.cells? base a n = some cs) : cs.length = n ∧ ∀ i, i < n → ∃ u, cs[i]? = some u ∧ w.cell? (a.add i) = some u := by
  unfold World.cells? at h
  split at h
  · have hl : cs.length = n := by simpa using mapM_some_length h
    refine ⟨hl, fun i hi => ?_⟩
    obtain ⟨u, hu⟩ : ∃ u, cs[i]? = some u := ⟨_, List.getElem?_eq_getElem (by omega)⟩
    have := mapM_some_get h i i (by simp [hi])
    exact ⟨u, hu, by rw [this, hu]⟩
  · cases h
theorem cell_plain {w : World} {a : Addr} {u : Value} (h : w.cell? a = some u) : a = ⟨a.block, a.off, none⟩ ∧ a.block < w.heap.size := by
  unfold World.cell? at h
  split at h
  · rename_i c ty fr hh
    split at h
    · cases h
    · rename_i hs
      refine ⟨?_, heap_lt hh⟩
      obtain ⟨b, o, s⟩ := a
      simp at hs
      subst hs; rfl
  · cases h
theorem pick_list {α : Type} (P : Nat → α → Prop) : ∀ n, (∀ i, i < n → ∃ o, P i o) → ∃ outs : List α, outs.length = n ∧ ∀ (i : Nat) o, outs[i]? = some o → P i o
  | 0, _ => ⟨[], rfl, fun i o h => by simp at h⟩
  | n + 1, h => by
    obtain ⟨outs, h1, h2⟩ := pick_list P n fun i hi => h i (by omega)
    obtain ⟨o, ho⟩ := h n (by omega)
    refine ⟨outs ++ [o], by simp [h1], fun i o' hi => ?_⟩
    rcases Nat.lt_or_ge i n with hin | hin
    · rw [List.getElem?_append_left (by omega)] at hi; exact h2 i o' hi
    · rw [List.getElem?_append_right (by omega)] at hi
      have : i - outs.length = 0 := by
        have := (List.getElem?_eq_some_iff.1 hi).1
        simp at this; omega
      rw [this] at hi
      simp at hi
      have e : i = n := by omega
      rw [e, ← hi]; exact ho
section
variable {H : Type} {enc : TypeId × Value → H} {P : Program} {w : World} {held : Bool} {S : TypeId → Prop}
/-- What is read of plain data is closed values. -/
theorem open_plain (hP : Plain P S) : ∀ (n : Nat) (t : TypeId) (cs : List Value) (x : DataW H × List MemPlace), S t → DataW.trod enc P w 0 (fun _ => true) held n t cs = some x →
    ∃ vs : List V, vs.length = cs.length ∧ VT P t vs ∧ ∀ (k : Nat) u y, cs[k]? = some u → vs[k]? = some y → VRep w (oldImm w) u y := by
  intro n
  induction n with
  | zero => intro t cs x _ h; simp [DataW.trod] at h
  | succ n ih =>
    intro t cs x hS h
    have one : ∀ {u : Value} {y : V}, VRep w (oldImm w) u y → ∀ (k : Nat) u' y', [u][k]? = some u' → [y][k]? = some y' → VRep w (oldImm w) u' y' := fun hv k u' y' h1 h2 => by
      cases k with
      | zero => simp at h1 h2; subst h1 h2; exact hv
      | succ k => simp at h1
    rcases hP.kind t hS with ht | ⟨k, ht⟩ | ht | ⟨e, ht, hSe, hpos⟩ | ⟨fs, ht, hSf⟩
    · obtain ⟨b, rfl, -⟩ := DataW.trod_bool ht h
      exact ⟨[.s (.bool b)], rfl, .bool t b ht, one (.s _ rfl)⟩
    · obtain ⟨m, rfl, -, hw⟩ := DataW.trod_int ht h
      exact ⟨[.s (.int k m)], rfl, .int t k m ht hw, one (.s _ rfl)⟩
    · obtain ⟨s, rfl, -, hs⟩ := DataW.trod_string ht h
      exact ⟨[.s (.string s)], rfl, .str t s ht hs, one (.s _ rfl)⟩
    · rcases DataW.trod_slice ht h with ⟨rfl, -⟩ | ⟨a, len, cap, elems, rest, n', hn, rfl, -, -, hlc, hcm, hel, hget, -, -⟩
      · exact ⟨[.sl []], rfl, .sl t e [] ht (Nat.zero_le _) (fun x hx => by cases hx), one (.nil _ _)⟩
      · cases hn
        obtain ⟨es, hesl, hes⟩ := pick_list (fun i vs => ∃ cs', w.cells? 0 (a.add (i * P.cellsOf e)) (P.cellsOf e) = some cs' ∧ vs.length = cs'.length ∧ VT P e vs ∧ ∀ (k : Nat) u y, cs'[k]? = some u → vs[k]? = some y → VRep w (oldImm w) u y) len (fun i hi => by
          have h1 := hget i hi
          obtain ⟨z, hz⟩ : ∃ z, elems[i]? = some z := ⟨_, List.getElem?_eq_getElem (by omega)⟩
          rw [hz, Option.bind_eq_some_iff] at h1
          obtain ⟨cs', h2, h3⟩ := h1
          obtain ⟨vs, g1, g2, g3⟩ := ih e cs' z hSe h3
          exact ⟨vs, cs', h2, g1, g2, g3⟩)
        refine ⟨[.sl es], rfl, .sl t e es ht (by omega) (fun x hx => ?_), one ?_⟩
        · obtain ⟨i, hi⟩ := List.mem_iff_getElem?.1 hx
          obtain ⟨_, _, _, h4, _⟩ := hes i x hi
          exact h4
        · by_cases h0 : len = 0
          · have : es = [] := List.length_eq_zero_iff.1 (by omega)
            subst this h0
            exact .nil _ _
          · have hadd : ∀ i j : Nat, i < len → j < P.cellsOf e → ∃ u, w.cell? ((a.add (i * P.cellsOf e)).add j) = some u := fun i j hi hj => by
              obtain ⟨v, hv⟩ : ∃ v, es[i]? = some v := ⟨_, List.getElem?_eq_getElem (by omega)⟩
              obtain ⟨cs', h2, _⟩ := hes i v hv
              obtain ⟨u, _, h5⟩ := (cells_at h2).2 j hj
              exact ⟨u, h5⟩
            have ha : a = ⟨a.block, a.off, none⟩ ∧ a.block < w.heap.size := by
              obtain ⟨u, hu⟩ := hadd 0 0 (by omega) hpos
              have e0 : (a.add (0 * P.cellsOf e)).add 0 = a := by simp [Addr.add]
              rw [e0] at hu
              exact cell_plain hu
            obtain ⟨ha1, ha2⟩ := ha
            have hst : ∀ v ∈ es, v.length = P.cellsOf e := fun v hv => by
              obtain ⟨i, hi⟩ := List.mem_iff_getElem?.1 hv
              obtain ⟨cs', h2, h3, _⟩ := hes i v hi
              rw [h3, (cells_at h2).1]
            have hcell : ∀ i j y, at2 es i j = some y → ∃ u, w.cell? ⟨a.block, a.off + i * P.cellsOf e + j, none⟩ = some u ∧ VRep w (oldImm w) u y := fun i j y hy => by
              rw [at2, Option.bind_eq_some_iff] at hy
              obtain ⟨v, hv, hj⟩ := hy
              obtain ⟨cs', h2, h3, _, h5⟩ := hes i v hv
              have hjl : j < P.cellsOf e := by rw [← hst v (List.mem_of_getElem? hv)]; exact (List.getElem?_eq_some_iff.1 hj).1
              obtain ⟨u, h6, h7⟩ := (cells_at h2).2 j hjl
              have eadd : (a.add (i * P.cellsOf e)).add j = ⟨a.block, a.off + i * P.cellsOf e + j, none⟩ := by
                rw [ha1, add_eq, add_eq]
              rw [eadd] at h7
              exact ⟨u, h7, h5 j u y h6 hj⟩
            rw [ha1, ← hesl]
            refine .sl es (P.cellsOf e) a.block a.off cap (fun i j => (w.cell? ⟨a.block, a.off + i * P.cellsOf e + j, none⟩).getD .nilIface) hpos (fun hq => h0 (by rw [← hesl, hq]; rfl)) (by omega) hst (fun i j y hy => ?_) fun i j y hy => ?_
            · obtain ⟨u, h1, _⟩ := hcell i j y hy
              rw [h1]; exact ⟨rfl, ha2⟩
            · obtain ⟨u, h1, h2⟩ := hcell i j y hy
              simp only [h1, Option.getD_some]; exact h2
    · obtain ⟨xs, m, hm, rfl, hl, hxl, hf⟩ := DataW.trod_struct ht h
      cases hm
      obtain ⟨hSf, hT⟩ := hSf
      obtain ⟨vs, h1, h2, h3⟩ := tile_list (fun u y => VRep w (oldImm w) u y) (VT P) fs.toList 0 _ hT hl fun f hfm => by
        obtain ⟨i, hi⟩ := List.mem_iff_getElem?.1 hfm
        have hil := (List.getElem?_eq_some_iff.1 hi).1
        obtain ⟨z, hz⟩ : ∃ z, xs[i]? = some z := ⟨_, List.getElem?_eq_getElem (by simpa [hxl] using hil)⟩
        have := hf i f (by simpa using hi)
        rw [hz] at this
        obtain ⟨vs, q1, q2, q3⟩ := ih f.type _ z (hSf f hfm) this
        exact ⟨vs, q1, q2, q3⟩
      exact ⟨vs, by omega, .st t fs vs ht (by omega) (by simpa using h3), fun k u y hu hy => h2 k u y (by simpa using hu) hy⟩
/-- It is read again where all that was there stayed. -/
theorem trod_sp (hP : Plain P S) {sp : Nat → Bool} : ∀ (n : Nat) (t : TypeId) (cs : List Value) (x : DataW H × List MemPlace), S t → DataW.trod enc P w 0 (fun _ => true) held n t cs = some x → (∀ p ∈ x.2, sp p.block = true) → DataW.trod enc P w 0 sp held n t cs = some x := by
  intro n
  induction n with
  | zero => intro t cs x _ h; simp [DataW.trod] at h
  | succ n ih =>
    intro t cs x hS h hs
    rcases hP.kind t hS with ht | ⟨k, ht⟩ | ht | ⟨e, ht, hSe, hpos⟩ | ⟨fs, ht, hSf⟩
    · obtain ⟨b, rfl, rfl⟩ := DataW.trod_bool ht h
      simp [DataW.trod, ht]
    · obtain ⟨m, rfl, rfl, hw⟩ := DataW.trod_int ht h
      simp [DataW.trod, ht, hw]
    · obtain ⟨s, rfl, rfl, hw⟩ := DataW.trod_string ht h
      simp [DataW.trod, ht, hw]
    · rw [DataW.trod_step] at h ⊢
      unfold DataW.trodStep at h ⊢
      rw [ht] at h ⊢
      split at h <;> try (exfalso; simp_all; done)
      · exact h
      · rename_i e' a len cap he
        cases he
        simp only at h ⊢
        split at h
        · rename_i hc
          rw [if_pos hc]
          simp only [if_true, Option.map_eq_some_iff, Option.bind_eq_some_iff] at h ⊢
          obtain ⟨elems, he, rest, hrest, rfl⟩ := h
          refine ⟨elems, mapM_carry he (fun i y _ hy hv => ?_), ?_⟩
          · rw [Option.bind_eq_some_iff] at hv ⊢
            obtain ⟨cs', h1, h2⟩ := hv
            exact ⟨cs', h1, ih e cs' y hSe h2 fun p hp => hs p (by simp only [List.mem_append, List.mem_flatMap]; exact Or.inr ⟨y, Or.inl hy, hp⟩)⟩
          · have hel : elems.length = len := by simpa using mapM_some_length he
            have hrl : rest.length = cap - len := by simpa using mapM_some_length hrest
            by_cases h0 : cap = 0
            · have : rest = [] := List.length_eq_zero_iff.1 (by omega)
              subst this
              refine ⟨[], ?_, rfl⟩
              have e0 : cap - len = 0 := by omega
              rw [e0]; cases sp a.block <;> rfl
            · have hsp : sp a.block = true := hs (.cell a.block (a.off + 0)) (by
                simp only [List.mem_append]
                refine Or.inl (MemPlace.mem_row.2 ⟨0, Nat.mul_pos (by omega) hpos, rfl⟩))
              rw [hsp, if_pos rfl]
              refine ⟨rest, mapM_carry hrest (fun i y _ hy hv => ?_), rfl⟩
              rw [Option.bind_eq_some_iff] at hv ⊢
              obtain ⟨cs', h1, h2⟩ := hv
              exact ⟨cs', h1, ih e cs' y hSe h2 fun p hp => hs p (by simp only [List.mem_append, List.mem_flatMap]; exact Or.inr ⟨y, Or.inr hy, hp⟩)⟩
        · cases h
    · rw [DataW.trod_step] at h ⊢
      unfold DataW.trodStep at h ⊢
      rw [ht] at h ⊢
      simp only at h ⊢
      split at h
      · rename_i hc
        rw [if_pos hc]
        simp only [Option.map_eq_some_iff] at h ⊢
        obtain ⟨xs, h1, rfl⟩ := h
        exact ⟨xs, mapM_carry h1 (fun f y hf hy hv => ih f.type _ y (hSf.1 f hf) hv fun p hp => hs p (by simp only [List.mem_flatMap]; exact ⟨y, hy, hp⟩)), rfl⟩
      · cases h
theorem Stays.same {w w' : World} (h : Stays w w') : ∀ p : MemPlace, p.block < w.heap.size → w.sameAt w' p := by
  intro p hp
  cases p with
  | cell b i =>
    show w'.cell? _ = w.cell? _
    unfold World.cell?
    rw [h.2.2 b hp]
  | map b => exact h.2.2 b hp
theorem reread (hP : Plain P S) {sp : Nat → Bool} {w' : World} {n : Nat} {t : TypeId} {cs : List Value} {x : DataW H × List MemPlace} (hS : S t) (h : DataW.trod enc P w 0 (fun _ => true) held n t cs = some x) (hw : ∀ p ∈ x.2, p.block < w.heap.size) (hst : Stays w w') (hs : ∀ p ∈ x.2, sp p.block = true) :
    DataW.trod enc P w' 0 sp held n t cs = some x :=
  trod_sp hP n t cs x hS (DataW.trod_carry n t cs x h fun p hp => hst.same p (hw p hp)) hs
end
section
variable {H : Type} {enc : TypeId × Value → H} {P : Program} {w : World} {S : TypeId → Prop}
/-- A struct of plain data, as an argument. -/
theorem open_st (hP : Plain P S) {t : TypeId} {fs : Array Field} {v : Value} {d : DataW H} {p : List MemPlace} {base : Nat} (hS : S t) (ht : P.underlying t = some (.struct fs)) (hv : Value.okWide P w .any base t v)
    (h : DataW.Trod enc P w 0 (fun _ => true) true t v d p) (hlt : ∀ q ∈ p, q.block < w.heap.size) :
    ∃ vs, VT P t vs ∧ (∀ H L U, TRep w (oldImm w) H L U v (.pt (.agg (vs.map C.v)))) ∧ ∀ W', Stays w W' → ∀ sp : Nat → Bool, (∀ q ∈ p, sp q.block = true) → DataW.Trod enc P W' 0 sp true t v d p := by
  obtain ⟨cs, rfl, hcs⟩ := okWide_struct ht hv
  obtain ⟨n, hn⟩ := h
  obtain ⟨vs, h1, h2, h3⟩ := open_plain hP n t _ _ hS hn
  have h1 : vs.length = cs.toList.length := h1
  refine ⟨vs, h2, fun H L U => ⟨cs.toList, rfl, by simp [h1], fun k u y hu hy => ?_⟩, fun W' hst sp hsp => ⟨n, reread hP hS hn hlt hst hsp⟩⟩
  rw [List.getElem?_map, Option.map_eq_some_iff] at hy
  obtain ⟨z, hz, rfl⟩ := hy
  exact h3 k u z hu hz
/-- A single cell of plain data, as an argument. -/
theorem open_one (hP : Plain P S) {t : TypeId} {v : Value} {d : DataW H} {p : List MemPlace} (hS : S t) (hv : v.cells = #[v])
    (h : DataW.Trod enc P w 0 (fun _ => true) true t v d p) (hlt : ∀ q ∈ p, q.block < w.heap.size) :
    ∃ y, VT P t [y] ∧ (∀ H L U, TRep w (oldImm w) H L U v (.c (.v y))) ∧ ∀ W', Stays w W' → ∀ sp : Nat → Bool, (∀ q ∈ p, sp q.block = true) → DataW.Trod enc P W' 0 sp true t v d p := by
  obtain ⟨n, hn⟩ := h
  have hn' := hn
  rw [hv] at hn'
  obtain ⟨vs, h1, h2, h3⟩ := open_plain hP n t _ _ hS hn'
  match vs, h1 with
  | [y], _ => exact ⟨y, h2, fun H L U => h3 0 v y rfl rfl, fun W' hst sp hsp => ⟨n, reread hP hS hn hlt hst hsp⟩⟩
end
section
variable {P : Program} {t : TypeId} {cs : List V}
theorem VT.int_inv {k : IntKind} (ht : P.underlying t = some (.int k)) (h : VT P t cs) : ∃ n, cs = [.s (.int k n)] ∧ (Lit.int k n).wf = true := by
  cases h <;> simp_all
theorem VT.bool_inv (ht : P.underlying t = some .bool) (h : VT P t cs) : ∃ b, cs = [.s (.bool b)] := by
  cases h <;> simp_all
theorem VT.str_inv (ht : P.underlying t = some .string) (h : VT P t cs) : ∃ s, cs = [.s (.string s)] ∧ s.size ≤ 9223372036854775807 := by
  cases h <;> simp_all [maxLen]
theorem VT.sl_inv {e : TypeId} (ht : P.underlying t = some (.slice e)) (h : VT P t cs) : ∃ es, cs = [.sl es] ∧ es.length ≤ 9223372036854775807 ∧ ∀ x ∈ es, VT P e x := by
  cases h <;> simp_all [maxLen]
theorem VT.st_inv {fs : Array Field} (ht : P.underlying t = some (.struct fs)) (h : VT P t cs) : cs.length = P.cellsOf t ∧ ∀ f ∈ fs.toList, VT P f.type ((cs.drop f.offset).take (P.cellsOf f.type)) := by
  cases h <;> simp_all
end
/-- Rows of elements are read as rows of what they tell. -/
theorem en_of {α : Type} (e : α → List V) (Q : α → Prop) : ∀ es : List (List V), (∀ x ∈ es, ∃ y, x = e y ∧ Q y) → ∃ ys : List α, es = en e ys ∧ ∀ y ∈ ys, Q y
  | [], _ => ⟨[], rfl, by simp⟩
  | x :: es, h => by
    obtain ⟨y, rfl, hy⟩ := h x (by simp)
    obtain ⟨ys, rfl, hys⟩ := en_of e Q es fun z hz => h z (by simp [hz])
    refine ⟨y :: ys, rfl, fun z hz => ?_⟩
    rcases List.mem_cons.1 hz with rfl | hz
    · exact hy
    · exact hys z hz
theorem cl26 : Tryz.prog.cellsOf 26 = 3 := by kernel_rfl
theorem cl22 : Tryz.prog.cellsOf 22 = 1 := by kernel_rfl
theorem cl23 : Tryz.prog.cellsOf 23 = 1 := by kernel_rfl
theorem cl24 : Tryz.prog.cellsOf 24 = 1 := by kernel_rfl
theorem cl67 : Tryz.prog.cellsOf 67 = 3 := by kernel_rfl
theorem cl70 : Tryz.prog.cellsOf 70 = 2 := by kernel_rfl
theorem cl9 : Tryz.prog.cellsOf 9 = 1 := by kernel_rfl
theorem cl3 : Tryz.prog.cellsOf 3 = 1 := by kernel_rfl
theorem cl4 : Tryz.prog.cellsOf 4 = 1 := by kernel_rfl
theorem cells_len2 {α : Type} {cs : List α} (h : cs.length = 2) : ∃ a b, cs = [a, b] := by
  match cs, h with
  | [a, b], _ => exact ⟨a, b, rfl⟩
theorem cells_len3 {α : Type} {cs : List α} (h : cs.length = 3) : ∃ a b c, cs = [a, b, c] := by
  match cs, h with
  | [a, b, c], _ => exact ⟨a, b, c, rfl⟩
theorem take_s {cs : List V} (h : VT Tryz.prog 9 cs) : ∃ s, cs = eS s ∧ okS s := VT.str_inv Tryz.underlying9 h
theorem take_i {cs : List V} (h : VT Tryz.prog 3 cs) : ∃ n, cs = eI n := by
  obtain ⟨n, h, _⟩ := VT.int_inv Tryz.underlying3 h
  exact ⟨n, h⟩
theorem take_f {cs : List V} (h : VT Tryz.prog 67 cs) : ∃ f, cs = eF f ∧ okDF f := by
  obtain ⟨hl, hf⟩ := VT.st_inv Tryz.underlying67 h
  rw [cl67] at hl
  obtain ⟨a, b, c, rfl⟩ := cells_len3 hl
  have h1 := hf _ (List.mem_cons_self ..)
  have h2 := hf _ (List.mem_cons_of_mem _ (List.mem_cons_self ..))
  have h3 := hf _ (List.mem_cons_of_mem _ (List.mem_cons_of_mem _ (List.mem_cons_self ..)))
  simp only [cl9, cl3] at h1 h2 h3
  obtain ⟨s1, e1, k1⟩ := take_s h1
  obtain ⟨s2, e2, k2⟩ := take_s h2
  obtain ⟨n, e3⟩ := take_i h3
  simp [eS, eI] at e1 e2 e3
  subst e1 e2 e3
  exact ⟨⟨s1, s2, n⟩, rfl, k1, k2⟩
theorem take_m {cs : List V} (h : VT Tryz.prog 70 cs) : ∃ f, cs = eM f ∧ okDM f := by
  obtain ⟨hl, hf⟩ := VT.st_inv Tryz.underlying70 h
  rw [cl70] at hl
  obtain ⟨a, b, rfl⟩ := cells_len2 hl
  have h1 := hf _ (List.mem_cons_self ..)
  have h2 := hf _ (List.mem_cons_of_mem _ (List.mem_cons_self ..))
  simp only [cl9, cl4] at h1 h2
  obtain ⟨g, e1⟩ := VT.bool_inv Tryz.underlying4 h1
  obtain ⟨s2, e2, k2⟩ := take_s h2
  simp [eS] at e1 e2
  subst e1 e2
  exact ⟨⟨g, s2⟩, rfl, k2⟩
theorem take_D {cs : List V} (h : VT Tryz.prog 26 cs) : ∃ d : Dk, cs.map C.v = [.v (.sl (en eF d.files)), .v (.sl (en eS d.names)), .v (.sl (en eM d.moves))] ∧ argDk d := by
  obtain ⟨hl, hf⟩ := VT.st_inv Tryz.underlying26 h
  rw [cl26] at hl
  obtain ⟨a, b, c, rfl⟩ := cells_len3 hl
  have h1 := hf _ (List.mem_cons_self ..)
  have h2 := hf _ (List.mem_cons_of_mem _ (List.mem_cons_self ..))
  have h3 := hf _ (List.mem_cons_of_mem _ (List.mem_cons_of_mem _ (List.mem_cons_self ..)))
  simp only [cl22, cl23, cl24] at h1 h2 h3
  obtain ⟨x1, e1, l1, k1⟩ := VT.sl_inv Tryz.underlying22 h1
  obtain ⟨x2, e2, l2, k2⟩ := VT.sl_inv Tryz.underlying23 h2
  obtain ⟨x3, e3, l3, k3⟩ := VT.sl_inv Tryz.underlying24 h3
  obtain ⟨y1, rfl, q1⟩ := en_of eF okDF x1 fun x hx => take_f (k1 x hx)
  obtain ⟨y2, rfl, q2⟩ := en_of eS okS x2 fun x hx => take_s (k2 x hx)
  obtain ⟨y3, rfl, q3⟩ := en_of eM okDM x3 fun x hx => take_m (k3 x hx)
  rw [en_len] at l1 l2 l3
  simp at e1 e2 e3
  subst e1 e2 e3
  exact ⟨⟨y1, y2, y3⟩, rfl, ⟨l1, q1⟩, ⟨l2, q2⟩, ⟨l3, q3⟩⟩
/-- The types of disks. -/
def SD (t : TypeId) : Prop := t = 26 ∨ t = 22 ∨ t = 23 ∨ t = 24 ∨ t = 67 ∨ t = 70 ∨ t = 9 ∨ t = 3 ∨ t = 4
theorem plainD : Plain Tryz.prog SD := ⟨fun t h => by
  rcases h with rfl | rfl | rfl | rfl | rfl | rfl | rfl | rfl | rfl
  · exact .inr (.inr (.inr (.inr ⟨_, Tryz.underlying26, by simp [SD], by simp [Tiled, cl22, cl23, cl24, cl26]⟩)))
  · exact .inr (.inr (.inr (.inl ⟨_, Tryz.underlying22, by simp [SD], by rw [cl67]; decide⟩)))
  · exact .inr (.inr (.inr (.inl ⟨_, Tryz.underlying23, by simp [SD], by rw [cl9]; decide⟩)))
  · exact .inr (.inr (.inr (.inl ⟨_, Tryz.underlying24, by simp [SD], by rw [cl70]; decide⟩)))
  · exact .inr (.inr (.inr (.inr ⟨_, Tryz.underlying67, by simp [SD], by simp [Tiled, cl9, cl3, cl67]⟩)))
  · exact .inr (.inr (.inr (.inr ⟨_, Tryz.underlying70, by simp [SD], by simp [Tiled, cl9, cl4, cl70]⟩)))
  · exact .inr (.inr (.inl Tryz.underlying9))
  · exact .inr (.inl ⟨_, Tryz.underlying3⟩)
  · exact .inl Tryz.underlying4⟩
/-- The claim's wrap, with what is known of the variables' shape. -/
theorem returns_shaped {H : Type} {enc : TypeId × Value → H} {C : Checked} {os : Os} {f : FuncId} {fn : Func} {s : ChangeSpec} {conds : List PathCond} {apart fresh handsOn again : Bool} {X : World → Array Value → Prop} {a : Assume}
    (hX : ∀ (w w' : World) (args : Array Value), w.heap = w'.heap → X w args → X w' args)
    (own : ownKnob C.prog.godebug = none) (started : os.Started) (noInit : C.prog.inits.idxOf? f = none) (hfn : C.prog.funcs[f]? = some fn)
    (witness : ∃ (w : World) (tape : Tape) (i : Input), w.os = os ∧ (w.forCall tape i).Shaped C.prog ∧ i.vars = [] ∧ Input.okWide C.prog (w.forCall tape i) .any w.heap.size f i ∧
      ((s.pre enc C.prog fn conds apart (w.forCall tape i).memory i.args ∧ X (w.forCall tape i).memory i.args) ∧ sizedMet enc C.prog fn (OpenSpec.ofChange s) apart (w.forCall tape i).memory i.args) ∧ a.holds C.prog (lone (Frame.enter C.prog f i.args .normal) [] (w.forCall tape i)))
    (contract : ∀ (W : World) (base : Nat) (args : Array Value) (ds gs : List (DataW H)) (before : List MemPlace),
      (∀ (j : Nat) t v, fn.params[j]? = some t → args[j]? = some v → Value.okWide C.prog W .any base t v) →
      DataW.Whole enc C.prog fn.params.toList s.vars apart W args.toList ds gs before → X W args → W.ShapedOpen C.prog →
      Calls C.prog f args W fun e W' => ∃ v, e = .returned v ∧ s.post enc C.prog fn apart fresh handsOn again W args v W') :
    ReturnsInHanded a C os f .any (fun w args => (s.pre enc C.prog fn conds apart w args ∧ X w args) ∧ sizedMet enc C.prog fn (OpenSpec.ofChange s) apart w args) (s.post enc C.prog fn apart fresh handsOn again) := by
  refine returnsInHanded_of_calls own started noInit witness ?_
  intro w tape i _ hsh _ hok hpre _
  obtain ⟨_, _, _, fn', hfn', _, _, _, _, hval⟩ := hok
  have e : fn' = fn := Option.some.inj (hfn'.symm.trans hfn)
  subst e
  obtain ⟨⟨⟨ds, gs, before, hw, hc⟩, hx⟩, hz⟩ := hpre
  have hw' := DataW.Whole.of_heap (w' := w.forCall tape i) (by rfl) hw
  refine (contract (w.forCall tape i) w.heap.size i.args ds gs before hval hw' (hX _ _ _ (by rfl) hx) hsh).mono fun e W' ⟨v, he, hp⟩ => ?_
  subst he
  exact ChangeSpec.post_blind hp
end Go.V
set_option linter.unusedSimpArgs false
set_option linter.unusedVariables false
namespace Go.V
open Go.Proofs Go.RowKit Go.Proofs.YtmcekakcogcckaaGreatDoor
def VarIs (P : Program) (w : World) (n : String) (d : DataW Unit) : Prop := ∃ g t cs fuel p, P.globalNamed n = some g ∧ (P.globals[g]?).map (·.type) = some t ∧ w.var? P n = some cs ∧ DataW.trod (fun _ => ()) P w 0 (fun _ => true) false fuel t cs.toList = some (d, p)
theorem varIs_of {P : Program} {w : World} : ∀ {l : List (String × DataW Unit)} {ps : List MemPlace}, DataW.LaidVars P w l ps → ∀ n d, (n, d) ∈ l → VarIs P w n d
  | [], _, _, _, _, hm => by cases hm
  | (n', d') :: r, ps, h, n, d, hm => by
    obtain ⟨g, t, cs, fuel, p, q, h1, h2, h3, h4, h5, _⟩ := h
    rcases List.mem_cons.1 hm with e | e
    · cases e
      exact ⟨g, t, cs, fuel, p, h1, h2, h3, h4⟩
    · exact varIs_of h5 n d e
theorem int_of_shape {P : Program} {w : World} {g : Nat} {t : TypeId} {zero : Array Value} {k : IntKind} (h : w.ShapedOpen P) (hg : g < P.globals.size)
    (h0 : ((begin P (fun _ _ => 0) default).world.heap[g]?).bind Obj.row? = some (zero, t)) (hz : zero.size = 1)
    (hb : P.buildable t = true) (hc : P.cellTypes P.depth t = some [t]) (hu : P.underlying t = some (.int k)) : ∃ m, w.cell? ⟨g, 0, none⟩ = some (.int k m) := by
  obtain ⟨cs, hh, hs, hr⟩ := h.1 g zero t hg h0
  obtain ⟨ts, hts, _, hall⟩ := hr hb
  rw [hc] at hts
  cases hts
  have h1 : 0 < cs.size := by omega
  obtain ⟨u, hu', hok⟩ := hall 0 cs[0] (by simp [h1])
  have : u = t := by simpa using hu'.symm
  subst this
  have hcell : w.cell? ⟨g, 0, none⟩ = some cs[0] := by simp [World.cell?, hh, h1]
  rw [hcell]
  unfold Cell.ok at hok
  rw [hu] at hok
  cases hv : cs[0] with
  | int k' m =>
    rw [hv] at hok
    simp at hok
    obtain ⟨rfl, _⟩ := hok
    exact ⟨_, rfl⟩
  | _ => rw [hv] at hok; simp at hok
abbrev lst : List (String × DataW Unit) := Rows.fnExactStoreOpenRow.laid
theorem glob_of {W : World} (h : laidMetH Tryz.prog lst W) (hsh : W.ShapedOpen Tryz.prog) : Glob W (oldImm W) := by
  rw [MakeChecks.laidMetH_plain _ _ _ (by kernel_rfl)] at h
  obtain ⟨ps, hv, _, _⟩ := h
  have r0 := varIs_of hv "internal/strconv.uint64pow10" Rows.laid_internal_strconv_uint64pow10 (.tail _ (.tail _ (.head _)))
  have r1 := varIs_of hv "strconv.ErrSyntax" Rows.laid_strconv_ErrSyntax (.tail _ (.tail _ (.tail _ (.tail _ (.tail _ (.head _))))))
  have r2 := varIs_of hv "strconv.ErrRange" Rows.laid_strconv_ErrRange (.tail _ (.tail _ (.tail _ (.tail _ (.head _)))))
  have c0 : ∀ o, W.cell? ⟨0, o, none⟩ = ((List.range 20).map fun i => Value.int .u64 ((10 ^ i : Nat) : Int))[o]? := by
    obtain ⟨g, t, cs, fuel, p, hg, ht, hw, hd⟩ := r0
    obtain rfl := Option.some.inj ((show Tryz.prog.globalNamed "internal/strconv.uint64pow10" = some 0 by kernel_rfl).symm.trans hg)
    obtain rfl := Option.some.inj ((show (Tryz.prog.globals[0]?).map (·.type) = some 202 by kernel_rfl).symm.trans ht)
    have ed : Rows.laid_internal_strconv_uint64pow10 = (Lib.tabData .u64 ((List.range 20).map fun i => ((10 ^ i : Nat) : Int)) : DataW Unit) := by kernel_rfl
    rw [ed] at hd
    have hcs := Lib.cells_of_tab (show Tryz.prog.underlying 202 = some (.array 20 183) by kernel_rfl) (show Tryz.prog.underlying 183 = some (.int .u64) by kernel_rfl) (by kernel_rfl) (by kernel_rfl) hd
    intro o
    rw [World.var?_cell hg hw o]
    have : cs[o]? = cs.toList[o]? := by simp
    rw [this, hcs, List.map_map]
    rfl
  have c1 : ∃ a b, W.cell? ⟨1, 0, none⟩ = some (.iface a b) := by
    obtain ⟨g, t, cs, fuel, p, hg, ht, hw, hd⟩ := r1
    obtain rfl := Option.some.inj ((show Tryz.prog.globalNamed "strconv.ErrSyntax" = some 1 by kernel_rfl).symm.trans hg)
    obtain rfl := Option.some.inj ((show (Tryz.prog.globals[1]?).map (·.type) = some 165 by kernel_rfl).symm.trans ht)
    obtain ⟨_, u, v, hcs, _, _⟩ := iface_of_trod Tryz.underlying165 hd
    refine ⟨u, v, ?_⟩
    rw [World.var?_cell hg hw 0]
    have : cs[0]? = cs.toList[0]? := by simp
    rw [this, hcs]; rfl
  have c2 : ∃ a b, W.cell? ⟨2, 0, none⟩ = some (.iface a b) := by
    obtain ⟨g, t, cs, fuel, p, hg, ht, hw, hd⟩ := r2
    obtain rfl := Option.some.inj ((show Tryz.prog.globalNamed "strconv.ErrRange" = some 2 by kernel_rfl).symm.trans hg)
    obtain rfl := Option.some.inj ((show (Tryz.prog.globals[2]?).map (·.type) = some 165 by kernel_rfl).symm.trans ht)
    obtain ⟨_, u, v, hcs, _, _⟩ := iface_of_trod Tryz.underlying165 hd
    refine ⟨u, v, ?_⟩
    rw [World.var?_cell hg hw 0]
    have : cs[0]? = cs.toList[0]? := by simp
    rw [this, hcs]; rfl
  have c3 : ∃ m, W.cell? ⟨3, 0, none⟩ = some (.int .i64 m) :=
    int_of_shape hsh (t := 3) (zero := #[.int .i64 0]) (of_decide_eq_true (by kernel_rfl)) (by kernel_rfl) rfl (by kernel_rfl) (by kernel_rfl) Tryz.underlying3
  have lt : ∀ {b : Nat} {v : Value}, W.cell? ⟨b, 0, none⟩ = some v → b < W.heap.size := fun h => (cell_plain h).2
  intro x hx o
  simp only [gdom, List.mem_cons, List.not_mem_nil, or_false] at hx
  rcases hx with rfl | rfl | rfl | rfl
  · exact ⟨lt (c0 0), c0 o⟩
  · obtain ⟨a, b, h1⟩ := c1
    exact ⟨lt h1, fun e => by subst e; exact ⟨a, b, h1⟩⟩
  · obtain ⟨a, b, h1⟩ := c2
    exact ⟨lt h1, fun e => by subst e; exact ⟨a, b, h1⟩⟩
  · obtain ⟨m, h1⟩ := c3
    exact ⟨lt h1, fun e => by subst e; exact ⟨m, h1⟩⟩
theorem laid_met (os : Os) (args : Array Value) : laidMetH Tryz.prog lst ((World.laidAll Tryz.prog os lst).forCall (fun _ _ => 0) ⟨#[], args, []⟩).memory := by
  rw [MakeChecks.laidMetH_plain _ _ _ (by kernel_rfl)]
  exact laidMet_laidAll _ (by kernel_rfl) (by kernel_rfl)
end Go.V

/- The Go function laws.FnLogMend returns true for every input, in the program's own Lean form: however power was lost, the log can be mended, and goes on. Conditions: those of the given row and card. -/
import Derived.Calls
import Derived.Orders
import Derived.Tactics
import Derived.Laws.AppendOwn
import Derived.Laws.MakeOwn
import Derived.Laws.OwnMore
import Derived.Laws.Tables
import Derived.Laws.Rows
import Derived.Laws.Cells
import Derived.Laws.Slices
import Derived.Laws.Strings
import Derived.Laws.Entries
import Derived.Laws.BytesString
import Derived.Laws.CopyRow
import Derived.Laws.IdiomCopy
import Derived.Laws.Concat
import Derived.Laws.Small
import Derived.Laws.StructEq
namespace Go.V
/-- The program's own variables that are read: the block, and what stands at each place of it. -/
def gdom : List (Nat × (Nat → Option Value → Prop)) := [(0, fun o c => c = ((List.range 20).map fun i => Value.int .u64 ((10 ^ i : Nat) : Int))[o]?), (1, fun o c => o = 0 → ∃ a b, c = some (.iface a b)), (2, fun o c => o = 0 → ∃ a b, c = some (.iface a b)), (3, fun o c => o = 0 → ∃ m, c = some (.int .i64 m))]
end Go.V
namespace Go.V
theorem aN {a b : Prop} (x : a) (y : b) : a ∧ b := ⟨x, y⟩
/-- Rewrite rules, under one name. -/
structure Bx (p : Prop) : Type where
  d : p

/-- Closed values: scalars, and slices that nobody writes any more, as lists. -/
inductive V where
  | s (x : Value)
  | sl (es : List (List V))

/-- What a cell holds. -/
inductive C where
  | v (x : V)
  | own (id ver n : Nat)
  | nil0
  | ptr (id ver j : Nat)
  | aptr (id ver i j : Nat)
  | vptr (xs : List V)
  | fn (f : FuncId) (caps : List (Nat × Nat))
  | ow (id ver l n : Nat)

inductive P1 where
  | one (c : C)
  | agg (cs : List C)

/-- What a temporary holds. -/
inductive T where
  | junk
  | undef
  | pt (x : P1)
  | tup (xs : List P1)

inductive Blk where
  | var (ver : Nat) (ty : TypeId) (cs : List C)
  | arr (ver : Nat) (wr : Bool) (st : Nat) (ty : TypeId) (es : List (List V))

def Blk.ver : Blk → Nat
  | .var v _ _ => v
  | .arr v _ _ _ _ => v

abbrev HMap := Nat → Option Blk
abbrev Imm := Nat → Nat → Prop
abbrev Locs := Nat → Option Nat

def at2 {α : Type} (es : List (List α)) (i j : Nat) : Option α := es[i]?.bind (·[j]?)

inductive VRep (w : World) (imm : Imm) : Value → V → Prop where
  | s (x : Value) (h : x.oneCell' = true) : VRep w imm x (.s x)
  | nil (a : Option Addr) (cap : Nat) : VRep w imm (.slice a 0 cap) (.sl [])
  | sl (es : List (List V)) (st b o cap : Nat) (vals : Nat → Nat → Value) (hst : 0 < st) (hne : es ≠ []) (hcap : es.length ≤ cap)
      (hl : ∀ e ∈ es, e.length = st)
      (hc : ∀ i j x, at2 es i j = some x → w.cell? ⟨b, o + i * st + j, none⟩ = some (vals i j) ∧ imm b (o + i * st + j))
      (hr : ∀ i j x, at2 es i j = some x → VRep w imm (vals i j) x) : VRep w imm (.slice (some ⟨b, o, none⟩) es.length cap) (.sl es)

/-- The value of a slice whose array is known whole: none, or the head of block g. -/
def OwnV (w : World) (g : Option Nat) (st : Nat) (ty : TypeId) (n : Nat) (x : Value) : Prop :=
  (∃ a, x = .slice a 0 0 ∧ n = 0) ∨
  ∃ b cap cur, g = some b ∧ x = .slice (some ⟨b, 0, none⟩) n cap ∧ w.heap[b]? = some (.cells cur ty (0, 0)) ∧ n ≤ cap ∧ cap ≤ maxLen ∧ cur.size = cap * st

def CRep (w : World) (imm : Imm) (H : HMap) (L : Locs) (U : Nat → Prop) (x : Value) : C → Prop
  | .v y => VRep w imm x y
  | .nil0 => ∃ a, x = .slice a 0 0
  | .own id ver n => U ver ∧ (∃ a k, x = .slice a n k ∧ n ≤ k) ∧ ∀ wr st ty es, H id = some (.arr ver wr st ty es) → n ≤ es.length ∧ OwnV w (L id) st ty n x
  | .ow id ver l n => U ver ∧ (∃ a k, x = .slice a n k ∧ n ≤ k) ∧ ∀ wr st ty es, H id = some (.arr ver wr st ty es) → l + n ≤ es.length ∧ (n = 0 ∨ ∃ g k, L id = some g ∧ x = .slice (some ⟨g, l * st, none⟩) n k)
  | .ptr id ver j => U ver ∧ (∃ b o, x = .pointer (some ⟨b, o, none⟩)) ∧ ∀ ty cs, H id = some (.var ver ty cs) → ∃ g, L id = some g ∧ x = .pointer (some ⟨g, j, none⟩)
  | .aptr id ver i j => U ver ∧ (∃ b o, x = .pointer (some ⟨b, o, none⟩)) ∧ ∀ wr st ty es, H id = some (.arr ver wr st ty es) → i < es.length ∧ ∃ g, L id = some g ∧ x = .pointer (some ⟨g, i * st + j, none⟩)
  | .vptr xs => ∃ b o, x = .pointer (some ⟨b, o, none⟩) ∧ ∀ k y, xs[k]? = some y → ∃ u, w.cell? ⟨b, o + k, none⟩ = some u ∧ imm b (o + k) ∧ VRep w imm u y
  | .fn f caps => ∃ ps : List Value, x = .func (.func f) #[] ps.toArray ∧ ps.length = caps.length ∧
      ∀ (k : Nat) p, caps[k]? = some p → ∃ u, ps[k]? = some u ∧ U p.2 ∧ (∃ b o, u = .pointer (some ⟨b, o, none⟩)) ∧ ∀ ty cs, H p.1 = some (.var p.2 ty cs) → ∃ g, L p.1 = some g ∧ u = .pointer (some ⟨g, 0, none⟩)

def CsRep (w : World) (imm : Imm) (H : HMap) (L : Locs) (U : Nat → Prop) (xs : List Value) (cs : List C) : Prop :=
  xs.length = cs.length ∧ ∀ (k : Nat) x y, xs[k]? = some x → cs[k]? = some y → CRep w imm H L U x y

def PRep (w : World) (imm : Imm) (H : HMap) (L : Locs) (U : Nat → Prop) (x : Value) : P1 → Prop
  | .one y => CRep w imm H L U x y
  | .agg cs => ∃ xs : List Value, x = .agg xs.toArray ∧ CsRep w imm H L U xs cs

def TRep (w : World) (imm : Imm) (H : HMap) (L : Locs) (U : Nat → Prop) (x : Value) : T → Prop
  | .junk => True
  | .undef => x = undef
  | .pt y => PRep w imm H L U x y
  | .tup ys => ∃ xs : List Value, x = .tuple xs.toArray ∧ xs.length = ys.length ∧ ∀ (k : Nat) u y, xs[k]? = some u → ys[k]? = some y → PRep w imm H L U u y

def VsRep (w : World) (imm : Imm) (cur : Array Value) (o : Nat) (xs : List V) : Prop :=
  ∀ (k : Nat) y, xs[k]? = some y → ∃ u, cur[o + k]? = some u ∧ VRep w imm u y

def BOk (w : World) (imm : Imm) (H : HMap) (L : Locs) (U : Nat → Prop) (n : Nat) : Blk → Prop
  | .var ver ty cs => U ver ∧ ∃ g cur, L n = some g ∧ w.heap[g]? = some (.cells cur ty (0, 0)) ∧ CsRep w imm H L U cur.toList cs ∧ ∀ o, ¬ imm g o
  | .arr ver wr st ty es => U ver ∧ 0 < st ∧ (∀ e ∈ es, e.length = st) ∧
      ((L n = none ∧ es = []) ∨
       ∃ g cur, L n = some g ∧ w.heap[g]? = some (.cells cur ty (0, 0)) ∧ es.length * st ≤ cur.size ∧
         (∀ i e, es[i]? = some e → VsRep w imm cur (i * st) e) ∧ ∀ o, imm g o → wr = false ∧ o < es.length * st)

/-- What the program's own variables hold that are read: they stand as they are. -/
def Glob (w : World) (imm : Imm) : Prop := ∀ x ∈ gdom, ∀ o, imm x.1 o ∧ x.2 o (w.cell? ⟨x.1, o, none⟩)
theorem Glob.keep {w w' : World} {imm imm' : Imm} (h : Glob w imm) (hk : ∀ b o, imm b o → imm' b o ∧ w'.cell? ⟨b, o, none⟩ = w.cell? ⟨b, o, none⟩) : Glob w' imm' := fun x hx o => by
  obtain ⟨h1, h2⟩ := h x hx o
  refine ⟨(hk _ _ h1).1, ?_⟩
  rw [(hk _ _ h1).2]; exact h2

structure HOk (w : World) (imm : Imm) (H : HMap) (L : Locs) (U : Nat → Prop) : Prop where
  blk : ∀ n B, H n = some B → BOk w imm H L U n B
  inj : ∀ n m g, H n ≠ none → H m ≠ none → L n = some g → L m = some g → n = m
  glob : Glob w imm
  imm : ∀ b o, imm b o → b < w.heap.size

/-- From one world to a later one: what stands outside a set of blocks stays; what is unchangeable stays. -/
structure Step (w : World) (imm : Imm) (fp : Nat → Prop) (w' : World) (imm' : Imm) : Prop where
  os : w'.os = w.os
  tape : w'.tape = w.tape
  output : w'.output = w.output
  size : w.heap.size ≤ w'.heap.size
  frame : ∀ b, b < w.heap.size → ¬ fp b → w'.heap[b]? = w.heap[b]?
  keep : ∀ b o, imm b o → imm' b o ∧ w'.cell? ⟨b, o, none⟩ = w.cell? ⟨b, o, none⟩
  grew : ∀ b o, imm' b o → imm b o ∨ w.heap.size ≤ b ∨ fp b

def foot (H : HMap) (L : Locs) : Nat → Prop := fun b => ∃ n, H n ≠ none ∧ L n = some b

def Near (w : World) (fp : Nat → Prop) (H : HMap) (L : Locs) : Prop := ∀ n g, H n ≠ none → L n = some g → fp g ∨ w.heap.size ≤ g

def TsRep (w : World) (imm : Imm) (H : HMap) (L : Locs) (U : Nat → Prop) (vs : List Value) (ts : List T) : Prop :=
  vs.length = ts.length ∧ ∀ (k : Nat) x y, vs[k]? = some x → ts[k]? = some y → TRep w imm H L U x y

/-- What a later state owes to what was said of references. -/
structure Ext (w : World) (H : HMap) (L : Locs) (U : Nat → Prop) (w' : World) (H' : HMap) (L' : Locs) (U' : Nat → Prop) : Prop where
  use : ∀ v, U v → U' v
  var : ∀ n ver ty cs, U ver → H' n = some (.var ver ty cs) → ∃ ty' cs', H n = some (.var ver ty' cs') ∧ L' n = L n
  arr : ∀ n ver wr st ty es, U ver → H' n = some (.arr ver wr st ty es) → ∃ wr' es', H n = some (.arr ver wr' st ty es') ∧ es'.length ≤ es.length ∧ L' n = L n
  cells : ∀ n ver wr st ty es g cur, U ver → H' n = some (.arr ver wr st ty es) → L' n = some g → w.heap[g]? = some (.cells cur ty (0, 0)) → ∃ cur' : Array Value, w'.heap[g]? = some (.cells cur' ty (0, 0)) ∧ cur'.size = cur.size

/-- A call, told over abstract values: it returns, and what it returns is told by R. -/
def ACalls (P : Program) (f : FuncId) (args : List T) (hin : HMap) (R : T → HMap → Prop) : Prop :=
  ∀ (w : World) (imm : Imm) (L : Locs) (c : Nat) (vs : List Value), HOk w imm hin L (· < c) → TsRep w imm hin L (· < c) vs args →
    Calls P f vs.toArray w fun e w' => ∃ x r h imm' L' c', e = .returned x ∧ R r h ∧ TRep w' imm' h L' (· < c') x r ∧ HOk w' imm' h L' (· < c') ∧
      Step w imm (foot hin L) w' imm' ∧ Near w (foot hin L) h L' ∧ Ext w hin L (· < c) w' h L' (· < c')
/-! monotony -/
theorem VRep.mono {w w' : World} {imm imm' : Imm} (hk : ∀ b o, imm b o → imm' b o ∧ w'.cell? ⟨b, o, none⟩ = w.cell? ⟨b, o, none⟩) {x : Value} {y : V} (h : VRep w imm x y) : VRep w' imm' x y := by
  induction h with
  | s x h => exact .s x h
  | nil a cap => exact .nil a cap
  | sl es st b o cap vals hst hne hcap hl hc hr ih =>
    exact .sl es st b o cap vals hst hne hcap hl (fun i j x hx => by
      obtain ⟨h1, h2⟩ := hc i j x hx
      obtain ⟨h3, h4⟩ := hk _ _ h2
      exact ⟨h4.trans h1, h3⟩) ih

theorem CRep.mono {w w' : World} {imm imm' : Imm} {H H' : HMap} {L L' : Locs} {U U' : Nat → Prop} (hk : ∀ b o, imm b o → imm' b o ∧ w'.cell? ⟨b, o, none⟩ = w.cell? ⟨b, o, none⟩)
    (he : Ext w H L U w' H' L' U') {x : Value} {y : C} (h : CRep w imm H L U x y) : CRep w' imm' H' L' U' x y := by
  cases y with
  | v y => exact VRep.mono hk h
  | nil0 => exact h
  | own id ver n =>
    obtain ⟨h1, h2, h3⟩ := h
    refine ⟨he.use _ h1, h2, fun wr st ty es hH => ?_⟩
    obtain ⟨wr', es', hH', hle, hL⟩ := he.arr _ _ _ _ _ _ h1 hH
    obtain ⟨h4, h5⟩ := h3 _ _ _ _ hH'
    refine ⟨Nat.le_trans h4 hle, ?_⟩
    rcases h5 with h5 | ⟨b, cap, cur, hb, hx, hg, hn, hm, hs⟩
    · exact .inl h5
    · obtain ⟨cur', hg', hs'⟩ := he.cells _ _ _ _ _ _ b cur h1 hH (hL.trans hb) hg
      exact .inr ⟨b, cap, cur', hL.trans hb, hx, hg', hn, hm, hs'.trans hs⟩
  | ow id ver l n =>
    obtain ⟨h1, h2, h3⟩ := h
    refine ⟨he.use _ h1, h2, fun wr st ty es hH => ?_⟩
    obtain ⟨wr', es', hH', hle, hL⟩ := he.arr _ _ _ _ _ _ h1 hH
    obtain ⟨h4, h5⟩ := h3 _ _ _ _ hH'
    refine ⟨Nat.le_trans h4 hle, ?_⟩
    rcases h5 with h5 | ⟨g, k, hg, hx⟩
    · exact .inl h5
    · exact .inr ⟨g, k, hL.trans hg, hx⟩
  | ptr id ver j =>
    obtain ⟨h1, h2, h3⟩ := h
    refine ⟨he.use _ h1, h2, fun ty cs hH => ?_⟩
    obtain ⟨ty', cs', hH', hL⟩ := he.var _ _ _ _ h1 hH
    rw [hL]; exact h3 _ _ hH'
  | aptr id ver i j =>
    obtain ⟨h1, h2, h3⟩ := h
    refine ⟨he.use _ h1, h2, fun wr st ty es hH => ?_⟩
    obtain ⟨wr', es', hH', hle, hL⟩ := he.arr _ _ _ _ _ _ h1 hH
    obtain ⟨h4, h5⟩ := h3 _ _ _ _ hH'
    exact ⟨by omega, by rw [hL]; exact h5⟩
  | vptr xs =>
    obtain ⟨b, o, rfl, h⟩ := h
    refine ⟨b, o, rfl, fun k y hy => ?_⟩
    obtain ⟨u, h1, h2, h3⟩ := h k y hy
    obtain ⟨h4, h5⟩ := hk _ _ h2
    exact ⟨u, h5.trans h1, h4, h3.mono hk⟩
  | fn f caps =>
    obtain ⟨ps, hx, hl, h⟩ := h
    refine ⟨ps, hx, hl, fun k p hp => ?_⟩
    obtain ⟨u, h1, h2, h3, h4⟩ := h k p hp
    refine ⟨u, h1, he.use _ h2, h3, fun ty cs hH => ?_⟩
    obtain ⟨ty', cs', hH', hL⟩ := he.var _ _ _ _ h2 hH
    rw [hL]; exact h4 _ _ hH'

section
variable {w w' : World} {imm imm' : Imm} {H H' : HMap} {L L' : Locs} {U U' : Nat → Prop} (hk : ∀ b o, imm b o → imm' b o ∧ w'.cell? ⟨b, o, none⟩ = w.cell? ⟨b, o, none⟩)
    (he : Ext w H L U w' H' L' U')
include hk he
theorem CsRep.mono {xs : List Value} {cs : List C} (h : CsRep w imm H L U xs cs) : CsRep w' imm' H' L' U' xs cs := ⟨h.1, fun k x y hx hy => (h.2 k x y hx hy).mono hk he⟩
theorem PRep.mono {x : Value} {y : P1} (h : PRep w imm H L U x y) : PRep w' imm' H' L' U' x y := by
  cases y with
  | one y => exact CRep.mono hk he h
  | agg cs => obtain ⟨xs, hx, h⟩ := h; exact ⟨xs, hx, h.mono hk he⟩
theorem TRep.mono {x : Value} {y : T} (h : TRep w imm H L U x y) : TRep w' imm' H' L' U' x y := by
  cases y with
  | junk => trivial
  | undef => exact h
  | pt y => exact PRep.mono hk he h
  | tup ys => obtain ⟨xs, hx, hl, h⟩ := h; exact ⟨xs, hx, hl, fun k u y hu hy => PRep.mono hk he (h k u y hu hy)⟩
end

theorem VsRep.mono {w w' : World} {imm imm' : Imm} (hk : ∀ b o, imm b o → imm' b o ∧ w'.cell? ⟨b, o, none⟩ = w.cell? ⟨b, o, none⟩) {cur : Array Value} {o : Nat} {xs : List V} (h : VsRep w imm cur o xs) : VsRep w' imm' cur o xs :=
  fun k y hy => let ⟨u, h1, h2⟩ := h k y hy; ⟨u, h1, h2.mono hk⟩

def upd {α : Type} (t : Nat → α) (d : Nat) (v : α) : Nat → α := fun i => if i = d then v else t i
@[simp] theorem upd_same {α : Type} (t : Nat → α) (d : Nat) (v : α) : upd t d v d = v := by simp [upd]
theorem upd_ne {α : Type} (t : Nat → α) {d i : Nat} (v : α) (h : i ≠ d) : upd t d v i = t i := by simp [upd, h]

theorem cell_of_heap {w w' : World} {b o : Nat} (h : w'.heap[b]? = w.heap[b]?) : w'.cell? ⟨b, o, none⟩ = w.cell? ⟨b, o, none⟩ := by simp [World.cell?, h]

/-- One name gets a new block: all else stays as it was. -/
theorem upd_all {w w' : World} {imm imm' : Imm} {H : HMap} {L : Locs} {U U' : Nat → Prop} (h : HOk w imm H L U) (n : Nat) (B : Blk) (l : Option Nat)
    (hos : w'.os = w.os) (htape : w'.tape = w.tape) (hout : w'.output = w.output) (hsize : w.heap.size ≤ w'.heap.size)
    (hframe : ∀ b, b < w.heap.size → ¬ (H n ≠ none ∧ L n = some b) → w'.heap[b]? = w.heap[b]?)
    (hkeep : ∀ b o, imm b o → imm' b o ∧ w'.cell? ⟨b, o, none⟩ = w.cell? ⟨b, o, none⟩)
    (hgrew : ∀ b o, imm' b o → imm b o ∨ (l = some b ∧ (w.heap.size ≤ b ∨ (H n ≠ none ∧ L n = some b))))
    (hl : ∀ g, l = some g → (w.heap.size ≤ g ∧ g < w'.heap.size) ∨ (H n ≠ none ∧ L n = some g))
    (huse : ∀ v, U v → U' v) (hver : ¬ U B.ver ∨ (∃ ver ty cs ty' cs', B = .var ver ty cs ∧ H n = some (.var ver ty' cs') ∧ l = L n) ∨
      (∃ ver wr st ty es wr' es', B = .arr ver wr st ty es ∧ H n = some (.arr ver wr' st ty es') ∧ es'.length ≤ es.length ∧ l = L n ∧
        ∀ g cur, l = some g → w.heap[g]? = some (.cells cur ty (0, 0)) → ∃ cur' : Array Value, w'.heap[g]? = some (.cells cur' ty (0, 0)) ∧ cur'.size = cur.size))
    (hB : (∀ m, Ext w H L U w' (upd H n (some B)) (upd L n l) U' → m = n → BOk w' imm' (upd H n (some B)) (upd L n l) U' m B)) :
    HOk w' imm' (upd H n (some B)) (upd L n l) U' ∧ Ext w H L U w' (upd H n (some B)) (upd L n l) U' ∧ Step w imm (foot H L) w' imm' ∧ Near w (foot H L) (upd H n (some B)) (upd L n l) := by
  have hlt : ∀ m g, H m ≠ none → L m = some g → g < w.heap.size := by
    intro m g hm hg
    cases hB' : H m with
    | none => exact absurd hB' hm
    | some B' =>
      have := h.blk m B' hB'
      cases B' with
      | var ver ty cs =>
        obtain ⟨_, g', cur, hg', hh, _⟩ := this
        rw [hg] at hg'; cases hg'
        exact (Array.getElem?_eq_some_iff.1 hh).1
      | arr ver wr st ty es =>
        obtain ⟨_, _, _, hq⟩ := this
        rcases hq with ⟨hq, _⟩ | ⟨g', cur, hg', hh, _⟩
        · rw [hg] at hq; cases hq
        · rw [hg] at hg'; cases hg'
          exact (Array.getElem?_eq_some_iff.1 hh).1
  have hne : ∀ m g, m ≠ n → H m ≠ none → L m = some g → w'.heap[g]? = w.heap[g]? := fun m g hmn hm hg =>
    hframe g (hlt m g hm hg) fun ⟨h1, h2⟩ => hmn (h.inj m n g hm h1 hg h2)
  have hext : Ext w H L U w' (upd H n (some B)) (upd L n l) U' := by
    refine ⟨huse, ?_, ?_, ?_⟩
    · intro m ver ty cs hu hm
      by_cases hmn : m = n
      · subst hmn
        simp only [upd_same, Option.some.injEq] at hm
        subst hm
        rcases hver with hv | ⟨ver', ty1, cs1, ty', cs', e1, e2, e3⟩ | ⟨ver', wr, st, ty1, es, wr', es', e1, _⟩
        · exact absurd hu hv
        · cases e1; exact ⟨ty', cs', e2, by simp [e3]⟩
        · cases e1
      · rw [upd_ne _ _ hmn] at hm ⊢
        exact ⟨ty, cs, hm, rfl⟩
    · intro m ver wr st ty es hu hm
      by_cases hmn : m = n
      · subst hmn
        simp only [upd_same, Option.some.injEq] at hm
        subst hm
        rcases hver with hv | ⟨ver', ty1, cs1, ty', cs', e1, e2, e3⟩ | ⟨ver', wr1, st1, ty1, es1, wr', es', e1, e2, e3, e4, _⟩
        · exact absurd hu hv
        · cases e1
        · cases e1; exact ⟨wr', es', e2, e3, by simp [e4]⟩
      · rw [upd_ne _ _ hmn] at hm ⊢
        exact ⟨wr, es, hm, Nat.le_refl _, rfl⟩
    · intro m ver wr st ty es g cur hu hm hg hh
      by_cases hmn : m = n
      · subst hmn
        simp only [upd_same, Option.some.injEq] at hm hg
        subst hm
        rcases hver with hv | ⟨ver', ty1, cs1, ty', cs', e1, e2, e3⟩ | ⟨ver', wr1, st1, ty1, es1, wr', es', e1, e2, e3, e4, e5⟩
        · exact absurd hu hv
        · cases e1
        · cases e1; exact e5 g cur hg hh
      · rw [upd_ne _ _ hmn] at hm hg
        exact ⟨cur, by rw [hne m g hmn (by simp [hm]) hg]; exact hh, rfl⟩
  have himm : ∀ m g, m ≠ n → H m ≠ none → L m = some g → ∀ o, imm' g o → imm g o := by
    intro m g hmn hm hg o ho
    rcases hgrew g o ho with h1 | ⟨h1, h2⟩
    · exact h1
    · rcases h2 with h2 | ⟨h2, h3⟩
      · exact absurd (hlt m g hm hg) (by omega)
      · exact absurd (h.inj m n g hm h2 hg h3) hmn
  refine ⟨⟨?_, ?_, h.glob.keep hkeep, ?_⟩, hext, ⟨hos, htape, hout, hsize, ?_, hkeep, ?_⟩, ?_⟩
  · intro m B' hm
    by_cases hmn : m = n
    · subst hmn
      simp only [upd_same, Option.some.injEq] at hm
      subst hm
      exact hB m hext rfl
    · rw [upd_ne _ _ hmn] at hm
      have hb := h.blk m B' hm
      cases B' with
      | var ver ty cs =>
        obtain ⟨h1, g, cur, hg, hh, hcs, hi⟩ := hb
        refine ⟨huse _ h1, g, cur, by rw [upd_ne _ _ hmn]; exact hg, ?_, hcs.mono hkeep hext, fun o ho => hi o (himm m g hmn (by simp [hm]) hg o ho)⟩
        rw [hne m g hmn (by simp [hm]) hg]; exact hh
      | arr ver wr st ty es =>
        obtain ⟨h1, h2, h3, hq⟩ := hb
        refine ⟨huse _ h1, h2, h3, ?_⟩
        rcases hq with ⟨hq, he⟩ | ⟨g, cur, hg, hh, hle, hcs, hi⟩
        · exact .inl ⟨by rw [upd_ne _ _ hmn]; exact hq, he⟩
        · refine .inr ⟨g, cur, by rw [upd_ne _ _ hmn]; exact hg, ?_, hle, fun i e hi => (hcs i e hi).mono hkeep, fun o ho => hi o (himm m g hmn (by simp [hm]) hg o ho)⟩
          rw [hne m g hmn (by simp [hm]) hg]; exact hh
  · intro m m' g hm hm' hg hg'
    by_cases e1 : m = n <;> by_cases e2 : m' = n
    · rw [e1, e2]
    · subst e1
      rw [upd_ne _ _ e2] at hm' hg'
      simp only [upd_same] at hg
      rcases hl g hg with h1 | ⟨h1, h2⟩
      · exact absurd (hlt m' g hm' hg') (by omega)
      · exact h.inj _ _ g h1 hm' h2 hg'
    · subst e2
      rw [upd_ne _ _ e1] at hm hg
      simp only [upd_same] at hg'
      rcases hl g hg' with h1 | ⟨h1, h2⟩
      · exact absurd (hlt m g hm hg) (by omega)
      · exact h.inj _ _ g hm h1 hg h2
    · rw [upd_ne _ _ e1] at hm hg
      rw [upd_ne _ _ e2] at hm' hg'
      exact h.inj _ _ g hm hm' hg hg'
  · intro b o hb
    rcases hgrew b o hb with h1 | ⟨h1, _⟩
    · exact Nat.lt_of_lt_of_le (h.imm b o h1) hsize
    · rcases hl b h1 with h2 | ⟨h2, h3⟩
      · exact h2.2
      · exact Nat.lt_of_lt_of_le (hlt n b h2 h3) hsize
  · intro b hb hf
    exact hframe b hb fun ⟨h1, h2⟩ => hf ⟨n, h1, h2⟩
  · intro b o hb
    rcases hgrew b o hb with h1 | ⟨_, h2 | ⟨h2, h3⟩⟩
    · exact .inl h1
    · exact .inr (.inl h2)
    · exact .inr (.inr ⟨n, h2, h3⟩)
  · intro m g hm hg
    by_cases hmn : m = n
    · subst hmn
      simp only [upd_same] at hg
      rcases hl g hg with h1 | ⟨h1, h2⟩
      · exact .inr h1.1
      · exact .inl ⟨m, h1, h2⟩
    · rw [upd_ne _ _ hmn] at hm hg
      exact .inl ⟨m, hm, hg⟩

theorem Ext.refl (w : World) (H : HMap) (L : Locs) (U : Nat → Prop) : Ext w H L U w H L U :=
  ⟨fun _ h => h, fun _ _ ty cs _ h => ⟨ty, cs, h, rfl⟩, fun _ _ wr _ _ es _ h => ⟨wr, es, h, Nat.le_refl _, rfl⟩, fun _ _ _ _ _ _ _ cur _ _ _ h => ⟨cur, h, rfl⟩⟩

theorem Step.refl (w : World) (imm : Imm) (fp : Nat → Prop) : Step w imm fp w imm := ⟨rfl, rfl, rfl, Nat.le_refl _, fun _ _ _ => rfl, fun _ _ h => ⟨h, rfl⟩, fun _ _ h => .inl h⟩

theorem Near.refl (w : World) (H : HMap) (L : Locs) : Near w (foot H L) H L := fun n _ hn hg => .inl ⟨n, hn, hg⟩

theorem Step.trans {w w1 w2 : World} {imm imm1 imm2 : Imm} {fp : Nat → Prop} {H1 H2 : HMap} {L1 L2 : Locs} (h1 : Step w imm fp w1 imm1) (n1 : Near w fp H1 L1)
    (h2 : Step w1 imm1 (foot H1 L1) w2 imm2) (n2 : Near w1 (foot H1 L1) H2 L2) : Step w imm fp w2 imm2 ∧ Near w fp H2 L2 := by
  refine ⟨⟨h2.os.trans h1.os, h2.tape.trans h1.tape, h2.output.trans h1.output, Nat.le_trans h1.size h2.size, ?_, ?_, ?_⟩, ?_⟩
  · intro b hb hf
    rw [h2.frame b (Nat.lt_of_lt_of_le hb h1.size) ?_, h1.frame b hb hf]
    rintro ⟨n, hn, hL⟩
    rcases n1 n b hn hL with h | h
    · exact hf h
    · omega
  · intro b o hi
    obtain ⟨a1, a2⟩ := h1.keep b o hi
    obtain ⟨b1, b2⟩ := h2.keep b o a1
    exact ⟨b1, b2.trans a2⟩
  · intro b o hi
    rcases h2.grew b o hi with h | h | ⟨n, hn, hL⟩
    · exact h1.grew b o h
    · exact .inr (.inl (Nat.le_trans h1.size h))
    · rcases n1 n b hn hL with h | h
      · exact .inr (.inr h)
      · exact .inr (.inl h)
  · intro n g hn hg
    rcases n2 n g hn hg with ⟨m, hm, hL⟩ | h
    · exact n1 m g hm hL
    · exact .inr (Nat.le_trans h1.size h)

theorem Ext.trans {w w1 w2 : World} {H H1 H2 : HMap} {L L1 L2 : Locs} {U U1 U2 : Nat → Prop} (a : Ext w H L U w1 H1 L1 U1) (b : Ext w1 H1 L1 U1 w2 H2 L2 U2) : Ext w H L U w2 H2 L2 U2 := by
  refine ⟨fun v h => b.use v (a.use v h), ?_, ?_, ?_⟩
  · intro n ver ty cs hu hn
    obtain ⟨ty1, cs1, h1, e1⟩ := b.var n ver ty cs (a.use _ hu) hn
    obtain ⟨ty2, cs2, h2, e2⟩ := a.var n ver ty1 cs1 hu h1
    exact ⟨ty2, cs2, h2, e1.trans e2⟩
  · intro n ver wr st ty es hu hn
    obtain ⟨wr1, es1, h1, l1, e1⟩ := b.arr n ver wr st ty es (a.use _ hu) hn
    obtain ⟨wr2, es2, h2, l2, e2⟩ := a.arr n ver wr1 st ty es1 hu h1
    exact ⟨wr2, es2, h2, Nat.le_trans l2 l1, e1.trans e2⟩
  · intro n ver wr st ty es g cur hu hn hg hh
    obtain ⟨wr1, es1, h1, l1, e1⟩ := b.arr n ver wr st ty es (a.use _ hu) hn
    obtain ⟨cur1, c1, s1⟩ := a.cells n ver wr1 st ty es1 g cur hu h1 (e1.symm.trans hg) hh
    obtain ⟨cur2, c2, s2⟩ := b.cells n ver wr st ty es g cur1 (a.use _ hu) hn hg c1
    exact ⟨cur2, c2, s2.trans s1⟩

theorem CRep.use {w : World} {H : HMap} {L : Locs} {U U' : Nat → Prop} (hu : ∀ v, U v → U' v) : Ext w H L U w H L U' :=
  ⟨hu, fun _ _ ty cs _ h => ⟨ty, cs, h, rfl⟩, fun _ _ wr _ _ es _ h => ⟨wr, es, h, Nat.le_refl _, rfl⟩, fun _ _ _ _ _ _ _ cur _ _ _ h => ⟨cur, h, rfl⟩⟩
end Go.V
namespace Go.V

inductive Opd where
  | t (i : Nat)
  | k (x : T)

inductive AOp where
  | mv (x : Opd)
  | pick (c a b : Opd)
  | alloc (ty : TypeId) (cs : List C)
  | box (ty : TypeId) (x : Opd)
  | build (zero : List C) (parts : List (Nat × Nat × Opd))
  | bsl (st : Nat) (ty : TypeId) (parts : List Opd)
  | ld (n : Nat) (ag : Bool) (x : Opd)
  | st (n : Nat) (x v : Opd)
  | nck (x : Opd)
  | bin (op : BinOp) (x y : Opd)
  | binB (op : BinOp) (x y : Opd)
  | cmpA (neg : Bool) (ks : List Nat) (x y : Opd)
  | un (op : UnOp) (x : Opd)
  | cnvI (k : IntKind) (x : Opd)
  | mkf (f : FuncId) (caps : List Opd)
  | mks (st : Nat) (ty : TypeId) (bytes : Nat) (zero : List V) (l c : Opd)
  | slc (st : Nat) (x : Opd) (lo hi : Option Opd)
  | slc0 (x : Opd)
  | slcS (x : Opd) (lo hi : Option Opd)
  | fa (off : Nat) (x : Opd)
  | fl (off n : Nat) (ag : Bool) (x : Opd)
  | ia (st : Nat) (x i : Opd)
  | ix (x i : Opd)
  | ext (i : Nat) (x : Opd)
  | len (x : Opd)
  | lenS (x : Opd)
  | mmx (mx : Bool) (x y : Opd)
  | cpy (x y : Opd)
  | iap (n st : Nat) (x i : Opd)
  | ixA (n st : Nat) (ag : Bool) (x i : Opd)
  | cnvBS (x : Opd)
  | isnil (neg : Bool) (x : Opd)
  | bad
  | app (st : Nat) (ty : TypeId) (bytes : Nat) (x y : Opd)
  | mm3 (x y z : Opd)
  | call (f : Opd) (args : List Opd)

structure AOper where
  k : Nat
  d : Option Nat
  g : Option (Nat × Bool)
  un : List Nat
  op : AOp

structure St where
  t : Nat → T
  H : HMap
  ctr : Nat

structure Ef where
  val : T
  ws : List (Nat × Blk)
  rn : List Nat
  wn : List Nat

abbrev Ef.pure (v : T) : Ef := ⟨v, [], [], []⟩

def ev (t : Nat → T) : Opd → T
  | .t i => t i
  | .k x => x

abbrev T.c (x : C) : T := .pt (.one x)
abbrev T.s (x : Value) : T := .pt (.one (.v (.s x)))
abbrev T.b (x : Bool) : T := .pt (.one (.v (.s (.bool x))))
abbrev T.i (x : Int) : T := .pt (.one (.v (.s (.int .i64 x))))

def P1.cells : P1 → List C
  | .one c => [c]
  | .agg cs => cs

/-- The cells from k on are these. -/
def putC {α : Type} (cs : List α) (k : Nat) (ns : List α) : List α := cs.take k ++ ns ++ cs.drop (k + ns.length)

/-- A cell as a closed value; an array of the call's own is given away for reading. -/
def sealC (H : HMap) : C → Option (V × List (Nat × Blk) × List Nat)
  | .v x => some (x, [], [])
  | .nil0 => some (.sl [], [], [])
  | .own id ver n => match H id with
    | some (.arr ver' _ st ty es) => if ver' = ver ∧ n ≤ es.length then some (.sl (es.take n), [(id, .arr ver false st ty es)], [id]) else none
    | _ => none
  | .ow id ver l n => match H id with
    | some (.arr ver' _ st ty es) => if ver' = ver ∧ l + n ≤ es.length then some (.sl ((es.drop l).take n), [(id, .arr ver false st ty es)], [id]) else none
    | _ => none
  | _ => none

def sealCs (H : HMap) : List C → Option (List V × List (Nat × Blk) × List Nat)
  | [] => some ([], [], [])
  | c :: cs => match sealC H c, sealCs H cs with
    | some (x, w, n), some (xs, ws, ns) => some (x :: xs, w ++ ws, n ++ ns)
    | _, _ => none

/-- The parts of a slice's literal, each with so many cells. -/
def sealPs (H : HMap) (st : Nat) : List T → Option (List (List V) × List (Nat × Blk) × List Nat)
  | [] => some ([], [], [])
  | .pt p :: ps => match sealCs H p.cells, sealPs H st ps with
    | some (x, w, n), some (xs, ws, ns) => if x.length = st then some (x :: xs, w ++ ws, n ++ ns) else none
    | _, _ => none
  | _ :: _ => none

def fillP (t : Nat → T) : List C → List (Nat × Nat × Opd) → Option (List C)
  | cs, [] => some cs
  | cs, (off, size, x) :: ps => match ev t x with
    | .pt p => if p.cells.length = size ∧ off + size ≤ cs.length then fillP t (putC cs off p.cells) ps else none
    | _ => none

def asInt : T → Option (IntKind × Int)
  | .pt (.one (.v (.s (.int k n)))) => some (k, n)
  | _ => none

def sInt (op : BinOp) (k : IntKind) (a b : Int) : Option Value :=
  match op with
  | .add => some (.int k (k.wrap (a + b)))
  | .sub => some (.int k (k.wrap (a - b)))
  | .mul => some (.int k (k.wrap (a * b)))
  | .quo => if b = 0 then none else some (.int k (k.wrap (a.tdiv b)))
  | .rem => if b = 0 then none else some (.int k (a.tmod b))
  | .and => some (.int k (k.wrap ((BitVec.ofInt k.bits a &&& BitVec.ofInt k.bits b).toNat)))
  | .or => some (.int k (k.wrap ((BitVec.ofInt k.bits a ||| BitVec.ofInt k.bits b).toNat)))
  | .xor => some (.int k (k.wrap ((BitVec.ofInt k.bits a ^^^ BitVec.ofInt k.bits b).toNat)))
  | .shl => if b < 0 then none else some (.int k (k.wrap (a * 2 ^ (min b.toNat k.bits))))
  | .shr => if b < 0 then none else some (.int k (a.fdiv (2 ^ (min b.toNat k.bits))))
  | .eql => some (.bool (a == b))
  | .neq => some (.bool (a != b))
  | .lss => some (.bool (decide (a < b)))
  | .leq => some (.bool (decide (a ≤ b)))
  | .gtr => some (.bool (decide (a > b)))
  | .geq => some (.bool (decide (a ≥ b)))
  | _ => none

/-- Two texts fit into one. -/
def fits (a b : ByteArray) : Prop := a.size + b.size ≤ 9223372036854775807
instance (a b : ByteArray) : Decidable (fits a b) := Nat.decLe _ _

def sStr (op : BinOp) (a b : ByteArray) : Option Value :=
  match op with
  | .add => if fits a b then some (.string (a ++ b)) else none
  | .eql => some (.bool (a.toList == b.toList))
  | .neq => some (.bool (!(a.toList == b.toList)))
  | .lss => some (.bool (Op.bytesLess a.toList b.toList))
  | .leq => some (.bool (Op.bytesLess a.toList b.toList || a.toList == b.toList))
  | .gtr => some (.bool (!(Op.bytesLess a.toList b.toList || a.toList == b.toList)))
  | .geq => some (.bool (!Op.bytesLess a.toList b.toList))
  | _ => none

def isShift : BinOp → Bool
  | .shl | .shr => true
  | _ => false

def sBin (op : BinOp) (a b : Value) : Option Value :=
  match a, b with
  | .int k x, .int k' y => if k = k' ∨ isShift op = true then sInt op k x y else none
  | .string x, .string y => sStr op x y
  | _, _ => none

def sUn (op : UnOp) (a : Value) : Option Value :=
  match op, a with
  | .not, .bool b => some (.bool !b)
  | .neg, .int k n => some (.int k (k.wrap (0 - n)))
  | _, _ => none

/-- What a slice holds that is read whole: for the second operand of append. -/
def srcOf (H : HMap) : T → Option (List (List V) × List Nat)
  | .pt (.one .nil0) => some ([], [])
  | .pt (.one (.v (.sl es))) => some (es, [])
  | .pt (.one (.own id ver n)) => match H id with
    | some (.arr ver' _ _ _ es) => if ver' = ver then some (es.take n, [id]) else none
    | _ => none
  | .pt (.one (.ow id ver l n)) => match H id with
    | some (.arr ver' _ _ _ es) => if ver' = ver ∧ l + n ≤ es.length then some ((es.drop l).take n, [id]) else none
    | _ => none
  | .pt (.one (.v (.s (.slice _ n _)))) => if n = 0 then some ([], []) else none
  | _ => none

/-- The array that copy writes: its name, its mark, from where, how much. -/
def dstOf : T → Option (Nat × Nat × Nat × Nat)
  | .pt (.one (.own id v n)) => some (id, v, 0, n)
  | .pt (.one (.ow id v l n)) => some (id, v, l, n)
  | _ => none

/-- Whether structs of numbers, truth values and texts are alike. -/
def eqK : List Nat → List C → List C → Option Bool
  | [], [], [] => some true
  | 0 :: ks, .v (.s (.int k a)) :: cs, .v (.s (.int k' b)) :: ds => if k = k' then (eqK ks cs ds).map fun r => (a == b) && r else none
  | 1 :: ks, .v (.s (.bool a)) :: cs, .v (.s (.bool b)) :: ds => (eqK ks cs ds).map fun r => (a == b) && r
  | 2 :: ks, .v (.s (.string a)) :: cs, .v (.s (.string b)) :: ds => (eqK ks cs ds).map fun r => (a.toList == b.toList) && r
  | _, _, _ => none

/-- The bytes of a row. -/
def bytesOf : List (List V) → Option (List Int)
  | [] => some []
  | [.s (.int .u8 n)] :: es => (bytesOf es).map (n :: ·)
  | _ => none
def pushB (ns : List Int) : ByteArray := ns.foldl (fun r n => r.push (UInt8.ofNat n.toNat)) ByteArray.empty

/-- The cells that a pointer points to, up to the end of what it points into. -/
def ptrC (H : HMap) : T → Option (List C × List Nat)
  | .pt (.one (.ptr id ver j)) => match H id with
    | some (.var ver' _ cs) => if ver' = ver then some (cs.drop j, [id]) else none
    | _ => none
  | .pt (.one (.aptr id ver i j)) => match H id with
    | some (.arr ver' _ _ _ es) => if ver' = ver then (es[i]?).map fun e => ((e.drop j).map .v, [id]) else none
    | _ => none
  | .pt (.one (.vptr xs)) => some (xs.map .v, [])
  | _ => none

def loadT (H : HMap) (n : Nat) (ag : Bool) (x : T) : Option (T × List Nat) :=
  match ptrC H x with
  | some (cs, rn) => if ag then (if n ≤ cs.length then some (.pt (.agg (cs.take n)), rn) else none) else (cs[0]?).map fun c => (.pt (.one c), rn)
  | none => none

def toVs : List C → Option (List V)
  | [] => some []
  | .v x :: cs => (toVs cs).map (x :: ·)
  | .nil0 :: cs => (toVs cs).map (.sl [] :: ·)
  | _ :: _ => none

def storeT (H : HMap) (n : Nat) (p : P1) : T → Option (List (Nat × Blk) × List Nat)
  | .pt (.one (.ptr id ver j)) => match H id with
    | some (.var ver' ty cs) => if ver' = ver ∧ p.cells.length = n ∧ j + n ≤ cs.length then some ([(id, .var ver ty (putC cs j p.cells))], [id]) else none
    | _ => none
  | .pt (.one (.aptr id ver i j)) => match H id, toVs p.cells with
    | some (.arr ver' wr st ty es), some xs => if wr = true ∧ ver' = ver then match es[i]? with
      | some e => if xs.length = n ∧ j + n ≤ e.length then some ([(id, .arr ver true st ty (es.set i (putC e j xs)))], [id]) else none
      | none => none
      else none
    | _, _ => none
  | _ => none

def capsOf : List T → Option (List (Nat × Nat))
  | [] => some []
  | .pt (.one (.ptr id ver 0)) :: ts => (capsOf ts).map ((id, ver) :: ·)
  | _ :: _ => none

/-- The bounds of a slice expression: both are there, or stand for the ends. -/
def lohi (t : Nat → T) (len : Nat) (lo hi : Option Opd) : Option (Nat × Nat) :=
  match (match lo with | none => some (IntKind.i64, (0 : Int)) | some o => asInt (ev t o)), (match hi with | none => some (IntKind.i64, (len : Int)) | some o => asInt (ev t o)) with
  | some (_, l), some (_, h) => if 0 ≤ l ∧ l ≤ h ∧ h ≤ (len : Int) then some (l.toNat, h.toNat) else none
  | _, _ => none

def core (op : AOp) (d ver : Nat) (t : Nat → T) (H : HMap) : Option Ef :=
  match op with
  | .mv x => some (.pure (ev t x))
  | .pick c a b => match ev t c with
    | .pt (.one (.v (.s (.bool b')))) => some (.pure (if b' then ev t a else ev t b))
    | _ => none
  | .alloc ty cs => some ⟨.pt (.one (.ptr d ver 0)), [(d, .var ver ty cs)], [d], [d]⟩
  | .box ty x => match ev t x with
    | .pt p => some ⟨.pt (.one (.ptr d ver 0)), [(d, .var ver ty p.cells)], [d], [d]⟩
    | _ => none
  | .build zero parts => (fillP t zero parts).map fun cs => .pure (.pt (.agg cs))
  | .bsl st ty parts => match sealPs H st (parts.map (ev t)) with
    | some (es, ws, ns) => some ⟨.pt (.one (.own d ver es.length)), ws ++ [(d, .arr ver true st ty es)], d :: ns, d :: ns⟩
    | none => none
  | .ld n ag x => (loadT H n ag (ev t x)).map fun (v, rn) => ⟨v, [], rn, []⟩
  | .st n x v => match ev t v with
    | .pt p => (storeT H n p (ev t x)).map fun (ws, wn) => ⟨.undef, ws, wn, wn⟩
    | _ => none
  | .nck x => match ev t x with
    | .pt (.one (.fn f cs)) => some (.pure (.pt (.one (.fn f cs))))
    | .pt (.one (.ptr a b c)) => some (.pure (.pt (.one (.ptr a b c))))
    | .pt (.one (.vptr xs)) => some (.pure (.pt (.one (.vptr xs))))
    | .pt (.one (.aptr a b c e)) => some (.pure (.pt (.one (.aptr a b c e))))
    | _ => none
  | .bin op x y => match ev t x, ev t y with
    | .pt (.one (.v (.s a))), .pt (.one (.v (.s b))) => (sBin op a b).map fun v => .pure (.s v)
    | _, _ => none
  | .cmpA neg ks x y => match ev t x, ev t y with
    | .pt (.agg cs), .pt (.agg ds) => (eqK ks cs ds).map fun r => .pure (.b (if neg then !r else r))
    | _, _ => none
  | .binB op x y => match ev t x, ev t y with
    | .pt (.one (.v (.s (.bool a)))), .pt (.one (.v (.s (.bool b)))) => match op with
      | .eql => some (.pure (.b (a == b)))
      | .neq => some (.pure (.b (!(a == b))))
      | _ => none
    | _, _ => none
  | .un op x => match ev t x with
    | .pt (.one (.v (.s a))) => (sUn op a).map fun v => .pure (.s v)
    | _ => none
  | .cnvI k x => (asInt (ev t x)).map fun (_, n) => .pure (.s (.int k (k.wrap n)))
  | .mkf f caps => (capsOf (caps.map (ev t))).map fun cs => .pure (.pt (.one (.fn f cs)))
  | .mks st ty bytes zero l c => match asInt (ev t l), asInt (ev t c) with
    | some (_, l), some (_, c) =>
      if 0 ≤ l ∧ l ≤ c ∧ bytes * c ≤ 281474976710656 ∧ c ≤ 9223372036854775807 ∧ zero.length = st ∧ 0 < st then
        some ⟨.pt (.one (.own d ver l.toNat)), [(d, .arr ver true st ty (List.replicate l.toNat zero))], [d], [d]⟩ else none
    | _, _ => none
  | .slcS x lo hi => match ev t x with
    | .pt (.one (.v (.s (.string s)))) => (lohi t s.size lo hi).map fun (l, h) => .pure (.s (.string (s.extract l h)))
    | _ => none
  | .slc st x lo hi => match ev t x with
    | .pt (.one (.v (.sl es))) => match lohi t es.length lo hi with
      | some (l, h) => if ∀ e ∈ es, e.length = st then some (.pure (.pt (.one (.v (.sl ((es.drop l).take (h - l))))))) else none
      | none => none
    | .pt (.one (.own id v n)) => match lohi t n lo hi with
      | some (0, h) => some (.pure (.pt (.one (.own id v h))))
      | some (l + 1, h) => match H id with
        | some (.arr v' _ st' _ es) => if v' = v ∧ st' = st ∧ h ≤ es.length then some ⟨.pt (.one (.ow id v (l + 1) (h - (l + 1)))), [], [id], []⟩ else none
        | _ => none
      | none => none
    | .pt (.one .nil0) => match lohi t 0 lo hi with
      | some _ => some (.pure (.pt (.one .nil0)))
      | none => none
    | _ => none
  | .slc0 x => match ev t x with
    | .pt (.one (.v (.sl _))) => some (.pure (.pt (.one .nil0)))
    | .pt (.one (.own _ _ _)) => some (.pure (.pt (.one .nil0)))
    | .pt (.one .nil0) => some (.pure (.pt (.one .nil0)))
    | _ => none
  | .fa off x => match ev t x with
    | .pt (.one (.ptr id v j)) => some (.pure (.pt (.one (.ptr id v (j + off)))))
    | .pt (.one (.aptr id v i j)) => some (.pure (.pt (.one (.aptr id v i (j + off)))))
    | .pt (.one (.vptr xs)) => some (.pure (.pt (.one (.vptr (xs.drop off)))))
    | _ => none
  | .fl off n ag x => match ev t x with
    | .pt (.agg cs) =>
      if ag then (if off + n ≤ cs.length then some (.pure (.pt (.agg ((cs.drop off).take n)))) else none)
      else (cs[off]?).map fun c => .pure (.pt (.one c))
    | _ => none
  | .ia st x i => match ev t x, asInt (ev t i) with
    | .pt (.one (.v (.sl es))), some (_, n) => if 0 ≤ n then match es[n.toNat]? with
      | some e => if e.length = st then some (.pure (.pt (.one (.vptr e)))) else none
      | none => none
      else none
    | .pt (.one (.own id v m)), some (_, n) => if 0 ≤ n ∧ n < m then match H id with
      | some (.arr v' _ st' _ es) => if v' = v ∧ st' = st ∧ m ≤ es.length then some ⟨.pt (.one (.aptr id v n.toNat 0)), [], [id], []⟩ else none
      | _ => none
      else none
    | _, _ => none
  | .ix x i => match ev t x, asInt (ev t i) with
    | .pt (.one (.v (.s (.string s)))), some (_, n) => if 0 ≤ n then (s.data[n.toNat]?).map fun b => .pure (.s (.int .u8 b.toNat)) else none
    | _, _ => none
  | .ext i x => match ev t x with
    | .tup xs => (xs[i]?).map fun p => .pure (.pt p)
    | _ => none
  | .lenS x => match ev t x with
    | .pt (.one (.v (.s (.string s)))) => some (.pure (.i s.size))
    | _ => none
  | .mmx mx x y => match asInt (ev t x), asInt (ev t y) with
    | some (k, a), some (_, b) => some (.pure (.s (.int k (if mx then max a b else min a b))))
    | _, _ => none
  | .iap n st x i => match ev t x, asInt (ev t i) with
    | .pt (.one (.ptr id v j)), some (_, m) => if 0 ≤ m ∧ m.toNat < n then some (.pure (.pt (.one (.ptr id v (j + m.toNat * st))))) else none
    | _, _ => none
  | .ixA n st ag x i => match ev t x, asInt (ev t i) with
    | .pt (.agg cs), some (_, m) => if 0 ≤ m ∧ m.toNat < n then
        (if ag then (if m.toNat * st + st ≤ cs.length then some (.pure (.pt (.agg ((cs.drop (m.toNat * st)).take st)))) else none)
        else (cs[m.toNat * st]?).map fun c => .pure (.pt (.one c)))
      else none
    | _, _ => none
  | .len x => match ev t x with
    | .pt (.one (.v (.sl es))) => some (.pure (.i es.length))
    | .pt (.one (.own _ _ n)) => some (.pure (.i n))
    | .pt (.one .nil0) => some (.pure (.i 0))
    | _ => none
  | .app st ty bytes x y => match srcOf H (ev t y) with
    | none => none
    | some (ys, ns) => if (∀ e ∈ ys, e.length = st) ∧ 0 < st then match ev t x with
      | .pt (.one .nil0) => if ys.length * bytes ≤ 140737488355328 ∧ ys.length ≤ 9223372036854775807 then
          some ⟨.pt (.one (.own d ver ys.length)), [(d, .arr ver true st ty ys)], d :: ns, [d]⟩ else none
      | .pt (.one (.own id v n)) => match H id with
        | some (.arr v' wr st' ty' es) =>
          if v' = v ∧ st' = st ∧ ty' = ty ∧ n ≤ es.length ∧ (n = es.length ∨ wr = true) ∧ (n + ys.length) * bytes ≤ 140737488355328 ∧ n + ys.length ≤ 9223372036854775807 then
            some ⟨.pt (.one (.own id ver (n + ys.length))), [(id, .arr ver wr st ty (es.take n ++ ys))], id :: ns, [id]⟩ else none
        | _ => none
      | _ => none
      else none
  | .cpy x y => match srcOf H (ev t y), dstOf (ev t x) with
    | some (ys, ns), some (id, v, l, n) => match H id with
      | some (.arr v' wr st' ty es) => if v' = v ∧ st' = 1 ∧ wr = true ∧ l + n ≤ es.length ∧ ∀ e ∈ ys, e.length = 1 then
          some ⟨.i (min ys.length n : Nat), [(id, .arr v true 1 ty (es.take l ++ ys.take n ++ es.drop (l + min ys.length n)))], id :: ns, [id]⟩ else none
      | _ => none
    | _, _ => none
  | .cnvBS x => match srcOf H (ev t x) with
    | some (ys, ns) => (bytesOf ys).map fun bs => ⟨.s (.string (pushB bs)), [], ns, []⟩
    | none => none
  | .isnil neg x => match ev t x with
    | .pt (.one (.v (.sl (_ :: _)))) => some (.pure (.b neg))
    | .pt (.one (.v (.s (.slice a _ _)))) => some (.pure (.b (a.isNone != neg)))
    | _ => none
  | .call _ _ => none
  | .bad => none
  | .mm3 x y z => match asInt (ev t x), asInt (ev t y), asInt (ev t z) with
    | some (k, a), some (_, b), some (_, c) => some (.pure (.s (.int k (max (max a b) c))))
    | _, _, _ => none

def updD (t : Nat → T) : Option Nat → T → (Nat → T)
  | none, _ => t
  | some d, v => upd t d v

def updH (H : HMap) : List (Nat × Blk) → HMap
  | [] => H
  | (n, b) :: ws => updH (upd H n (some b)) ws

def St.app (σ : St) (d : Option Nat) (e : Ef) : St := ⟨updD σ.t d e.val, updH σ.H e.ws, σ.ctr⟩
end Go.V
namespace Go.V

theorem oneCell_s {w : World} {imm : Imm} {x : Value} {y : V} (h : VRep w imm x y) : x.oneCell' = true := by
  cases h with
  | s _ h => exact h
  | nil => rfl
  | sl => rfl

theorem CRep.oneCell {w : World} {imm : Imm} {H : HMap} {L : Locs} {U : Nat → Prop} {x : Value} {y : C} (h : CRep w imm H L U x y) : x.oneCell' = true := by
  cases y with
  | v y => exact oneCell_s h
  | nil0 => obtain ⟨a, rfl⟩ := h; rfl
  | own => obtain ⟨_, ⟨_, _, rfl, _⟩, _⟩ := h; rfl
  | ow => obtain ⟨_, ⟨_, _, rfl, _⟩, _⟩ := h; rfl
  | ptr => obtain ⟨_, ⟨_, _, rfl⟩, _⟩ := h; rfl
  | aptr => obtain ⟨_, ⟨_, _, rfl⟩, _⟩ := h; rfl
  | vptr => obtain ⟨_, _, rfl, _⟩ := h; rfl
  | fn => obtain ⟨_, rfl, _⟩ := h; rfl

theorem cells_one {x : Value} (h : x.oneCell' = true) : x.cells = #[x] := by cases x <;> first | rfl | simp [Value.oneCell'] at h

theorem PRep.cells {w : World} {imm : Imm} {H : HMap} {L : Locs} {U : Nat → Prop} {x : Value} {p : P1} (h : PRep w imm H L U x p) : CsRep w imm H L U x.cells.toList p.cells := by
  cases p with
  | one c =>
    have h : CRep w imm H L U x c := h
    rw [cells_one h.oneCell]
    refine ⟨rfl, fun k u y hu hy => ?_⟩
    cases k with
    | zero => simp [P1.cells] at hu hy; subst hu; subst hy; exact h
    | succ k => simp at hu
  | agg cs => obtain ⟨xs, rfl, h⟩ := h; exact h

theorem CsRep.ones {w : World} {imm : Imm} {H : HMap} {L : Locs} {U : Nat → Prop} {xs : List Value} {cs : List C} (h : CsRep w imm H L U xs cs) : ∀ x ∈ xs, x.oneCell' = true := by
  intro x hx
  obtain ⟨k, hk, rfl⟩ := List.getElem_of_mem hx
  have hk' : k < cs.length := h.1 ▸ hk
  exact (h.2 k _ cs[k] (List.getElem?_eq_getElem hk) (List.getElem?_eq_getElem hk')).oneCell

theorem HOk.use {w : World} {imm : Imm} {H : HMap} {L : Locs} {U U' : Nat → Prop} (h : HOk w imm H L U) (hu : ∀ v, U v → U' v) : HOk w imm H L U' := by
  refine ⟨fun n B hB => ?_, h.inj, h.glob, h.imm⟩
  have hb := h.blk n B hB
  cases B with
  | var ver ty cs =>
    obtain ⟨h1, g, cur, hg, hh, hcs, hi⟩ := hb
    exact ⟨hu _ h1, g, cur, hg, hh, hcs.mono (fun _ _ h => ⟨h, rfl⟩) (CRep.use (w := w) hu), hi⟩
  | arr ver wr st ty es =>
    obtain ⟨h1, hq⟩ := hb
    exact ⟨hu _ h1, hq⟩

abbrev with_ (U : Nat → Prop) (ver : Nat) : Nat → Prop := fun v => U v ∨ v = ver

structure Goes (w : World) (imm : Imm) (H : HMap) (L : Locs) (U : Nat → Prop) (H' : HMap) (U' : Nat → Prop) (val : T) (x : Value) (w' : World) (imm' : Imm) (L' : Locs) : Prop where
  val : TRep w' imm' H' L' U' x val
  hok : HOk w' imm' H' L' U'
  ext : Ext w H L U w' H' L' U'
  step : Step w imm (foot H L) w' imm'
  near : Near w (foot H L) H' L'

theorem goes_pure {w : World} {imm : Imm} {H : HMap} {L : Locs} {U U' : Nat → Prop} {val : T} {x : Value} (hH : HOk w imm H L U) (hu : ∀ v, U v → U' v) (h : TRep w imm H L U x val) :
    Goes w imm H L U H U' val x w imm L :=
  ⟨h.mono (fun _ _ h => ⟨h, rfl⟩) (CRep.use (w := w) hu), hH.use hu, CRep.use (w := w) hu, Step.refl _ _ _, Near.refl _ _ _⟩

theorem keep_alloc {w : World} {imm : Imm} {H : HMap} {L : Locs} {U : Nat → Prop} (hH : HOk w imm H L U) (o : Obj) : ∀ b k, imm b k → imm b k ∧ (w.alloc o).cell? ⟨b, k, none⟩ = w.cell? ⟨b, k, none⟩ :=
  fun b k h => ⟨h, World.cell?_alloc_lt w o _ (hH.imm b k h)⟩

/-- A new variable. -/
theorem goes_var {w : World} {imm : Imm} {H : HMap} {L : Locs} {U : Nat → Prop} (hH : HOk w imm H L U) (d ver : Nat) (hv : ¬ U ver) (ty : TypeId) (cur : Array Value) (cs : List C) (h : CsRep w imm H L U cur.toList cs) :
    Goes w imm H L U (upd H d (some (.var ver ty cs))) (with_ U ver) (.pt (.one (.ptr d ver 0))) (.pointer (some ⟨w.heap.size, 0, none⟩)) (w.alloc (.cells cur ty)) imm (upd L d (some w.heap.size)) := by
  have hk := keep_alloc hH (.cells cur ty)
  obtain ⟨h1, h2, h3, h4⟩ := upd_all (w' := w.alloc (.cells cur ty)) (imm' := imm) (U' := with_ U ver) hH d (.var ver ty cs) (some w.heap.size) rfl rfl rfl (by simp)
    (fun b hb _ => heap_alloc_old w _ b hb) hk (fun b o h => .inl h) (fun g hg => by cases hg; exact .inl ⟨Nat.le_refl _, by simp⟩) (fun v h => .inl h) (.inl hv)
    (fun m he hm => by
      subst hm
      refine ⟨.inr rfl, w.heap.size, cur, by simp, heap_alloc_new w _, h.mono hk he, fun o ho => ?_⟩
      exact absurd (hH.imm _ _ ho) (Nat.lt_irrefl _))
  exact ⟨⟨.inr rfl, ⟨_, _, rfl⟩, fun ty' cs' hH' => by simp at hH' ⊢⟩, h1, h2, h3, h4⟩

/-- A new array. -/
theorem goes_arr {w w' : World} {imm : Imm} {H : HMap} {L : Locs} {U : Nat → Prop} (hH : HOk w imm H L U) (d ver : Nat) (hv : ¬ U ver) (wr : Bool) (ty : TypeId) (cur : Array Value) (st : Nat) (es : List (List V)) (n cap : Nat)
    (hos : w'.os = w.os) (htape : w'.tape = w.tape) (hout : w'.output = w.output) (hheap : w'.heap = w.heap.push (.cells cur ty))
    (hst : 0 < st) (hl : ∀ e ∈ es, e.length = st) (hsz : es.length * st ≤ cur.size) (h : ∀ i e, es[i]? = some e → VsRep w imm cur (i * st) e) (hn : n ≤ es.length) (hnc : n ≤ cap) (hcm : cap ≤ maxLen) (hcs : cur.size = cap * st) :
    Goes w imm H L U (upd H d (some (.arr ver wr st ty es))) (with_ U ver) (.pt (.one (.own d ver n))) (.slice (some ⟨w.heap.size, 0, none⟩) n cap) w' imm (upd L d (some w.heap.size)) := by
  have hold : ∀ b, b < w.heap.size → w'.heap[b]? = w.heap[b]? := fun b hb => by rw [hheap]; exact heap_alloc_old w _ b hb
  have hnew : w'.heap[w.heap.size]? = some (.cells cur ty (0, 0)) := by rw [hheap]; exact heap_alloc_new w _
  have hk : ∀ b k, imm b k → imm b k ∧ w'.cell? ⟨b, k, none⟩ = w.cell? ⟨b, k, none⟩ := fun b k h => ⟨h, cell_of_heap (hold b (hH.imm b k h))⟩
  obtain ⟨h1, h2, h3, h4⟩ := upd_all (w' := w') (imm' := imm) (U' := with_ U ver) hH d (.arr ver wr st ty es) (some w.heap.size) hos htape hout (by rw [hheap]; simp)
    (fun b hb _ => hold b hb) hk (fun b o h => .inl h) (fun g hg => by cases hg; exact .inl ⟨Nat.le_refl _, by rw [hheap]; simp⟩) (fun v h => .inl h) (.inl hv)
    (fun m he hm => by
      subst hm
      refine ⟨.inr rfl, hst, hl, .inr ⟨w.heap.size, cur, by simp, hnew, hsz, fun i e hi => (h i e hi).mono hk, fun o ho => ?_⟩⟩
      exact absurd (hH.imm _ _ ho) (Nat.lt_irrefl _))
  refine ⟨⟨.inr rfl, ⟨_, _, rfl, hnc⟩, fun wr st' ty' es' hH' => ?_⟩, h1, h2, h3, h4⟩
  simp only [upd_same, Option.some.injEq, Blk.arr.injEq] at hH'
  obtain ⟨_, _, rfl, rfl, rfl⟩ := hH'
  exact ⟨hn, .inr ⟨w.heap.size, cap, cur, by simp, rfl, hnew, hnc, hcm, hcs⟩⟩

/-- An array is taken anew where it stands, or where there is none: its elements from a place on are others. -/
theorem goes_arr_at {w w' : World} {imm : Imm} {H : HMap} {L : Locs} {U : Nat → Prop} (hH : HOk w imm H L U) (id ver0 ver : Nat) (hv : ¬ U ver) (wr : Bool) (st : Nat) (ty : TypeId) (es0 es : List (List V)) (hB : H id = some (.arr ver0 wr st ty es0))
    (hos : w'.os = w.os) (htape : w'.tape = w.tape) (hout : w'.output = w.output) (g : Nat) (hg : L id = some g) (cur new : Array Value) (hcur : w.heap[g]? = some (.cells cur ty (0, 0)))
    (hheap : w'.heap[g]? = some (.cells new ty (0, 0))) (hsize : w'.heap.size = w.heap.size) (hold : ∀ b, b ≠ g → w'.heap[b]? = w.heap[b]?) (hnew : new.size = cur.size)
    (hkeep : ∀ o, imm g o → new[o]? = cur[o]?) (hfront : ∀ o, imm g o → o < es.length * st)
    (hl : ∀ e ∈ es, e.length = st) (hsz : es.length * st ≤ cur.size) (h : ∀ i e, es[i]? = some e → VsRep w imm new (i * st) e) (n cap : Nat) (hn : n ≤ es.length) (hnc : n ≤ cap) (hcm : cap ≤ maxLen) (hcs : cur.size = cap * st) :
    Goes w imm H L U (upd H id (some (.arr ver wr st ty es))) (with_ U ver) (.pt (.one (.own id ver n))) (.slice (some ⟨g, 0, none⟩) n cap) w' imm L := by
  obtain ⟨_, hst, _, hq⟩ := hH.blk id _ hB
  have hi : ∀ o, imm g o → wr = false := by
    rcases hq with ⟨hq, _⟩ | ⟨g', cur', hg', hh, _, _, hi⟩
    · rw [hg] at hq; cases hq
    · rw [hg] at hg'; cases hg'
      exact fun o ho => (hi o ho).1
  have hk : ∀ b k, imm b k → imm b k ∧ w'.cell? ⟨b, k, none⟩ = w.cell? ⟨b, k, none⟩ := fun b k h => ⟨h, by
    by_cases e : b = g
    · subst e
      rw [cell_of_row w' b k new ty _ hheap, cell_of_row w b k cur ty _ hcur]
      exact hkeep k h
    · exact cell_of_heap (hold b e)⟩
  have hL : upd L id (some g) = L := by funext m; by_cases e : m = id <;> simp [upd, e, hg]
  obtain ⟨h1, h2, h3, h4⟩ := upd_all (w' := w') (imm' := imm) (U' := with_ U ver) hH id (.arr ver wr st ty es) (some g) hos htape hout (by omega)
    (fun b hb hne => hold b (fun e => hne ⟨by simp [hB], by rw [e]; exact hg⟩)) hk (fun b o h => .inl h) (fun g' hg' => by cases hg'; exact .inr ⟨by simp [hB], hg⟩) (fun v h => .inl h) (.inl hv)
    (fun m he hm => by
      subst hm
      exact ⟨.inr rfl, hst, hl, .inr ⟨g, new, by simp, hheap, by rw [hnew]; exact hsz, fun i e hi => (h i e hi).mono hk, fun o ho => ⟨hi o ho, hfront o ho⟩⟩⟩)
  rw [hL] at h1 h2 h4
  refine ⟨⟨.inr rfl, ⟨_, _, rfl, hnc⟩, fun wr st' ty' es' hH' => ?_⟩, h1, h2, h3, h4⟩
  simp only [upd_same, Option.some.injEq, Blk.arr.injEq] at hH'
  obtain ⟨_, _, rfl, rfl, rfl⟩ := hH'
  exact ⟨hn, .inr ⟨g, cap, new, hg, rfl, hheap, hnc, hcm, hnew.trans hcs⟩⟩

/-- An array under a new mark, the world as it is. -/
theorem goes_arr_same {w : World} {imm : Imm} {H : HMap} {L : Locs} {U : Nat → Prop} (hH : HOk w imm H L U) (id ver0 ver : Nat) (hv : ¬ U ver) (wr : Bool) (st : Nat) (ty : TypeId) (es0 es : List (List V)) (hB : H id = some (.arr ver0 wr st ty es0)) (n : Nat)
    (he : es = es0.take n) (hn : n ≤ es0.length) (hnw : n = es0.length ∨ wr = true) (x : Value) (hx : OwnV w (L id) st ty n x) :
    Goes w imm H L U (upd H id (some (.arr ver wr st ty es))) (with_ U ver) (.pt (.one (.own id ver n))) x w imm L := by
  obtain ⟨_, hst, hle, hq⟩ := hH.blk id _ hB
  have hL : upd L id (L id) = L := by funext m; by_cases e : m = id <;> simp [upd, e]
  have hk : ∀ b k, imm b k → imm b k ∧ w.cell? ⟨b, k, none⟩ = w.cell? ⟨b, k, none⟩ := fun b k h => ⟨h, rfl⟩
  have hlen : es.length = n := by rw [he]; simp; omega
  obtain ⟨h1, h2, h3, h4⟩ := upd_all (w' := w) (imm' := imm) (U' := with_ U ver) hH id (.arr ver wr st ty es) (L id) rfl rfl rfl (Nat.le_refl _)
    (fun b hb hne => rfl) hk (fun b o h => .inl h) (fun g hg => .inr ⟨by simp [hB], hg⟩) (fun v h => .inl h) (.inl hv)
    (fun m hE hm => by
      subst hm
      refine ⟨.inr rfl, hst, fun e hm => hle e (by rw [he] at hm; exact List.mem_of_mem_take hm), ?_⟩
      rcases hq with ⟨hq, h0⟩ | ⟨g, cur, hg, hh, hsz, hcs, hi⟩
      · refine .inl ⟨by simp [hq], ?_⟩
        rw [he, h0]; simp
      · refine .inr ⟨g, cur, by simp [hg], hh, ?_, fun i e hie => ?_, fun o ho => ⟨(hi o ho).1, ?_⟩⟩
        · exact Nat.le_trans (Nat.mul_le_mul_right _ (by omega)) hsz
        · rw [he, List.getElem?_take] at hie
          split at hie
          · exact hcs i e hie
          · cases hie
        · rcases hnw with hnw | hnw
          · rw [hlen, hnw]; exact (hi o ho).2
          · have := (hi o ho).1; rw [hnw] at this; cases this)
  rw [hL] at h1 h2 h4
  refine ⟨⟨.inr rfl, ?_, fun wr st' ty' es' hH' => ?_⟩, h1, h2, h3, h4⟩
  · rcases hx with ⟨a, rfl, rfl⟩ | ⟨b, cap, cur, _, rfl, _, h5, _⟩
    · exact ⟨_, _, rfl, Nat.le_refl _⟩
    · exact ⟨_, _, rfl, h5⟩
  · simp only [upd_same, Option.some.injEq, Blk.arr.injEq] at hH'
    obtain ⟨_, _, rfl, rfl, rfl⟩ := hH'
    exact ⟨by omega, hx⟩

/-- A new name for no array. -/
theorem goes_arr_nil {w : World} {imm : Imm} {H : HMap} {L : Locs} {U : Nat → Prop} (hH : HOk w imm H L U) (d ver : Nat) (hv : ¬ U ver) (wr : Bool) (st : Nat) (ty : TypeId) (hst : 0 < st) (a : Option Addr) :
    Goes w imm H L U (upd H d (some (.arr ver wr st ty []))) (with_ U ver) (.pt (.one (.own d ver 0))) (.slice a 0 0) w imm (upd L d none) := by
  have hk : ∀ b k, imm b k → imm b k ∧ w.cell? ⟨b, k, none⟩ = w.cell? ⟨b, k, none⟩ := fun b k h => ⟨h, rfl⟩
  obtain ⟨h1, h2, h3, h4⟩ := upd_all (w' := w) (imm' := imm) (U' := with_ U ver) hH d (.arr ver wr st ty []) none rfl rfl rfl (Nat.le_refl _)
    (fun b hb hne => rfl) hk (fun b o h => .inl h) (fun g hg => by cases hg) (fun v h => .inl h) (.inl hv)
    (fun m hE hm => by subst hm; exact ⟨.inr rfl, hst, fun e he => by simp at he, .inl ⟨by simp, rfl⟩⟩)
  refine ⟨⟨.inr rfl, ⟨_, _, rfl, Nat.le_refl _⟩, fun wr st' ty' es' hH' => ?_⟩, h1, h2, h3, h4⟩
  simp only [upd_same, Option.some.injEq, Blk.arr.injEq] at hH'
  obtain ⟨_, _, rfl, rfl, rfl⟩ := hH'
  exact ⟨Nat.le_refl _, .inl ⟨a, rfl, rfl⟩⟩

theorem heap_lt {w : World} {g : Nat} {o : Obj} (h : w.heap[g]? = some o) : g < w.heap.size := (Array.getElem?_eq_some_iff.1 h).1

/-- Cells of a variable are written. -/
theorem goes_store {w : World} {imm : Imm} {H : HMap} {L : Locs} {U U' : Nat → Prop} (hu : ∀ v, U v → U' v) (hH : HOk w imm H L U) (id ver : Nat) (ty : TypeId) (cs : List C) (hB : H id = some (.var ver ty cs)) (g : Nat) (hg : L id = some g)
    (cur : Array Value) (hcur : w.heap[g]? = some (.cells cur ty (0, 0))) (new : Array Value) (cs' : List C) (hn : CsRep w imm H L U new.toList cs') :
    Goes w imm H L U (upd H id (some (.var ver ty cs'))) U' .undef undef (w.setRow g new) imm L := by
  have hb := hH.blk id _ hB
  obtain ⟨hv, g', cur', hg', hh, hcs, hi⟩ := hb
  rw [hg] at hg'; cases hg'
  rw [hcur] at hh; cases hh
  have hk : ∀ b k, imm b k → imm b k ∧ (w.setRow g new).cell? ⟨b, k, none⟩ = w.cell? ⟨b, k, none⟩ := fun b k h => ⟨h, cell_setRow_other w g new _ (fun e => by subst e; exact hi _ h)⟩
  have hL : upd L id (some g) = L := by funext m; by_cases e : m = id <;> simp [upd, e, hg]
  obtain ⟨h1, h2, h3, h4⟩ := upd_all (w' := w.setRow g new) (imm' := imm) (U' := U') hH id (.var ver ty cs') (some g) rfl rfl rfl (by simp)
    (fun b hb hne => setRow_other w g b new (fun e => hne ⟨by simp [hB], by rw [e]; exact hg⟩)) hk (fun b o h => .inl h) (fun g' hg' => by cases hg'; exact .inr ⟨by simp [hB], hg⟩) hu
    (.inr (.inl ⟨ver, ty, cs', ty, cs, rfl, hB, hg.symm⟩))
    (fun m he hm => by
      subst hm
      exact ⟨hu _ hv, g, new, by simp, setRow_heap w g cur new ty (0, 0) hcur, hn.mono hk he, hi⟩)
  rw [hL] at h1 h2 h4
  exact ⟨rfl, h1, h2, h3, h4⟩

/-- Cells of an array that nobody else reads are written. -/
theorem goes_storeA {w : World} {imm : Imm} {H : HMap} {L : Locs} {U U' : Nat → Prop} (hu : ∀ v, U v → U' v) (hH : HOk w imm H L U) (id ver st : Nat) (ty : TypeId) (es es' : List (List V)) (hB : H id = some (.arr ver true st ty es)) (g : Nat) (hg : L id = some g)
    (cur : Array Value) (hcur : w.heap[g]? = some (.cells cur ty (0, 0))) (new : Array Value) (hnew : new.size = cur.size) (hl : es'.length = es.length) (hls : ∀ e ∈ es', e.length = st) (hn : ∀ i e, es'[i]? = some e → VsRep w imm new (i * st) e) :
    Goes w imm H L U (upd H id (some (.arr ver true st ty es'))) U' .undef undef (w.setRow g new) imm L := by
  have hb := hH.blk id _ hB
  obtain ⟨hv, hst, hle, hq⟩ := hb
  rcases hq with ⟨hq, _⟩ | ⟨g', cur', hg', hh, hsz, hcs, hi⟩
  · rw [hg] at hq; cases hq
  rw [hg] at hg'; cases hg'
  rw [hcur] at hh; cases hh
  have hk : ∀ b k, imm b k → imm b k ∧ (w.setRow g new).cell? ⟨b, k, none⟩ = w.cell? ⟨b, k, none⟩ := fun b k h => ⟨h, cell_setRow_other w g new _ (fun e => by subst e; have := (hi _ h).1; cases this)⟩
  have hL : upd L id (some g) = L := by funext m; by_cases e : m = id <;> simp [upd, e, hg]
  obtain ⟨h1, h2, h3, h4⟩ := upd_all (w' := w.setRow g new) (imm' := imm) (U' := U') hH id (.arr ver true st ty es') (some g) rfl rfl rfl (by simp)
    (fun b hb hne => setRow_other w g b new (fun e => hne ⟨by simp [hB], by rw [e]; exact hg⟩)) hk (fun b o h => .inl h) (fun g' hg' => by cases hg'; exact .inr ⟨by simp [hB], hg⟩) hu
    (.inr (.inr ⟨ver, true, st, ty, es', true, es, rfl, hB, by omega, hg.symm, fun g2 cur2 e2 hh2 => by
      cases e2; rw [hcur] at hh2; cases hh2; exact ⟨new, setRow_heap w g cur new ty (0, 0) hcur, hnew⟩⟩))
    (fun m he hm => by
      subst hm
      exact ⟨hu _ hv, hst, hls, .inr ⟨g, new, by simp, setRow_heap w g cur new ty (0, 0) hcur, by rw [hl, hnew]; exact hsz, fun i e hi => (hn i e hi).mono hk, fun o ho => by have := (hi o ho).1; cases this⟩⟩)
  rw [hL] at h1 h2 h4
  exact ⟨rfl, h1, h2, h3, h4⟩

/-- The same arrays, but for whether they may be written. -/
def SameA (H H' : HMap) : Prop := ∀ id ver wr st ty es, H id = some (.arr ver wr st ty es) → ∃ wr', H' id = some (.arr ver wr' st ty es)

theorem seal1 {w : World} {imm : Imm} {H H0 : HMap} {L : Locs} {U : Nat → Prop} (hH : HOk w imm H L U) (hs : SameA H0 H) {c : C} {x : Value} {v : V} {ws : List (Nat × Blk)} {ns : List Nat}
    (h : sealC H0 c = some (v, ws, ns)) (hc : CRep w imm H L U x c) :
    ∃ imm', HOk w imm' (updH H ws) L U ∧ VRep w imm' x v ∧ Ext w H L U w (updH H ws) L U ∧ SameA H0 (updH H ws) ∧ Step w imm (foot H L) w imm' ∧ Near w (foot H L) (updH H ws) L := by
  cases c with
  | v y =>
    simp [sealC] at h
    obtain ⟨rfl, rfl, rfl⟩ := h
    exact ⟨imm, hH, hc, Ext.refl _ _ _ _, hs, Step.refl _ _ _, Near.refl _ _ _⟩
  | nil0 =>
    simp [sealC] at h
    obtain ⟨rfl, rfl, rfl⟩ := h
    obtain ⟨a, rfl⟩ := hc
    exact ⟨imm, hH, .nil a 0, Ext.refl _ _ _ _, hs, Step.refl _ _ _, Near.refl _ _ _⟩
  | own id ver n =>
    simp only [sealC] at h
    split at h
    · rename_i ver' wr0 st ty es hB0
      split at h
      · rename_i hcond
        obtain ⟨rfl, hn⟩ := hcond
        simp only [Option.some.injEq, Prod.mk.injEq] at h
        obtain ⟨rfl, rfl, rfl⟩ := h
        obtain ⟨wr, hB⟩ := hs _ _ _ _ _ _ hB0
        obtain ⟨hu, hst, hle, hq⟩ := hH.blk id _ hB
        obtain ⟨_, _, h3⟩ := hc
        obtain ⟨_, hov⟩ := h3 _ _ _ _ hB
        let imm' : Imm := fun b o => imm b o ∨ (L id = some b ∧ o < es.length * st)
        have hk : ∀ b k, imm b k → imm' b k ∧ w.cell? ⟨b, k, none⟩ = w.cell? ⟨b, k, none⟩ := fun b k h => ⟨.inl h, rfl⟩
        have hL : upd L id (L id) = L := by funext m; by_cases e : m = id <;> simp [upd, e]
        obtain ⟨h1, h2, h3, h4⟩ := upd_all (w' := w) (imm' := imm') (U' := U) hH id (.arr ver' false st ty es) (L id) rfl rfl rfl (Nat.le_refl _) (fun _ _ _ => rfl) hk
          (fun b o h => h.imp (fun h => h) fun ⟨h1, h2⟩ => ⟨h1, .inr ⟨by simp [hB], h1⟩⟩) (fun g hg => .inr ⟨by simp [hB], hg⟩) (fun _ h => h)
          (.inr (.inr ⟨ver', false, st, ty, es, wr, es, rfl, hB, Nat.le_refl _, rfl, fun g cur _ hh => ⟨cur, hh, rfl⟩⟩))
          (fun m he hm => by
            subst hm
            refine ⟨hu, hst, hle, ?_⟩
            rcases hq with ⟨hq, he⟩ | ⟨g, cur, hg, hh, hsz, hcs, hi⟩
            · exact .inl ⟨by simp [hq], he⟩
            · exact .inr ⟨g, cur, by simp [hg], hh, hsz, fun i e hi => (hcs i e hi).mono hk, fun o ho => ⟨rfl, by rcases ho with ho | ho; exact (hi o ho).2; exact ho.2⟩⟩)
        rw [hL] at h1 h2 h4
        refine ⟨imm', h1, ?_, h2, ?_, h3, h4⟩
        · rcases hov with ⟨a, rfl, rfl⟩ | ⟨b, cap, cur, hb, rfl, hh, hnc, hcm, hcs⟩
          · exact .nil a 0
          · rcases hq with ⟨hq, _⟩ | ⟨g, cur', hg, hh', hsz, hcells, hi⟩
            · rw [hb] at hq; cases hq
            · rw [hb] at hg; cases hg
              rw [hh] at hh'; cases hh'
              by_cases hn0 : n = 0
              · subst hn0; exact .nil _ cap
              · have hlen : (es.take n).length = n := by simp; omega
                have := VRep.sl (w := w) (imm := imm') (es.take n) st b 0 cap (fun i j => cur.getD (i * st + j) undef) hst (by intro e; simp [e] at hlen; omega) (by omega)
                  (fun e he => hle e (List.mem_of_mem_take he)) (fun i j x hx => ?_) (fun i j x hx => ?_)
                · rw [hlen] at this; exact this
                all_goals
                  simp only [at2, List.getElem?_take] at hx
                  split at hx
                  case isFalse => simp at hx
                  cases he : es[i]? with
                  | none => simp [he] at hx
                  | some e =>
                    simp [he] at hx
                    obtain ⟨u, hu1, hu2⟩ := hcells i e he j x hx
                    have hi' : i < es.length := (List.getElem?_eq_some_iff.1 he).1
                    have hj : j < st := by have := hle e (List.mem_of_getElem? he); rw [← this]; exact (List.getElem?_eq_some_iff.1 hx).1
                    have hlt : i * st + j < cur.size := (Array.getElem?_eq_some_iff.1 hu1).1
                    have hu3 : cur[i * st + j] = u := (Array.getElem?_eq_some_iff.1 hu1).2
                    first
                      | (refine ⟨?_, .inr ⟨hb, ?_⟩⟩
                         · simp [World.cell?, hh, hlt]
                         · have : i * st + j < (i + 1) * st := by rw [Nat.succ_mul]; omega
                           have h5 : (i + 1) * st ≤ es.length * st := Nat.mul_le_mul_right _ hi'
                           simp; omega)
                      | (have e1 : cur.getD (i * st + j) undef = u := by simp [hlt, hu3]
                         rw [e1]; exact hu2.mono hk)
        · intro id' v' wr' st' ty' es' hB'
          by_cases e : id' = id
          · subst e
            rw [hB0] at hB'; cases hB'
            exact ⟨false, by simp [updH]⟩
          · obtain ⟨wr2, h5⟩ := hs _ _ _ _ _ _ hB'
            exact ⟨wr2, by simp only [updH]; rw [upd_ne _ _ e]; exact h5⟩
      · cases h
    · cases h
  | ow id ver l n =>
    simp only [sealC] at h
    split at h
    · rename_i ver' wr0 st ty es hB0
      split at h
      · rename_i hcond
        obtain ⟨rfl, hn⟩ := hcond
        simp only [Option.some.injEq, Prod.mk.injEq] at h
        obtain ⟨rfl, rfl, rfl⟩ := h
        obtain ⟨wr, hB⟩ := hs _ _ _ _ _ _ hB0
        obtain ⟨hu, hst, hle, hq⟩ := hH.blk id _ hB
        obtain ⟨_, hx, h3⟩ := hc
        obtain ⟨_, hov⟩ := h3 _ _ _ _ hB
        let imm' : Imm := fun b o => imm b o ∨ (L id = some b ∧ o < es.length * st)
        have hk : ∀ b k, imm b k → imm' b k ∧ w.cell? ⟨b, k, none⟩ = w.cell? ⟨b, k, none⟩ := fun b k h => ⟨.inl h, rfl⟩
        have hL : upd L id (L id) = L := by funext m; by_cases e : m = id <;> simp [upd, e]
        obtain ⟨h1, h2, h3, h4⟩ := upd_all (w' := w) (imm' := imm') (U' := U) hH id (.arr ver' false st ty es) (L id) rfl rfl rfl (Nat.le_refl _) (fun _ _ _ => rfl) hk
          (fun b o h => h.imp (fun h => h) fun ⟨h1, h2⟩ => ⟨h1, .inr ⟨by simp [hB], h1⟩⟩) (fun g hg => .inr ⟨by simp [hB], hg⟩) (fun _ h => h)
          (.inr (.inr ⟨ver', false, st, ty, es, wr, es, rfl, hB, Nat.le_refl _, rfl, fun g cur _ hh => ⟨cur, hh, rfl⟩⟩))
          (fun m he hm => by
            subst hm
            refine ⟨hu, hst, hle, ?_⟩
            rcases hq with ⟨hq, he⟩ | ⟨g, cur, hg, hh, hsz, hcs, hi⟩
            · exact .inl ⟨by simp [hq], he⟩
            · exact .inr ⟨g, cur, by simp [hg], hh, hsz, fun i e hi => (hcs i e hi).mono hk, fun o ho => ⟨rfl, by rcases ho with ho | ho; exact (hi o ho).2; exact ho.2⟩⟩)
        rw [hL] at h1 h2 h4
        refine ⟨imm', h1, ?_, h2, ?_, h3, h4⟩
        · obtain ⟨a0, k0, hx0, hnk⟩ := hx
          rcases hov with rfl | ⟨g', k, hg', hxe⟩
          · rw [hx0]; exact .nil a0 k0
          · rcases hq with ⟨hq, _⟩ | ⟨g, cur, hg, hh, hsz, hcells, hi⟩
            · rw [hg'] at hq; cases hq
            · rw [hg'] at hg; cases hg
              by_cases hn0 : n = 0
              · subst hn0; rw [hx0]; exact .nil a0 k0
              · have hlen : ((es.drop l).take n).length = n := by simp; omega
                have hnk' : n ≤ k := by rw [hx0] at hxe; cases hxe; exact hnk
                have := VRep.sl (w := w) (imm := imm') ((es.drop l).take n) st g' (l * st) k (fun i j => cur.getD (l * st + i * st + j) undef) hst (by intro e; simp [e] at hlen; omega) (by omega)
                  (fun e he => hle e (List.mem_of_mem_drop (List.mem_of_mem_take he))) (fun i j x hx => ?_) (fun i j x hx => ?_)
                · rw [hlen] at this; rw [hxe]; exact this
                all_goals
                  simp only [at2, List.getElem?_take, List.getElem?_drop] at hx
                  split at hx
                  case isFalse => simp at hx
                  cases he : es[l + i]? with
                  | none => simp [he] at hx
                  | some e =>
                    simp [he] at hx
                    obtain ⟨u, hu1, hu2⟩ := hcells (l + i) e he j x hx
                    rw [Nat.add_mul] at hu1
                    have hi' : l + i < es.length := (List.getElem?_eq_some_iff.1 he).1
                    have hj : j < st := by have := hle e (List.mem_of_getElem? he); rw [← this]; exact (List.getElem?_eq_some_iff.1 hx).1
                    have hlt : l * st + i * st + j < cur.size := (Array.getElem?_eq_some_iff.1 hu1).1
                    have hu3 : cur[l * st + i * st + j] = u := (Array.getElem?_eq_some_iff.1 hu1).2
                    first
                      | (refine ⟨?_, .inr ⟨hg', ?_⟩⟩
                         · simp [World.cell?, hh, hlt]
                         · have h6 : l * st + i * st + j < (l + i + 1) * st := by rw [Nat.succ_mul, Nat.add_mul]; omega
                           have h5 : (l + i + 1) * st ≤ es.length * st := Nat.mul_le_mul_right _ hi'
                           omega)
                      | (have e1 : cur.getD (l * st + i * st + j) undef = u := by simp [hlt, hu3]
                         rw [e1]; exact hu2.mono hk)
        · intro id' v' wr' st' ty' es' hB'
          by_cases e : id' = id
          · subst e
            rw [hB0] at hB'; cases hB'
            exact ⟨false, by simp [updH]⟩
          · obtain ⟨wr2, h5⟩ := hs _ _ _ _ _ _ hB'
            exact ⟨wr2, by simp only [updH]; rw [upd_ne _ _ e]; exact h5⟩
      · cases h
    · cases h
  | ptr => simp [sealC] at h
  | aptr => simp [sealC] at h
  | vptr => simp [sealC] at h
  | fn => simp [sealC] at h

theorem updH_append (H : HMap) (a b : List (Nat × Blk)) : updH H (a ++ b) = updH (updH H a) b := by
  induction a generalizing H with
  | nil => rfl
  | cons x a ih => obtain ⟨n, B⟩ := x; simp [updH, ih]

/-- What a row of seals does: the world stays; what is told of the values is closed. -/
structure Sealed (w : World) (imm : Imm) (H : HMap) (L : Locs) (U : Nat → Prop) (H0 H' : HMap) (imm' : Imm) : Prop where
  hok : HOk w imm' H' L U
  ext : Ext w H L U w H' L U
  same : SameA H0 H'
  step : Step w imm (foot H L) w imm'
  near : Near w (foot H L) H' L

theorem Sealed.trans {w : World} {imm imm1 imm2 : Imm} {H H1 H2 H0 : HMap} {L : Locs} {U : Nat → Prop} (a : Sealed w imm H L U H0 H1 imm1) (b : Sealed w imm1 H1 L U H0 H2 imm2) : Sealed w imm H L U H0 H2 imm2 := by
  obtain ⟨s, n⟩ := Step.trans a.step a.near b.step b.near
  exact ⟨b.hok, a.ext.trans b.ext, b.same, s, n⟩

def VsOf (w : World) (imm : Imm) (xs : List Value) (vs : List V) : Prop := xs.length = vs.length ∧ ∀ (k : Nat) x y, xs[k]? = some x → vs[k]? = some y → VRep w imm x y

theorem sealCs_ok {w : World} {H0 : HMap} {L : Locs} {U : Nat → Prop} : ∀ {cs : List C} {imm : Imm} {H : HMap} (_ : HOk w imm H L U) (_ : SameA H0 H) {xs : List Value} {vs : List V} {ws : List (Nat × Blk)} {ns : List Nat}
    (_ : sealCs H0 cs = some (vs, ws, ns)) (_ : CsRep w imm H L U xs cs), ∃ imm', Sealed w imm H L U H0 (updH H ws) imm' ∧ VsOf w imm' xs vs
  | [], imm, H, hH, hs, xs, vs, ws, ns, h, hc => by
    simp [sealCs] at h
    obtain ⟨rfl, rfl, rfl⟩ := h
    have : xs = [] := List.eq_nil_of_length_eq_zero hc.1
    subst this
    exact ⟨imm, ⟨hH, Ext.refl _ _ _ _, hs, Step.refl _ _ _, Near.refl _ _ _⟩, rfl, fun k x y hx => by simp at hx⟩
  | c :: cs, imm, H, hH, hs, xs, vs, ws, ns, h, hc => by
    simp only [sealCs] at h
    split at h
    · rename_i v w1 n1 vs' w2 n2 h1 h2
      simp only [Option.some.injEq, Prod.mk.injEq] at h
      obtain ⟨rfl, rfl, rfl⟩ := h
      cases xs with
      | nil => have := hc.1; simp at this
      | cons x xs =>
        have hcx : CRep w imm H L U x c := hc.2 0 x c rfl rfl
        obtain ⟨imm1, a1, a2, a3, a4, a5, a6⟩ := seal1 hH hs h1 hcx
        have hc' : CsRep w imm1 (updH H w1) L U xs cs := ⟨by have := hc.1; simpa using this, fun k u y hu hy => (hc.2 (k + 1) u y (by simpa using hu) (by simpa using hy)).mono (fun b o h => ⟨(a5.keep b o h).1, rfl⟩) a3⟩
        obtain ⟨imm2, b1, b2, b3⟩ := sealCs_ok a1 a4 h2 hc'
        have S1 : Sealed w imm H L U H0 (updH H w1) imm1 := ⟨a1, a3, a4, a5, a6⟩
        refine ⟨imm2, ?_, ?_, ?_⟩
        · rw [updH_append]; exact S1.trans b1
        · simp [b2]
        · intro k u y hu hy
          cases k with
          | zero => simp at hu hy; subst hu; subst hy; exact a2.mono (fun b o h => ⟨(b1.step.keep b o h).1, rfl⟩)
          | succ k => exact b3 k u y (by simpa using hu) (by simpa using hy)
    · cases h
end Go.V
namespace Go.V

def constC : Value → Option C
  | .bool b => some (.v (.s (.bool b)))
  | .int k n => some (.v (.s (.int k n)))
  | .string s => some (.v (.s (.string s)))
  | .slice none 0 0 => some .nil0
  | .pointer none => some (.v (.s (.pointer none)))
  | .nilFunc => some (.v (.s .nilFunc))
  | .nilIface => some (.v (.s .nilIface))
  | _ => none

def constCs : List Value → Option (List C)
  | [] => some []
  | x :: xs => match constC x, constCs xs with
    | some c, some cs => some (c :: cs)
    | _, _ => none

def constT : Value → Option T
  | .agg cs => (constCs cs.toList).map fun cs => .pt (.agg cs)
  | v => (constC v).map fun c => .pt (.one c)

def cOpd : Operand → Option Opd
  | .tmp t => some (.t t)
  | .const v => (constT v).map .k
  | .func f => some (.k (.pt (.one (.fn f []))))
  | .global _ => none

def cOpds : List Operand → Option (List Opd)
  | [] => some []
  | x :: xs => match cOpd x, cOpds xs with
    | some c, some cs => some (c :: cs)
    | _, _ => none

def cOpt : Option Operand → Option (Option Opd)
  | none => some none
  | some x => (cOpd x).map some

def zeroCs (P : Program) (t : TypeId) : Option (List C) := ((P.info? t).bind (·.zero)).bind fun z => constCs z.cells.toList
def sizeT (P : Program) (t : TypeId) : Option Nat := (P.info? t).map (·.size)
def isAggT (P : Program) (t : TypeId) : Option Bool := (P.underlying t).map fun | .struct _ | .array .. => true | _ => false
def elemT (P : Program) (t : TypeId) : Option TypeId := (P.underlying t).bind fun | .slice e => some e | _ => none
def placesT (P : Program) (t : TypeId) : Option (List (Nat × Nat)) := (P.underlying t).bind fun | .struct fs => fs.toList.mapM (fun f => (P.info? f.type).map fun i => (f.offset, i.size)) | .array n e => (P.info? e).map (fun i => (List.range n).map fun k => (k * i.size, i.size)) | _ => none
def arrT (P : Program) (t : TypeId) : Option (Nat × TypeId) := (P.underlying t).bind fun | .array n e => some (n, e) | _ => none

def cParts (places : List (Nat × Nat)) : List (Nat × Operand) → Option (List (Nat × Nat × Opd))
  | [] => some []
  | (i, x) :: ps => match places[i]?, cOpd x, cParts places ps with
    | some (off, size), some y, some qs => some ((off, size, y) :: qs)
    | _, _, _ => none

/-- The parts of a slice's literal: from place k on, all, in order. -/
def cElems : Nat → List (Nat × Operand) → Option (List Opd)
  | _, [] => some []
  | k, (i, x) :: ps => if i = k then match cOpd x, cElems (k + 1) ps with
    | some y, some qs => some (y :: qs)
    | _, _ => none
    else none
/-- The kinds of a struct's fields, if each is one plain cell. -/
def fieldKs (P : Program) : List Field → Nat → Option (List Nat)
  | [], _ => some []
  | f :: fs, n => if f.name ≠ "_" ∧ f.offset = n ∧ isAggT P f.type = some false then match P.underlying f.type, fieldKs P fs (n + 1) with
    | some (.int _), some ks => some (0 :: ks)
    | some .bool, some ks => some (1 :: ks)
    | some .string, some ks => some (2 :: ks)
    | _, _ => none
    else none

/-- What is asked of the types. -/
structure Env where
  und : TypeId → Option TypeDesc
  zero : TypeId → Option (List C)
  places : TypeId → Option (List (Nat × Nat))
  elem : TypeId → Option TypeId
  size : TypeId → Option Nat
  agg : TypeId → Option Bool
  info : TypeId → Option TypeInfo
  arr : TypeId → Option (Nat × TypeId)
  fks : List Field → Option (List Nat)
  held : TypeId → Bool
  eqg : TypeId → Bool
def envOf (P : Program) : Env := ⟨P.underlying, zeroCs P, placesT P, elemT P, sizeT P, isAggT P, P.info?, arrT P, fun fs => fieldKs P fs 0, P.stoodInHeld, P.eqGuardType P.depth⟩
def compOpG (E : Env) (o : Oper) : Option AOp :=
  match o.op with
  | .move x => (cOpd x).map .mv
  | .assign x => (cOpd x).map .mv
  | .pick c a b => match cOpd c, cOpd a, cOpd b with
    | some c, some a, some b => some (.pick c a b)
    | _, _, _ => none
  | .alloc e => (E.zero e).map fun z => .alloc e z
  | .box e x => (cOpd x).map fun x => .box e x
  | .build t ps => match E.zero t, E.places t with
    | some z, some pl => (cParts pl ps.toList).map fun qs => .build z qs
    | _, _ => none
  | .buildSlice t len ps => match E.elem t with
    | some e => match E.size e, E.zero e, cElems 0 ps.toList with
      | some n, some _, some qs => if qs.length = len ∧ 0 < n ∧ len * n ≤ 16777216 then some (.bsl n e qs) else none
      | _, _, _ => none
    | none => none
  | .load t x => match E.size t, E.agg t, cOpd x with
    | some n, some ag, some x => some (.ld n ag x)
    | _, _, _ => none
  | .store t x v => match E.size t, cOpd x, cOpd v with
    | some n, some x, some v => some (.st n x v)
    | _, _, _ => none
  | .nilCheck x => (cOpd x).map .nck
  | .binOp op t x y _ => match cOpd x, cOpd y with
    | some x', some y' => match E.und t with
      | some .bool => some (.binB op x' y')
      | some (.struct fs) => match E.fks fs.toList, E.held t, E.eqg t, op with
        | some ks, false, false, .eql => some (.cmpA false ks x' y')
        | some ks, false, false, .neq => some (.cmpA true ks x' y')
        | _, _, _, _ => none
      | some (.int _) | some .string => some (.bin op x' y')
      | some (.slice _) => match op, y with
        | .eql, .const (.slice none 0 0) => some (.isnil false x')
        | .neq, .const (.slice none 0 0) => some (.isnil true x')
        | _, _ => none
      | _ => none
    | _, _ => none
  | .unOp op _ x => (cOpd x).map (.un op)
  | .convert s d x => match E.und s, E.und d, cOpd x with
    | some _, some (.int k), some x => some (.cnvI k x)
    | some (.slice e), some .string, some x => match E.und e with
      | some (.int .u8) => some (.cnvBS x)
      | _ => none
    | _, _, _ => none
  | .makeFunc (.func f) first caps => if first.isEmpty then (cOpds caps.toList).map (.mkf f) else none
  | .makeSlice t l c => match E.elem t, cOpd l, cOpd c with
    | some e, some l, some c => match E.info e, (E.zero e).bind toVs with
      | some i, some z => if z.length = i.size then some (.mks i.size e i.bytes z l c) else none
      | _, _ => none
    | _, _, _ => none
  | .slice t x lo hi mx => match mx with
    | none => match cOpd x, cOpt lo, cOpt hi with
      | some x, some lo, some hi => match E.und t with
        | some .string => some (.slcS x lo hi)
        | some (.slice e) => match E.size e with
          | some n => if 0 < n then some (.slc n x lo hi) else none
          | none => none
        | _ => none
      | _, _, _ => none
    | some (.const (.int .i64 0)) => match lo, hi, E.elem t with
      | none, some (.const (.int .i64 0)), some e => if (E.size e).isSome then (cOpd x).map .slc0 else none
      | _, _, _ => none
    | _ => none
  | .fieldAddr s x f => match E.und s, cOpd x with
    | some (.struct fs), some x => match fs[f]? with
      | some fd => match E.size fd.type with
        | some n => if 0 < n then some (.fa fd.offset x) else none
        | none => none
      | none => none
    | _, _ => none
  | .field s x f => match E.und s, cOpd x with
    | some (.struct fs), some x => match fs[f]? with
      | some fd => match E.size fd.type, E.agg fd.type with
        | some n, some ag => some (.fl fd.offset n ag x)
        | _, _ => none
      | none => none
    | _, _ => none
  | .indexAddr t x i => match E.elem t, cOpd x, cOpd i with
    | some e, some x, some i => (E.size e).map fun n => .ia n x i
    | none, some x, some i => match E.arr t with
      | some (n, e) => (E.size e).map fun s => .iap n s x i
      | none => none
    | _, _, _ => none
  | .index t x i => match E.und t, cOpd x, cOpd i with
    | some .string, some x, some i => some (.ix x i)
    | some (.array n e), some x, some i => match E.size e, E.agg e with
      | some s, some ag => some (.ixA n s ag x i)
      | _, _ => none
    | _, _, _ => none
  | .extract x i => (cOpd x).map (.ext i)
  | .call c => match c.callee with
    | .builtin .len => match c.args.toList, c.argTypes.toList with
      | [x], [t] => match E.und t with
        | some .string => (cOpd x).map .lenS
        | some (.slice _) => (cOpd x).map .len
        | _ => none
      | _, _ => none
    | .builtin .append => match c.args.toList, c.argTypes.toList with
      | [x, y], [t, t'] => if t = t' then match E.elem t, cOpd x, cOpd y with
        | some e, some x, some y => match E.info e, E.zero e with
          | some i, some z => if z.length = i.size ∧ 0 < i.size then some (.app i.size e i.bytes x y) else none
          | _, _ => none
        | _, _, _ => none
        else none
      | _, _ => none
    | .builtin .copy => match c.args.toList, c.argTypes.toList with
      | [x, y], [t, _] => match E.elem t, cOpd x, cOpd y with
        | some e, some x, some y => if E.size e = some 1 then some (.cpy x y) else none
        | _, _, _ => none
      | _, _ => none
    | .builtin .max => match c.args.toList with
      | [x, y] => match cOpd x, cOpd y with
        | some x, some y => some (.mmx true x y)
        | _, _ => none
      | [x, y, z] => match cOpd x, cOpd y, cOpd z with
        | some x, some y, some z => some (.mm3 x y z)
        | _, _, _ => none
      | _ => none
    | .builtin .min => match c.args.toList with
      | [x, y] => match cOpd x, cOpd y with
        | some x, some y => some (.mmx false x y)
        | _, _ => none
      | _ => none
    | .value f => match cOpd f, cOpds c.args.toList with
      | some f, some xs => some (.call f xs)
      | _, _ => none
    | _ => none
  | _ => some .bad
def compOp0 (P : Program) (o : Oper) : Option AOp := compOpG (envOf P) o
/-- What is not covered may stand where it is never run. -/
def compOp (P : Program) (o : Oper) : Option AOp := some ((compOp0 P o).getD .bad)
theorem compOp_of {P : Program} {o : Oper} {ao : AOp} (h : compOp P o = some ao) (hb : ao ≠ .bad) : compOp0 P o = some ao := by
  unfold compOp at h
  cases h0 : compOp0 P o with
  | none => rw [h0] at h; cases h; exact absurd rfl hb
  | some x => rw [h0] at h; cases h; rfl

/-! what the constants are -/
theorem constC_ok {w : World} {imm : Imm} {H : HMap} {L : Locs} {U : Nat → Prop} {x : Value} {c : C} (h : constC x = some c) : CRep w imm H L U x c := by
  unfold constC at h
  split at h <;> first | (cases h; exact .s _ rfl) | (cases h; exact ⟨none, rfl⟩) | cases h

theorem constCs_ok {w : World} {imm : Imm} {H : HMap} {L : Locs} {U : Nat → Prop} : ∀ {xs : List Value} {cs : List C}, constCs xs = some cs → CsRep w imm H L U xs cs
  | [], cs, h => by simp [constCs] at h; subst h; exact ⟨rfl, fun k x y hx => by simp at hx⟩
  | x :: xs, cs, h => by
    simp only [constCs] at h
    split at h
    · rename_i c cs' h1 h2
      cases h
      have ih := constCs_ok (w := w) (imm := imm) (H := H) (L := L) (U := U) h2
      refine ⟨by simp [ih.1], fun k u y hu hy => ?_⟩
      cases k with
      | zero => simp at hu hy; subst hu; subst hy; exact constC_ok h1
      | succ k => exact ih.2 k u y (by simpa using hu) (by simpa using hy)
    · cases h

theorem constT_ok {w : World} {imm : Imm} {H : HMap} {L : Locs} {U : Nat → Prop} {x : Value} {t : T} (h : constT x = some t) : TRep w imm H L U x t := by
  unfold constT at h
  split at h
  · rename_i cs
    cases h1 : constCs cs.toList with
    | none => simp [h1] at h
    | some l => simp [h1] at h; subst h; exact ⟨cs.toList, by simp, constCs_ok h1⟩
  · cases h1 : constC x with
    | none => simp [h1] at h
    | some c => simp [h1] at h; subst h; exact constC_ok h1

theorem cOpd_ok {w : World} {imm : Imm} {H : HMap} {L : Locs} {U : Nat → Prop} {a : Act} {t : Nat → T} (hT : ∀ i, TRep w imm H L U (a.tmps.getD i undef) (t i)) {x : Operand} {y : Opd} (h : cOpd x = some y) :
    TRep w imm H L U (a.eval x) (ev t y) := by
  cases x with
  | tmp i => simp [cOpd] at h; subst h; exact hT i
  | const v =>
    simp only [cOpd, Option.map_eq_some_iff] at h
    obtain ⟨t', h1, rfl⟩ := h
    exact constT_ok h1
  | func f => simp [cOpd] at h; subst h; exact ⟨[], rfl, rfl, fun k p hp => by simp at hp⟩
  | global g => simp [cOpd] at h

theorem cOpds_ok {w : World} {imm : Imm} {H : HMap} {L : Locs} {U : Nat → Prop} {a : Act} {t : Nat → T} (hT : ∀ i, TRep w imm H L U (a.tmps.getD i undef) (t i)) : ∀ {xs : List Operand} {ys : List Opd}, cOpds xs = some ys →
    TsRep w imm H L U (xs.map a.eval) (ys.map (ev t))
  | [], ys, h => by simp [cOpds] at h; subst h; exact ⟨rfl, fun k x y hx => by simp at hx⟩
  | x :: xs, ys, h => by
    simp only [cOpds] at h
    split at h
    · rename_i c cs' h1 h2
      cases h
      have ih := cOpds_ok hT h2
      refine ⟨by simpa using ih.1, fun k u y hu hy => ?_⟩
      cases k with
      | zero => simp at hu hy; subst hu; subst hy; exact cOpd_ok hT h1
      | succ k => exact ih.2 k u y (by simpa using hu) (by simpa using hy)
    · cases h
end Go.V
namespace Go.V

def OpR (P : Program) (a : Act) (o : Oper) (w : World) (imm : Imm) (H : HMap) (L : Locs) (U : Nat → Prop) (H' : HMap) (U' : Nat → Prop) (val : T) : Prop :=
  ∃ x w' imm' L', ((execOp a.eval o).run P w = .ok (.value x) w' ∨ ((execOp a.eval o).run P w = .ok .skip w' ∧ x = undef)) ∧ Goes w imm H L U H' U' val x w' imm' L'

section
variable {P : Program} {a : Act} {o : Oper} {w : World} {imm : Imm} {H : HMap} {L : Locs} {U : Nat → Prop} {t : Nat → T} {ver : Nat}

theorem opR_pure (hH : HOk w imm H L U) {x : Value} {val : T} (hr : (execOp a.eval o).run P w = .ok (.value x) w) (h : TRep w imm H L U x val) : OpR P a o w imm H L U H (with_ U ver) val :=
  ⟨x, w, imm, L, .inl hr, goes_pure hH (fun _ h => .inl h) h⟩

theorem rep_s {x y : Value} (h : TRep w imm H L U x (.pt (.one (.v (.s y))))) : x = y := by
  have h : VRep w imm x (.s y) := h
  cases h; rfl

theorem rep_asInt {x : Value} {v : T} {k : IntKind} {n : Int} (h : TRep w imm H L U x v) (hv : asInt v = some (k, n)) : x = .int k n := by
  unfold asInt at hv
  split at hv
  · simp at hv; obtain ⟨rfl, rfl⟩ := hv; exact rep_s h
  · cases hv

theorem ok_mv (x : Operand) (y : Opd) (hx : cOpd x = some y) (hH : HOk w imm H L U) (hT : ∀ i, TRep w imm H L U (a.tmps.getD i undef) (t i)) (ho : o.op = .move x ∨ o.op = .assign x) :
    OpR P a o w imm H L U H (with_ U ver) (ev t y) :=
  opR_pure hH (x := a.eval x) (by rcases ho with ho | ho <;> simp [execOp, ho]) (cOpd_ok hT hx)

theorem ok_pick (c x y : Operand) (c' x' y' : Opd) (hc : cOpd c = some c') (hx : cOpd x = some x') (hy : cOpd y = some y') (hH : HOk w imm H L U) (hT : ∀ i, TRep w imm H L U (a.tmps.getD i undef) (t i))
    (ho : o.op = .pick c x y) {b : Bool} (hb : ev t c' = .pt (.one (.v (.s (.bool b))))) : OpR P a o w imm H L U H (with_ U ver) (if b then ev t x' else ev t y') := by
  have h1 := cOpd_ok hT hc
  rw [hb] at h1
  have h2 := rep_s h1
  cases b
  · exact opR_pure hH (x := a.eval y) (by simp [execOp, ho, asBool, h2]) (cOpd_ok hT hy)
  · exact opR_pure hH (x := a.eval x) (by simp [execOp, ho, asBool, h2]) (cOpd_ok hT hx)

theorem zeroCs_ok {ty : TypeId} {cs : List C} (h : zeroCs P ty = some cs) : ∃ i z, P.info? ty = some i ∧ i.zero = some z ∧ constCs z.cells.toList = some cs := by
  unfold zeroCs at h
  cases hi : P.info? ty with
  | none => simp [hi] at h
  | some i =>
    cases hz : i.zero with
    | none => simp [hi, hz] at h
    | some z => simp [hi, hz] at h; exact ⟨i, z, rfl, hz, by simpa using h⟩

theorem ok_alloc (e : TypeId) (cs : List C) (hz : zeroCs P e = some cs) (hH : HOk w imm H L U) (hv : ¬ U ver) (ho : o.op = .alloc e) (d : Nat) :
    OpR P a o w imm H L U (upd H d (some (.var ver e cs))) (with_ U ver) (.pt (.one (.ptr d ver 0))) := by
  obtain ⟨i, z, hi, hz, hc⟩ := zeroCs_ok hz
  exact ⟨_, _, _, _, .inl (by simp [execOp, ho, Instr.alloc, zeroValue, typeInfo, hi, hz, newVar, newRow]), goes_var hH d ver hv e z.cells cs (constCs_ok hc)⟩

theorem ok_box (e : TypeId) (x : Operand) (x' : Opd) (hx : cOpd x = some x') (hH : HOk w imm H L U) (hT : ∀ i, TRep w imm H L U (a.tmps.getD i undef) (t i)) (hv : ¬ U ver) (ho : o.op = .box e x) (d : Nat) {p : P1} (hp : ev t x' = .pt p) :
    OpR P a o w imm H L U (upd H d (some (.var ver e p.cells))) (with_ U ver) (.pt (.one (.ptr d ver 0))) := by
  have h1 := cOpd_ok hT hx
  rw [hp] at h1
  have h1 : PRep w imm H L U (a.eval x) p := h1
  exact ⟨_, _, _, _, .inl (by simp [execOp, ho, Instr.box, newVar, newRow]), goes_var hH d ver hv e _ _ h1.cells⟩

theorem fill_ok (places : List (Nat × Nat)) (hT : ∀ i, TRep w imm H L U (a.tmps.getD i undef) (t i)) : ∀ (ps : List (Nat × Operand)) (qs : List (Nat × Nat × Opd)) (cur : Array Value) (cs cs' : List C), cParts places ps = some qs →
    CsRep w imm H L U cur.toList cs → fillP t cs qs = some cs' → ∃ cur' : Array Value, Instr.fill (places.toArray[·]?) cur (ps.map fun (i, x) => (i, a.eval x)) = some cur' ∧ CsRep w imm H L U cur'.toList cs'
  | [], qs, cur, cs, cs', hq, hc, hf => by
    simp [cParts] at hq; subst hq
    simp [fillP] at hf; subst hf
    exact ⟨cur, by simp [Instr.fill], hc⟩
  | (i, x) :: ps, qs, cur, cs, cs', hq, hc, hf => by
    simp only [cParts] at hq
    split at hq
    · rename_i off size y qs' hpl hy hqs
      cases hq
      simp only [fillP] at hf
      split at hf
      · rename_i p hp
        split at hf
        · rename_i hcond
          have h1 := cOpd_ok hT hy
          rw [hp] at h1
          have h1 : PRep w imm H L U (a.eval x) p := h1
          have h2 := h1.cells
          have hlen : (a.eval x).cells.size = size := by have := h2.1; rw [Array.length_toList] at this; omega
          have hcl := hc.1
          rw [Array.length_toList] at hcl
          have hfold : ∀ (l : List Value) (k : Nat) (arr : Array Value), off + k + l.length ≤ arr.size →
              (((l.zipIdx k).foldl (fun cs (x : Value × Nat) => cs.setIfInBounds (off + x.2) x.1) arr).toList) = arr.toList.take (off + k) ++ l ++ arr.toList.drop (off + k + l.length) := by
            intro l
            induction l with
            | nil => intro k arr _; simp
            | cons v l ih =>
              intro k arr hle
              simp only [List.length_cons] at hle
              rw [List.zipIdx_cons, List.foldl_cons, ih (k + 1) _ (by simp; omega)]
              have hlt : off + k < arr.toList.length := by simp; omega
              simp only [Array.toList_setIfInBounds]
              have e := list_seg_step arr.toList (off + k) v l (by simp; omega)
              simp only [List.length_cons]
              rw [← e]
              congr 3
          have hrep : CsRep w imm H L U ((a.eval x).cells.zipIdx.foldl (fun cs (x : Value × Nat) => cs.setIfInBounds (off + x.2) x.1) cur).toList (putC cs off p.cells) := by
            have e := hfold (a.eval x).cells.toList 0 cur (by simp; omega)
            rw [← Array.foldl_toList, Array.toList_zipIdx, e]
            unfold putC
            simp only [Nat.add_zero]
            refine ⟨by simp only [List.length_append, List.length_take, List.length_drop, Array.length_toList]; omega, fun k u y hu hy => ?_⟩
            have hpl : p.cells.length = (a.eval x).cells.toList.length := h2.1.symm
            rw [List.append_assoc] at hu hy
            rcases Nat.lt_or_ge k off with hk | hk
            · rw [List.getElem?_append_left (by simp; omega), List.getElem?_take_of_lt hk] at hu
              rw [List.getElem?_append_left (by simp; omega), List.getElem?_take_of_lt hk] at hy
              exact hc.2 k u y hu hy
            · rw [List.getElem?_append_right (by simp; omega)] at hu
              rw [List.getElem?_append_right (by simp; omega)] at hy
              have e1 : (cur.toList.take off).length = off := by simp; omega
              have e2 : (cs.take off).length = off := by simp; omega
              rw [e1] at hu
              rw [e2] at hy
              rcases Nat.lt_or_ge (k - off) p.cells.length with hk2 | hk2
              · rw [List.getElem?_append_left (by omega)] at hu hy
                exact h2.2 _ u y hu hy
              · rw [List.getElem?_append_right (by omega), List.getElem?_drop] at hu
                rw [List.getElem?_append_right (by omega), List.getElem?_drop] at hy
                rw [← hpl] at hu
                exact hc.2 _ u y hu hy
          obtain ⟨cur', h3, h4⟩ := fill_ok places hT ps qs' _ _ cs' hqs hrep hf
          refine ⟨cur', ?_, h4⟩
          simp only [List.map_cons, Instr.fill]
          have hpl' : places.toArray[i]? = some (off, size) := by simpa using hpl
          simp only [hpl', hlen]
          rw [if_neg (by have := hcond.2; simp; omega)]
          exact h3
        · cases hf
      · cases hf
    · cases hq

theorem fill_more {f g : Nat → Option (Nat × Nat)} (hfg : ∀ i p, f i = some p → g i = some p) : ∀ (ps : List (Nat × Value)) (cur : Array Value) {cur' : Array Value}, Instr.fill f cur ps = some cur' → Instr.fill g cur ps = some cur'
  | [], cur, cur', h => h
  | (i, v) :: ps, cur, cur', h => by
    unfold Instr.fill at h ⊢
    cases hf : f i with
    | none => simp [hf] at h
    | some p =>
      obtain ⟨off, size⟩ := p
      rw [hfg i _ hf]
      simp only [hf] at h ⊢
      split at h
      · cases h
      · rename_i hc
        rw [if_neg hc]
        exact fill_more hfg ps _ h

theorem ok_build (ty : TypeId) (ps : Array (Nat × Operand)) (z : List C) (pl : List (Nat × Nat)) (qs : List (Nat × Nat × Opd)) (hz : zeroCs P ty = some z) (hpl : placesT P ty = some pl) (hq : cParts pl ps.toList = some qs)
    (hH : HOk w imm H L U) (hT : ∀ i, TRep w imm H L U (a.tmps.getD i undef) (t i)) (ho : o.op = .build ty ps) {cs : List C} (hf : fillP t z qs = some cs) : OpR P a o w imm H L U H (with_ U ver) (.pt (.agg cs)) := by
  obtain ⟨i, zv, hi, hz, hc⟩ := zeroCs_ok hz
  obtain ⟨cur, h1, h2⟩ := fill_ok pl hT ps.toList qs zv.cells z cs hq (constCs_ok hc) hf
  have hb : P.built ty (ps.map fun (i, x) => (i, a.eval x)).toList = some cur := by
    unfold placesT at hpl
    cases hu : P.underlying ty with
    | none => simp [hu] at hpl
    | some d =>
      cases d <;> simp only [hu, Option.bind_some] at hpl <;> first | (cases hpl; done) | skip
      case array n e =>
        cases hie : P.info? e with
        | none => simp [hie] at hpl
        | some ie =>
          simp only [hie, Option.map_some, Option.some.injEq] at hpl
          unfold Program.built
          simp only [hi, hu, hz, hie]
          rw [Array.toList_map]
          refine fill_more (fun i p hp => ?_) _ _ h1
          subst hpl
          rw [List.getElem?_toArray, List.getElem?_map, Option.map_eq_some_iff] at hp
          obtain ⟨k, hk, rfl⟩ := hp
          have : k = i := by
            rw [List.getElem?_range] at hk
            · exact (Option.some.inj hk).symm
            · have := (List.getElem?_eq_some_iff.1 hk).1; simpa using this
          rw [this]
      case struct fs =>
        unfold Program.built
        simp only [hi, hu, hz, hpl]
        rw [Array.toList_map]
        exact h1
  refine opR_pure hH (x := .agg cur) ?_ ⟨cur.toList, by simp, h2⟩
  have := run_build (P := P) w ty (ps.map fun (i, x) => (i, a.eval x)) cur hb
  simp [execOp, ho, this]

theorem sizeT_ok {ty : TypeId} {n : Nat} (h : sizeT P ty = some n) : ∃ i, P.info? ty = some i ∧ i.size = n := by
  unfold sizeT at h; simpa using h

theorem elemT_ok {ty e : TypeId} (h : elemT P ty = some e) : P.underlying ty = some (.slice e) := by
  unfold elemT at h
  cases hu : P.underlying ty with
  | none => simp [hu] at h
  | some d => cases d <;> simp [hu] at h; subst h; rfl

theorem run_isAgg {ty : TypeId} {b : Bool} (h : isAggT P ty = some b) : (isAgg ty).run P w = .ok b w := by
  unfold isAggT at h
  cases hu : P.underlying ty with
  | none => simp [hu] at h
  | some d =>
    simp [hu] at h
    subst h
    cases d <;> simp [isAgg, run_underlying hu]

/-- From an address on these cells stand. -/
def CellsAt (w : World) (imm : Imm) (H : HMap) (L : Locs) (U : Nat → Prop) (b o : Nat) (cs : List C) : Prop :=
  ∀ (k : Nat) y, cs[k]? = some y → ∃ u, w.cell? ⟨b, o + k, none⟩ = some u ∧ CRep w imm H L U u y

theorem ptrC_ok (hH : HOk w imm H L U) {x : Value} {v : T} (h : TRep w imm H L U x v) {cs : List C} {rn : List Nat} (hp : ptrC H v = some (cs, rn)) : ∃ b o', x = .pointer (some ⟨b, o', none⟩) ∧ CellsAt w imm H L U b o' cs := by
  unfold ptrC at hp
  split at hp
  · rename_i id ver j
    split at hp
    · rename_i ver' ty cs' hB
      split at hp
      · rename_i hv
        subst hv
        simp at hp
        obtain ⟨rfl, rfl⟩ := hp
        obtain ⟨_, _, h3⟩ := (h : CRep w imm H L U x (.ptr id ver' j))
        obtain ⟨g, hg, rfl⟩ := h3 _ _ hB
        obtain ⟨_, g', cur, hg', hh, hcs, _⟩ := hH.blk id _ hB
        rw [hg] at hg'; cases hg'
        refine ⟨g, j, rfl, fun k y hy => ?_⟩
        rw [List.getElem?_drop] at hy
        have hlt : j + k < cur.toList.length := by rw [hcs.1]; exact (List.getElem?_eq_some_iff.1 hy).1
        refine ⟨cur[j + k]'(by simpa using hlt), ?_, hcs.2 (j + k) _ y (by simp at hlt; simp [hlt]) hy⟩
        simp at hlt
        simp [World.cell?, hh, hlt]
      · cases hp
    · cases hp
  · rename_i id ver i j
    split at hp
    · rename_i ver' wr st ty es hB
      split at hp
      · rename_i hv
        subst hv
        cases he : es[i]? with
        | none => simp [he] at hp
        | some e =>
          simp [he] at hp
          obtain ⟨rfl, rfl⟩ := hp
          obtain ⟨_, _, h3⟩ := (h : CRep w imm H L U x (.aptr id ver' i j))
          obtain ⟨_, g, hg, rfl⟩ := h3 _ _ _ _ hB
          obtain ⟨_, _, _, hq⟩ := hH.blk id _ hB
          rcases hq with ⟨hq, _⟩ | ⟨g', cur, hg', hh, hsz, hcs, _⟩
          · rw [hg] at hq; cases hq
          rw [hg] at hg'; cases hg'
          refine ⟨g, i * st + j, rfl, fun k y hy => ?_⟩
          rw [List.getElem?_drop, List.getElem?_map, Option.map_eq_some_iff] at hy
          obtain ⟨z, hz, rfl⟩ := hy
          obtain ⟨u, hu1, hu2⟩ := hcs i e he (j + k) z hz
          exact ⟨u, by simp [World.cell?, hh, Nat.add_assoc, hu1], hu2⟩
      · cases hp
    · cases hp
  · rename_i xs
    simp at hp
    obtain ⟨rfl, rfl⟩ := hp
    obtain ⟨b, o', rfl, h3⟩ := (h : CRep w imm H L U x (.vptr xs))
    refine ⟨b, o', rfl, fun k y hy => ?_⟩
    rw [List.getElem?_map, Option.map_eq_some_iff] at hy
    obtain ⟨z, hz, rfl⟩ := hy
    obtain ⟨u, h4, _, h5⟩ := h3 k z hz
    exact ⟨u, h4, h5⟩
  · cases hp

theorem add_eq (b o k : Nat) : (⟨b, o, none⟩ : Addr).add k = ⟨b, o + k, none⟩ := by unfold Addr.add; split <;> simp_all

theorem run_ld (ty : TypeId) (n : Nat) (ag : Bool) (hn : sizeT P ty = some n) (hag : isAggT P ty = some ag) (hH : HOk w imm H L U) {x : Value} {x0 v : T} (hx : TRep w imm H L U x x0) {rn : List Nat} (hl : loadT H n ag x0 = some (v, rn)) :
    ∃ b o' y, x = .pointer (some ⟨b, o', none⟩) ∧ (loadVar ty ⟨b, o', none⟩).run P w = .ok y w ∧ TRep w imm H L U y v := by
  unfold loadT at hl
  split at hl
  · rename_i cs rn' hp
    obtain ⟨b, o', hxe, hcs⟩ := ptrC_ok hH hx hp
    obtain ⟨i, hi, hin⟩ := sizeT_ok hn
    have hA := run_isAgg (w := w) hag
    cases ag with
    | true =>
      simp only [if_true] at hl
      split at hl
      · rename_i hle
        simp at hl
        obtain ⟨rfl, rfl⟩ := hl
        let us : List Value := (List.range n).map fun k => (w.cell? ⟨b, o' + k, none⟩).getD undef
        have hus : ∀ k, k < n → ∃ y, cs[k]? = some y ∧ ∃ u, us[k]? = some u ∧ w.cell? ⟨b, o' + k, none⟩ = some u ∧ CRep w imm H L U u y := by
          intro k hk
          have hk' : k < cs.length := by omega
          obtain ⟨u, h1, h2⟩ := hcs k cs[k] (List.getElem?_eq_getElem hk')
          exact ⟨_, List.getElem?_eq_getElem hk', u, by simp [us, hk, h1], h1, h2⟩
        have hlen : us.length = n := by simp [us]
        have hrun := run_loadCells_list (P := P) (w := w) ⟨b, o', none⟩ us (fun j v hv => by
          have hj : j < n := by have := (List.getElem?_eq_some_iff.1 hv).1; omega
          obtain ⟨y, _, u, hu1, hu2, _⟩ := hus j hj
          rw [hu1] at hv; cases hv
          rw [add_eq]; exact hu2)
        rw [hlen] at hrun
        refine ⟨b, o', .agg us.toArray, hxe, ?_, us, rfl, ?_, ?_⟩
        · simp [loadVar, hA, sizeOf, typeInfo, hi, hin, hrun]
        · simp [hlen]; omega
        · intro k u y hu hy
          rw [List.getElem?_take] at hy
          split at hy
          · rename_i hk
            obtain ⟨y', hy', u', hu', _, hr⟩ := hus k hk
            rw [hu'] at hu; cases hu
            rw [hy'] at hy; cases hy
            exact hr
          · cases hy
      · cases hl
    | false =>
      simp at hl
      obtain ⟨c, hc, rfl, rfl⟩ := hl
      obtain ⟨u, h1, h2⟩ := hcs 0 c (by simpa using hc)
      refine ⟨b, o', u, hxe, ?_, h2⟩
      simp at h1
      simp [loadVar, hA, h1]
  · cases hl

theorem ok_ld (ty : TypeId) (x : Operand) (n : Nat) (ag : Bool) (x' : Opd) (hn : sizeT P ty = some n) (hag : isAggT P ty = some ag) (hx : cOpd x = some x') (hH : HOk w imm H L U) (hT : ∀ i, TRep w imm H L U (a.tmps.getD i undef) (t i))
    (ho : o.op = .load ty x) {v : T} {rn : List Nat} (hl : loadT H n ag (ev t x') = some (v, rn)) : OpR P a o w imm H L U H (with_ U ver) v := by
  obtain ⟨b, o', y, h1, h2, h3⟩ := run_ld (P := P) ty n ag hn hag hH (cOpd_ok hT hx) hl
  exact opR_pure hH (x := y) (by simp [execOp, ho, Instr.loadAt, Instr.sureAddr, h1, h2]) h3

theorem putC_rep {xs : List Value} {cs : List C} {j : Nat} {new : List Value} {ncs : List C} (h : CsRep w imm H L U xs cs) (hn : CsRep w imm H L U new ncs) (hle : j + ncs.length ≤ cs.length) :
    CsRep w imm H L U (xs.take j ++ new ++ xs.drop (j + new.length)) (putC cs j ncs) := by
  have h1 := h.1
  have h2 := hn.1
  unfold putC
  refine ⟨by simp only [List.length_append, List.length_take, List.length_drop]; omega, fun k u y hu hy => ?_⟩
  rw [List.append_assoc] at hu hy
  rcases Nat.lt_or_ge k j with hk | hk
  · rw [List.getElem?_append_left (by simp; omega), List.getElem?_take_of_lt hk] at hu
    rw [List.getElem?_append_left (by simp; omega), List.getElem?_take_of_lt hk] at hy
    exact h.2 k u y hu hy
  · rw [List.getElem?_append_right (by simp; omega)] at hu
    rw [List.getElem?_append_right (by simp; omega)] at hy
    have e1 : (xs.take j).length = j := by simp; omega
    have e2 : (cs.take j).length = j := by simp; omega
    rw [e1] at hu
    rw [e2] at hy
    rcases Nat.lt_or_ge (k - j) ncs.length with hk2 | hk2
    · rw [List.getElem?_append_left (by omega)] at hu hy
      exact hn.2 _ u y hu hy
    · rw [List.getElem?_append_right (by omega), List.getElem?_drop] at hu
      rw [List.getElem?_append_right (by omega), List.getElem?_drop] at hy
      rw [h2] at hu
      exact h.2 _ u y hu hy

theorem toVs_ok : ∀ {cs : List C} {vs : List V} {xs : List Value}, toVs cs = some vs → CsRep w imm H L U xs cs → VsOf w imm xs vs
  | [], vs, xs, h, hc => by
    simp [toVs] at h; subst h
    have : xs = [] := List.eq_nil_of_length_eq_zero hc.1
    subst this
    exact ⟨rfl, fun k x y hx => by simp at hx⟩
  | c :: cs, vs, xs, h, hc => by
    cases xs with
    | nil => have := hc.1; simp at this
    | cons x xs =>
      have htl : CsRep w imm H L U xs cs := ⟨by have := hc.1; simpa using this, fun k u y hu hy => hc.2 (k + 1) u y (by simpa using hu) (by simpa using hy)⟩
      have hhd : CRep w imm H L U x c := hc.2 0 x c rfl rfl
      have key : ∀ (v : V) (vs' : List V), toVs cs = some vs' → VRep w imm x v → VsOf w imm (x :: xs) (v :: vs') := by
        intro v vs' h1 h2
        have ih := toVs_ok (xs := xs) h1 htl
        refine ⟨by simp [ih.1], fun k u y hu hy => ?_⟩
        cases k with
        | zero => simp at hu hy; subst hu; subst hy; exact h2
        | succ k => exact ih.2 k u y (by simpa using hu) (by simpa using hy)
      unfold toVs at h
      split at h
      · cases ‹c :: cs = []›
      · rename_i v cs' heq
        cases heq
        simp at h
        obtain ⟨vs', h1, rfl⟩ := h
        exact key _ _ h1 hhd
      · rename_i cs' heq
        cases heq
        simp at h
        obtain ⟨vs', h1, rfl⟩ := h
        obtain ⟨a, rfl⟩ := (hhd : ∃ a, x = .slice a 0 0)
        exact key _ _ h1 (.nil a 0)
      · cases h
end
end Go.V
namespace Go.V
section
variable {P : Program} {a : Act} {o : Oper} {w : World} {imm : Imm} {H : HMap} {L : Locs} {U : Nat → Prop} {t : Nat → T} {ver : Nat}

theorem putV_rep {cur : Array Value} {st : Nat} {es : List (List V)} (h : ∀ i e, es[i]? = some e → VsRep w imm cur (i * st) e) (hl : ∀ e ∈ es, e.length = st) {i j : Nat} {e : List V} (he : es[i]? = some e) {new : List Value} {xs : List V}
    (hn : VsOf w imm new xs) (hle : j + xs.length ≤ e.length) (hsz : es.length * st ≤ cur.size) :
    ∀ k e', (es.set i (putC e j xs))[k]? = some e' → VsRep w imm (cur.toList.take (i * st + j) ++ new ++ cur.toList.drop (i * st + j + new.length)).toArray (k * st) e' := by
  intro k e' hk q y hy
  have h1 := hn.1
  have hel := hl e (List.mem_of_getElem? he)
  have hi : i < es.length := (List.getElem?_eq_some_iff.1 he).1
  have hbound : i * st + st ≤ es.length * st := by have := Nat.mul_le_mul_right st hi; rw [Nat.succ_mul] at this; omega
  have hA : ∀ p, p < i * st + j ∨ i * st + j + new.length ≤ p → (cur.toList.take (i * st + j) ++ new ++ cur.toList.drop (i * st + j + new.length)).toArray[p]? = cur[p]? := by
    intro p hp
    simp only [List.getElem?_toArray]
    rw [List.append_assoc]
    rcases hp with hp | hp
    · rw [List.getElem?_append_left (by simp; omega), List.getElem?_take_of_lt hp, Array.getElem?_toList]
    · rw [List.getElem?_append_right (by simp; omega), List.getElem?_append_right (by simp; omega), List.getElem?_drop, Array.getElem?_toList]
      congr 1
      simp; omega
  have hB : ∀ p, p < new.length → (cur.toList.take (i * st + j) ++ new ++ cur.toList.drop (i * st + j + new.length)).toArray[i * st + j + p]? = new[p]? := by
    intro p hp
    simp only [List.getElem?_toArray]
    rw [List.append_assoc, List.getElem?_append_right (by simp; omega)]
    have e1 : (cur.toList.take (i * st + j)).length = i * st + j := by simp; omega
    rw [e1, List.getElem?_append_left (by omega)]
    congr 1
    omega
  rw [List.getElem?_set] at hk
  split at hk
  · rename_i hik
    subst hik
    have hk : some (putC e j xs) = some e' := by simpa [hi] using hk
    by_cases hxx : True
    · cases hk
      unfold putC at hy
      rw [List.append_assoc] at hy
      rcases Nat.lt_or_ge q j with hq | hq
      · rw [List.getElem?_append_left (by simp; omega), List.getElem?_take_of_lt hq] at hy
        obtain ⟨u, hu1, hu2⟩ := h i e he q y hy
        exact ⟨u, by rw [hA _ (.inl (by omega))]; exact hu1, hu2⟩
      · rw [List.getElem?_append_right (by simp; omega)] at hy
        have e2 : (e.take j).length = j := by simp; omega
        rw [e2] at hy
        rcases Nat.lt_or_ge (q - j) xs.length with hq2 | hq2
        · rw [List.getElem?_append_left hq2] at hy
          have hlt : q - j < new.length := by omega
          refine ⟨new[q - j], ?_, hn.2 (q - j) _ y (List.getElem?_eq_getElem hlt) hy⟩
          have := hB (q - j) hlt
          rw [show i * st + j + (q - j) = i * st + q from by omega] at this
          rw [this, List.getElem?_eq_getElem hlt]
        · rw [List.getElem?_append_right hq2, List.getElem?_drop, show j + xs.length + (q - j - xs.length) = q from by omega] at hy
          obtain ⟨u, hu1, hu2⟩ := h i e he q y hy
          exact ⟨u, by rw [hA _ (.inr (by omega))]; exact hu1, hu2⟩
    · exact absurd trivial hxx
  · rename_i hik
    obtain ⟨u, hu1, hu2⟩ := h k e' hk q y hy
    have hk' : k < es.length := (List.getElem?_eq_some_iff.1 hk).1
    have hq : q < st := by have := hl e' (List.mem_of_getElem? hk); rw [← this]; exact (List.getElem?_eq_some_iff.1 hy).1
    refine ⟨u, ?_, hu2⟩
    rw [hA]
    · exact hu1
    · rcases Nat.lt_or_ge k i with hki | hki
      · have : k * st + st ≤ i * st := by have := Nat.mul_le_mul_right st hki; rw [Nat.succ_mul] at this; omega
        exact .inl (by omega)
      · have : i * st + st ≤ k * st := by have := Nat.mul_le_mul_right st (show i + 1 ≤ k by omega); rw [Nat.succ_mul] at this; omega
        exact .inr (by omega)

theorem ok_st (ty : TypeId) (x v : Operand) (n : Nat) (x' v' : Opd) (hn : sizeT P ty = some n) (hx : cOpd x = some x') (hv' : cOpd v = some v') (hH : HOk w imm H L U) (hT : ∀ i, TRep w imm H L U (a.tmps.getD i undef) (t i))
    (ho : o.op = .store ty x v) {p : P1} (hp : ev t v' = .pt p) {ws : List (Nat × Blk)} {wn : List Nat} (hs : storeT H n p (ev t x') = some (ws, wn)) : OpR P a o w imm H L U (updH H ws) (with_ U ver) .undef := by
  obtain ⟨i, hi, hin⟩ := sizeT_ok hn
  have hpx := cOpd_ok hT hv'
  rw [hp] at hpx
  have hpx : PRep w imm H L U (a.eval v) p := hpx
  have hcs := hpx.cells
  have hones := hcs.ones
  have hxx := cOpd_ok hT hx
  unfold storeT at hs
  split at hs
  · rename_i id ver1 j hxe
    rw [hxe] at hxx
    split at hs
    · rename_i ver' ty' cs hB
      split at hs
      · rename_i hc
        obtain ⟨rfl, hlen, hle⟩ := hc
        simp at hs
        obtain ⟨rfl, rfl⟩ := hs
        obtain ⟨_, _, h3⟩ := (hxx : CRep w imm H L U (a.eval x) (.ptr id ver' j))
        obtain ⟨g, hg, hxv⟩ := h3 _ _ hB
        obtain ⟨_, g', cur, hg', hh, hrep, _⟩ := hH.blk id _ hB
        rw [hg] at hg'; cases hg'
        have hsz : (a.eval v).cells.size = n := by have := hcs.1; rw [Array.length_toList] at this; omega
        have hrl := hrep.1
        rw [Array.length_toList] at hrl
        have hrun := run_storeCells_at P g j ty' (a.eval v).cells.toList 0 cur w hh (by rw [Array.length_toList]; omega) hones
        refine ⟨undef, _, imm, L, .inr ⟨?_, rfl⟩, goes_store (fun _ h => .inl h) hH id ver' ty' cs hB g hg cur hh _ _ (putC_rep hrep hcs (by omega))⟩
        simp only [Nat.add_zero] at hrun
        simp [execOp, ho, Instr.storeAt, Instr.sureAddr, hxv, storeVar, sizeOf, typeInfo, hi, hin, hsz, hrun]
      · cases hs
    · cases hs
  · rename_i id ver1 i1 j hxe
    rw [hxe] at hxx
    split at hs
    · rename_i ver' wr st ty' es xs hB hxs
      split at hs
      · rename_i hc
        obtain ⟨rfl, rfl⟩ := hc
        split at hs
        · rename_i e he
          split at hs
          · rename_i hc2
            obtain ⟨hlen, hle⟩ := hc2
            simp at hs
            obtain ⟨rfl, rfl⟩ := hs
            obtain ⟨_, _, h3⟩ := (hxx : CRep w imm H L U (a.eval x) (.aptr id ver' i1 j))
            obtain ⟨hi1, g, hg, hxv⟩ := h3 _ _ _ _ hB
            obtain ⟨_, hst, hls, hq⟩ := hH.blk id _ hB
            rcases hq with ⟨hq, _⟩ | ⟨g', cur, hg', hh, hsz, hrep, _⟩
            · rw [hg] at hq; cases hq
            rw [hg] at hg'; cases hg'
            have hvs := toVs_ok hxs hcs
            have hvl := hvs.1
            have hcl : (a.eval v).cells.size = n := by rw [Array.length_toList] at hvl; omega
            have hel := hls e (List.mem_of_getElem? he)
            have hbound : i1 * st + st ≤ es.length * st := by have := Nat.mul_le_mul_right st hi1; rw [Nat.succ_mul] at this; omega
            have hrun := run_storeCells_at P g (i1 * st + j) ty' (a.eval v).cells.toList 0 cur w hh (by rw [Array.length_toList]; omega) hones
            simp only [Nat.add_zero] at hrun
            refine ⟨undef, _, imm, L, .inr ⟨?_, rfl⟩, goes_storeA (fun _ h => .inl h) hH id ver' st ty' es _ hB g hg cur hh _ ?_ ?_ ?_ (putV_rep hrep hls he hvs (by omega) hsz)⟩
            · simp [execOp, ho, Instr.storeAt, Instr.sureAddr, hxv, storeVar, sizeOf, typeInfo, hi, hin, hcl, hrun]
            · simp only [List.size_toArray, List.length_append, List.length_take, List.length_drop, Array.length_toList]; omega
            · simp
            · intro e' he'
              rcases List.mem_or_eq_of_mem_set he' with h | h
              · exact hls e' h
              · subst h
                unfold putC
                simp only [List.length_append, List.length_take, List.length_drop]
                omega
          · cases hs
        · cases hs
      · cases hs
    · cases hs
  · cases hs

def isPtr : T → Bool
  | .pt (.one (.ptr _ _ _)) => true
  | .pt (.one (.aptr _ _ _ _)) => true
  | .pt (.one (.vptr _)) => true
  | _ => false

theorem isPtr_ok {x : Value} {v : T} (h : TRep w imm H L U x v) (hp : isPtr v = true) : ∃ b o', x = .pointer (some ⟨b, o', none⟩) := by
  unfold isPtr at hp
  split at hp
  · exact h.2.1
  · exact h.2.1
  · obtain ⟨b, o', h1, _⟩ := h; exact ⟨b, o', h1⟩
  · cases hp

theorem ok_nck (x : Operand) (x' : Opd) (hx : cOpd x = some x') (hH : HOk w imm H L U) (hT : ∀ i, TRep w imm H L U (a.tmps.getD i undef) (t i)) (ho : o.op = .nilCheck x) (hp : isPtr (ev t x') = true) :
    OpR P a o w imm H L U H (with_ U ver) (ev t x') := by
  have h1 := cOpd_ok hT hx
  obtain ⟨b, o', hxe⟩ := isPtr_ok h1 hp
  exact opR_pure hH (x := a.eval x) (by simp [execOp, ho, hxe]) h1

theorem ok_nckF (x : Operand) (x' : Opd) (hx : cOpd x = some x') (hH : HOk w imm H L U) (hT : ∀ i, TRep w imm H L U (a.tmps.getD i undef) (t i)) (ho : o.op = .nilCheck x) {f : FuncId} {cs : List (Nat × Nat)} (hp : ev t x' = .pt (.one (.fn f cs))) :
    OpR P a o w imm H L U H (with_ U ver) (.pt (.one (.fn f cs))) := by
  have h1 := cOpd_ok hT hx
  rw [hp] at h1
  have h2 : CRep w imm H L U (a.eval x) (.fn f cs) := h1
  obtain ⟨ps, hxe, _⟩ := h2
  exact opR_pure hH (x := a.eval x) (by simp [execOp, ho, hxe]) h1

theorem guard_int (op : BinOp) (ty : TypeId) (x y : Operand) (k k' : IntKind) (m n : Int) : (eqGuard op ty x y (.int k m) (.int k' n)).run P w = .ok () w := by unfold eqGuard; cases op <;> rfl
theorem guard_str (op : BinOp) (ty : TypeId) (x y : Operand) (m n : ByteArray) : (eqGuard op ty x y (.string m) (.string n)).run P w = .ok () w := by unfold eqGuard; cases op <;> rfl
theorem guard_bool (op : BinOp) (ty : TypeId) (x y : Operand) (m n : Bool) : (eqGuard op ty x y (.bool m) (.bool n)).run P w = .ok () w := by unfold eqGuard; cases op <;> rfl

theorem sInt_ok (op : BinOp) (ty : TypeId) (k k' : IntKind) (m n : Int) (v : Value) (hk : k = k' ∨ isShift op = true) (h : sInt op k m n = some v) : (binOp op ty (.int k m) (.int k' n)).run P w = .ok v w ∧ v.oneCell' = true := by
  cases op
  case quo =>
    have hk : k = k' := by simpa [isShift] using hk
    subst hk
    simp only [sInt] at h
    split at h
    · cases h
    · rename_i h0; cases h; exact ⟨by simp [binOp, Op.intDiv, h0], rfl⟩
  case rem =>
    have hk : k = k' := by simpa [isShift] using hk
    subst hk
    simp only [sInt] at h
    split at h
    · cases h
    · rename_i h0; cases h; exact ⟨by simp [binOp, Op.intDiv, h0], rfl⟩
  case shl =>
    simp only [sInt] at h
    split at h
    · cases h
    · rename_i h0; cases h; exact ⟨by simp [binOp, Op.shift, h0], rfl⟩
  case shr =>
    simp only [sInt] at h
    split at h
    · cases h
    · rename_i h0; cases h; exact ⟨by simp [binOp, Op.shift, h0], rfl⟩
  case andNot => simp [sInt] at h
  all_goals
    have hk : k = k' := by simpa [isShift] using hk
    subst hk
    simp only [sInt, Option.some.injEq] at h
    subst h
    exact ⟨by simp [binOp, Op.intArith, Op.intBits, Op.intCmp], rfl⟩

theorem sStr_ok (op : BinOp) (ty : TypeId) (m n : ByteArray) (v : Value) (h : sStr op m n = some v) : (binOp op ty (.string m) (.string n)).run P w = .ok v w ∧ v.oneCell' = true := by
  cases op
  case add =>
    simp only [sStr] at h
    split at h
    · rename_i h0; cases h; exact ⟨by simp only [binOp]; exact run_string_add_sum _ _ _ h0, rfl⟩
    · cases h
  case sub => simp [sStr] at h
  case mul => simp [sStr] at h
  case quo => simp [sStr] at h
  case rem => simp [sStr] at h
  case and => simp [sStr] at h
  case or => simp [sStr] at h
  case xor => simp [sStr] at h
  case shl => simp [sStr] at h
  case shr => simp [sStr] at h
  case andNot => simp [sStr] at h
  all_goals
    simp only [sStr, Option.some.injEq] at h
    subst h
    exact ⟨by simp [binOp, Op.stringOp], rfl⟩

theorem sBin_ok (op : BinOp) (ty : TypeId) (x y : Operand) (p q v : Value) (h : sBin op p q = some v) : (eqGuard op ty x y p q).run P w = .ok () w ∧ (binOp op ty p q).run P w = .ok v w ∧ v.oneCell' = true := by
  unfold sBin at h
  split at h
  · split at h
    · rename_i hk
      exact ⟨guard_int op ty x y _ _ _ _, sInt_ok op ty _ _ _ _ v hk h⟩
    · cases h
  · exact ⟨guard_str op ty x y _ _, sStr_ok op ty _ _ v h⟩
  · cases h

theorem ok_bin (op : BinOp) (ty ty2 : TypeId) (x y : Operand) (x' y' : Opd) (hx : cOpd x = some x') (hy : cOpd y = some y') (hH : HOk w imm H L U) (hT : ∀ i, TRep w imm H L U (a.tmps.getD i undef) (t i)) (ho : o.op = .binOp op ty x y ty2)
    {p q v : Value} (hp : ev t x' = .pt (.one (.v (.s p)))) (hq : ev t y' = .pt (.one (.v (.s q)))) (hv : sBin op p q = some v) : OpR P a o w imm H L U H (with_ U ver) (.s v) := by
  have h1 := cOpd_ok hT hx
  have h2 := cOpd_ok hT hy
  rw [hp] at h1
  rw [hq] at h2
  have e1 := rep_s h1
  have e2 := rep_s h2
  obtain ⟨h3, h4, h5⟩ := sBin_ok (P := P) (w := w) op ty x y p q v hv
  exact opR_pure hH (x := v) (by simp [execOp, ho, e1, e2, h3, h4]) (.s v h5)

theorem ok_binB (op : BinOp) (ty ty2 : TypeId) (x y : Operand) (x' y' : Opd) (hu : P.underlying ty = some .bool) (hx : cOpd x = some x') (hy : cOpd y = some y') (hH : HOk w imm H L U) (hT : ∀ i, TRep w imm H L U (a.tmps.getD i undef) (t i)) (ho : o.op = .binOp op ty x y ty2)
    {p q : Bool} (hp : ev t x' = .pt (.one (.v (.s (.bool p))))) (hq : ev t y' = .pt (.one (.v (.s (.bool q))))) {b : Bool} (hop : op = .eql ∧ b = (p == q) ∨ op = .neq ∧ b = !(p == q)) : OpR P a o w imm H L U H (with_ U ver) (.b b) := by
  have h1 := cOpd_ok hT hx
  have h2 := cOpd_ok hT hy
  rw [hp] at h1
  rw [hq] at h2
  have e1 := rep_s h1
  have e2 := rep_s h2
  have hg := guard_bool (P := P) (w := w) op ty x y p q
  refine opR_pure hH (x := .bool b) ?_ (.s _ rfl)
  rcases hop with ⟨rfl, rfl⟩ | ⟨rfl, rfl⟩
  · simp only [execOp, ho, e1, e2]; rw [Sem.run_bind, Sem.run_bind, hg]; simp [run_eql_bool w ty p q hu]
  · simp only [execOp, ho, e1, e2]; rw [Sem.run_bind, Sem.run_bind, hg]; simp [run_neq_bool w ty p q hu]

theorem part_run {ty : TypeId} {off : Nat} {xs : Array Value} {v : Value} (ha : isAggT P ty = some false) (hx : xs[off]? = some v) : (part ty xs off).run P w = .ok v w := by
  simp [part, run_isAgg ha, hx]
theorem eqFields_ok (d : Nat) (xs ys : Array Value) : ∀ (fs : List Field) (n : Nat) (ks : List Nat) (cs ds : List C) (r : Bool), fieldKs P fs n = some ks → eqK ks cs ds = some r →
    (∀ j u, cs[j]? = some (.v (.s u)) → xs[n + j]? = some u) → (∀ j u, ds[j]? = some (.v (.s u)) → ys[n + j]? = some u) → (Op.eqFields (d + 1) xs ys fs).run P w = .ok r w
  | [], n, ks, cs, ds, r, hk, he, hx, hy => by
    simp [fieldKs] at hk
    subst hk
    unfold eqK at he
    split at he <;> simp_all [Op.eqFields]
  | f :: fs, n, ks, cs, ds, r, hk, he, hx, hy => by
    simp only [fieldKs] at hk
    split at hk
    · rename_i hc
      obtain ⟨h1, h2, h3⟩ := hc
      have step : ∀ (u v : Value) (cs' ds' : List C) (ks' : List Nat) (r' b : Bool), cs = .v (.s u) :: cs' → ds = .v (.s v) :: ds' → fieldKs P fs (n + 1) = some ks' → eqK ks' cs' ds' = some r' → (Op.equalIn (d + 1) f.type u v).run P w = .ok b w → (Op.eqFields (d + 1) xs ys (f :: fs)).run P w = .ok (b && r') w := by
        intro u v cs' ds' ks' r' b hcs hds hf hq hb
        subst hcs hds
        have e1 := part_run (P := P) (w := w) h3 (h2 ▸ hx 0 u rfl)
        have e2 := part_run (P := P) (w := w) h3 (h2 ▸ hy 0 v rfl)
        simp only [Nat.add_zero] at e1 e2
        have ih := eqFields_ok d xs ys fs (n + 1) ks' cs' ds' r' hf hq (fun j u h => by have := hx (j + 1) u h; rw [← this]; congr 1; omega) (fun j u h => by have := hy (j + 1) u h; rw [← this]; congr 1; omega)
        simp only [Op.eqFields, h1, ne_eq, not_false_eq_true, if_true, Sem.run_bind, e1, e2, hb, Result.andThen_ok]
        cases b with
        | false => simp
        | true => simp [ih]
      split at hk
      · rename_i k ks' hu hf
        simp only [Option.some.injEq] at hk
        subst hk
        unfold eqK at he
        split at he
        · simp_all
        · rename_i ks2 k1 a cs' k2 b ds' hks
          simp only [List.cons.injEq, true_and] at hks
          subst hks
          split at he
          · rename_i hkk
            subst hkk
            simp only [Option.map_eq_some_iff] at he
            obtain ⟨r', hr', rfl⟩ := he
            exact step _ _ cs' ds' ks' r' (a == b) rfl rfl hf hr' (run_equalIn_int w d f.type _ _ a b hu)
          · cases he
        all_goals simp_all
      · rename_i ks' hu hf
        simp only [Option.some.injEq] at hk
        subst hk
        unfold eqK at he
        split at he
        · simp_all
        · simp_all
        · rename_i ks2 a cs' b ds' hks
          simp only [List.cons.injEq, true_and] at hks
          subst hks
          simp only [Option.map_eq_some_iff] at he
          obtain ⟨r', hr', rfl⟩ := he
          exact step _ _ cs' ds' ks' r' (a == b) rfl rfl hf hr' (run_equalIn_bool' w d f.type a b hu)
        all_goals simp_all
      · rename_i ks' hu hf
        simp only [Option.some.injEq] at hk
        subst hk
        unfold eqK at he
        split at he
        · simp_all
        · simp_all
        · simp_all
        · rename_i ks2 a cs' b ds' hks
          simp only [List.cons.injEq, true_and] at hks
          subst hks
          simp only [Option.map_eq_some_iff] at he
          obtain ⟨r', hr', rfl⟩ := he
          exact step _ _ cs' ds' ks' r' (a.toList == b.toList) rfl rfl hf hr' (run_equalIn_string w d f.type a b hu)
        all_goals simp_all
      · cases hk
    · cases hk
theorem ok_cmpA (neg : Bool) (op : BinOp) (ty ty2 : TypeId) (x y : Operand) (x' y' : Opd) {fs : Array Field} (hu : P.underlying ty = some (.struct fs)) {ks : List Nat} (hk : fieldKs P fs.toList 0 = some ks) (hs : P.stoodInHeld ty = false) (hg : P.eqGuardType P.depth ty = false) (hx : cOpd x = some x') (hy : cOpd y = some y') (hH : HOk w imm H L U) (hT : ∀ i, TRep w imm H L U (a.tmps.getD i undef) (t i)) (ho : o.op = .binOp op ty x y ty2)
    (hop : op = if neg then .neq else .eql) {cs ds : List C} (hp : ev t x' = .pt (.agg cs)) (hq : ev t y' = .pt (.agg ds)) {r : Bool} (hr : eqK ks cs ds = some r) : OpR P a o w imm H L U H (with_ U ver) (.b (if neg then !r else r)) := by
  have h1 := cOpd_ok hT hx
  have h2 := cOpd_ok hT hy
  rw [hp] at h1
  rw [hq] at h2
  obtain ⟨xs, e1, c1⟩ := (show PRep w imm H L U _ (.agg cs) from h1)
  obtain ⟨ys, e2, c2⟩ := (show PRep w imm H L U _ (.agg ds) from h2)
  have hfo : P.fieldsOf ty = fs := by simp [Program.fieldsOf, hu]
  have hcell : ∀ {zs : List Value} {es : List C}, CsRep w imm H L U zs es → ∀ j u, es[j]? = some (.v (.s u)) → zs.toArray[0 + j]? = some u := by
    intro zs es hc j u he
    have hlt : j < zs.length := by rw [hc.1]; exact (List.getElem?_eq_some_iff.1 he).1
    have h := hc.2 j zs[j] _ (List.getElem?_eq_getElem hlt) he
    have : zs[j] = u := rep_s (H := H) (L := L) (U := U) h
    rw [Nat.zero_add, List.getElem?_toArray, List.getElem?_eq_getElem hlt, this]
  have he := eqFields_ok (P := P) (w := w) 9998 xs.toArray ys.toArray fs.toList 0 ks cs ds r hk hr (hcell c1) (hcell c2)
  have hE : (Op.equalIn 10000 ty (.agg xs.toArray) (.agg ys.toArray)).run P w = .ok r w := by
    rw [run_equalIn_struct w 9999 ty _ _ (by rw [hfo]; exact hu) hs, hfo]
    exact he
  have hgu := run_eqGuard_agg (P := P) w op ty x y xs.toArray ys.toArray hg
  refine opR_pure hH (x := .bool (if neg then !r else r)) ?_ (.s _ rfl)
  cases neg with
  | false =>
    simp only [Bool.false_eq_true, if_false] at hop ⊢
    subst hop
    simp only [execOp, ho, e1, e2]; rw [Sem.run_bind, Sem.run_bind, hgu]; simp [run_eql_struct, hE]
  | true =>
    simp only [if_true] at hop ⊢
    subst hop
    simp only [execOp, ho, e1, e2]; rw [Sem.run_bind, Sem.run_bind, hgu]; simp [run_neq_struct, hE]

theorem ok_un (op : UnOp) (ty : TypeId) (x : Operand) (x' : Opd) (hx : cOpd x = some x') (hH : HOk w imm H L U) (hT : ∀ i, TRep w imm H L U (a.tmps.getD i undef) (t i)) (ho : o.op = .unOp op ty x)
    {p v : Value} (hp : ev t x' = .pt (.one (.v (.s p)))) (hv : sUn op p = some v) : OpR P a o w imm H L U H (with_ U ver) (.s v) := by
  have h1 := cOpd_ok hT hx
  rw [hp] at h1
  have e1 := rep_s h1
  unfold sUn at hv
  split at hv
  · simp at hv; subst hv
    exact opR_pure hH (by simp [execOp, ho, e1, Op.unary]) (.s _ rfl)
  · simp at hv; subst hv
    exact opR_pure hH (by simp [execOp, ho, e1, Op.unary, Op.intArith]) (.s _ rfl)
  · cases hv

theorem ok_cnvI (s d : TypeId) (k : IntKind) (x : Operand) (x' : Opd) {ds : TypeDesc} (hs : P.underlying s = some ds) (hd : P.underlying d = some (.int k)) (hx : cOpd x = some x') (hH : HOk w imm H L U) (hT : ∀ i, TRep w imm H L U (a.tmps.getD i undef) (t i)) (ho : o.op = .convert s d x)
    {k' : IntKind} {n : Int} (hp : asInt (ev t x') = some (k', n)) : OpR P a o w imm H L U H (with_ U ver) (.s (.int k (k.wrap n))) := by
  have e1 := rep_asInt (cOpd_ok hT hx) hp
  exact opR_pure hH (by simp [execOp, ho, e1, convert, run_underlying hs, run_underlying hd, Conv.intToInt]) (.s _ rfl)

theorem capsOf_ok : ∀ {ts : List T} {cs : List (Nat × Nat)} {xs : List Value}, capsOf ts = some cs → TsRep w imm H L U xs ts → xs.length = cs.length ∧
    ∀ (k : Nat) p, cs[k]? = some p → ∃ u, xs[k]? = some u ∧ U p.2 ∧ (∃ b o, u = .pointer (some ⟨b, o, none⟩)) ∧ ∀ ty cs', H p.1 = some (.var p.2 ty cs') → ∃ g, L p.1 = some g ∧ u = .pointer (some ⟨g, 0, none⟩)
  | [], cs, xs, h, hr => by
    simp [capsOf] at h; subst h
    exact ⟨by have := hr.1; simpa using this, fun k p hp => by simp at hp⟩
  | x :: ts, cs, xs, h, hr => by
    cases xs with
    | nil => have := hr.1; simp at this
    | cons u xs =>
      unfold capsOf at h
      split at h
      · cases ‹x :: ts = []›
      · rename_i id ver ts' heq
        cases heq
        simp at h
        obtain ⟨cs', h1, rfl⟩ := h
        have htl : TsRep w imm H L U xs ts := ⟨by have := hr.1; simpa using this, fun k x y hx hy => hr.2 (k + 1) x y (by simpa using hx) (by simpa using hy)⟩
        obtain ⟨h2, h3⟩ := capsOf_ok h1 htl
        refine ⟨by simp [h2], fun k p hp => ?_⟩
        cases k with
        | zero =>
          simp at hp; subst hp
          have h0 : CRep w imm H L U u (.ptr id ver 0) := hr.2 0 u _ rfl rfl
          exact ⟨u, rfl, h0⟩
        | succ k => exact h3 k p (by simpa using hp)
      · cases h

theorem ok_mkf (f : FuncId) (first caps : Array Operand) (hfirst : first.isEmpty = true) (ys : List Opd) (hy : cOpds caps.toList = some ys) (hH : HOk w imm H L U) (hT : ∀ i, TRep w imm H L U (a.tmps.getD i undef) (t i)) (ho : o.op = .makeFunc (.func f) first caps)
    {cs : List (Nat × Nat)} (hc : capsOf (ys.map (ev t)) = some cs) : OpR P a o w imm H L U H (with_ U ver) (.pt (.one (.fn f cs))) := by
  have h1 := cOpds_ok hT hy
  obtain ⟨h2, h3⟩ := capsOf_ok hc h1
  have hf : first = #[] := by simpa using hfirst
  refine opR_pure hH (x := .func (.func f) #[] (caps.map a.eval)) (by simp [execOp, ho, hf, Instr.makeFunc]) ?_
  refine ⟨caps.toList.map a.eval, ?_, h2, h3⟩
  congr 1
  rw [← Array.toList_map]

theorem constCs_len : ∀ {xs : List Value} {cs : List C}, constCs xs = some cs → xs.length = cs.length
  | [], cs, h => by simp [constCs] at h; subst h; rfl
  | x :: xs, cs, h => by
    simp only [constCs] at h
    split at h
    · rename_i h2; cases h; simp [constCs_len h2]
    · cases h

theorem ok_mks (ty e : TypeId) (l c : Operand) (l' c' : Opd) (i : TypeInfo) (z : List V) (he : elemT P ty = some e) (hl : cOpd l = some l') (hc : cOpd c = some c') (hi : P.info? e = some i) (hz : (zeroCs P e).bind toVs = some z) (hzl : z.length = i.size)
    (hH : HOk w imm H L U) (hT : ∀ i, TRep w imm H L U (a.tmps.getD i undef) (t i)) (hv : ¬ U ver) (ho : o.op = .makeSlice ty l c) (d : Nat) {kl kc : IntKind} {m n : Int} (hm : asInt (ev t l') = some (kl, m)) (hn : asInt (ev t c') = some (kc, n))
    (h0 : 0 ≤ m) (hmn : m ≤ n) (hb : (i.bytes : Int) * n ≤ 281474976710656) (h63 : n ≤ 9223372036854775807) (hst : 0 < i.size) :
    OpR P a o w imm H L U (upd H d (some (.arr ver true i.size e (List.replicate m.toNat z)))) (with_ U ver) (.pt (.one (.own d ver m.toNat))) := by
  have e1 := rep_asInt (cOpd_ok hT hl) hm
  have e2 := rep_asInt (cOpd_ok hT hc) hn
  cases hzc : zeroCs P e with
  | none => simp [hzc] at hz
  | some cs =>
    simp [hzc] at hz
    obtain ⟨i', zv, hi', hzv, hcs⟩ := zeroCs_ok hzc
    rw [hi] at hi'; cases hi'
    have hrun := run_make (P := P) w ty e i zv (elemT_ok he) hi hzv kl kc m n h0 hmn hb h63
    have hvs := toVs_ok hz (constCs_ok (w := w) (imm := imm) (H := H) (L := L) (U := U) hcs)
    have hzs : zv.cells.size = i.size := by have := hvs.1; rw [Array.length_toList] at this; omega
    refine ⟨_, w.alloc (.cells (madeCells zv.cells (n.toNat * i.size)) e), _, _, .inl (by simp [execOp, ho, e1, e2, hrun]), goes_arr hH d ver hv true e (madeCells zv.cells (n.toNat * i.size)) i.size _ m.toNat n.toNat rfl rfl rfl rfl hst ?_ ?_ ?_ (by simp) (by omega) (by simp [maxLen]; omega) (by simp [size_madeCells])⟩
    · intro x hx
      rw [List.mem_replicate] at hx
      rw [hx.2]; exact hzl
    · simp [size_madeCells]
      exact Nat.mul_le_mul_right _ (by omega)
    · intro k x hx q y hy
      rw [List.getElem?_replicate] at hx
      split at hx
      · rename_i hk
        cases hx
        have hq : q < i.size := by rw [← hzl]; exact (List.getElem?_eq_some_iff.1 hy).1
        have hlt : q < zv.cells.toList.length := by simp; omega
        refine ⟨zv.cells.toList[q], ?_, hvs.2 q _ y (List.getElem?_eq_getElem hlt) hy⟩
        have hb2 : k * i.size + q < n.toNat * i.size := by
          have h5 : (k + 1) * i.size ≤ n.toNat * i.size := Nat.mul_le_mul_right _ (by omega)
          rw [Nat.succ_mul] at h5; omega
        have hmod : (k * i.size + q) % zv.cells.size = q := by rw [hzs, Nat.mul_comm, Nat.mul_add_mod, Nat.mod_eq_of_lt hq]
        simp at hlt
        simp [madeCells, hb2, hmod, hlt]
      · cases hx
end
end Go.V
namespace Go.V
section
variable {P : Program} {a : Act} {o : Oper} {w : World} {imm : Imm} {H : HMap} {L : Locs} {U : Nat → Prop} {t : Nat → T} {ver : Nat}

theorem bounds_ok (isS : Bool) (len cap : Nat) (hlc : len ≤ cap) (lo hi : Option Operand) (lo' hi' : Option Opd) (hlo : cOpt lo = some lo') (hhi : cOpt hi = some hi') (hT : ∀ i, TRep w imm H L U (a.tmps.getD i undef) (t i)) {l h : Nat} (hh : lohi t len lo' hi' = some (l, h)) :
    (Instr.sliceBounds isS len cap (lo.map a.eval) (hi.map a.eval) none).run P w = .ok (l, h, cap) w ∧ l ≤ h ∧ h ≤ len := by
  unfold lohi at hh
  split at hh
  · rename_i k1 l1 k2 h1 e1 e2
    split at hh
    · rename_i hc
      simp at hh
      obtain ⟨rfl, rfl⟩ := hh
      have hhi2 : ∀ v : Int, 0 ≤ v → v ≤ len → ∀ kk code, (Instr.sliceBound (.int kk v) cap code).run P w = .ok v.toNat w := fun v h0 h2 kk code => by
        have : v ≤ (cap : Int) := by omega
        simp [Instr.sliceBound, asIntOf, h0, this]
      have hlo2 : ∀ (v : Int) (y : Nat), 0 ≤ v → v ≤ y → ∀ kk code, (Instr.sliceBound (.int kk v) y code).run P w = .ok v.toNat w := fun v y h0 h2 kk code => by
        simp [Instr.sliceBound, asIntOf, h0, h2]
      refine ⟨?_, by omega, by omega⟩
      cases lo with
      | none =>
        simp [cOpt] at hlo; subst hlo
        simp at e1; obtain ⟨_, rfl⟩ := e1
        cases hi with
        | none =>
          simp [cOpt] at hhi; subst hhi
          simp at e2; obtain ⟨_, rfl⟩ := e2
          simp [Instr.sliceBounds]
        | some y =>
          simp [cOpt] at hhi; obtain ⟨y', hy, rfl⟩ := hhi
          have := rep_asInt (cOpd_ok hT hy) e2
          simp [Instr.sliceBounds, this, hhi2 h1 (by omega) (by omega)]
      | some x =>
        simp [cOpt] at hlo; obtain ⟨x', hx, rfl⟩ := hlo
        have h3 := rep_asInt (cOpd_ok hT hx) e1
        cases hi with
        | none =>
          simp [cOpt] at hhi; subst hhi
          simp at e2; obtain ⟨_, rfl⟩ := e2
          simp [Instr.sliceBounds, h3, hlo2 l1 len (by omega) (by omega)]
        | some y =>
          simp [cOpt] at hhi; obtain ⟨y', hy, rfl⟩ := hhi
          have h4 := rep_asInt (cOpd_ok hT hy) e2
          simp [Instr.sliceBounds, h3, h4, hhi2 h1 (by omega) (by omega), hlo2 l1 h1.toNat (by omega) (by omega)]
    · cases hh
  · cases hh

theorem view_slice {x : Value} {es : List (List V)} (h : VRep w imm x (.sl es)) {st l k : Nat} (hst : ∀ e ∈ es, e.length = st) (hlk : l ≤ k) (hk : k ≤ es.length) :
    ∃ ad cap, x = .slice ad es.length cap ∧ es.length ≤ cap ∧ VRep w imm (.slice (if cap = l then ad else ad.map (·.add (l * st))) (k - l) (cap - l)) (.sl ((es.drop l).take (k - l))) := by
  cases h with
  | nil ad cap =>
    simp at hk
    subst hk
    have : l = 0 := by omega
    subst this
    exact ⟨ad, cap, rfl, Nat.zero_le _, by simpa using VRep.nil _ _⟩
  | sl es st' b o cap vals hst' hne hcap hl hc hr =>
    refine ⟨some ⟨b, o, none⟩, cap, rfl, hcap, ?_⟩
    have hss : st = st' := by
      cases es with
      | nil => exact absurd rfl hne
      | cons e es => rw [← hst e (by simp), hl e (by simp)]
    subst hss
    by_cases hkl : k - l = 0
    · rw [hkl]; simpa using VRep.nil _ _
    · have hcl : ¬ cap = l := by omega
      simp only [hcl, if_false, Option.map_some, add_eq]
      have hlen : ((es.drop l).take (k - l)).length = k - l := by simp; omega
      have := VRep.sl (w := w) (imm := imm) ((es.drop l).take (k - l)) st b (o + l * st) (cap - l) (fun i j => vals (i + l) j) hst' (by intro e; simp [e] at hlen; omega) (by omega)
        (fun e he => hl e (List.mem_of_mem_drop (List.mem_of_mem_take he))) (fun i j x hx => ?_) (fun i j x hx => ?_)
      · rw [hlen] at this; exact this
      all_goals
        have hx' : at2 es (i + l) j = some x := by
          simp only [at2, List.getElem?_take, List.getElem?_drop] at hx ⊢
          split at hx
          · rw [Nat.add_comm]; exact hx
          · cases hx
        first
          | exact hr _ _ _ hx'
          | (have h1 := hc _ _ _ hx'
             have e1 : o + l * st + i * st + j = o + (i + l) * st + j := by rw [Nat.add_mul]; omega
             rw [e1]; exact h1)

theorem ok_slc_str (ty : TypeId) (x : Operand) (lo hi : Option Operand) (x' : Opd) (lo' hi' : Option Opd) (hu : P.underlying ty = some .string) (hx : cOpd x = some x') (hlo : cOpt lo = some lo') (hhi : cOpt hi = some hi')
    (hH : HOk w imm H L U) (hT : ∀ i, TRep w imm H L U (a.tmps.getD i undef) (t i)) (ho : o.op = .slice ty x lo hi none) {s : ByteArray} (hp : ev t x' = .pt (.one (.v (.s (.string s))))) {l h : Nat} (hb : lohi t s.size lo' hi' = some (l, h)) :
    OpR P a o w imm H L U H (with_ U ver) (.s (.string (s.extract l h))) := by
  have h1 := cOpd_ok hT hx
  rw [hp] at h1
  have e1 := rep_s h1
  obtain ⟨h2, _, _⟩ := bounds_ok (P := P) false s.size s.size (Nat.le_refl _) lo hi lo' hi' hlo hhi hT hb
  exact opR_pure hH (by simp [execOp, ho, e1, Instr.sliceAt, Instr.slice, run_underlying hu, h2]) (.s _ rfl)

theorem run_slice (ty e : TypeId) (i : TypeInfo) (hu : P.underlying ty = some (.slice e)) (hi : P.info? e = some i) (ad : Option Addr) (len cap : Nat) (lo hi' : Option Value) {l h : Nat} (hb : (Instr.sliceBounds true len cap lo hi' none).run P w = .ok (l, h, cap) w) :
    (Instr.sliceAt ty (.slice ad len cap) lo hi' none).run P w = .ok (.slice (if cap = l then ad else ad.map (·.add (l * i.size))) (h - l) (cap - l)) w := by
  simp [Instr.sliceAt, Instr.slice, run_underlying hu, hb, sizeOf, typeInfo, hi]

theorem ok_slc_view (ty e : TypeId) (n : Nat) (x : Operand) (lo hi : Option Operand) (x' : Opd) (lo' hi' : Option Opd) (hu : P.underlying ty = some (.slice e)) (hn : sizeT P e = some n) (hx : cOpd x = some x') (hlo : cOpt lo = some lo') (hhi : cOpt hi = some hi')
    (hH : HOk w imm H L U) (hT : ∀ i, TRep w imm H L U (a.tmps.getD i undef) (t i)) (ho : o.op = .slice ty x lo hi none) {es : List (List V)} (hp : ev t x' = .pt (.one (.v (.sl es)))) {l h : Nat} (hb : lohi t es.length lo' hi' = some (l, h))
    (hst : ∀ e ∈ es, e.length = n) : OpR P a o w imm H L U H (with_ U ver) (.pt (.one (.v (.sl ((es.drop l).take (h - l)))))) := by
  have h1 := cOpd_ok hT hx
  rw [hp] at h1
  have h1 : VRep w imm (a.eval x) (.sl es) := h1
  obtain ⟨i, hi2, hin⟩ := sizeT_ok hn
  obtain ⟨q, hlh, hhl⟩ : (∃ q : Unit, True) ∧ l ≤ h ∧ h ≤ es.length := ⟨⟨(), trivial⟩, (bounds_ok (P := P) true es.length es.length (Nat.le_refl _) lo hi lo' hi' hlo hhi hT hb).2⟩
  obtain ⟨ad, cap, hxe, hcap, hv⟩ := view_slice h1 hst hlh hhl
  obtain ⟨h2, _, _⟩ := bounds_ok (P := P) true es.length cap hcap lo hi lo' hi' hlo hhi hT hb
  have h3 := run_slice (P := P) ty e i hu hi2 ad es.length cap _ _ h2
  rw [hin] at h3
  refine opR_pure hH ?_ hv
  simp only [execOp, ho, hxe, Option.map_none, Sem.run_bind, h3, Result.andThen_ok, Sem.run_pure]

theorem ok_slc_own (ty e : TypeId) (n : Nat) (x : Operand) (lo hi : Option Operand) (x' : Opd) (lo' hi' : Option Opd) (hu : P.underlying ty = some (.slice e)) (hn : sizeT P e = some n) (hx : cOpd x = some x') (hlo : cOpt lo = some lo') (hhi : cOpt hi = some hi')
    (hH : HOk w imm H L U) (hT : ∀ i, TRep w imm H L U (a.tmps.getD i undef) (t i)) (ho : o.op = .slice ty x lo hi none) {id v m : Nat} (hp : ev t x' = .pt (.one (.own id v m))) {h : Nat} (hb : lohi t m lo' hi' = some (0, h)) :
    OpR P a o w imm H L U H (with_ U ver) (.pt (.one (.own id v h))) := by
  have h1 := cOpd_ok hT hx
  rw [hp] at h1
  have h1 : CRep w imm H L U (a.eval x) (.own id v m) := h1
  obtain ⟨hv, ⟨ad, k, hxe, hmk⟩, h3⟩ := h1
  obtain ⟨i, hi2, hin⟩ := sizeT_ok hn
  obtain ⟨h2, _, hhm⟩ := bounds_ok (P := P) true m k hmk lo hi lo' hi' hlo hhi hT hb
  have h4 := run_slice (P := P) ty e i hu hi2 ad m k _ _ h2
  have had : (if k = 0 then ad else ad.map (·.add (0 * i.size))) = ad := by
    split
    · rfl
    · cases ad <;> simp [Addr.add]
  rw [had] at h4
  refine opR_pure hH (x := .slice ad h k) ?_ ⟨hv, ⟨ad, k, rfl, by omega⟩, fun wr st ty es hB => ?_⟩
  · simp only [execOp, ho, hxe, Option.map_none, Sem.run_bind, h4, Result.andThen_ok, Sem.run_pure, Nat.sub_zero]
  · obtain ⟨h5, h6⟩ := h3 _ _ _ _ hB
    refine ⟨by omega, ?_⟩
    rw [hxe] at h6
    rcases h6 with ⟨a', e1, e2⟩ | ⟨b, cap, cur, hb', e1, hh, h7, h8, h9⟩
    · cases e1
      exact .inl ⟨ad, by have : h = 0 := by omega
                         subst this; rfl, by omega⟩
    · cases e1
      exact .inr ⟨b, k, cur, hb', rfl, hh, by omega, h8, h9⟩

theorem ok_slc_ow (ty e : TypeId) (n : Nat) (x : Operand) (lo hi : Option Operand) (x' : Opd) (lo' hi' : Option Opd) (hu : P.underlying ty = some (.slice e)) (hn : sizeT P e = some n) (hx : cOpd x = some x') (hlo : cOpt lo = some lo') (hhi : cOpt hi = some hi')
    (hH : HOk w imm H L U) (hT : ∀ i, TRep w imm H L U (a.tmps.getD i undef) (t i)) (ho : o.op = .slice ty x lo hi none) {id v m : Nat} (hp : ev t x' = .pt (.one (.own id v m))) {l h : Nat} (hb : lohi t m lo' hi' = some (l, h)) (hl : 0 < l)
    {wr0 : Bool} {ty0 : TypeId} {es0 : List (List V)} (hB0 : H id = some (.arr v wr0 n ty0 es0)) (hhe : h ≤ es0.length) :
    OpR P a o w imm H L U H (with_ U ver) (.pt (.one (.ow id v l (h - l)))) := by
  have h1 := cOpd_ok hT hx
  rw [hp] at h1
  obtain ⟨hv, ⟨ad, k, hxe, hmk⟩, h3⟩ := (show CRep w imm H L U (a.eval x) (.own id v m) from h1)
  obtain ⟨i, hi2, hin⟩ := sizeT_ok hn
  obtain ⟨h2, hlh, hhm⟩ := bounds_ok (P := P) true m k hmk lo hi lo' hi' hlo hhi hT hb
  have h4 := run_slice (P := P) ty e i hu hi2 ad m k _ _ h2
  rw [hin] at h4
  refine opR_pure hH (x := .slice (if k = l then ad else ad.map (·.add (l * n))) (h - l) (k - l)) ?_ ⟨hv, ⟨_, _, rfl, by omega⟩, fun wr st ty es hB => ?_⟩
  · simp only [execOp, ho, hxe, Option.map_none, Sem.run_bind, h4, Result.andThen_ok, Sem.run_pure]
  · rw [hB0] at hB
    cases hB
    obtain ⟨h5, h6⟩ := h3 _ _ _ _ hB0
    refine ⟨by omega, ?_⟩
    by_cases hz : h - l = 0
    · exact .inl hz
    · rw [hxe] at h6
      rcases h6 with ⟨a', e1, e2⟩ | ⟨b, cap, cur, hb', e1, hh, h7, h8, h9⟩
      · omega
      · cases e1
        have hkl : ¬ k = l := by omega
        refine .inr ⟨b, k - l, hb', ?_⟩
        rw [if_neg hkl]
        show Value.slice (some (Addr.add ⟨b, 0, none⟩ (l * n))) (h - l) (k - l) = _
        have : Addr.add ⟨b, 0, none⟩ (l * n) = ⟨b, l * n, none⟩ := by simp only [Addr.add, Nat.zero_add]; split <;> simp_all
        rw [this]

theorem ok_slc_nil (ty e : TypeId) (n : Nat) (x : Operand) (lo hi : Option Operand) (x' : Opd) (lo' hi' : Option Opd) (hu : P.underlying ty = some (.slice e)) (hn : sizeT P e = some n) (hx : cOpd x = some x') (hlo : cOpt lo = some lo') (hhi : cOpt hi = some hi')
    (hH : HOk w imm H L U) (hT : ∀ i, TRep w imm H L U (a.tmps.getD i undef) (t i)) (ho : o.op = .slice ty x lo hi none) (hp : ev t x' = .pt (.one .nil0)) {q : Nat × Nat} (hb : lohi t 0 lo' hi' = some q) :
    OpR P a o w imm H L U H (with_ U ver) (.pt (.one .nil0)) := by
  have h1 := cOpd_ok hT hx
  rw [hp] at h1
  have h1 : ∃ ad, a.eval x = .slice ad 0 0 := h1
  obtain ⟨ad, hxe⟩ := h1
  obtain ⟨l, h⟩ := q
  obtain ⟨i, hi2, hin⟩ := sizeT_ok hn
  obtain ⟨h2, hlh, hh⟩ := bounds_ok (P := P) true 0 0 (Nat.le_refl _) lo hi lo' hi' hlo hhi hT hb
  have h3 := run_slice (P := P) ty e i hu hi2 ad 0 0 _ _ h2
  have e1 : l = 0 := by omega
  have e2 : h = 0 := by omega
  subst e1; subst e2
  refine opR_pure hH (x := .slice ad 0 0) ?_ ⟨ad, rfl⟩
  simp only [execOp, ho, hxe, Option.map_none, Sem.run_bind, h3, Result.andThen_ok, Sem.run_pure]
  simp

theorem ok_slc0 (ty e : TypeId) (x : Operand) (x' : Opd) (hu : P.underlying ty = some (.slice e)) (hn : (sizeT P e).isSome = true) (hx : cOpd x = some x') (hH : HOk w imm H L U) (hT : ∀ i, TRep w imm H L U (a.tmps.getD i undef) (t i))
    (ho : o.op = .slice ty x none (some (.const (.int .i64 0))) (some (.const (.int .i64 0)))) (hp : (∃ es, ev t x' = .pt (.one (.v (.sl es)))) ∨ (∃ i v n, ev t x' = .pt (.one (.own i v n))) ∨ ev t x' = .pt (.one .nil0)) :
    OpR P a o w imm H L U H (with_ U ver) (.pt (.one .nil0)) := by
  have h1 := cOpd_ok hT hx
  have hsl : ∃ ad len cap, a.eval x = .slice ad len cap := by
    rcases hp with ⟨es, hp⟩ | ⟨i, v, n, hp⟩ | hp <;> rw [hp] at h1
    · have h2 : VRep w imm (a.eval x) (.sl es) := h1
      generalize a.eval x = y at h2
      cases h2 <;> exact ⟨_, _, _, rfl⟩
    · obtain ⟨_, ⟨ad, k, h2, _⟩, _⟩ := (show CRep w imm H L U (a.eval x) (.own i v n) from h1)
      exact ⟨_, _, _, h2⟩
    · obtain ⟨ad, h2⟩ := (show ∃ ad, a.eval x = .slice ad 0 0 from h1)
      exact ⟨_, _, _, h2⟩
  obtain ⟨ad, len, cap, hxe⟩ := hsl
  obtain ⟨n, hn⟩ := Option.isSome_iff_exists.1 hn
  obtain ⟨i, hi2, hin⟩ := sizeT_ok hn
  refine opR_pure hH (x := .slice ad 0 0) ?_ ⟨ad, rfl⟩
  have hrun : (Instr.sliceAt ty (.slice ad len cap) none (some (.int .i64 0)) (some (.int .i64 0))).run P w = .ok (.slice ad 0 0) w := by
    simp [Instr.sliceAt, Instr.slice, run_underlying hu, Instr.sliceBounds, Instr.sliceBound, asIntOf, sizeOf, typeInfo, hi2]
  have hk : a.eval (.const (.int .i64 0)) = .int .i64 0 := rfl
  simp only [execOp, ho, hxe, Option.map_none, Option.map_some, hk, Sem.run_bind, hrun, Result.andThen_ok, Sem.run_pure]

theorem ok_fa (s : TypeId) (fs : Array Field) (f : Nat) (fd : Field) (n : Nat) (x : Operand) (x' : Opd) (hu : P.underlying s = some (.struct fs)) (hf : fs[f]? = some fd) (hn : sizeT P fd.type = some n) (hpos : 0 < n) (hx : cOpd x = some x')
    (hH : HOk w imm H L U) (hT : ∀ i, TRep w imm H L U (a.tmps.getD i undef) (t i)) (ho : o.op = .fieldAddr s x f) {v : T}
    (hv : (∃ id vr j, ev t x' = .pt (.one (.ptr id vr j)) ∧ v = .pt (.one (.ptr id vr (j + fd.offset)))) ∨ (∃ id vr i j, ev t x' = .pt (.one (.aptr id vr i j)) ∧ v = .pt (.one (.aptr id vr i (j + fd.offset)))) ∨
      (∃ xs, ev t x' = .pt (.one (.vptr xs)) ∧ v = .pt (.one (.vptr (xs.drop fd.offset))))) : OpR P a o w imm H L U H (with_ U ver) v := by
  have h1 := cOpd_ok hT hx
  obtain ⟨i, hi2, hin⟩ := sizeT_ok hn
  have hpos' : ¬ i.size = 0 := by omega
  have hrun : ∀ b o', a.eval x = .pointer (some ⟨b, o', none⟩) → (execOp a.eval o).run P w = .ok (.value (.pointer (some ⟨b, o' + fd.offset, none⟩))) w := by
    intro b o' hxe
    simp [execOp, ho, hxe, Instr.fieldAt, run_underlying hu, hf, Instr.sureAddr, fieldPlace, sizeOf, typeInfo, hi2, hpos', add_eq]
  rcases hv with ⟨id, vr, j, hp, rfl⟩ | ⟨id, vr, k, j, hp, rfl⟩ | ⟨xs, hp, rfl⟩ <;> rw [hp] at h1
  · obtain ⟨h2, ⟨b, o', hxe⟩, h3⟩ := (show CRep w imm H L U (a.eval x) (.ptr id vr j) from h1)
    refine opR_pure hH (hrun b o' hxe) ⟨h2, ⟨_, _, rfl⟩, fun ty cs hB => ?_⟩
    obtain ⟨g, hg, h4⟩ := h3 _ _ hB
    rw [hxe] at h4; cases h4
    exact ⟨_, hg, rfl⟩
  · obtain ⟨h2, ⟨b, o', hxe⟩, h3⟩ := (show CRep w imm H L U (a.eval x) (.aptr id vr k j) from h1)
    refine opR_pure hH (hrun b o' hxe) ⟨h2, ⟨_, _, rfl⟩, fun wr st ty es hB => ?_⟩
    obtain ⟨h5, g, hg, h4⟩ := h3 _ _ _ _ hB
    rw [hxe] at h4; cases h4
    exact ⟨h5, _, hg, by rw [Nat.add_assoc]⟩
  · obtain ⟨b, o', hxe, h3⟩ := (show CRep w imm H L U (a.eval x) (.vptr xs) from h1)
    refine opR_pure hH (hrun b o' hxe) ⟨b, _, rfl, fun k y hy => ?_⟩
    rw [List.getElem?_drop] at hy
    have := h3 _ y hy
    rw [← Nat.add_assoc] at this
    exact this

theorem ok_fl (s : TypeId) (fs : Array Field) (f : Nat) (fd : Field) (n : Nat) (ag : Bool) (x : Operand) (x' : Opd) (hu : P.underlying s = some (.struct fs)) (hf : fs[f]? = some fd) (hn : sizeT P fd.type = some n) (hag : isAggT P fd.type = some ag) (hx : cOpd x = some x')
    (hH : HOk w imm H L U) (hT : ∀ i, TRep w imm H L U (a.tmps.getD i undef) (t i)) (ho : o.op = .field s x f) {cs : List C} (hp : ev t x' = .pt (.agg cs)) {v : T}
    (hv : (ag = true ∧ fd.offset + n ≤ cs.length ∧ v = .pt (.agg ((cs.drop fd.offset).take n))) ∨ (ag = false ∧ ∃ c, cs[fd.offset]? = some c ∧ v = .pt (.one c))) : OpR P a o w imm H L U H (with_ U ver) v := by
  have h1 := cOpd_ok hT hx
  rw [hp] at h1
  obtain ⟨xs, hxe, hxs⟩ := (show PRep w imm H L U (a.eval x) (.agg cs) from h1)
  obtain ⟨i, hi2, hin⟩ := sizeT_ok hn
  have hA := run_isAgg (w := w) hag
  have hlen := hxs.1
  rcases hv with ⟨rfl, hle, rfl⟩ | ⟨rfl, c, hc, rfl⟩
  · refine opR_pure hH (x := .agg (xs.toArray.extract fd.offset (fd.offset + n))) ?_ ⟨(xs.drop fd.offset).take n, ?_, ?_, ?_⟩
    · simp [execOp, ho, hxe, Instr.field, run_underlying hu, hf, asAgg, part, hA, sizeOf, typeInfo, hi2, hin]
    · simp [List.take_drop]
    · simp; omega
    · intro k u y hu hy
      rw [List.getElem?_take, List.getElem?_drop] at hu hy
      by_cases hk : k < n
      · rw [if_pos hk] at hu hy
        exact hxs.2 _ u y hu hy
      · rw [if_neg hk] at hu
        cases hu
  · have hlt : fd.offset < xs.length := by rw [hlen]; exact (List.getElem?_eq_some_iff.1 hc).1
    refine opR_pure hH (x := xs[fd.offset]) ?_ (hxs.2 fd.offset _ c (List.getElem?_eq_getElem hlt) hc)
    simp [execOp, ho, hxe, Instr.field, run_underlying hu, hf, asAgg, part, hA, hlt]

theorem ok_ia_view (ty e : TypeId) (n : Nat) (x i : Operand) (x' i' : Opd) (hu : P.underlying ty = some (.slice e)) (hn : sizeT P e = some n) (hx : cOpd x = some x') (hi : cOpd i = some i') (hH : HOk w imm H L U) (hT : ∀ i, TRep w imm H L U (a.tmps.getD i undef) (t i))
    (ho : o.op = .indexAddr ty x i) {es : List (List V)} (hp : ev t x' = .pt (.one (.v (.sl es)))) {k : IntKind} {m : Int} (hm : asInt (ev t i') = some (k, m)) (h0 : 0 ≤ m) {el : List V} (he : es[m.toNat]? = some el) (hel : el.length = n) :
    OpR P a o w imm H L U H (with_ U ver) (.pt (.one (.vptr el))) := by
  have h1 := cOpd_ok hT hx
  rw [hp] at h1
  have e2 := rep_asInt (cOpd_ok hT hi) hm
  have h1 : VRep w imm (a.eval x) (.sl es) := h1
  obtain ⟨i, hi2, hin⟩ := sizeT_ok hn
  generalize hxe : a.eval x = xv at h1
  cases h1 with
  | nil => simp at he
  | sl es st b o' cap vals hst hne hcap hl hc hr =>
    have hlt : m.toNat < es.length := (List.getElem?_eq_some_iff.1 he).1
    have hss : n = st := by rw [← hel]; exact hl el (List.mem_of_getElem? he)
    subst hss
    have hml : m < es.length := by omega
    refine opR_pure hH (x := .pointer (some ⟨b, o' + m.toNat * n, none⟩)) ?_ ⟨b, _, rfl, fun q y hy => ?_⟩
    · simp [execOp, ho, hxe, e2, Instr.indexAt, asIntOf, run_underlying hu, h0, hml, sizeOf, typeInfo, hi2, hin, add_eq]
    · have hx' : at2 es m.toNat q = some y := by simp [at2, he, hy]
      obtain ⟨h3, h4⟩ := hc _ _ _ hx'
      exact ⟨_, h3, h4, hr _ _ _ hx'⟩

theorem ok_ia_own (ty e : TypeId) (n : Nat) (x i : Operand) (x' i' : Opd) (hu : P.underlying ty = some (.slice e)) (hn : sizeT P e = some n) (hx : cOpd x = some x') (hi : cOpd i = some i') (hH : HOk w imm H L U) (hT : ∀ i, TRep w imm H L U (a.tmps.getD i undef) (t i))
    (ho : o.op = .indexAddr ty x i) {id v q : Nat} (hp : ev t x' = .pt (.one (.own id v q))) {k : IntKind} {m : Int} (hm : asInt (ev t i') = some (k, m)) (h0 : 0 ≤ m) (hmq : m < q) {wr : Bool} {ty' : TypeId} {es : List (List V)} (hB : H id = some (.arr v wr n ty' es)) :
    OpR P a o w imm H L U H (with_ U ver) (.pt (.one (.aptr id v m.toNat 0))) := by
  have h1 := cOpd_ok hT hx
  rw [hp] at h1
  have e2 := rep_asInt (cOpd_ok hT hi) hm
  obtain ⟨hv, ⟨ad, kc, hxe, _⟩, h3⟩ := (show CRep w imm H L U (a.eval x) (.own id v q) from h1)
  obtain ⟨hqe, hov⟩ := h3 _ _ _ _ hB
  obtain ⟨i, hi2, hin⟩ := sizeT_ok hn
  rcases hov with ⟨a', e1, e3⟩ | ⟨b, cap, cur, hb, e1, hh, h7, h8, h9⟩
  · omega
  · refine opR_pure hH (x := .pointer (some ⟨b, m.toNat * n, none⟩)) ?_ ⟨hv, ⟨_, _, rfl⟩, fun wr2 st2 ty2 es2 hB2 => ?_⟩
    · simp [execOp, ho, e1, e2, Instr.indexAt, asIntOf, run_underlying hu, h0, hmq, sizeOf, typeInfo, hi2, hin, add_eq]
    · rw [hB] at hB2; cases hB2
      exact ⟨by omega, b, hb, by simp⟩

theorem ok_ix (ty : TypeId) (x i : Operand) (x' i' : Opd) (hu : P.underlying ty = some .string) (hx : cOpd x = some x') (hi : cOpd i = some i') (hH : HOk w imm H L U) (hT : ∀ i, TRep w imm H L U (a.tmps.getD i undef) (t i))
    (ho : o.op = .index ty x i) {s : ByteArray} (hp : ev t x' = .pt (.one (.v (.s (.string s))))) {k : IntKind} {m : Int} (hm : asInt (ev t i') = some (k, m)) (h0 : 0 ≤ m) {b : UInt8} (hb : s.data[m.toNat]? = some b) :
    OpR P a o w imm H L U H (with_ U ver) (.s (.int .u8 b.toNat)) := by
  have h1 := cOpd_ok hT hx
  rw [hp] at h1
  have e1 := rep_s h1
  have e2 := rep_asInt (cOpd_ok hT hi) hm
  have hlt : m.toNat < s.data.size := (Array.getElem?_eq_some_iff.1 hb).1
  have hbe : s.data[m.toNat] = b := (Array.getElem?_eq_some_iff.1 hb).2
  have hsz : s.size = s.data.size := rfl
  have hcond : 0 ≤ m ∧ m < (s.size : Int) := by omega
  refine opR_pure hH ?_ (.s _ rfl)
  have := run_index_string (P := P) w ty s k m hu
  rw [dif_pos hcond] at this
  have hget : s[m.toNat]'(by omega) = b := hbe
  rw [hget] at this
  simp [execOp, ho, e1, e2, this]

theorem arrT_ok {ty e : TypeId} {n : Nat} (h : arrT P ty = some (n, e)) : P.underlying ty = some (.array n e) := by
  unfold arrT at h
  cases hu : P.underlying ty with
  | none => simp [hu] at h
  | some d => cases d <;> simp [hu] at h; obtain ⟨rfl, rfl⟩ := h; rfl

theorem ok_mmx (c : Call) (mx : Bool) (x y : Operand) (x' y' : Opd) (hc : c.callee = .builtin (if mx then .max else .min)) (hargs : c.args.toList = [x, y]) (hx : cOpd x = some x') (hy : cOpd y = some y')
    (hH : HOk w imm H L U) (hT : ∀ i, TRep w imm H L U (a.tmps.getD i undef) (t i)) (ho : o.op = .call c) {k k' : IntKind} {m n : Int} (hm : asInt (ev t x') = some (k, m)) (hn : asInt (ev t y') = some (k', n)) :
    OpR P a o w imm H L U H (with_ U ver) (.s (.int k (if mx then max m n else min m n))) := by
  have e1 := rep_asInt (cOpd_ok hT hx) hm
  have e2 := rep_asInt (cOpd_ok hT hy) hn
  have ea : c.args = #[x, y] := by rw [← Array.toArray_toList (xs := c.args), hargs]
  refine opR_pure hH (x := .int k (if mx then max m n else min m n)) ?_ (.s _ rfl)
  cases mx with
  | true =>
    have hq : (if n > m then n else m) = max m n := by omega
    simp [execOp, ho, resolve, hc, ea, invoke, builtin, e1, e2, Builtin.max_, Builtin.max2]
    omega
  | false =>
    simp [execOp, ho, resolve, hc, ea, invoke, builtin, e1, e2, Builtin.min_, Builtin.min2]
    omega

theorem ok_mm3 (c : Call) (x y z : Operand) (x' y' z' : Opd) (hc : c.callee = .builtin .max) (hargs : c.args.toList = [x, y, z]) (hx : cOpd x = some x') (hy : cOpd y = some y') (hz : cOpd z = some z')
    (hH : HOk w imm H L U) (hT : ∀ i, TRep w imm H L U (a.tmps.getD i undef) (t i)) (ho : o.op = .call c) {k k' k'' : IntKind} {m n q : Int} (hm : asInt (ev t x') = some (k, m)) (hn : asInt (ev t y') = some (k', n)) (hq : asInt (ev t z') = some (k'', q)) :
    OpR P a o w imm H L U H (with_ U ver) (.s (.int k (max (max m n) q))) := by
  have e1 := rep_asInt (cOpd_ok hT hx) hm
  have e2 := rep_asInt (cOpd_ok hT hy) hn
  have e3 := rep_asInt (cOpd_ok hT hz) hq
  have ea : c.args = #[x, y, z] := by rw [← Array.toArray_toList (xs := c.args), hargs]
  refine opR_pure hH (x := .int k (max (max m n) q)) ?_ (.s _ rfl)
  have h1 : (if n > m then n else m) = max m n := by omega
  have h2 : (if q > max m n then q else max m n) = max (max m n) q := by omega
  simp [execOp, ho, resolve, hc, ea, invoke, builtin, e1, e2, e3, Builtin.max_, Builtin.max2]
  omega

theorem ok_iap (ty e : TypeId) (len n : Nat) (x i : Operand) (x' i' : Opd) (hu : P.underlying ty = some (.array len e)) (hn : sizeT P e = some n) (hx : cOpd x = some x') (hi : cOpd i = some i') (hH : HOk w imm H L U) (hT : ∀ i, TRep w imm H L U (a.tmps.getD i undef) (t i))
    (ho : o.op = .indexAddr ty x i) {id vr j : Nat} (hp : ev t x' = .pt (.one (.ptr id vr j))) {k : IntKind} {m : Int} (hm : asInt (ev t i') = some (k, m)) (h0 : 0 ≤ m) (hlt : m.toNat < len) :
    OpR P a o w imm H L U H (with_ U ver) (.pt (.one (.ptr id vr (j + m.toNat * n)))) := by
  have h1 := cOpd_ok hT hx
  rw [hp] at h1
  have e2 := rep_asInt (cOpd_ok hT hi) hm
  obtain ⟨ie, hi2, hin⟩ := sizeT_ok hn
  obtain ⟨h2, ⟨b, o', hxe⟩, h3⟩ := (show CRep w imm H L U (a.eval x) (.ptr id vr j) from h1)
  have hcond : 0 ≤ m ∧ m < (len : Int) := by omega
  have hrun : (execOp a.eval o).run P w = .ok (.value (.pointer (some ⟨b, o' + m.toNat * n, none⟩))) w := by
    simp [execOp, ho, hxe, e2, Instr.indexAt, asIntOf, run_underlying hu, Instr.sureAddr, hcond.1, hcond.2, sizeOf, typeInfo, hi2, hin, add_eq]
  refine opR_pure hH hrun ⟨h2, ⟨_, _, rfl⟩, fun ty cs hB => ?_⟩
  obtain ⟨g, hg, h4⟩ := h3 _ _ hB
  rw [hxe] at h4; cases h4
  exact ⟨_, hg, rfl⟩

theorem ok_ixA (ty e : TypeId) (len n : Nat) (ag : Bool) (x i : Operand) (x' i' : Opd) (hu : P.underlying ty = some (.array len e)) (hn : sizeT P e = some n) (hag : isAggT P e = some ag) (hx : cOpd x = some x') (hi : cOpd i = some i')
    (hH : HOk w imm H L U) (hT : ∀ i, TRep w imm H L U (a.tmps.getD i undef) (t i)) (ho : o.op = .index ty x i) {cs : List C} (hp : ev t x' = .pt (.agg cs)) {k : IntKind} {m : Int} (hm : asInt (ev t i') = some (k, m)) (h0 : 0 ≤ m) (hlt : m.toNat < len) {v : T}
    (hv : (ag = true ∧ m.toNat * n + n ≤ cs.length ∧ v = .pt (.agg ((cs.drop (m.toNat * n)).take n))) ∨ (ag = false ∧ ∃ c, cs[m.toNat * n]? = some c ∧ v = .pt (.one c))) : OpR P a o w imm H L U H (with_ U ver) v := by
  have h1 := cOpd_ok hT hx
  rw [hp] at h1
  have e2 := rep_asInt (cOpd_ok hT hi) hm
  obtain ⟨xs, hxe, hxs⟩ := (show PRep w imm H L U (a.eval x) (.agg cs) from h1)
  obtain ⟨ie, hi2, hin⟩ := sizeT_ok hn
  have hA := run_isAgg (w := w) hag
  have hlen := hxs.1
  have hcond : 0 ≤ m ∧ m < (len : Int) := by omega
  rcases hv with ⟨rfl, hle, rfl⟩ | ⟨rfl, c, hc, rfl⟩
  · refine opR_pure hH (x := .agg (xs.toArray.extract (m.toNat * n) (m.toNat * n + n))) ?_ ⟨(xs.drop (m.toNat * n)).take n, ?_, ?_, ?_⟩
    · simp [execOp, ho, hxe, e2, Instr.index, asIntOf, run_underlying hu, hcond.1, hcond.2, part, hA, sizeOf, typeInfo, hi2, hin]
    · simp [List.take_drop]
    · simp; omega
    · intro k u y hu hy
      rw [List.getElem?_take, List.getElem?_drop] at hu hy
      by_cases hk : k < n
      · rw [if_pos hk] at hu hy
        exact hxs.2 _ u y hu hy
      · rw [if_neg hk] at hu
        cases hu
  · have hlt2 : m.toNat * n < xs.length := by rw [hlen]; exact (List.getElem?_eq_some_iff.1 hc).1
    refine opR_pure hH (x := xs[m.toNat * n]) ?_ (hxs.2 (m.toNat * n) _ c (List.getElem?_eq_getElem hlt2) hc)
    simp [execOp, ho, hxe, e2, Instr.index, asIntOf, run_underlying hu, hcond.1, hcond.2, part, hA, sizeOf, typeInfo, hi2, hin, hlt2]

theorem ok_ext (i : Nat) (x : Operand) (x' : Opd) (hx : cOpd x = some x') (hH : HOk w imm H L U) (hT : ∀ i, TRep w imm H L U (a.tmps.getD i undef) (t i)) (ho : o.op = .extract x i) {ps : List P1} (hp : ev t x' = .tup ps) {p : P1} (hi : ps[i]? = some p) :
    OpR P a o w imm H L U H (with_ U ver) (.pt p) := by
  have h1 := cOpd_ok hT hx
  rw [hp] at h1
  obtain ⟨xs, hxe, hl, h2⟩ := h1
  have hlt : i < xs.length := by rw [hl]; exact (List.getElem?_eq_some_iff.1 hi).1
  refine opR_pure hH (x := xs[i]) ?_ (h2 i _ p (List.getElem?_eq_getElem hlt) hi)
  simp [execOp, ho, hxe, Instr.extract, hlt]

theorem ok_len (c : Call) (x : Operand) (ty : TypeId) (x' : Opd) (hc : c.callee = .builtin .len) (hargs : c.args.toList = [x]) (hts : c.argTypes.toList = [ty]) (hx : cOpd x = some x')
    (hH : HOk w imm H L U) (hT : ∀ i, TRep w imm H L U (a.tmps.getD i undef) (t i)) (ho : o.op = .call c) {n : Nat}
    (hp : (P.underlying ty = some .string ∧ ∃ s, ev t x' = .pt (.one (.v (.s (.string s)))) ∧ n = s.size) ∨ ((∃ e, P.underlying ty = some (.slice e)) ∧ ((∃ es, ev t x' = .pt (.one (.v (.sl es))) ∧ n = es.length) ∨ (∃ id v, ev t x' = .pt (.one (.own id v n))) ∨ (ev t x' = .pt (.one .nil0) ∧ n = 0)))) :
    OpR P a o w imm H L U H (with_ U ver) (.i n) := by
  have h1 := cOpd_ok hT hx
  have ea : c.args = #[x] := by rw [← Array.toArray_toList (xs := c.args), hargs]
  have et : c.argTypes = #[ty] := by rw [← Array.toArray_toList (xs := c.argTypes), hts]
  refine opR_pure hH (x := .int .i64 n) ?_ (.s _ rfl)
  rcases hp with ⟨hu, s, hp, rfl⟩ | ⟨⟨e, hu⟩, hp⟩
  · rw [hp] at h1
    have e1 := rep_s h1
    simp [execOp, ho, resolve, hc, ea, et, invoke, builtin, e1, Builtin.len_, run_underlying hu, goInt]
  · have hsl : ∃ ad cap, a.eval x = .slice ad n cap := by
      rcases hp with ⟨es, hp, rfl⟩ | ⟨id, v, hp⟩ | ⟨hp, rfl⟩ <;> rw [hp] at h1
      · have h2 : VRep w imm (a.eval x) (.sl es) := h1
        generalize a.eval x = y at h2
        cases h2 <;> exact ⟨_, _, rfl⟩
      · obtain ⟨_, ⟨ad, k, h2, _⟩, _⟩ := (show CRep w imm H L U (a.eval x) (.own id v n) from h1)
        exact ⟨_, _, h2⟩
      · obtain ⟨ad, h2⟩ := (show ∃ ad, a.eval x = .slice ad 0 0 from h1)
        exact ⟨_, _, h2⟩
    obtain ⟨ad, cap, hxe⟩ := hsl
    simp [execOp, ho, resolve, hc, ea, et, invoke, builtin, hxe, Builtin.len_, run_underlying hu, goInt]
end
end Go.V
namespace Go.V
section
variable {P : Program} {a : Act} {o : Oper} {w : World} {L : Locs} {U : Nat → Prop} {t : Nat → T} {ver : Nat}

theorem TsRep.cons {imm : Imm} {H : HMap} {x : Value} {xs : List Value} {y : T} {ys : List T} (h : TsRep w imm H L U (x :: xs) (y :: ys)) : TRep w imm H L U x y ∧ TsRep w imm H L U xs ys :=
  ⟨h.2 0 x y rfl rfl, by have := h.1; simpa using this, fun k u z hu hz => h.2 (k + 1) u z (by simpa using hu) (by simpa using hz)⟩

theorem sealPs_ok {H0 : HMap} {st : Nat} : ∀ {ts : List T} {imm : Imm} {H : HMap} (_ : HOk w imm H L U) (_ : SameA H0 H) {xs : List Value} {es : List (List V)} {ws : List (Nat × Blk)} {ns : List Nat}
    (_ : sealPs H0 st ts = some (es, ws, ns)) (_ : TsRep w imm H L U xs ts), ∃ imm', Sealed w imm H L U H0 (updH H ws) imm' ∧ es.length = ts.length ∧ (∀ e ∈ es, e.length = st) ∧ ∀ (i : Nat) x e, xs[i]? = some x → es[i]? = some e → VsOf w imm' x.cells.toList e
  | [], imm, H, hH, hs, xs, es, ws, ns, h, hc => by
    simp [sealPs] at h
    obtain ⟨rfl, rfl, rfl⟩ := h
    exact ⟨imm, ⟨hH, Ext.refl _ _ _ _, hs, Step.refl _ _ _, Near.refl _ _ _⟩, rfl, fun e he => by simp at he, fun i x e _ he => by simp at he⟩
  | y :: ts, imm, H, hH, hs, xs, es, ws, ns, h, hc => by
    unfold sealPs at h
    split at h
    · cases ‹y :: ts = []›
    · rename_i p ts' heq
      cases heq
      split at h
      · rename_i v w1 n1 vs' w2 n2 h1 h2
        split at h
        · rename_i hlen
          simp only [Option.some.injEq, Prod.mk.injEq] at h
          obtain ⟨rfl, rfl, rfl⟩ := h
          cases xs with
          | nil => have := hc.1; simp at this
          | cons x xs =>
            obtain ⟨hx, hxs⟩ := hc.cons
            have hx : PRep w imm H L U x p := hx
            obtain ⟨imm1, S1, V1⟩ := sealCs_ok hH hs h1 hx.cells
            have hxs' : TsRep w imm1 (updH H w1) L U xs ts := ⟨hxs.1, fun k u z hu hz => (hxs.2 k u z hu hz).mono (fun b o h => ⟨(S1.step.keep b o h).1, rfl⟩) S1.ext⟩
            obtain ⟨imm2, S2, l2, a2, V2⟩ := sealPs_ok S1.hok S1.same h2 hxs'
            refine ⟨imm2, ?_, by simp [l2], ?_, ?_⟩
            · rw [updH_append]; exact S1.trans S2
            · intro e he
              rcases List.mem_cons.1 he with rfl | he
              · exact hlen
              · exact a2 e he
            · intro i u e hu he
              cases i with
              | zero =>
                simp at hu he; subst hu; subst he
                exact ⟨V1.1, fun k q r hq hr => (V1.2 k q r hq hr).mono fun b o h => ⟨(S2.step.keep b o h).1, rfl⟩⟩
              | succ i => exact V2 i u e (by simpa using hu) (by simpa using he)
        · cases h
      · cases h
    · cases h

/-- Parts, numbered from k on. -/
def numbered (k : Nat) : List Value → List (Nat × Value)
  | [] => []
  | x :: xs => (k, x) :: numbered (k + 1) xs

theorem cElems_ok {imm : Imm} {H : HMap} (hT : ∀ i, TRep w imm H L U (a.tmps.getD i undef) (t i)) : ∀ {ps : List (Nat × Operand)} {k : Nat} {qs : List Opd}, cElems k ps = some qs →
    (ps.map fun (i, x) => (i, a.eval x)) = numbered k (ps.map fun p => a.eval p.2) ∧ TsRep w imm H L U (ps.map fun p => a.eval p.2) (qs.map (ev t))
  | [], k, qs, h => by simp [cElems] at h; subst h; exact ⟨rfl, rfl, fun k x y hx => by simp at hx⟩
  | (i, x) :: ps, k, qs, h => by
    simp only [cElems] at h
    split at h
    · rename_i hik
      subst hik
      split at h
      · rename_i y qs' h1 h2
        cases h
        obtain ⟨h3, h4⟩ := cElems_ok hT h2
        refine ⟨by simp [numbered, h3], by simp [h4.1], fun q u z hu hz => ?_⟩
        cases q with
        | zero => simp at hu hz; subst hu; subst hz; exact cOpd_ok hT h1
        | succ q => exact h4.2 q u z (by simpa using hu) (by simpa using hz)
      · cases h
    · cases h

theorem foldl_set (off : Nat) : ∀ (l : List Value) (k : Nat) (arr : Array Value), off + k + l.length ≤ arr.size →
    (((l.zipIdx k).foldl (fun cs (x : Value × Nat) => cs.setIfInBounds (off + x.2) x.1) arr).toList) = arr.toList.take (off + k) ++ l ++ arr.toList.drop (off + k + l.length) := by
  intro l
  induction l with
  | nil => intro k arr _; simp
  | cons v l ih =>
    intro k arr hle
    simp only [List.length_cons] at hle
    rw [List.zipIdx_cons, List.foldl_cons, ih (k + 1) _ (by simp; omega)]
    simp only [Array.toList_setIfInBounds]
    have e := list_seg_step arr.toList (off + k) v l (by simp; omega)
    simp only [List.length_cons]
    rw [← e]
    congr 3

theorem fillE (st : Nat) : ∀ (xs : List Value) (k : Nat) (cur : Array Value), (∀ x ∈ xs, x.cells.size = st) → (k + xs.length) * st ≤ cur.size →
    ∃ cur' : Array Value, Instr.fill (fun i => some (i * st, st)) cur (numbered k xs) = some cur' ∧ cur'.size = cur.size ∧ (∀ p, p < k * st → cur'[p]? = cur[p]?) ∧
      ∀ (i : Nat) x, xs[i]? = some x → ∀ (j : Nat) u, x.cells.toList[j]? = some u → cur'[(k + i) * st + j]? = some u
  | [], k, cur, _, _ => ⟨cur, by simp [numbered, Instr.fill], rfl, fun _ _ => rfl, fun i x hx => by simp at hx⟩
  | x :: xs, k, cur, hl, hsz => by
    have hx : x.cells.size = st := hl x (by simp)
    have e1 : (k + (x :: xs).length) * st = (k + 1 + xs.length) * st := by simp only [List.length_cons]; congr 1; omega
    have e2 : (k + 1) * st ≤ cur.size := Nat.le_trans (Nat.mul_le_mul_right st (by simp only [List.length_cons]; omega)) hsz
    rw [Nat.succ_mul] at e2
    let cur1 : Array Value := x.cells.zipIdx.foldl (fun cs (y : Value × Nat) => cs.setIfInBounds (k * st + y.2) y.1) cur
    have hc1 : cur1.toList = cur.toList.take (k * st) ++ x.cells.toList ++ cur.toList.drop (k * st + x.cells.toList.length) := by
      have := foldl_set (k * st) x.cells.toList 0 cur (by simp; omega)
      simp only [Nat.add_zero] at this
      rw [← this]
      simp only [cur1]
      rw [← Array.foldl_toList, Array.toList_zipIdx]
    have hs1 : cur1.size = cur.size := by
      rw [← Array.length_toList, hc1]
      simp; omega
    obtain ⟨cur', h1, h2, h3, h4⟩ := fillE st xs (k + 1) cur1 (fun y hy => hl y (by simp [hy])) (by rw [hs1, ← e1]; exact hsz)
    have hA : ∀ p, p < k * st → cur1[p]? = cur[p]? := by
      intro p hp
      rw [← Array.getElem?_toList, hc1, List.append_assoc, List.getElem?_append_left (by simp; omega), List.getElem?_take_of_lt hp, Array.getElem?_toList]
    have hB : ∀ p, p < st → cur1[k * st + p]? = x.cells.toList[p]? := by
      intro p hp
      rw [← Array.getElem?_toList, hc1, List.append_assoc, List.getElem?_append_right (by simp; omega)]
      have : (cur.toList.take (k * st)).length = k * st := by simp; omega
      rw [this, List.getElem?_append_left (by simp; omega)]
      congr 1; omega
    refine ⟨cur', ?_, h2.trans hs1, fun p hp => ?_, fun i y hy j u hu => ?_⟩
    · simp only [numbered, Instr.fill, hx]
      rw [if_neg (by simp; omega)]
      exact h1
    · rw [h3 p (by rw [Nat.succ_mul]; omega)]; exact hA p hp
    · cases i with
      | zero =>
        simp at hy; subst hy
        have hj : j < st := by have := (List.getElem?_eq_some_iff.1 hu).1; simp at this; omega
        rw [Nat.add_zero, h3 (k * st + j) (by rw [Nat.succ_mul]; omega), hB j hj]
        exact hu
      | succ i =>
        have := h4 i y (by simpa using hy) j u hu
        rw [show k + (i + 1) = k + 1 + i from by omega]
        exact this

theorem ok_bsl {imm : Imm} {H : HMap} (ty e : TypeId) (n len : Nat) (ps : Array (Nat × Operand)) (qs : List Opd) (z : List C) (he : elemT P ty = some e) (hn : sizeT P e = some n) (hz : zeroCs P e = some z) (hq : cElems 0 ps.toList = some qs) (hlen : qs.length = len) (hpos : 0 < n) (hbig : len * n ≤ 16777216)
    (hH : HOk w imm H L U) (hT : ∀ i, TRep w imm H L U (a.tmps.getD i undef) (t i)) (hv : ¬ U ver) (ho : o.op = .buildSlice ty len ps) (d : Nat) {es : List (List V)} {ws : List (Nat × Blk)} {ns : List Nat} (hs : sealPs H n (qs.map (ev t)) = some (es, ws, ns)) :
    OpR P a o w imm H L U (updH H (ws ++ [(d, .arr ver true n e es)])) (with_ U ver) (.pt (.one (.own d ver es.length))) := by
  obtain ⟨h1, h2⟩ := cElems_ok hT hq
  obtain ⟨imm1, S, l1, a1, V1⟩ := sealPs_ok hH (fun _ _ wr _ _ _ h => ⟨wr, h⟩) hs h2
  obtain ⟨i, zv, hi, hzv, hcs⟩ := zeroCs_ok hz
  obtain ⟨i', hi', hin⟩ := sizeT_ok hn
  rw [hi] at hi'; cases hi'
  have hel : es.length = len := by rw [l1]; simp [hlen]
  have hxl : (ps.toList.map fun p => a.eval p.2).length = len := by have := h2.1; simp [hlen] at this; simpa using this
  have hxs : ∀ x ∈ ps.toList.map (fun p => a.eval p.2), x.cells.size = n := by
    intro x hx
    obtain ⟨k, hk, rfl⟩ := List.getElem_of_mem hx
    have hk' : k < es.length := by omega
    have h3 := V1 k _ es[k] (List.getElem?_eq_getElem hk) (List.getElem?_eq_getElem hk')
    have h4 := a1 es[k] (List.getElem_mem hk')
    have := h3.1
    rw [Array.length_toList] at this
    omega
  have hcur0 : ∀ zz : Array Value, ((Array.range (len * n)).map (fun k => zz[k % zz.size]!)).size = len * n := by intro zz; simp
  have hrunz : ∀ zz : Array Value, ∃ cur' : Array Value, Instr.fill (fun i => some (i * n, n)) ((Array.range (len * n)).map (fun k => zz[k % zz.size]!)) (numbered 0 (ps.toList.map fun p => a.eval p.2)) = some cur' ∧ cur'.size = len * n ∧
      ∀ (i : Nat) x, (ps.toList.map fun p => a.eval p.2)[i]? = some x → ∀ (j : Nat) u, x.cells.toList[j]? = some u → cur'[i * n + j]? = some u := by
    intro zz
    obtain ⟨cur', f1, f2, _, f4⟩ := fillE n _ 0 ((Array.range (len * n)).map (fun k => zz[k % zz.size]!)) hxs (by rw [hcur0, Nat.zero_add, hxl]; exact Nat.le_refl _)
    exact ⟨cur', f1, f2.trans (hcur0 zz), fun i x hx j u hu => by have := f4 i x hx j u hu; rwa [Nat.zero_add] at this⟩
  have hfill : (ps.map fun (i, x) => (i, a.eval x)).toList = numbered 0 (ps.toList.map fun p => a.eval p.2) := by rw [Array.toList_map]; exact h1
  have hnb : ¬ (16777216 < len * n) := by omega
  obtain ⟨cur', hrun, hsz, hcells⟩ : ∃ cur' : Array Value, (Instr.buildSlice ty len (ps.map fun (i, x) => (i, a.eval x))).run P w = .ok (.slice (some ⟨w.heap.size, 0, none⟩) len len) (w.alloc (.cells cur' e)) ∧ cur'.size = len * n ∧
      ∀ (i : Nat) x, (ps.toList.map fun p => a.eval p.2)[i]? = some x → ∀ (j : Nat) u, x.cells.toList[j]? = some u → cur'[i * n + j]? = some u := by
    by_cases h0 : len * n = 0
    · obtain ⟨cur', f1, f2, f3⟩ := hrunz #[]
      refine ⟨cur', ?_, f2, f3⟩
      simp only [Instr.buildSlice, Sem.run_bind, run_underlying (elemT_ok he), Result.andThen_ok, sizeOf, typeInfo, run_program, hi, Sem.run_pure, hin]
      rw [if_neg (by simpa using hnb), if_pos h0]
      simp only [Sem.run_bind, Sem.run_pure, Result.andThen_ok, hfill, f1]
      simp [newRow]
    · obtain ⟨cur', f1, f2, f3⟩ := hrunz zv.cells
      refine ⟨cur', ?_, f2, f3⟩
      simp only [Instr.buildSlice, Sem.run_bind, run_underlying (elemT_ok he), Result.andThen_ok, sizeOf, typeInfo, run_program, hi, Sem.run_pure, hin]
      rw [if_neg (by simpa using hnb), if_neg h0]
      simp only [Sem.run_bind, Sem.run_pure, Result.andThen_ok, zeroValue, typeInfo, run_program, hi, hzv, hfill, f1]
      simp [newRow]
  have hnew := goes_arr (w' := w.alloc (.cells cur' e)) S.hok d ver hv true e cur' n es len len rfl rfl rfl rfl hpos a1 (by rw [hel, hsz]; exact Nat.le_refl _)
    (fun i el hi2 j y hy => by
      have hi3 : i < es.length := (List.getElem?_eq_some_iff.1 hi2).1
      have hk : i < (ps.toList.map fun p => a.eval p.2).length := by omega
      have h3 := V1 i _ el (List.getElem?_eq_getElem hk) hi2
      have hj : j < ((ps.toList.map fun p => a.eval p.2)[i]).cells.toList.length := by rw [h3.1]; exact (List.getElem?_eq_some_iff.1 hy).1
      exact ⟨_, hcells i _ (List.getElem?_eq_getElem hk) j _ (List.getElem?_eq_getElem hj), h3.2 j _ y (List.getElem?_eq_getElem hj) hy⟩)
    (by omega) (Nat.le_refl _) (by simp [maxLen]; have : len ≤ len * n := Nat.le_mul_of_pos_right _ hpos; omega) hsz
  obtain ⟨s1, s2⟩ := Step.trans S.step S.near hnew.step hnew.near
  refine ⟨.slice (some ⟨w.heap.size, 0, none⟩) len len, w.alloc (.cells cur' e), imm1, upd L d (some w.heap.size), .inl ?_, ?_, ?_, ?_, s1, ?_⟩
  · simp only [execOp, ho, Sem.run_bind, hrun, Result.andThen_ok, Sem.run_pure]
  · rw [updH_append, hel]; exact hnew.val
  · rw [updH_append]; exact hnew.hok
  · rw [updH_append]; exact S.ext.trans hnew.ext
  · rw [updH_append]; exact s2
end
end Go.V
namespace Go.V
section
variable {P : Program} {a : Act} {o : Oper} {w : World} {L : Locs} {U : Nat → Prop} {t : Nat → T} {ver : Nat} {imm : Imm} {H : HMap}

theorem srcOf_ok (hH : HOk w imm H L U) {x : Value} {v : T} (h : TRep w imm H L U x v) {ys : List (List V)} {ns : List Nat} (hs : srcOf H v = some (ys, ns)) :
    ∃ ao c, x = .slice ao ys.length c ∧ (ys = [] ∨ ∃ b o' st, ao = some ⟨b, o', none⟩ ∧ (∀ e ∈ ys, e.length = st) ∧ ∀ i j y, at2 ys i j = some y → ∃ u, w.cell? ⟨b, o' + i * st + j, none⟩ = some u ∧ VRep w imm u y) := by
  unfold srcOf at hs
  split at hs
  · simp at hs; obtain ⟨rfl, rfl⟩ := hs
    obtain ⟨ad, rfl⟩ := (show ∃ ad, x = .slice ad 0 0 from h)
    exact ⟨ad, 0, rfl, .inl rfl⟩
  · simp at hs; obtain ⟨rfl, rfl⟩ := hs
    have h : VRep w imm x (.sl _) := h
    cases h with
    | nil ad cap => exact ⟨ad, cap, rfl, .inl rfl⟩
    | sl es st b o' cap vals hst hne hcap hl hc hr =>
      exact ⟨_, cap, rfl, .inr ⟨b, o', st, rfl, hl, fun i j y hy => ⟨_, (hc i j y hy).1, hr i j y hy⟩⟩⟩
  · rename_i id ver' n
    split at hs
    · rename_i v' wr st ty es hB
      split at hs
      · rename_i hv
        subst hv
        simp at hs; obtain ⟨rfl, rfl⟩ := hs
        obtain ⟨_, ⟨ad, k, hx, _⟩, h3⟩ := (show CRep w imm H L U x (.own id v' n) from h)
        obtain ⟨hn, hov⟩ := h3 _ _ _ _ hB
        have hlen : (es.take n).length = n := by simp; omega
        rw [hlen]
        refine ⟨ad, k, hx, ?_⟩
        rcases hov with ⟨a', e1, rfl⟩ | ⟨b, cap, cur, hb, e1, hh, _, _, _⟩
        · exact .inl (by simp)
        · rw [hx] at e1; cases e1
          obtain ⟨_, hst, hls, hq⟩ := hH.blk id _ hB
          rcases hq with ⟨hq, _⟩ | ⟨g, cur', hg, hh', hsz, hrep, _⟩
          · rw [hb] at hq; cases hq
          rw [hb] at hg; cases hg
          rw [hh] at hh'; cases hh'
          refine .inr ⟨b, 0, st, rfl, fun e he => hls e (List.mem_of_mem_take he), fun i j y hy => ?_⟩
          simp only [at2, List.getElem?_take] at hy
          split at hy
          · cases he : es[i]? with
            | none => simp [he] at hy
            | some e =>
              simp [he] at hy
              obtain ⟨u, h5, h6⟩ := hrep i e he j y hy
              exact ⟨u, by simp [World.cell?, hh, h5], h6⟩
          · simp at hy
      · cases hs
    · cases hs
  · rename_i id ver' l n
    split at hs
    · rename_i v' wr st ty es hB
      split at hs
      · rename_i hv
        obtain ⟨rfl, hln⟩ := hv
        simp at hs; obtain ⟨rfl, rfl⟩ := hs
        obtain ⟨_, ⟨ad, k, hx, _⟩, h3⟩ := (show CRep w imm H L U x (.ow id v' l n) from h)
        obtain ⟨_, hov⟩ := h3 _ _ _ _ hB
        have hlen : ((es.drop l).take n).length = n := by simp; omega
        rw [hlen]
        refine ⟨ad, k, hx, ?_⟩
        rcases hov with rfl | ⟨b, cap, hb, e1⟩
        · exact .inl (by simp)
        · rw [hx] at e1; cases e1
          obtain ⟨_, hst, hls, hq⟩ := hH.blk id _ hB
          rcases hq with ⟨hq, _⟩ | ⟨g, cur', hg, hh', hsz, hrep, _⟩
          · rw [hb] at hq; cases hq
          rw [hb] at hg; cases hg
          refine .inr ⟨b, l * st, st, rfl, fun e he => hls e (List.mem_of_mem_drop (List.mem_of_mem_take he)), fun i j y hy => ?_⟩
          simp only [at2, List.getElem?_take, List.getElem?_drop] at hy
          split at hy
          · cases he : es[l + i]? with
            | none => simp [he] at hy
            | some e =>
              simp [he] at hy
              obtain ⟨u, h5, h6⟩ := hrep (l + i) e he j y hy
              refine ⟨u, ?_, h6⟩
              have e1 : l * st + i * st + j = (l + i) * st + j := by rw [Nat.add_mul]
              rw [e1]
              simp [World.cell?, hh', h5]
          · simp at hy
      · cases hs
    · cases hs
  · rename_i ad n k
    split at hs
    · rename_i hn
      subst hn
      simp at hs; obtain ⟨rfl, rfl⟩ := hs
      exact ⟨ad, k, rep_s h, .inl rfl⟩
    · cases hs
  · cases hs

/-- The cells of the source, in one row. -/
theorem src_row {ys : List (List V)} {b o' st : Nat} (hl : ∀ e ∈ ys, e.length = st) (hst : 0 < st) (h : ∀ i j y, at2 ys i j = some y → ∃ u, w.cell? ⟨b, o' + i * st + j, none⟩ = some u ∧ VRep w imm u y) :
    ∃ news : List Value, news.length = ys.length * st ∧ (∀ j u, news[j]? = some u → w.cell? ((⟨b, o', none⟩ : Addr).add j) = some u) ∧ (∀ u ∈ news, u.oneCell' = true) ∧
      ∀ i j y, at2 ys i j = some y → ∃ u, news[i * st + j]? = some u ∧ VRep w imm u y := by
  let f : Nat → Value := fun k => (w.cell? ⟨b, o' + k, none⟩).getD undef
  have key : ∀ k, k < ys.length * st → ∃ y u, at2 ys (k / st) (k % st) = some y ∧ w.cell? ⟨b, o' + k, none⟩ = some u ∧ VRep w imm u y := by
    intro k hk
    have hi : k / st < ys.length := (Nat.div_lt_iff_lt_mul hst).2 hk
    have hj : k % st < (ys[k / st]).length := by rw [hl _ (List.getElem_mem hi)]; exact Nat.mod_lt _ hst
    have hy : at2 ys (k / st) (k % st) = some (ys[k / st][k % st]) := by simp [at2, hi, hj]
    obtain ⟨u, h1, h2⟩ := h _ _ _ hy
    have e : o' + k / st * st + k % st = o' + k := by have := Nat.div_add_mod k st; rw [Nat.mul_comm] at this; omega
    rw [e] at h1
    exact ⟨_, u, hy, h1, h2⟩
  refine ⟨(List.range (ys.length * st)).map f, by simp, fun j u hu => ?_, fun u hu => ?_, fun i j y hy => ?_⟩
  · rw [List.getElem?_map, Option.map_eq_some_iff] at hu
    obtain ⟨k, hk, rfl⟩ := hu
    have hk1 := List.getElem?_eq_some_iff.1 hk
    obtain ⟨hk2, hk3⟩ := hk1
    simp at hk2 hk3
    subst hk3
    obtain ⟨y, u, _, h1, _⟩ := key j hk2
    rw [add_eq]; simp [f, h1]
  · rw [List.mem_map] at hu
    obtain ⟨k, hk, rfl⟩ := hu
    obtain ⟨y, u, _, h1, h2⟩ := key k (by simpa using hk)
    simp [f, h1]
    exact oneCell_s h2
  · have hi : i < ys.length := by
      cases hi : ys[i]? with
      | none => simp [at2, hi] at hy
      | some e => exact (List.getElem?_eq_some_iff.1 hi).1
    have hj : j < st := by
      simp [at2, hi] at hy
      have := (List.getElem?_eq_some_iff.1 hy).1
      rwa [hl _ (List.getElem_mem hi)] at this
    have hk : i * st + j < ys.length * st := by have := Nat.mul_le_mul_right st hi; rw [Nat.succ_mul] at this; omega
    obtain ⟨u, h1, h2⟩ := h i j y hy
    refine ⟨u, ?_, h2⟩
    rw [Nat.add_assoc] at h1
    simp [hk, f, h1]

/-- What stands behind an append: the first elements, and the new ones. -/
theorem app_rep {es ys : List (List V)} {st n : Nat} {cur : Array Value} {news : List Value} (hn : n ≤ es.length) (hrep : ∀ i e, es[i]? = some e → VsRep w imm cur (i * st) e) (hl : ∀ e ∈ es, e.length = st)
    (hyl : ∀ e ∈ ys, e.length = st) (hnl : news.length = ys.length * st) (hnews : ∀ i j y, at2 ys i j = some y → ∃ u, news[i * st + j]? = some u ∧ VRep w imm u y) {A B : List Value} (hA : A.length = n * st) (hAc : ∀ p, p < n * st → A[p]? = cur[p]?) :
    ∀ i e, (es.take n ++ ys)[i]? = some e → VsRep w imm (A ++ news ++ B).toArray (i * st) e := by
  intro i e he j y hy
  have htl : (es.take n).length = n := by simp; omega
  rcases Nat.lt_or_ge i n with hi | hi
  · rw [List.getElem?_append_left (by omega), List.getElem?_take_of_lt hi] at he
    obtain ⟨u, h1, h2⟩ := hrep i e he j y hy
    have hj : j < st := by have := (List.getElem?_eq_some_iff.1 hy).1; rwa [hl e (List.mem_of_getElem? he)] at this
    have hlt : i * st + j < n * st := by have := Nat.mul_le_mul_right st hi; rw [Nat.succ_mul] at this; omega
    refine ⟨u, ?_, h2⟩
    simp only [List.getElem?_toArray]
    rw [List.append_assoc, List.getElem?_append_left (by omega), hAc _ hlt]
    exact h1
  · rw [List.getElem?_append_right (by omega), htl] at he
    have hj : j < st := by have := (List.getElem?_eq_some_iff.1 hy).1; rwa [hyl e (List.mem_of_getElem? he)] at this
    have hi2 : i - n < ys.length := (List.getElem?_eq_some_iff.1 he).1
    obtain ⟨u, h1, h2⟩ := hnews (i - n) j y (by simp [at2, he, hy])
    refine ⟨u, ?_, h2⟩
    have hlt : (i - n) * st + j < news.length := (List.getElem?_eq_some_iff.1 h1).1
    have e1 : i * st = n * st + (i - n) * st := by rw [← Nat.add_mul]; congr 1; omega
    simp only [List.getElem?_toArray]
    rw [List.append_assoc, List.getElem?_append_right (by omega), List.getElem?_append_left (by omega), hA, e1, show n * st + (i - n) * st + j - n * st = (i - n) * st + j from by omega]
    exact h1

theorem run_append_zero (ty e rt : TypeId) (i : TypeInfo) (hu : P.underlying ty = some (.slice e)) (hi : P.info? e = some i) (base : Option Addr) (n cap : Nat) (hn : n ≤ cap) (ao : Option Addr) (c : Nat) :
    (Builtin.append_ #[ty, ty] rt #[.slice base n cap, .slice ao 0 c]).run P w = .ok (.slice base n cap) w := by
  cases base <;> cases ao <;> simp [Builtin.append_, run_underlying hu, sizeOf, typeInfo, hi, Builtin.lenOf, Builtin.firstCells, loadCells, loadCellsFrom, storeCells, hn]

theorem exec_append (c : Call) (x y : Operand) (ty : TypeId) (hc : c.callee = .builtin .append) (hargs : c.args.toList = [x, y]) (hts : c.argTypes.toList = [ty, ty]) (ho : o.op = .call c) {v : Value} {w' : World}
    (h : (Builtin.append_ #[ty, ty] o.type #[a.eval x, a.eval y]).run P w = .ok v w') : (execOp a.eval o).run P w = .ok (.value v) w' := by
  have ea : c.args = #[x, y] := by rw [← Array.toArray_toList (xs := c.args), hargs]
  have et : c.argTypes = #[ty, ty] := by rw [← Array.toArray_toList (xs := c.argTypes), hts]
  simp [execOp, ho, resolve, hc, ea, et, invoke, builtin, h]

theorem grow_goes (hH : HOk w imm H L U) (d : Nat) (hv : ¬ U ver) (wr : Bool) (e : TypeId) (z : Value) (st n need old : Nat) (es ys : List (List V)) (cur : Array Value) (news : List Value) (hzs : z.cells.size = st) (hst : 0 < st) (hn : n ≤ es.length) (hneed : need = n + ys.length)
    (hrep : ∀ i e, es[i]? = some e → VsRep w imm cur (i * st) e) (hl : ∀ e ∈ es, e.length = st) (hyl : ∀ e ∈ ys, e.length = st) (hnl : news.length = ys.length * st) (hnews : ∀ i j y, at2 ys i j = some y → ∃ u, news[i * st + j]? = some u ∧ VRep w imm u y)
    (olds : List Value) (hol : olds.length = n * st) (hoc : ∀ p, p < n * st → olds[p]? = cur[p]?) (h63 : need ≤ 9223372036854775807) :
    Goes w imm H L U (upd H d (some (.arr ver wr st e (es.take n ++ ys)))) (with_ U ver) (.pt (.one (.own d ver need))) (.slice (some ⟨w.heap.size, 0, none⟩) need (grownCap w need old e))
      (w.drew.alloc (.cells (olds.toArray ++ news.toArray ++ Builtin.zeroCells z.cells (grownCap w need old e - need)) e)) imm (upd L d (some w.heap.size)) := by
  have hge := grownCap_ge w need old e
  have hlen : (es.take n ++ ys).length = need := by simp; omega
  have hsz : (olds.toArray ++ news.toArray ++ Builtin.zeroCells z.cells (grownCap w need old e - need)).size = grownCap w need old e * st := by
    simp only [Array.size_append, List.size_toArray, size_zeroCells, hzs, hol, hnl, ← Nat.add_mul]
    congr 1; omega
  refine goes_arr hH d ver hv wr e _ st (es.take n ++ ys) need (grownCap w need old e) rfl rfl rfl rfl hst ?_ ?_ ?_ (by omega) hge (grownCap_le_maxLen w need old e (by simp [maxLen]; omega)) hsz
  · intro x hx
    rcases List.mem_append.1 hx with h | h
    · exact hl x (List.mem_of_mem_take h)
    · exact hyl x h
  · rw [hsz, hlen]; exact Nat.mul_le_mul_right _ hge
  · have := app_rep (w := w) (imm := imm) hn hrep hl hyl hnl hnews (A := olds) (B := (Builtin.zeroCells z.cells (grownCap w need old e - need)).toList) hol hoc
    have e2 : (olds ++ news ++ (Builtin.zeroCells z.cells (grownCap w need old e - need)).toList).toArray = olds.toArray ++ news.toArray ++ Builtin.zeroCells z.cells (grownCap w need old e - need) := by
      simp
    rw [e2] at this
    exact this

theorem ok_app_nil (c : Call) (x y : Operand) (ty e : TypeId) (i : TypeInfo) (z : List C) (x' y' : Opd) (hc : c.callee = .builtin .append) (hargs : c.args.toList = [x, y]) (hts : c.argTypes.toList = [ty, ty]) (he : elemT P ty = some e) (hi : P.info? e = some i) (hz : zeroCs P e = some z) (hzl : z.length = i.size)
    (hst : 0 < i.size) (hx : cOpd x = some x') (hy : cOpd y = some y') (hH : HOk w imm H L U) (hT : ∀ i, TRep w imm H L U (a.tmps.getD i undef) (t i)) (hv : ¬ U ver) (ho : o.op = .call c) (d : Nat) {ys : List (List V)} {ns : List Nat} (hs : srcOf H (ev t y') = some (ys, ns)) (hyl : ∀ e ∈ ys, e.length = i.size)
    (hp : ev t x' = .pt (.one .nil0)) (hb : ys.length * i.bytes ≤ 140737488355328) (h63 : ys.length ≤ 9223372036854775807) :
    OpR P a o w imm H L U (upd H d (some (.arr ver true i.size e ys))) (with_ U ver) (.pt (.one (.own d ver ys.length))) := by
  have h1 := cOpd_ok hT hx
  rw [hp] at h1
  obtain ⟨ad, hxe⟩ := (show ∃ ad, a.eval x = .slice ad 0 0 from h1)
  obtain ⟨ao, cy, hye, hsrc⟩ := srcOf_ok hH (cOpd_ok hT hy) hs
  have hu := elemT_ok he
  by_cases h0 : ys = []
  · subst h0
    refine ⟨_, _, _, _, .inl (exec_append c x y ty hc hargs hts ho ?_), goes_arr_nil hH d ver hv true i.size e hst ad⟩
    rw [hxe, hye]; exact run_append_zero ty e o.type i hu hi ad 0 0 (Nat.le_refl _) ao cy
  · rcases hsrc with hsrc | ⟨b, o', st, hao, hl, hcell⟩
    · exact absurd hsrc h0
    have hss : st = i.size := by
      cases ys with
      | nil => exact absurd rfl h0
      | cons e1 ys => rw [← hl e1 (by simp), hyl e1 (by simp)]
    subst hss
    have hm : 0 < ys.length := List.length_pos_iff.2 h0
    obtain ⟨news, n1, n2, n3, n4⟩ := src_row hl hst hcell
    obtain ⟨i', zv, hi', hzv, hzc⟩ := zeroCs_ok hz
    rw [hi] at hi'; cases hi'
    have hzs : zv.cells.size = i.size := by have := constCs_len hzc; simp at this; omega
    have hg := grow_goes (w := w) (imm := imm) (ver := ver) hH d hv true e zv i.size 0 ys.length 0 [] ys #[] news hzs hst (Nat.zero_le _) (by omega) (by intro i e h; simp at h) (by intro e h; simp at h) hyl n1 n4 [] (by simp) (by intro p hp; simp at hp) h63
    simp only [List.take_nil, List.nil_append] at hg
    refine ⟨_, _, _, _, .inl (exec_append c x y ty hc hargs hts ho ?_), hg⟩
    rw [hxe, hye, hao]
    cases ad with
    | none =>
      have := run_append_nil (P := P) w ty o.type e i zv hu hi hzv ⟨b, o', none⟩ ys.length cy news n1 n2 (by omega) (by omega) (by omega)
      rw [this]; simp
    | some b0 =>
      have := run_append_grow (P := P) w ty o.type e i zv hu hi hzv b0 0 0 [] (by simp) (by intro j v h; simp at h) ⟨b, o', none⟩ ys.length cy news n1 n2 (by omega) (by omega) (growslice_fits (by omega) (by simpa using hb))
      simp only [Nat.zero_add] at this
      rw [this]

theorem ok_app_own (c : Call) (x y : Operand) (ty e : TypeId) (i : TypeInfo) (z : List C) (x' y' : Opd) (hc : c.callee = .builtin .append) (hargs : c.args.toList = [x, y]) (hts : c.argTypes.toList = [ty, ty]) (he : elemT P ty = some e) (hi : P.info? e = some i) (hz : zeroCs P e = some z) (hzl : z.length = i.size)
    (hst : 0 < i.size) (hx : cOpd x = some x') (hy : cOpd y = some y') (hH : HOk w imm H L U) (hT : ∀ i, TRep w imm H L U (a.tmps.getD i undef) (t i)) (hv : ¬ U ver) (ho : o.op = .call c) {ys : List (List V)} {ns : List Nat} (hs : srcOf H (ev t y') = some (ys, ns)) (hyl : ∀ e ∈ ys, e.length = i.size)
    {id v0 n : Nat} (hp : ev t x' = .pt (.one (.own id v0 n))) {wr : Bool} {es : List (List V)} (hB : H id = some (.arr v0 wr i.size e es)) (hn : n ≤ es.length) (hnw : n = es.length ∨ wr = true) (hb : (n + ys.length) * i.bytes ≤ 140737488355328) (h63 : n + ys.length ≤ 9223372036854775807) :
    OpR P a o w imm H L U (upd H id (some (.arr ver wr i.size e (es.take n ++ ys)))) (with_ U ver) (.pt (.one (.own id ver (n + ys.length)))) := by
  have h1 := cOpd_ok hT hx
  rw [hp] at h1
  obtain ⟨_, ⟨ad, k, hxe, hnk⟩, h3⟩ := (show CRep w imm H L U (a.eval x) (.own id v0 n) from h1)
  obtain ⟨_, hov⟩ := h3 _ _ _ _ hB
  obtain ⟨ao, cy, hye, hsrc⟩ := srcOf_ok hH (cOpd_ok hT hy) hs
  have hu := elemT_ok he
  by_cases h0 : ys = []
  · subst h0
    simp only [List.append_nil, List.length_nil, Nat.add_zero]
    refine ⟨_, _, _, _, .inl (exec_append c x y ty hc hargs hts ho ?_), goes_arr_same hH id v0 ver hv wr i.size e es _ hB n rfl hn hnw (a.eval x) hov⟩
    rw [hye, hxe]; exact run_append_zero ty e o.type i hu hi ad n k hnk ao cy
  · rcases hsrc with hsrc | ⟨b, o', st, hao, hl, hcell⟩
    · exact absurd hsrc h0
    have hss : st = i.size := by
      cases ys with
      | nil => exact absurd rfl h0
      | cons e1 ys => rw [← hl e1 (by simp), hyl e1 (by simp)]
    subst hss
    have hm : 0 < ys.length := List.length_pos_iff.2 h0
    obtain ⟨news, n1, n2, n3, n4⟩ := src_row hl hst hcell
    obtain ⟨i', zv, hi', hzv, hzc⟩ := zeroCs_ok hz
    rw [hi] at hi'; cases hi'
    have hzs : zv.cells.size = i.size := by have := constCs_len hzc; simp at this; omega
    obtain ⟨_, _, hls, hq⟩ := hH.blk id _ hB
    rcases hov with ⟨a', e1, e2⟩ | ⟨g, cap, cur, hg, e1, hh, hnc, hcm, hcs⟩
    · subst e2
      have hgo := grow_goes (w := w) (imm := imm) (ver := ver) hH id hv wr e zv i.size 0 ys.length 0 [] ys #[] news hzs hst (Nat.zero_le _) (by omega) (by intro i e h; simp at h) (by intro e h; simp at h) hyl n1 n4 [] (by simp) (by intro p hp; simp at hp) (by omega)
      simp only [List.take_nil, List.nil_append] at hgo
      simp only [List.take_zero, List.nil_append, Nat.zero_add]
      refine ⟨_, _, _, _, .inl (exec_append c x y ty hc hargs hts ho ?_), hgo⟩
      rw [e1, hye, hao]
      simp only [Nat.zero_add] at hb h63
      cases a' with
      | none =>
        have := run_append_nil (P := P) w ty o.type e i zv hu hi hzv ⟨b, o', none⟩ ys.length cy news n1 n2 (by omega) (by omega) (by omega)
        rw [this]; simp
      | some b0 =>
        have := run_append_grow (P := P) w ty o.type e i zv hu hi hzv b0 0 0 [] (by simp) (by intro j v h; simp at h) ⟨b, o', none⟩ ys.length cy news n1 n2 (by omega) (by omega) (growslice_fits (by omega) (by simpa using hb))
        simp only [Nat.zero_add] at this
        rw [this]
    · rcases hq with ⟨hq, _⟩ | ⟨g', cur', hg', hh', hsz, hrep, himm⟩
      · rw [hg] at hq; cases hq
      rw [hg] at hg'; cases hg'
      rw [hh] at hh'; cases hh'
      have hnsz : n * i.size ≤ cur.size := Nat.le_trans (Nat.mul_le_mul_right _ hn) hsz
      by_cases hroom : n + ys.length ≤ cap
      · have hfit : n * i.size + news.length ≤ cur.size := by rw [n1, hcs, ← Nat.add_mul]; exact Nat.mul_le_mul_right _ hroom
        have hr := run_append_room (P := P) w ty o.type e i hu hi g n cap cur hh ⟨b, o', none⟩ ys.length cy news n1 n2 n3 hroom hfit
        have hA : (cur.toList.take (n * i.size)).length = n * i.size := by simp; omega
        have hAc : ∀ p, p < n * i.size → (cur.toList.take (n * i.size))[p]? = cur[p]? := fun p hp => by rw [List.getElem?_take_of_lt hp, Array.getElem?_toList]
        have hlen : (es.take n ++ ys).length = n + ys.length := by simp; omega
        refine ⟨_, _, _, _, .inl (exec_append c x y ty hc hargs hts ho ?_), goes_arr_at (w' := w.setRow g (cur.toList.take (n * i.size) ++ news ++ cur.toList.drop (n * i.size + news.length)).toArray) hH id v0 ver hv wr i.size e es (es.take n ++ ys) hB rfl rfl rfl g hg cur _ hh (setRow_heap w g cur _ e (0, 0) hh) (by simp)
          (fun b hb => setRow_other w g b _ hb) ?_ ?_ ?_ ?_ ?_ (app_rep hn hrep hls hyl n1 n4 hA hAc) (n + ys.length) cap (by omega) hroom hcm hcs⟩
        · rw [e1, hye, hao]; exact hr
        · simp only [List.size_toArray, List.length_append, List.length_take, List.length_drop, Array.length_toList]; omega
        · intro p hp
          obtain ⟨hwr, hpl⟩ := himm p hp
          have hne : n = es.length := by rcases hnw with h | h; exact h; rw [hwr] at h; cases h
          simp only [List.getElem?_toArray]
          rw [List.append_assoc, List.getElem?_append_left (by rw [hA, hne]; exact hpl), hAc p (by rw [hne]; exact hpl)]
        · intro p hp
          obtain ⟨hwr, hpl⟩ := himm p hp
          have hne : n = es.length := by rcases hnw with h | h; exact h; rw [hwr] at h; cases h
          rw [hlen, Nat.add_mul, hne]; omega
        · intro el hel
          rcases List.mem_append.1 hel with h | h
          · exact hls el (List.mem_of_mem_take h)
          · exact hyl el h
        · rw [hlen, hcs]; exact Nat.mul_le_mul_right _ hroom
      · have hA : (cur.toList.take (n * i.size)).length = n * i.size := by simp; omega
        have hAc : ∀ p, p < n * i.size → (cur.toList.take (n * i.size))[p]? = cur[p]? := fun p hp => by rw [List.getElem?_take_of_lt hp, Array.getElem?_toList]
        have hgo := grow_goes (w := w) (imm := imm) (ver := ver) hH id hv wr e zv i.size n (n + ys.length) cap es ys cur news hzs hst hn rfl hrep hls hyl n1 n4 (cur.toList.take (n * i.size)) hA hAc h63
        have holds : ∀ (j : Nat) v, (cur.toList.take (n * i.size))[j]? = some v → w.cell? ((⟨g, 0, none⟩ : Addr).add j) = some v := by
          intro j v hv
          have hj : j < n * i.size := by have := (List.getElem?_eq_some_iff.1 hv).1; omega
          rw [hAc j hj] at hv
          rw [add_eq, Nat.zero_add, cell_of_row w g j cur e _ hh]; exact hv
        refine ⟨_, _, _, _, .inl (exec_append c x y ty hc hargs hts ho ?_), hgo⟩
        rw [e1, hye, hao]
        exact run_append_grow (P := P) w ty o.type e i zv hu hi hzv ⟨g, 0, none⟩ n cap _ hA holds ⟨b, o', none⟩ ys.length cy news n1 n2 (by omega) (by omega) (growslice_fits (by omega) hb)

theorem exec_copy (c : Call) (x y : Operand) (ty ty2 : TypeId) (hc : c.callee = .builtin .copy) (hargs : c.args.toList = [x, y]) (hts : c.argTypes.toList = [ty, ty2]) (ho : o.op = .call c) {v : Value} {w' : World}
    (h : (Builtin.copy_ #[ty, ty2] o.type #[a.eval x, a.eval y]).run P w = .ok v w') : (execOp a.eval o).run P w = .ok (.value v) w' := by
  have ea : c.args = #[x, y] := by rw [← Array.toArray_toList (xs := c.args), hargs]
  have et : c.argTypes = #[ty, ty2] := by rw [← Array.toArray_toList (xs := c.argTypes), hts]
  simp [execOp, ho, resolve, hc, ea, et, invoke, builtin, h]
theorem dst_ok {x : Value} {v : T} (h : TRep w imm H L U x v) {id vv l n : Nat} (hd : dstOf v = some (id, vv, l, n)) {wr : Bool} {ty : TypeId} {es : List (List V)} (hB : H id = some (.arr vv wr 1 ty es)) :
    ∃ ad k, x = .slice ad n k ∧ (n = 0 ∨ ∃ g, L id = some g ∧ ad = some ⟨g, l, none⟩) := by
  unfold dstOf at hd
  split at hd
  · cases hd
    obtain ⟨_, ⟨ad, k, hx, _⟩, h3⟩ := (show CRep w imm H L U x (.own id vv n) from h)
    obtain ⟨_, hov⟩ := h3 _ _ _ _ hB
    refine ⟨ad, k, hx, ?_⟩
    rcases hov with ⟨a', e1, rfl⟩ | ⟨b, cap, cur, hb, e1, _⟩
    · exact .inl rfl
    · rw [hx] at e1; cases e1
      exact .inr ⟨b, hb, rfl⟩
  · cases hd
    obtain ⟨_, ⟨ad, k, hx, _⟩, h3⟩ := (show CRep w imm H L U x (.ow id vv l n) from h)
    obtain ⟨_, hov⟩ := h3 _ _ _ _ hB
    refine ⟨ad, k, hx, ?_⟩
    rcases hov with rfl | ⟨g, k', hg, e1⟩
    · exact .inl rfl
    · rw [hx] at e1; cases e1
      exact .inr ⟨g, hg, by rw [Nat.mul_one]⟩
  · cases hd
theorem ok_cpy (c : Call) (x y : Operand) (ty ty2 e : TypeId) (x' y' : Opd) (hc : c.callee = .builtin .copy) (hargs : c.args.toList = [x, y]) (hts : c.argTypes.toList = [ty, ty2]) (he : elemT P ty = some e) (hi : sizeT P e = some 1)
    (hx : cOpd x = some x') (hy : cOpd y = some y') (hH : HOk w imm H L U) (hT : ∀ i, TRep w imm H L U (a.tmps.getD i undef) (t i)) (ho : o.op = .call c) {ys : List (List V)} {ns : List Nat} (hs : srcOf H (ev t y') = some (ys, ns)) (hyl : ∀ e ∈ ys, e.length = 1)
    {id v l n : Nat} (hd : dstOf (ev t x') = some (id, v, l, n)) {tya : TypeId} {es : List (List V)} (hB : H id = some (.arr v true 1 tya es)) (hln : l + n ≤ es.length) :
    OpR P a o w imm H L U (upd H id (some (.arr v true 1 tya (es.take l ++ ys.take n ++ es.drop (l + min ys.length n))))) (with_ U ver) (.i (min ys.length n : Nat)) := by
  have hu := elemT_ok he
  obtain ⟨ad, k, hxe, hdst⟩ := dst_ok (cOpd_ok hT hx) hd hB
  obtain ⟨ao, cy, hye, hsrc⟩ := srcOf_ok hH (cOpd_ok hT hy) hs
  have hz : (P.info? e).map (·.size) = some 1 := hi
  by_cases h0 : min ys.length n = 0
  · have hes : es.take l ++ ys.take n ++ es.drop (l + min ys.length n) = es := by
      have : ys.take n = [] := List.length_eq_zero_iff.1 (by rw [List.length_take]; omega)
      rw [this, h0]; simp
    have hHs : upd H id (some (.arr v true 1 tya (es.take l ++ ys.take n ++ es.drop (l + min ys.length n)))) = H := by
      rw [hes]; funext m; by_cases e : m = id <;> simp [upd, e, hB]
    rw [hHs, h0]
    refine opR_pure hH (exec_copy c x y ty ty2 hc hargs hts ho ?_) (.s _ rfl)
    rw [hxe, hye]
    exact run_copy_none w ty ty2 o.type e ad ao n k ys.length cy hu hz h0
  · have hn0 : n ≠ 0 := by omega
    have hy0 : ys ≠ [] := fun e => by subst e; simp at h0
    rcases hdst with hdst | ⟨g, hg, rfl⟩
    · exact absurd hdst hn0
    rcases hsrc with hsrc | ⟨b, o', st, rfl, hl, hcell⟩
    · exact absurd hsrc hy0
    have hss : st = 1 := by
      cases ys with
      | nil => exact absurd rfl hy0
      | cons e1 ys => rw [← hl e1 (by simp), hyl e1 (by simp)]
    subst hss
    obtain ⟨news, n1, n2, n3, n4⟩ := src_row hl Nat.one_pos hcell
    obtain ⟨_, _, hls, hq⟩ := hH.blk id _ hB
    rcases hq with ⟨hq, _⟩ | ⟨g', cur, hg', hh, hsz, hrep, _⟩
    · rw [hg] at hq; cases hq
    rw [hg] at hg'; cases hg'
    have hcl : (news.take n).length = min ys.length n := by rw [List.length_take, n1]; omega
    have hyt : (ys.take n).length = min ys.length n := by rw [List.length_take]; omega
    have hrun := run_copy_row (P := P) w ty ty2 o.type e g l n k ⟨b, o', none⟩ ys.length cy cur tya (news.take n) hu hz hh hcl (fun j u hj => n2 j u (by
      rw [List.getElem?_take] at hj
      split at hj
      · exact hj
      · cases hj)) (by rw [hcl]; omega) (fun u hu => n3 u (List.mem_of_mem_take hu))
    have hg2 := goes_storeA (U' := with_ U ver) (fun _ h => .inl h) hH id v 1 tya es (es.take l ++ ys.take n ++ es.drop (l + min ys.length n)) hB g hg cur hh (cur.toList.take l ++ news.take n ++ cur.toList.drop (l + (news.take n).length)).toArray (by
      simp only [List.size_toArray, List.length_append, List.length_take, List.length_drop, Array.length_toList]; omega) (by
      simp only [List.length_append, List.length_take, List.length_drop]; omega) (fun e' he' => by
      rcases List.mem_append.1 he' with h | h
      · rcases List.mem_append.1 h with h | h
        · exact hls e' (List.mem_of_mem_take h)
        · exact hyl e' (List.mem_of_mem_take h)
      · exact hls e' (List.mem_of_mem_drop h)) (fun i e' he' q u hq => by
      have hq0 : q = 0 := by
        have hlen : e'.length = 1 := by
          have hm := List.mem_of_getElem? he'
          rcases List.mem_append.1 hm with h | h
          · rcases List.mem_append.1 h with h | h
            · exact hls e' (List.mem_of_mem_take h)
            · exact hyl e' (List.mem_of_mem_take h)
          · exact hls e' (List.mem_of_mem_drop h)
        have := (List.getElem?_eq_some_iff.1 hq).1
        omega
      subst hq0
      have hA : (cur.toList.take l).length = l := by simp; omega
      have hE : (es.take l).length = l := by simp; omega
      simp only [Nat.mul_one, Nat.add_zero, List.getElem?_toArray]
      rw [List.append_assoc] at he' ⊢
      rcases Nat.lt_or_ge i l with h1 | h1
      · rw [List.getElem?_append_left (by omega), List.getElem?_take_of_lt h1] at he'
        rw [List.getElem?_append_left (by omega), List.getElem?_take_of_lt h1, Array.getElem?_toList]
        simpa using hrep i e' he' 0 u hq
      · rw [List.getElem?_append_right (by omega), hE] at he'
        rw [List.getElem?_append_right (by omega), hA]
        rcases Nat.lt_or_ge (i - l) (min ys.length n) with h2 | h2
        · rw [List.getElem?_append_left (by omega), List.getElem?_take_of_lt (by omega)] at he'
          rw [List.getElem?_append_left (by omega), List.getElem?_take_of_lt (by omega)]
          simpa using n4 (i - l) 0 u (by simp [at2, he', hq])
        · rw [List.getElem?_append_right (by omega), hyt, List.getElem?_drop, show l + min ys.length n + (i - l - min ys.length n) = i from by omega] at he'
          rw [List.getElem?_append_right (by omega), hcl, List.getElem?_drop, show l + min ys.length n + (i - l - min ys.length n) = i from by omega, Array.getElem?_toList]
          simpa using hrep i e' he' 0 u hq)
    refine ⟨_, _, _, _, .inl (exec_copy c x y ty ty2 hc hargs hts ho ?_), ⟨.s _ rfl, hg2.hok, hg2.ext, hg2.step, hg2.near⟩⟩
    rw [hxe, hye, hrun, hcl]
    rfl

theorem bytesOf_ok {b o' st : Nat} : ∀ {ys : List (List V)} {ns : List Int} {k : Nat}, bytesOf ys = some ns → (∀ e ∈ ys, e.length = st) → (∀ i j y, at2 ys i j = some y → ∃ u, w.cell? ⟨b, o' + (k + i) * st + j, none⟩ = some u ∧ VRep w imm u y) →
    ys.length = ns.length ∧ (∀ j v, (ns.map (Value.int .u8))[j]? = some v → w.cell? ⟨b, o' + (k + j), none⟩ = some v) ∧ (ys ≠ [] → st = 1)
  | [], ns, k, h, _, _ => by simp [bytesOf] at h; subst h; exact ⟨rfl, fun j v hv => by simp at hv, fun h => absurd rfl h⟩
  | e :: es, ns, k, h, hl, hc => by
    unfold bytesOf at h
    split at h
    · rename_i e1; cases e1
    · rename_i n es' e1
      cases e1
      simp only [Option.map_eq_some_iff] at h
      obtain ⟨ms, hms, rfl⟩ := h
      have hst : st = 1 := (hl [.s (.int .u8 n)] (by simp)).symm
      obtain ⟨i1, i2, _⟩ := bytesOf_ok (k := k + 1) hms (fun e he => hl e (by simp [he])) (fun i j y hy => by
        obtain ⟨u, h1, h2⟩ := hc (i + 1) j y (by simpa [at2] using hy)
        exact ⟨u, by rw [← h1]; congr 2; rw [show k + 1 + i = k + (i + 1) from by omega], h2⟩)
      refine ⟨by simp [i1], fun j v hv => ?_, fun _ => hst⟩
      cases j with
      | zero =>
        simp at hv; subst hv
        obtain ⟨u, h1, h2⟩ := hc 0 0 (.s (.int .u8 n)) (by simp [at2])
        cases h2
        rw [hst] at h1
        simpa using h1
      | succ j =>
        have := i2 j v (by simpa using hv)
        rw [show k + (j + 1) = k + 1 + j from by omega]; exact this
    · cases h
theorem ok_cnvBS (s d e : TypeId) (x : Operand) (x' : Opd) (hs : P.underlying s = some (.slice e)) (he : P.underlying e = some (.int .u8)) (hd : P.underlying d = some .string) (hx : cOpd x = some x') (hH : HOk w imm H L U) (hT : ∀ i, TRep w imm H L U (a.tmps.getD i undef) (t i)) (ho : o.op = .convert s d x)
    {ys : List (List V)} {ns : List Nat} {bs : List Int} (hp : srcOf H (ev t x') = some (ys, ns)) (hb : bytesOf ys = some bs) : OpR P a o w imm H L U H (with_ U ver) (.s (.string (pushB bs))) := by
  obtain ⟨ao, c, hxe, h2⟩ := srcOf_ok hH (cOpd_ok hT hx) hp
  refine opR_pure hH (x := .string (pushB bs)) ?_ (.s _ rfl)
  have hlen : ∀ {ys : List (List V)} {bs : List Int}, bytesOf ys = some bs → ys.length = bs.length := by
    intro ys
    induction ys with
    | nil => intro bs h; simp [bytesOf] at h; subst h; rfl
    | cons e es ih =>
      intro bs h
      unfold bytesOf at h
      split at h
      · rename_i e1; cases e1
      · rename_i n es' e1; cases e1
        simp only [Option.map_eq_some_iff] at h
        obtain ⟨ms, hms, rfl⟩ := h
        simp [ih hms]
      · cases h
  have key : (Conv.bytesToString (.slice ao ys.length c)).run P w = .ok (.string (pushB bs)) w := by
    cases ao with
    | none =>
      rcases h2 with rfl | ⟨b, o', st, h, _⟩
      · simp [bytesOf] at hb; subst hb
        show (pure (.string ByteArray.empty) : Sem Value).run P w = _
        rw [Sem.run_pure]; rfl
      · cases h
    | some ad =>
      rcases h2 with rfl | ⟨b, o', st, h, hl, hc⟩
      · simp [bytesOf] at hb; subst hb
        exact run_bytesToString w ad 0 c [] (by simpa using run_loadCells_list (P := P) w ad [] (fun j v hj => by simp at hj))
      · cases h
        obtain ⟨i1, i2, i3⟩ := bytesOf_ok (k := 0) hb hl (fun i j y hy => by simpa using hc i j y hy)
        refine run_bytesToString w _ _ c bs ?_
        have := run_loadCells_list (P := P) w ⟨b, o', none⟩ (bs.map (Value.int .u8)) (fun j v hj => by rw [add_eq]; simpa using i2 j v hj)
        rw [List.length_map, ← i1] at this
        exact this
  simp [execOp, ho, hxe, run_convert_bytes_string w s d e ao ys.length c hs he hd, key]
theorem ok_isnil (op : BinOp) (ty ty2 e : TypeId) (x : Operand) (x' : Opd) (hu : P.underlying ty = some (.slice e)) (hx : cOpd x = some x') (hH : HOk w imm H L U) (hT : ∀ i, TRep w imm H L U (a.tmps.getD i undef) (t i)) (ho : o.op = .binOp op ty x (.const (.slice none 0 0)) ty2) (neg : Bool) (hop : op = if neg then .neq else .eql) {q : Bool}
    (hp : (∃ e es, ev t x' = .pt (.one (.v (.sl (e :: es)))) ∧ q = neg) ∨ (∃ ad n c, ev t x' = .pt (.one (.v (.s (.slice ad n c)))) ∧ q = (ad.isNone != neg))) : OpR P a o w imm H L U H (with_ U ver) (.b q) := by
  have h1 := cOpd_ok hT hx
  obtain ⟨ad, n, c, hxe, hq⟩ : ∃ ad n c, a.eval x = .slice ad n c ∧ q = (ad.isNone != neg) := by
    rcases hp with ⟨e, es, hp, rfl⟩ | ⟨ad, n, c, hp, rfl⟩ <;> rw [hp] at h1
    · have h2 : VRep w imm (a.eval x) (.sl (e :: es)) := h1
      generalize a.eval x = y at h2
      cases h2
      exact ⟨_, _, _, rfl, by simp⟩
    · exact ⟨ad, n, c, rep_s h1, rfl⟩
  refine opR_pure hH (x := .bool q) ?_ (.s _ rfl)
  have hk : a.eval (.const (.slice none 0 0)) = .slice none 0 0 := rfl
  have heq : (Op.equal ty (.slice ad n c) (.slice none 0 0)).run P w = .ok ad.isNone w := by
    have h9 : ∀ d : Nat, (Op.equalIn (d + 1) ty (.slice ad n c) (.slice none 0 0)).run P w = .ok ad.isNone w := fun d => by
      cases ad <;> simp [Op.equalIn, run_underlying hu, Sem.run_pure]
    exact h9 9999
  cases neg <;> simp only [Bool.false_eq_true, if_false, if_true] at hop <;> subst hop <;> subst hq
  · simp only [execOp, ho, hxe, hk, eqGuard]
    simp [binOp, heq]
  · simp only [execOp, ho, hxe, hk, eqGuard]
    simp [binOp, heq]
end
end Go.V
namespace Go.V
section
variable {P : Program} {a : Act} {o : Oper} {w : World} {L : Locs} {U : Nat → Prop} {t : Nat → T} {ver : Nat} {imm : Imm} {H : HMap}

theorem core_sound {ao : AOp} {d : Nat} {e : Ef} (hc : compOp P o = some ao) (he : core ao d ver t H = some e) (hH : HOk w imm H L U) (hT : ∀ i, TRep w imm H L U (a.tmps.getD i undef) (t i)) (hv : ¬ U ver) :
    OpR P a o w imm H L U (updH H e.ws) (with_ U ver) e.val := by
  replace hc := compOp_of hc (fun h => by subst h; simp [core] at he)
  unfold compOp0 compOpG envOf at hc
  dsimp only at hc
  split at hc
  case h_1 x ho =>
    cases hx : cOpd x <;> simp [hx] at hc
    subst hc; simp [core] at he; subst he
    exact ok_mv x _ hx hH hT (.inl ho)
  case h_2 x ho =>
    cases hx : cOpd x <;> simp [hx] at hc
    subst hc; simp [core] at he; subst he
    exact ok_mv x _ hx hH hT (.inr ho)
  case h_3 c x y ho =>
    split at hc
    · rename_i c' x' y' h1 h2 h3
      cases hc
      simp only [core] at he
      split at he
      · rename_i b hb
        cases he
        exact ok_pick c x y c' x' y' h1 h2 h3 hH hT ho hb
      · cases he
    · cases hc
  case h_4 ty ho =>
    cases hz : zeroCs P ty <;> simp [hz] at hc
    subst hc; simp [core] at he; subst he
    exact ok_alloc ty _ hz hH hv ho d
  case h_5 ty x ho =>
    cases hx : cOpd x <;> simp [hx] at hc
    subst hc
    simp only [core] at he
    split at he
    · rename_i p hp
      cases he
      exact ok_box ty x _ hx hH hT hv ho d hp
    · cases he
  case h_6 ty ps ho =>
    split at hc
    · rename_i z pl h1 h2
      cases hq : cParts pl ps.toList <;> simp [hq] at hc
      subst hc
      simp only [core, Option.map_eq_some_iff] at he
      obtain ⟨cs, hf, rfl⟩ := he
      exact ok_build ty ps z pl _ h1 h2 hq hH hT ho hf
    · cases hc
  case h_7 ty len ps ho =>
    split at hc
    · rename_i el hel
      split at hc
      · rename_i n z qs h1 h2 h3
        split at hc
        · rename_i hcond
          cases hc
          simp only [core] at he
          split at he
          · rename_i es ws ns hs
            cases he
            exact ok_bsl ty el n len ps qs z hel h1 h2 h3 hcond.1 hcond.2.1 hcond.2.2 hH hT hv ho d hs
          · cases he
        · cases hc
      · cases hc
    · cases hc
  case h_8 ty x ho =>
    split at hc
    · rename_i n ag x' h1 h2 h3
      cases hc
      simp only [core, Option.map_eq_some_iff] at he
      obtain ⟨⟨v, rn⟩, hl, rfl⟩ := he
      exact ok_ld ty x n ag x' h1 h2 h3 hH hT ho hl
    · cases hc
  case h_9 ty x v ho =>
    split at hc
    · rename_i n x' v' h1 h2 h3
      cases hc
      simp only [core] at he
      split at he
      · rename_i p hp
        simp only [Option.map_eq_some_iff] at he
        obtain ⟨⟨ws, wn⟩, hs, rfl⟩ := he
        exact ok_st ty x v n x' v' h1 h2 h3 hH hT ho hp hs
      · cases he
    · cases hc
  case h_10 x ho =>
    cases hx : cOpd x <;> simp [hx] at hc
    subst hc
    simp only [core] at he
    split at he
    case h_1 heq => cases he; exact ok_nckF x _ hx hH hT ho heq
    case h_2 heq => cases he; have := ok_nck (P := P) (ver := ver) x _ hx hH hT ho (by rw [heq]; rfl); rw [heq] at this; exact this
    case h_3 heq => cases he; have := ok_nck (P := P) (ver := ver) x _ hx hH hT ho (by rw [heq]; rfl); rw [heq] at this; exact this
    case h_4 heq => cases he; have := ok_nck (P := P) (ver := ver) x _ hx hH hT ho (by rw [heq]; rfl); rw [heq] at this; exact this
    case h_5 => cases he
  case h_11 op ty x y ty2 ho =>
    split at hc
    · rename_i x' y' h1 h2
      split at hc
      · rename_i hu
        cases hc
        simp only [core] at he
        split at he
        · rename_i p q hp hq
          split at he
          · cases he; exact ok_binB _ ty ty2 x y x' y' hu h1 h2 hH hT ho hp hq (.inl ⟨rfl, rfl⟩)
          · cases he; exact ok_binB _ ty ty2 x y x' y' hu h1 h2 hH hT ho hp hq (.inr ⟨rfl, rfl⟩)
          · cases he
        · cases he
      · rename_i fs hu
        split at hc
        · rename_i ks hk hs hg
          cases hc
          simp only [core] at he
          split at he
          · rename_i cs ds hp hq
            simp only [Option.map_eq_some_iff] at he
            obtain ⟨r, hr, rfl⟩ := he
            exact ok_cmpA false _ ty ty2 x y x' y' hu hk hs hg h1 h2 hH hT ho rfl hp hq hr
          · cases he
        · rename_i ks hk hs hg
          cases hc
          simp only [core] at he
          split at he
          · rename_i cs ds hp hq
            simp only [Option.map_eq_some_iff] at he
            obtain ⟨r, hr, rfl⟩ := he
            exact ok_cmpA true _ ty ty2 x y x' y' hu hk hs hg h1 h2 hH hT ho rfl hp hq hr
          · cases he
        · cases hc
      all_goals
        first
          | cases hc; done
          | (split at hc
             · cases hc
               simp only [core] at he
               split at he
               · rename_i hp; cases he; exact ok_isnil .eql ty ty2 _ x x' (by assumption) h1 hH hT ho false rfl (.inl ⟨_, _, hp, rfl⟩)
               · rename_i hp; cases he; exact ok_isnil .eql ty ty2 _ x x' (by assumption) h1 hH hT ho false rfl (.inr ⟨_, _, _, hp, rfl⟩)
               · cases he
             · cases hc
               simp only [core] at he
               split at he
               · rename_i hp; cases he; exact ok_isnil .neq ty ty2 _ x x' (by assumption) h1 hH hT ho true rfl (.inl ⟨_, _, hp, rfl⟩)
               · rename_i hp; cases he; exact ok_isnil .neq ty ty2 _ x x' (by assumption) h1 hH hT ho true rfl (.inr ⟨_, _, _, hp, rfl⟩)
               · cases he
             · cases hc)
          | (cases hc
             simp only [core] at he
             split at he
             · rename_i p q hp hq
               simp only [Option.map_eq_some_iff] at he
               obtain ⟨v, hv2, rfl⟩ := he
               exact ok_bin op ty ty2 x y x' y' h1 h2 hH hT ho hp hq hv2
             · cases he)
    · cases hc
  case h_12 op ty x ho =>
    cases hx : cOpd x <;> simp [hx] at hc
    subst hc
    simp only [core] at he
    split at he
    · rename_i p hp
      simp only [Option.map_eq_some_iff] at he
      obtain ⟨v, hv2, rfl⟩ := he
      exact ok_un op ty x _ hx hH hT ho hp hv2
    · cases he
  case h_13 s dd x ho =>
    split at hc
    · rename_i ds k x' h1 h2 h3
      cases hc
      simp only [core, Option.map_eq_some_iff] at he
      obtain ⟨⟨k', n⟩, hp, rfl⟩ := he
      exact ok_cnvI s dd k x x' h1 h2 h3 hH hT ho hp
    · rename_i el x' h1 h2 h3
      split at hc
      · rename_i h4
        cases hc
        simp only [core] at he
        split at he
        · rename_i ys ns hs
          simp only [Option.map_eq_some_iff] at he
          obtain ⟨bs, hb, rfl⟩ := he
          exact ok_cnvBS s dd el x x' h1 h4 h2 h3 hH hT ho hs hb
        · cases he
      · cases hc
    · cases hc
  case h_14 f first caps ho =>
    split at hc
    · rename_i hf
      cases hy : cOpds caps.toList <;> simp [hy] at hc
      subst hc
      simp only [core, Option.map_eq_some_iff] at he
      obtain ⟨cs, hcs, rfl⟩ := he
      exact ok_mkf f first caps hf _ hy hH hT ho hcs
    · cases hc
  case h_15 ty l c ho =>
    split at hc
    · rename_i el l' c' h1 h2 h3
      split at hc
      · rename_i i z hi hz
        split at hc
        · rename_i hzl
          cases hc
          simp only [core] at he
          split at he
          · rename_i kl m kc n hm hn
            split at he
            · rename_i hcond
              cases he
              exact ok_mks ty el l c l' c' i z h1 h2 h3 hi hz hzl hH hT hv ho d hm hn hcond.1 hcond.2.1 hcond.2.2.1 hcond.2.2.2.1 hcond.2.2.2.2.2
            · cases he
          · cases he
        · cases hc
      · cases hc
    · cases hc
  case h_16 ty x lo hi mx ho =>
    split at hc
    · split at hc
      · rename_i x' lo' hi' h1 h2 h3
        split at hc
        · rename_i hu
          cases hc
          simp only [core] at he
          split at he
          · rename_i s hp
            simp only [Option.map_eq_some_iff] at he
            obtain ⟨⟨l, h⟩, hb, rfl⟩ := he
            exact ok_slc_str ty x lo hi x' lo' hi' hu h1 h2 h3 hH hT ho hp hb
          · cases he
        · rename_i el hu
          split at hc
          · rename_i n hn
            split at hc
            · rename_i hpos
              cases hc
              simp only [core] at he
              split at he
              · rename_i es hp
                split at he
                · rename_i l h hb
                  split at he
                  · rename_i hst
                    cases he
                    exact ok_slc_view ty el n x lo hi x' lo' hi' hu hn h1 h2 h3 hH hT ho hp hb hst
                  · cases he
                · cases he
              · rename_i id vv m hp
                split at he
                · rename_i h hb
                  cases he
                  exact ok_slc_own ty el n x lo hi x' lo' hi' hu hn h1 h2 h3 hH hT ho hp hb
                · rename_i l h hb
                  split at he
                  · rename_i v' wr0 st' ty0 es0 hB0
                    split at he
                    · rename_i hcond
                      obtain ⟨rfl, rfl, hhe⟩ := hcond
                      cases he
                      exact ok_slc_ow ty el _ x lo hi x' lo' hi' hu hn h1 h2 h3 hH hT ho hp hb (Nat.succ_pos l) hB0 hhe
                    · cases he
                  · cases he
                · cases he
              · rename_i hp
                split at he
                · rename_i q hb
                  cases he
                  exact ok_slc_nil ty el n x lo hi x' lo' hi' hu hn h1 h2 h3 hH hT ho hp hb
                · cases he
              · cases he
            · cases hc
          · cases hc
        · cases hc
      · cases hc
    · split at hc
      · rename_i el h1
        split at hc
        · rename_i hsz
          cases hx : cOpd x <;> simp [hx] at hc
          subst hc
          simp only [core] at he
          split at he
          · rename_i es hp; cases he; exact ok_slc0 ty el x _ (elemT_ok h1) hsz hx hH hT ho (.inl ⟨_, hp⟩)
          · rename_i hp; cases he; exact ok_slc0 ty el x _ (elemT_ok h1) hsz hx hH hT ho (.inr (.inl ⟨_, _, _, hp⟩))
          · rename_i hp; cases he; exact ok_slc0 ty el x _ (elemT_ok h1) hsz hx hH hT ho (.inr (.inr hp))
          · cases he
        · cases hc
      · cases hc
    · cases hc
  case h_17 s x f ho =>
    split at hc
    · rename_i fs x' h1 h2
      split at hc
      · rename_i fd hf
        split at hc
        · rename_i n hn
          split at hc
          · rename_i hpos
            cases hc
            simp only [core] at he
            split at he
            · rename_i hp; cases he; exact ok_fa s fs f fd n x x' h1 hf hn hpos h2 hH hT ho (.inl ⟨_, _, _, hp, rfl⟩)
            · rename_i hp; cases he; exact ok_fa s fs f fd n x x' h1 hf hn hpos h2 hH hT ho (.inr (.inl ⟨_, _, _, _, hp, rfl⟩))
            · rename_i hp; cases he; exact ok_fa s fs f fd n x x' h1 hf hn hpos h2 hH hT ho (.inr (.inr ⟨_, hp, rfl⟩))
            · cases he
          · cases hc
        · cases hc
      · cases hc
    · cases hc
  case h_18 s x f ho =>
    split at hc
    · rename_i fs x' h1 h2
      split at hc
      · rename_i fd hf
        split at hc
        · rename_i n ag hn hag
          cases hc
          simp only [core] at he
          split at he
          · rename_i cs hp
            cases ag with
            | true =>
              simp only [if_true] at he
              split at he
              · rename_i hle; cases he; exact ok_fl s fs f fd n true x x' h1 hf hn hag h2 hH hT ho hp (.inl ⟨rfl, hle, rfl⟩)
              · cases he
            | false =>
              simp at he
              obtain ⟨c, hcc, rfl⟩ := he
              exact ok_fl s fs f fd n false x x' h1 hf hn hag h2 hH hT ho hp (.inr ⟨rfl, c, hcc, rfl⟩)
          · cases he
        · cases hc
      · cases hc
    · cases hc
  case h_19 ty x i ho =>
    split at hc
    · rename_i el x' i' h1 h2 h3
      cases hn : sizeT P el <;> simp [hn] at hc
      subst hc
      simp only [core] at he
      split at he
      · rename_i es k m hp hm
        split at he
        · rename_i h0
          split at he
          · rename_i e1 he1
            split at he
            · rename_i hel; cases he; exact ok_ia_view ty el _ x i x' i' (elemT_ok h1) hn h2 h3 hH hT ho hp hm h0 he1 hel
            · cases he
          · cases he
        · cases he
      · rename_i id vv q k m hp hm
        split at he
        · rename_i hcond
          split at he
          · rename_i v' wr st' ty' es hB
            split at he
            · rename_i hc2
              obtain ⟨rfl, rfl, hc3⟩ := hc2
              cases he
              exact ok_ia_own ty el _ x i x' i' (elemT_ok h1) hn h2 h3 hH hT ho hp hm hcond.1 hcond.2 hB
            · cases he
          · cases he
        · cases he
      · cases he
    · rename_i x' i' h1 h2 h3
      split at hc
      · rename_i n el harr
        cases hn : sizeT P el <;> simp [hn] at hc
        subst hc
        simp only [core] at he
        split at he
        · rename_i id vr jj k m hp hm
          split at he
          · rename_i hcond
            cases he
            exact ok_iap ty el n _ x i x' i' (arrT_ok harr) hn h2 h3 hH hT ho hp hm hcond.1 hcond.2
          · cases he
        · cases he
      · cases hc
    · cases hc
  case h_20 ty x i ho =>
    split at hc
    · rename_i x' i' h1 h2 h3
      cases hc
      simp only [core] at he
      split at he
      · rename_i s k m hp hm
        split at he
        · rename_i h0
          simp only [Option.map_eq_some_iff] at he
          obtain ⟨b, hb, rfl⟩ := he
          exact ok_ix ty x i x' i' h1 h2 h3 hH hT ho hp hm h0 hb
        · cases he
      · cases he
    · rename_i n el x' i' h1 h2 h3
      split at hc
      · rename_i sz ag h4 h5
        cases hc
        simp only [core] at he
        split at he
        · rename_i cs k m hp hm
          split at he
          · rename_i hcond
            cases ag with
            | true =>
              simp only [if_true] at he
              split at he
              · rename_i hle; cases he; exact ok_ixA ty el n sz true x i x' i' h1 h4 h5 h2 h3 hH hT ho hp hm hcond.1 hcond.2 (.inl ⟨rfl, hle, rfl⟩)
              · cases he
            | false =>
              simp only [Bool.false_eq_true, if_false, Option.map_eq_some_iff] at he
              obtain ⟨c, hcc, rfl⟩ := he
              exact ok_ixA ty el n sz false x i x' i' h1 h4 h5 h2 h3 hH hT ho hp hm hcond.1 hcond.2 (.inr ⟨rfl, c, hcc, rfl⟩)
          · cases he
        · cases he
      · cases hc
    · cases hc
  case h_21 x i ho =>
    cases hx : cOpd x <;> simp [hx] at hc
    subst hc
    simp only [core] at he
    split at he
    · rename_i ps hp
      simp only [Option.map_eq_some_iff] at he
      obtain ⟨p, hi, rfl⟩ := he
      exact ok_ext i x _ hx hH hT ho hp hi
    · cases he
  case h_22 c ho =>
    split at hc
    · rename_i hcal
      split at hc
      · rename_i x ty hargs hts
        split at hc
        · rename_i hu
          cases hx : cOpd x <;> simp [hx] at hc
          subst hc
          simp only [core] at he
          split at he
          · rename_i s hp; cases he; exact ok_len c x ty _ hcal hargs hts hx hH hT ho (.inl ⟨hu, s, hp, rfl⟩)
          · cases he
        · rename_i el hu
          cases hx : cOpd x <;> simp [hx] at hc
          subst hc
          simp only [core] at he
          split at he
          · rename_i es hp; cases he; exact ok_len c x ty _ hcal hargs hts hx hH hT ho (.inr ⟨⟨el, hu⟩, .inl ⟨es, hp, rfl⟩⟩)
          · rename_i hp; cases he; exact ok_len c x ty _ hcal hargs hts hx hH hT ho (.inr ⟨⟨el, hu⟩, .inr (.inl ⟨_, _, hp⟩)⟩)
          · rename_i hp; cases he; exact ok_len c x ty _ hcal hargs hts hx hH hT ho (.inr ⟨⟨el, hu⟩, .inr (.inr ⟨hp, rfl⟩)⟩)
          · cases he
        · cases hc
      · cases hc
    · rename_i hcal
      split at hc
      · rename_i x y ty ty' hargs hts
        split at hc
        · rename_i htt
          subst htt
          split at hc
          · rename_i el x' y' h1 h2 h3
            split at hc
            · rename_i i z hi hz
              split at hc
              · rename_i hcond
                cases hc
                simp only [core] at he
                split at he
                · cases he
                · rename_i ys ns hs
                  split at he
                  · rename_i hyl
                    split at he
                    · rename_i hp
                      split at he
                      · rename_i hb
                        cases he
                        exact ok_app_nil c x y ty el i z x' y' hcal hargs hts h1 hi hz hcond.1 hcond.2 h2 h3 hH hT hv ho d hs hyl.1 hp hb.1 hb.2
                      · cases he
                    · rename_i id vv n hp
                      split at he
                      · rename_i v' wr st' ty' es hB
                        split at he
                        · rename_i hb
                          obtain ⟨rfl, rfl, rfl, hn, hnw, hb, h63⟩ := hb
                          cases he
                          exact ok_app_own c x y ty ty' i z x' y' hcal hargs hts h1 hi hz hcond.1 hcond.2 h2 h3 hH hT hv ho hs hyl.1 hp hB hn hnw hb h63
                        · cases he
                      · cases he
                    · cases he
                  · cases he
              · cases hc
            · cases hc
          · cases hc
        · cases hc
      · cases hc
    · rename_i hcal
      split at hc
      · rename_i x y ty ty2 hargs hts
        split at hc
        · rename_i el x' y' h1 h2 h3
          split at hc
          · rename_i hsz
            cases hc
            simp only [core] at he
            split at he
            · rename_i ys ns id v l n hs hd
              split at he
              · rename_i v' wr st' tya es hB
                split at he
                · rename_i hb
                  obtain ⟨rfl, rfl, rfl, hln, hyl⟩ := hb
                  cases he
                  exact ok_cpy c x y ty ty2 el x' y' hcal hargs hts h1 hsz h2 h3 hH hT ho hs hyl hd hB hln
                · cases he
              · cases he
            · cases he
          · cases hc
        · cases hc
      · cases hc
    · rename_i hcal
      split at hc
      · rename_i x y hargs
        split at hc
        · rename_i x' y' h2 h3
          cases hc
          simp only [core] at he
          split at he
          · rename_i k m k' n hm hn
            cases he
            exact ok_mmx c true x y x' y' hcal hargs h2 h3 hH hT ho hm hn
          · cases he
        · cases hc
      · rename_i x y z hargs
        split at hc
        · rename_i x' y' z' h2 h3 h4
          cases hc
          simp only [core] at he
          split at he
          · rename_i k m k' n k'' q hm hn hq
            cases he
            exact ok_mm3 c x y z x' y' z' hcal hargs h2 h3 h4 hH hT ho hm hn hq
          · cases he
        · cases hc
      · cases hc
    · rename_i hcal
      split at hc
      · rename_i x y hargs
        split at hc
        · rename_i x' y' h2 h3
          cases hc
          simp only [core] at he
          split at he
          · rename_i k m k' n hm hn
            cases he
            exact ok_mmx c false x y x' y' hcal hargs h2 h3 hH hT ho hm hn
          · cases he
        · cases hc
      · cases hc
    · split at hc
      · cases hc; simp [core] at he
      · cases hc
    · cases hc
  case h_23 => cases hc; simp [core] at he
end
end Go.V
namespace Go.V

def closedC : C → Bool
  | .v _ => true
  | _ => false
def scalarC : C → Bool
  | .v (.s _) => true
  | _ => false
def closedP : P1 → Bool
  | .one c => closedC c
  | .agg cs => cs.all closedC
def scalarP : P1 → Bool
  | .one c => scalarC c
  | .agg cs => cs.all scalarC
def closedT : T → Bool
  | .pt p => closedP p
  | .tup ps => ps.all closedP
  | _ => false
def scalarT : T → Bool
  | .pt p => scalarP p
  | .tup ps => ps.all scalarP
  | _ => false

section
variable {w w' : World} {imm imm' : Imm} {H H' : HMap} {L L' : Locs} {U U' : Nat → Prop}
theorem CRep.scalar {x : Value} {c : C} (h : CRep w imm H L U x c) (hc : scalarC c = true) : CRep w' imm' H' L' U' x c := by
  unfold scalarC at hc
  split at hc
  · have h1 := oneCell_s (show VRep w imm x (.s _) from h)
    have h2 := rep_s (H := H) (L := L) (U := U) h
    subst h2
    exact .s _ h1
  · cases hc
end

/-! What a callee gets of the caller's own: closed where its contract says so, handed on else. -/
def lendC (H : HMap) : C → C → Option (C × List (Nat × Blk) × List Nat)
  | .v _, c => (sealC H c).map fun (x, ws, ns) => (.v x, ws, ns)
  | _, c => some (c, [], [])
def lendCs (H : HMap) : List C → List C → Option (List C × List (Nat × Blk) × List Nat)
  | [], [] => some ([], [], [])
  | t :: ts, c :: cs => match lendC H t c, lendCs H ts cs with
    | some (x, w, n), some (xs, ws, ns) => some (x :: xs, w ++ ws, n ++ ns)
    | _, _ => none
  | _, _ => none
def lendT (H : HMap) : T → T → Option (T × List (Nat × Blk) × List Nat)
  | .pt (.one t), .pt (.one c) => (lendC H t c).map fun (x, ws, ns) => (.pt (.one x), ws, ns)
  | .pt (.agg ts), .pt (.agg cs) => (lendCs H ts cs).map fun (xs, ws, ns) => (.pt (.agg xs), ws, ns)
  | _, _ => none
def lendTs (H : HMap) : List T → List T → Option (List T × List (Nat × Blk) × List Nat)
  | [], [] => some ([], [], [])
  | t :: ts, x :: xs => match lendT H t x, lendTs H ts xs with
    | some (y, w, n), some (ys, ws, ns) => some (y :: ys, w ++ ws, n ++ ns)
    | _, _ => none
  | _, _ => none

/-- A block that a call gets or gives: its name in the callee's contract, its name at the caller, what it is before (if it is handed on) and behind, and whether the caller's references to it stay good. -/
structure Hand where
  c : Nat
  m : Nat
  b : Option Blk
  b' : Blk
  keep : Bool

def renN (hs : List Hand) (c : Nat) : Option Hand := hs.find? (·.c == c)
def inN (hs : List Hand) (c : Nat) : Option Nat := (renN hs c).bind fun h => h.b.map fun _ => h.m

/-! from the callee's names to the caller's: what goes in -/
def capsI (hs : List Hand) : List (Nat × Nat) → Option (List (Nat × Nat))
  | [] => some []
  | (c, v) :: ps => match inN hs c, capsI hs ps with
    | some m, some qs => some ((m, v) :: qs)
    | _, _ => none
def renI (hs : List Hand) : C → Option C
  | .own c v n => (inN hs c).map fun m => .own m v n
  | .ptr c v j => (inN hs c).map fun m => .ptr m v j
  | .aptr c v i j => (inN hs c).map fun m => .aptr m v i j
  | .fn f ps => (capsI hs ps).map (.fn f)
  | .v x => some (.v x)
  | .nil0 => some .nil0
  | .vptr xs => some (.vptr xs)
  | .ow _ _ _ _ => none
def renIs (hs : List Hand) : List C → Option (List C)
  | [] => some []
  | c :: cs => match renI hs c, renIs hs cs with
    | some x, some xs => some (x :: xs)
    | _, _ => none
def renIT (hs : List Hand) : T → Option T
  | .pt (.one c) => (renI hs c).map fun x => .pt (.one x)
  | .pt (.agg cs) => (renIs hs cs).map fun xs => .pt (.agg xs)
  | _ => none
def renITs (hs : List Hand) : List T → Option (List T)
  | [] => some []
  | c :: cs => match renIT hs c, renITs hs cs with
    | some x, some xs => some (x :: xs)
    | _, _ => none
def renIB (hs : List Hand) : Blk → Option Blk
  | .var ver ty cs => (renIs hs cs).map (.var ver ty)
  | .arr ver wr st ty es => some (.arr ver wr st ty es)

/-! what comes out -/
def verOf (nv : Nat) (h : Hand) : Nat := if h.keep then (match h.b with | some b => b.ver | none => nv) else nv
def renO (hs : List Hand) (nv : Nat) : C → Option C
  | .own c _ n => (renN hs c).map fun h => .own h.m (verOf nv h) n
  | .ptr c _ j => (renN hs c).map fun h => .ptr h.m (verOf nv h) j
  | .aptr c _ i j => (renN hs c).map fun h => .aptr h.m (verOf nv h) i j
  | .fn f [] => some (.fn f [])
  | .fn _ _ => none
  | .v x => some (.v x)
  | .nil0 => some .nil0
  | .vptr xs => some (.vptr xs)
  | .ow _ _ _ _ => none
def renOs (hs : List Hand) (nv : Nat) : List C → Option (List C)
  | [] => some []
  | c :: cs => match renO hs nv c, renOs hs nv cs with
    | some x, some xs => some (x :: xs)
    | _, _ => none
def renOP (hs : List Hand) (nv : Nat) : P1 → Option P1
  | .one c => (renO hs nv c).map .one
  | .agg cs => (renOs hs nv cs).map .agg
def renOPs (hs : List Hand) (nv : Nat) : List P1 → Option (List P1)
  | [] => some []
  | c :: cs => match renOP hs nv c, renOPs hs nv cs with
    | some x, some xs => some (x :: xs)
    | _, _ => none
def renOT (hs : List Hand) (nv : Nat) : T → Option T
  | .pt p => (renOP hs nv p).map .pt
  | .tup ps => (renOPs hs nv ps).map .tup
  | _ => none
def renOB (hs : List Hand) (nv ver : Nat) : Blk → Option Blk
  | .var _ ty cs => (renOs hs nv cs).map (.var ver ty)
  | .arr _ wr st ty es => some (.arr ver wr st ty es)
def renOBs (hs : List Hand) (nv : Nat) : List Hand → Option (List (Nat × Blk))
  | [] => some []
  | h :: t => match renOB hs nv (verOf nv h) h.b', renOBs hs nv t with
    | some B, some bs => some ((h.m, B) :: bs)
    | _, _ => none

/-! the marks of versions, as they are at the callee's end -/
def verC (ν : Nat → Nat) : C → C
  | .own c _ n => .own c (ν c) n
  | .ptr c _ j => .ptr c (ν c) j
  | .aptr c _ i j => .aptr c (ν c) i j
  | .fn f ps => .fn f ps
  | .v x => .v x
  | .nil0 => .nil0
  | .vptr xs => .vptr xs
  | .ow c v l n => .ow c v l n
def verP (ν : Nat → Nat) : P1 → P1
  | .one c => .one (verC ν c)
  | .agg cs => .agg (cs.map (verC ν))
def verT (ν : Nat → Nat) : T → T
  | .pt p => .pt (verP ν p)
  | .tup ps => .tup (ps.map (verP ν))
  | .undef => .undef
  | .junk => .junk
def verB (ν : Nat → Nat) (v : Nat) : Blk → Blk
  | .var _ ty cs => .var v ty (cs.map (verC ν))
  | .arr _ wr st ty es => .arr v wr st ty es

def hinOf (hs : List Hand) : HMap := fun c => (renN hs c).bind fun h => h.b

/-- A function with a body of its own. -/
def isFn (P : Program) (f : FuncId) : Bool :=
  match P.funcs[f]? with
  | some fn => !(fn.name == "runtime.NumGoroutine") && fn.body.isSome
  | none => false

def capT (p : Nat × Nat) : T := .pt (.one (.ptr p.1 p.2 0))

/-- A contract of a function, as calls use it: with these arguments and these blocks it returns r, and leaves the blocks so. -/
def ACallsF (P : Program) (f : FuncId) (args : List T) (hs : List Hand) (r : T) : Prop :=
  isFn P f = true ∧ ACalls P f args (hinOf hs) fun r' h' => ∃ ν : Nat → Nat, r' = verT ν r ∧ ∀ c h, renN hs c = some h → h' c = some (verB ν (ν c) h.b') ∧ (h.keep = true → ∃ b, h.b = some b ∧ ν c = b.ver)

def handsIn (H : HMap) (hs0 : List Hand) : List Hand → Prop
  | [] => True
  | h :: hs => (match h.b with
    | none => True
    | some b => match renIB hs0 b with
      | some B => H h.m = some B
      | none => False) ∧ handsIn H hs0 hs

theorem handsIn_mem {H : HMap} {hs0 : List Hand} : ∀ {hs : List Hand}, handsIn H hs0 hs → ∀ h ∈ hs, ∀ b, h.b = some b → ∃ B, renIB hs0 b = some B ∧ H h.m = some B
  | [], _, _, h, _, _ => by cases h
  | x :: hs, hh, h, hm, b, hb => by
    rcases List.mem_cons.1 hm with rfl | hm
    · have := hh.1
      rw [hb] at this
      simp only at this
      split at this
      · rename_i B hB; exact ⟨B, hB, this⟩
      · exact this.elim
    · exact handsIn_mem hh.2 h hm b hb

theorem handsIn_congr {H H' : HMap} {hs0 : List Hand} : ∀ {hs : List Hand}, (∀ h ∈ hs, H' h.m = H h.m) → handsIn H hs0 hs → handsIn H' hs0 hs
  | [], _, _ => trivial
  | x :: hs, he, hh => by
    refine ⟨?_, handsIn_congr (fun h hm => he h (by simp [hm])) hh.2⟩
    have := hh.1
    cases hb : x.b with
    | none => trivial
    | some b =>
      rw [hb] at this
      simp only at this ⊢
      rw [he x (by simp)]
      exact this

/-! what holds no closed slice: scalars, and references -/
def flatC : C → Bool
  | .v (.s _) => true
  | .v (.sl _) => false
  | .vptr _ => false
  | _ => true
def flatP : P1 → Bool
  | .one c => flatC c
  | .agg cs => cs.all flatC
def flatT : T → Bool
  | .pt p => flatP p
  | .tup ps => ps.all flatP
  | _ => false
def flatV : V → Bool
  | .s _ => true
  | .sl _ => false
def flatB : Blk → Bool
  | .var _ _ cs => cs.all flatC
  | .arr _ _ _ _ es => es.all fun e => e.all flatV
section
variable {w : World} {imm imm' : Imm} {H : HMap} {L : Locs} {U : Nat → Prop}
theorem CRep.flat {x : Value} {c : C} (h : CRep w imm H L U x c) (hc : flatC c = true) : CRep w imm' H L U x c := by
  cases c with
  | v y => cases y with
    | s z => exact CRep.scalar (show CRep w imm H L U x (.v (.s z)) from h) rfl
    | sl es => cases hc
  | vptr xs => cases hc
  | _ => exact h
theorem CsRep.flat {xs : List Value} {cs : List C} (h : CsRep w imm H L U xs cs) (hc : cs.all flatC = true) : CsRep w imm' H L U xs cs :=
  ⟨h.1, fun k x y hx hy => (h.2 k x y hx hy).flat (List.all_eq_true.1 hc y (List.mem_of_getElem? hy))⟩
theorem PRep.flat {x : Value} {p : P1} (h : PRep w imm H L U x p) (hc : flatP p = true) : PRep w imm' H L U x p := by
  cases p with
  | one c => exact CRep.flat (show CRep w imm H L U x c from h) hc
  | agg cs => obtain ⟨xs, hx, h⟩ := h; exact ⟨xs, hx, h.flat hc⟩
theorem TRep.flat {x : Value} {t : T} (h : TRep w imm H L U x t) (hc : flatT t = true) : TRep w imm' H L U x t := by
  cases t with
  | junk => trivial
  | undef => exact h
  | pt p => exact PRep.flat (show PRep w imm H L U x p from h) hc
  | tup ps => obtain ⟨xs, hx, hl, h⟩ := h; exact ⟨xs, hx, hl, fun k u y hu hy => (h k u y hu hy).flat (List.all_eq_true.1 hc y (List.mem_of_getElem? hy))⟩
theorem VsRep.flat {cur : Array Value} {o : Nat} {e : List V} (h : VsRep w imm cur o e) (hc : e.all flatV = true) : VsRep w imm' cur o e := fun k y hy => by
  obtain ⟨u, h1, h2⟩ := h k y hy
  have := List.all_eq_true.1 hc y (List.mem_of_getElem? hy)
  cases y with
  | s z => exact ⟨u, h1, CRep.scalar (H := fun _ => none) (L := fun _ => none) (U := fun _ => True) (H' := fun _ => none) (L' := fun _ => none) (U' := fun _ => True) (show CRep w imm (fun _ => none) (fun _ => none) (fun _ => True) u (.v (.s z)) from h2) rfl⟩
  | sl es => cases this
end

/-- Whether a call keeps nothing of what it was lent. -/
def quiet (r : T) (hs : List Hand) : Bool := flatT r && hs.all fun h => h.b.isNone && flatB h.b'

/-- What a call does, as far as its caller sees it. -/
def CallEff0 (P : Program) (f : Opd) (args : List Opd) (nv : Nat) (σ : St) (e : Ef) : Prop :=
  ∃ fid caps as ws ns hs argsC r r' ob, ev σ.t f = .pt (.one (.fn fid caps)) ∧ lendTs σ.H argsC (args.map (ev σ.t) ++ caps.map capT) = some (as, ws, ns) ∧ renITs hs argsC = some as ∧ handsIn (updH σ.H ws) hs hs ∧ (hs.map (·.m)).Nodup ∧ (hs.map (·.c)).Nodup ∧
    ACallsF P fid argsC hs r ∧ renOT hs nv r = some r' ∧ renOBs hs nv hs = some ob ∧
    e = ⟨r', (if quiet r hs then [] else ws) ++ ob, ns ++ hs.map (·.m), (if quiet r hs then [] else ns) ++ hs.map (·.m)⟩

/-- What a call does; one that leaves all as it was writes nothing. -/
def CallEff (P : Program) (f : Opd) (args : List Opd) (nv : Nat) (σ : St) (e : Ef) : Prop :=
  CallEff0 P f args nv σ e ∨ ∃ e0, CallEff0 P f args nv σ e0 ∧ updH σ.H e0.ws = σ.H ∧ e = ⟨e0.val, [], e0.rn, []⟩

/-- Whether an operation is done. -/
def gd (g : Option (Nat × Bool)) (t : Nat → T) : Option Bool :=
  match g with
  | none => some true
  | some (s, want) => match t s with
    | .pt (.one (.v (.s (.bool b)))) => some (b == want)
    | .undef => some false
    | _ => none

def Eff (P : Program) (o : AOper) (σ : St) (e : Ef) : Prop :=
  match gd o.g σ.t with
  | some false => e = ⟨.undef, [], [], []⟩
  | some true => match o.op with
    | .call f args => CallEff P f args (σ.ctr + o.k) σ e
    | op => core op (o.d.getD 0) (σ.ctr + o.k) σ.t σ.H = some e
  | none => False
end Go.V
namespace Go.V
section
variable {P : Program} {a : Act} {o : Oper} {w w' : World} {L L' : Locs} {U : Nat → Prop} {t : Nat → T} {ver : Nat} {imm imm' : Imm} {H H' : HMap}

theorem HOk.lt (h : HOk w imm H L U) {m g : Nat} (hm : H m ≠ none) (hg : L m = some g) : g < w.heap.size := by
  cases hB' : H m with
  | none => exact absurd hB' hm
  | some B' =>
    have := h.blk m B' hB'
    cases B' with
    | var ver ty cs =>
      obtain ⟨_, g', cur, hg', hh, _⟩ := this
      rw [hg] at hg'; cases hg'
      exact heap_lt hh
    | arr ver wr st ty es =>
      obtain ⟨_, _, _, hq⟩ := this
      rcases hq with ⟨hq, _⟩ | ⟨g', cur, hg', hh, _⟩
      · rw [hg] at hq; cases hq
      · rw [hg] at hg'; cases hg'
        exact heap_lt hh

theorem HOk.frame (h : HOk w imm H L U) (hk : ∀ b o, imm b o → imm' b o ∧ w'.cell? ⟨b, o, none⟩ = w.cell? ⟨b, o, none⟩) (hb : ∀ n g, H n ≠ none → L n = some g → w'.heap[g]? = w.heap[g]?)
    (himm : ∀ n g o, H n ≠ none → L n = some g → imm' g o → imm g o) (hlt : ∀ b o, imm' b o → b < w'.heap.size) : HOk w' imm' H L U ∧ Ext w H L U w' H L U := by
  have he : Ext w H L U w' H L U := ⟨fun _ h => h, fun _ _ ty cs _ h => ⟨ty, cs, h, rfl⟩, fun _ _ wr _ _ es _ h => ⟨wr, es, h, Nat.le_refl _, rfl⟩,
    fun n _ _ _ _ _ g cur _ hn hg hh => ⟨cur, by rw [hb n g (by simp [hn]) hg]; exact hh, rfl⟩⟩
  refine ⟨⟨fun n B hn => ?_, h.inj, h.glob.keep hk, hlt⟩, he⟩
  have hB := h.blk n B hn
  cases B with
  | var ver ty cs =>
    obtain ⟨h1, g, cur, hg, hh, hcs, hi⟩ := hB
    exact ⟨h1, g, cur, hg, by rw [hb n g (by simp [hn]) hg]; exact hh, hcs.mono hk he, fun o ho => hi o (himm n g o (by simp [hn]) hg ho)⟩
  | arr ver wr st ty es =>
    obtain ⟨h1, h2, h3, hq⟩ := hB
    refine ⟨h1, h2, h3, ?_⟩
    rcases hq with hq | ⟨g, cur, hg, hh, hle, hcs, hi⟩
    · exact .inl hq
    · exact .inr ⟨g, cur, hg, by rw [hb n g (by simp [hn]) hg]; exact hh, hle, fun i e hi => (hcs i e hi).mono hk, fun o ho => hi o (himm n g o (by simp [hn]) hg ho)⟩

theorem updH_ne : ∀ (ws : List (Nat × Blk)) (H : HMap) (n : Nat), (∀ p ∈ ws, p.1 ≠ n) → updH H ws n = H n
  | [], _, _, _ => rfl
  | (m, b) :: ws, H, n, h => by
    simp only [updH]
    rw [updH_ne ws _ n fun p hp => h p (by simp [hp]), upd_ne _ _ (Ne.symm (h (m, b) (by simp)))]


theorem lendC_ok {H0 : HMap} (hH : HOk w imm H L U) (hs : SameA H0 H) {x : Value} {tm v u : C} {ws : List (Nat × Blk)} {ns : List Nat} (h : lendC H0 tm v = some (u, ws, ns)) (hr : CRep w imm H L U x v) :
    ∃ imm', Sealed w imm H L U H0 (updH H ws) imm' ∧ CRep w imm' (updH H ws) L U x u := by
  have keep : (u, ws, ns) = (v, [], []) → ∃ imm', Sealed w imm H L U H0 (updH H ws) imm' ∧ CRep w imm' (updH H ws) L U x u := by
    intro e
    simp only [Prod.mk.injEq] at e
    obtain ⟨rfl, rfl, rfl⟩ := e
    exact ⟨imm, ⟨hH, Ext.refl _ _ _ _, hs, Step.refl _ _ _, Near.refl _ _ _⟩, hr⟩
  cases tm with
  | v y =>
    simp only [lendC, Option.map_eq_some_iff] at h
    obtain ⟨⟨y, ws', ns'⟩, h1, h2⟩ := h
    cases h2
    obtain ⟨imm', a1, a2, a3, a4, a5, a6⟩ := seal1 hH hs h1 hr
    exact ⟨imm', ⟨a1, a3, a4, a5, a6⟩, a2⟩
  | _ => simp only [lendC, Option.some.injEq] at h; exact keep h.symm

theorem lendCs_ok {H0 : HMap} : ∀ {tms cs : List C} {imm : Imm} {H : HMap} (_ : HOk w imm H L U) (_ : SameA H0 H) {xs : List Value} {us : List C} {ws : List (Nat × Blk)} {ns : List Nat} (_ : lendCs H0 tms cs = some (us, ws, ns)) (_ : CsRep w imm H L U xs cs),
    ∃ imm', Sealed w imm H L U H0 (updH H ws) imm' ∧ CsRep w imm' (updH H ws) L U xs us
  | [], [], imm, H, hH, hs, xs, us, ws, ns, h, hr => by
    simp [lendCs] at h
    obtain ⟨rfl, rfl, rfl⟩ := h
    exact ⟨imm, ⟨hH, Ext.refl _ _ _ _, hs, Step.refl _ _ _, Near.refl _ _ _⟩, hr⟩
  | [], _ :: _, _, _, _, _, _, _, _, _, h, _ => by simp [lendCs] at h
  | _ :: _, [], _, _, _, _, _, _, _, _, h, _ => by simp [lendCs] at h
  | tm :: tms, v :: cs, imm, H, hH, hs, xs, us, ws, ns, h, hr => by
    simp only [lendCs] at h
    split at h
    · rename_i y w1 n1 ys w2 n2 h1 h2
      simp only [Option.some.injEq, Prod.mk.injEq] at h
      obtain ⟨rfl, rfl, rfl⟩ := h
      cases xs with
      | nil => have := hr.1; simp at this
      | cons x xs =>
        have hx : CRep w imm H L U x v := hr.2 0 x v rfl rfl
        have hxs : CsRep w imm H L U xs cs := ⟨by have := hr.1; simpa using this, fun k a b ha hb => hr.2 (k + 1) a b (by simpa using ha) (by simpa using hb)⟩
        obtain ⟨imm1, S1, V1⟩ := lendC_ok hH hs h1 hx
        have hk1 : ∀ b o, imm b o → imm1 b o ∧ w.cell? ⟨b, o, none⟩ = w.cell? ⟨b, o, none⟩ := fun b o h => ⟨(S1.step.keep b o h).1, rfl⟩
        obtain ⟨imm2, S2, V2⟩ := lendCs_ok S1.hok S1.same h2 (hxs.mono hk1 S1.ext)
        have hk2 : ∀ b o, imm1 b o → imm2 b o ∧ w.cell? ⟨b, o, none⟩ = w.cell? ⟨b, o, none⟩ := fun b o h => ⟨(S2.step.keep b o h).1, rfl⟩
        refine ⟨imm2, ?_, ?_⟩
        · rw [updH_append]; exact S1.trans S2
        · rw [updH_append]
          refine ⟨by simp [V2.1], fun k u z hu hz => ?_⟩
          cases k with
          | zero => simp at hu hz; subst hu; subst hz; exact V1.mono hk2 S2.ext
          | succ k => exact V2.2 k u z (by simpa using hu) (by simpa using hz)
    · cases h

theorem lendT_ok {H0 : HMap} (hH : HOk w imm H L U) (hs : SameA H0 H) {x : Value} {tm v u : T} {ws : List (Nat × Blk)} {ns : List Nat} (h : lendT H0 tm v = some (u, ws, ns)) (hr : TRep w imm H L U x v) :
    ∃ imm', Sealed w imm H L U H0 (updH H ws) imm' ∧ TRep w imm' (updH H ws) L U x u := by
  unfold lendT at h
  split at h
  · simp only [Option.map_eq_some_iff] at h
    obtain ⟨⟨y, ws', ns'⟩, h1, h2⟩ := h
    cases h2
    exact lendC_ok hH hs h1 hr
  · simp only [Option.map_eq_some_iff] at h
    obtain ⟨⟨y, ws', ns'⟩, h1, h2⟩ := h
    cases h2
    obtain ⟨xs, hx, hcs⟩ := hr
    obtain ⟨imm', S, V⟩ := lendCs_ok hH hs h1 hcs
    exact ⟨imm', S, xs, hx, V⟩
  · cases h

theorem lendTs_ok {H0 : HMap} : ∀ {tms ts : List T} {imm : Imm} {H : HMap} (_ : HOk w imm H L U) (_ : SameA H0 H) {xs : List Value} {us : List T} {ws : List (Nat × Blk)} {ns : List Nat} (_ : lendTs H0 tms ts = some (us, ws, ns)) (_ : TsRep w imm H L U xs ts),
    ∃ imm', Sealed w imm H L U H0 (updH H ws) imm' ∧ TsRep w imm' (updH H ws) L U xs us
  | [], [], imm, H, hH, hs, xs, us, ws, ns, h, hr => by
    simp [lendTs] at h
    obtain ⟨rfl, rfl, rfl⟩ := h
    exact ⟨imm, ⟨hH, Ext.refl _ _ _ _, hs, Step.refl _ _ _, Near.refl _ _ _⟩, hr⟩
  | [], _ :: _, _, _, _, _, _, _, _, _, h, _ => by simp [lendTs] at h
  | _ :: _, [], _, _, _, _, _, _, _, _, h, _ => by simp [lendTs] at h
  | tm :: tms, v :: ts, imm, H, hH, hs, xs, us, ws, ns, h, hr => by
    simp only [lendTs] at h
    split at h
    · rename_i y w1 n1 ys w2 n2 h1 h2
      simp only [Option.some.injEq, Prod.mk.injEq] at h
      obtain ⟨rfl, rfl, rfl⟩ := h
      cases xs with
      | nil => have := hr.1; simp at this
      | cons x xs =>
        obtain ⟨hx, hxs⟩ := hr.cons
        obtain ⟨imm1, S1, V1⟩ := lendT_ok hH hs h1 hx
        have hk1 : ∀ b o, imm b o → imm1 b o ∧ w.cell? ⟨b, o, none⟩ = w.cell? ⟨b, o, none⟩ := fun b o h => ⟨(S1.step.keep b o h).1, rfl⟩
        have hxs' : TsRep w imm1 (updH H w1) L U xs ts := ⟨hxs.1, fun k u z hu hz => (hxs.2 k u z hu hz).mono hk1 S1.ext⟩
        obtain ⟨imm2, S2, V2⟩ := lendTs_ok S1.hok S1.same h2 hxs'
        have hk2 : ∀ b o, imm1 b o → imm2 b o ∧ w.cell? ⟨b, o, none⟩ = w.cell? ⟨b, o, none⟩ := fun b o h => ⟨(S2.step.keep b o h).1, rfl⟩
        refine ⟨imm2, ?_, ?_⟩
        · rw [updH_append]; exact S1.trans S2
        · rw [updH_append]
          refine ⟨by simp [V2.1], fun k u z hu hz => ?_⟩
          cases k with
          | zero => simp at hu hz; subst hu; subst hz; exact V1.mono hk2 S2.ext
          | succ k => exact V2.2 k u z (by simpa using hu) (by simpa using hz)
    · cases h

theorem renN_mem {hs : List Hand} {c : Nat} {h : Hand} (hr : renN hs c = some h) : h ∈ hs ∧ h.c = c := by
  unfold renN at hr
  exact ⟨List.mem_of_find?_eq_some hr, by have := List.find?_some hr; simpa using this⟩

theorem inN_some {hs : List Hand} {c m : Nat} (h : inN hs c = some m) : ∃ hd b, renN hs c = some hd ∧ hd.b = some b ∧ hd.m = m := by
  simp only [inN, Option.bind_eq_some_iff, Option.map_eq_some_iff] at h
  obtain ⟨hd, h1, b, h2, h3⟩ := h
  exact ⟨hd, b, h1, h2, h3⟩

theorem nodup_inj {α : Type} (f : α → Nat) : ∀ (l : List α), (l.map f).Nodup → ∀ x ∈ l, ∀ y ∈ l, f x = f y → x = y
  | [], _, x, hx, _, _, _ => by cases hx
  | a :: l, hn, x, hx, y, hy, e => by
    simp only [List.map_cons, List.nodup_cons] at hn
    rcases List.mem_cons.1 hx with h1 | h1 <;> rcases List.mem_cons.1 hy with h2 | h2
    · rw [h1, h2]
    · exact absurd (List.mem_map.2 ⟨y, h2, by rw [← e, h1]⟩) hn.1
    · exact absurd (List.mem_map.2 ⟨x, h1, by rw [e, h2]⟩) hn.1
    · exact nodup_inj f l hn.2 x h1 y h2 e


def locIn (hs : List Hand) (L : Locs) : Locs := fun c => (renN hs c).bind fun h => L h.m

/-- What is true of a cell at the caller is true of it at the callee. -/
theorem in_C {hs : List Hand} {H1 : HMap} {cc : Nat} (hcc : ∀ v, U v → v < cc) (hin : ∀ h ∈ hs, ∀ b, h.b = some b → ∃ B, renIB hs b = some B ∧ H1 h.m = some B) {x : Value} {c c1 : C} (hc : renI hs c = some c1) (hr : CRep w imm H1 L U x c1) :
    CRep w imm (hinOf hs) (locIn hs L) (· < cc) x c := by
  have hvar : ∀ {c m : Nat} {ver ty cs}, inN hs c = some m → hinOf hs c = some (.var ver ty cs) → ∃ cs', H1 m = some (.var ver ty cs') ∧ locIn hs L c = L m := by
    intro c m ver ty cs hm hB
    obtain ⟨hd, b, h1, h2, rfl⟩ := inN_some hm
    simp only [hinOf, h1, Option.bind_some, h2, Option.some.injEq] at hB
    subst hB
    obtain ⟨B, h3, h4⟩ := hin hd (renN_mem h1).1 _ h2
    simp only [renIB, Option.map_eq_some_iff] at h3
    obtain ⟨cs', _, rfl⟩ := h3
    exact ⟨cs', h4, by simp [locIn, h1]⟩
  have harr : ∀ {c m : Nat} {ver wr st ty es}, inN hs c = some m → hinOf hs c = some (.arr ver wr st ty es) → H1 m = some (.arr ver wr st ty es) ∧ locIn hs L c = L m := by
    intro c m ver wr st ty es hm hB
    obtain ⟨hd, b, h1, h2, rfl⟩ := inN_some hm
    simp only [hinOf, h1, Option.bind_some, h2, Option.some.injEq] at hB
    subst hB
    obtain ⟨B, h3, h4⟩ := hin hd (renN_mem h1).1 _ h2
    simp only [renIB, Option.some.injEq] at h3
    subst h3
    exact ⟨h4, by simp [locIn, h1]⟩
  cases c with
  | v y => simp only [renI, Option.some.injEq] at hc; subst hc; exact hr
  | nil0 => simp only [renI, Option.some.injEq] at hc; subst hc; exact hr
  | vptr xs => simp only [renI, Option.some.injEq] at hc; subst hc; exact hr
  | ow => simp [renI] at hc
  | own c v n =>
    simp only [renI, Option.map_eq_some_iff] at hc
    obtain ⟨m, hm, rfl⟩ := hc
    obtain ⟨v1, v2, v3⟩ := hr
    refine ⟨hcc _ v1, v2, fun wr st ty es hB => ?_⟩
    obtain ⟨e1, e2⟩ := harr hm hB
    rw [e2]
    exact v3 _ _ _ _ e1
  | ptr c v j =>
    simp only [renI, Option.map_eq_some_iff] at hc
    obtain ⟨m, hm, rfl⟩ := hc
    obtain ⟨v1, v2, v3⟩ := hr
    refine ⟨hcc _ v1, v2, fun ty cs hB => ?_⟩
    obtain ⟨cs', e1, e2⟩ := hvar hm hB
    rw [e2]
    exact v3 _ _ e1
  | aptr c v i j =>
    simp only [renI, Option.map_eq_some_iff] at hc
    obtain ⟨m, hm, rfl⟩ := hc
    obtain ⟨v1, v2, v3⟩ := hr
    refine ⟨hcc _ v1, v2, fun wr st ty es hB => ?_⟩
    obtain ⟨e1, e2⟩ := harr hm hB
    rw [e2]
    exact v3 _ _ _ _ e1
  | fn f ps =>
    simp only [renI, Option.map_eq_some_iff] at hc
    obtain ⟨qs, hq, rfl⟩ := hc
    have hcaps : ∀ (ps qs : List (Nat × Nat)), capsI hs ps = some qs → ps.length = qs.length ∧ ∀ (k : Nat) p, ps[k]? = some p → ∃ m, inN hs p.1 = some m ∧ qs[k]? = some (m, p.2) := by
      intro ps
      induction ps with
      | nil => intro qs h; simp [capsI] at h; subst h; exact ⟨rfl, fun k p h => by simp at h⟩
      | cons p ps ih =>
        intro qs h
        obtain ⟨c, v⟩ := p
        simp only [capsI] at h
        split at h
        · rename_i m qs' h1 h2
          cases h
          obtain ⟨i1, i2⟩ := ih _ h2
          refine ⟨by simp [i1], fun k p hp => ?_⟩
          cases k with
          | zero => simp at hp; subst hp; exact ⟨m, h1, rfl⟩
          | succ k => simpa using i2 k p (by simpa using hp)
        · cases h
    obtain ⟨us, q1, q2, q3⟩ := hr
    obtain ⟨e1, e2⟩ := hcaps _ _ hq
    refine ⟨us, q1, by rw [q2, e1], fun k p hp => ?_⟩
    obtain ⟨m, hm, hk⟩ := e2 k p hp
    obtain ⟨u, u1, u2, u3, u4⟩ := q3 k _ hk
    refine ⟨u, u1, hcc _ u2, u3, fun ty cs hB => ?_⟩
    obtain ⟨cs', e3, e4⟩ := hvar hm hB
    rw [e4]
    exact u4 _ _ e3

theorem renIs_at {hs : List Hand} : ∀ {cs ds : List C}, renIs hs cs = some ds → cs.length = ds.length ∧ ∀ (k : Nat) c, cs[k]? = some c → ∃ d, ds[k]? = some d ∧ renI hs c = some d
  | [], ds, h => by simp [renIs] at h; subst h; exact ⟨rfl, fun k c h => by simp at h⟩
  | c :: cs, ds, h => by
    simp only [renIs] at h
    split at h
    · rename_i x xs h1 h2
      cases h
      obtain ⟨i1, i2⟩ := renIs_at h2
      refine ⟨by simp [i1], fun k p hp => ?_⟩
      cases k with
      | zero => simp at hp; subst hp; exact ⟨x, rfl, h1⟩
      | succ k => simpa using i2 k p (by simpa using hp)
    · cases h

theorem in_Cs {hs : List Hand} {H1 : HMap} {cc : Nat} (hcc : ∀ v, U v → v < cc) (hin : ∀ h ∈ hs, ∀ b, h.b = some b → ∃ B, renIB hs b = some B ∧ H1 h.m = some B) {xs : List Value} {cs ds : List C} (hc : renIs hs cs = some ds) (hr : CsRep w imm H1 L U xs ds) :
    CsRep w imm (hinOf hs) (locIn hs L) (· < cc) xs cs := by
  obtain ⟨e1, e2⟩ := renIs_at hc
  refine ⟨by rw [hr.1, e1], fun k x y hx hy => ?_⟩
  obtain ⟨d, h1, h2⟩ := e2 k y hy
  exact in_C hcc hin h2 (hr.2 k x d hx h1)

theorem in_T {hs : List Hand} {H1 : HMap} {cc : Nat} (hcc : ∀ v, U v → v < cc) (hin : ∀ h ∈ hs, ∀ b, h.b = some b → ∃ B, renIB hs b = some B ∧ H1 h.m = some B) {x : Value} {t t1 : T} (hc : renIT hs t = some t1) (hr : TRep w imm H1 L U x t1) :
    TRep w imm (hinOf hs) (locIn hs L) (· < cc) x t := by
  unfold renIT at hc
  split at hc
  · simp only [Option.map_eq_some_iff] at hc
    obtain ⟨d, h1, rfl⟩ := hc
    exact in_C hcc hin h1 hr
  · simp only [Option.map_eq_some_iff] at hc
    obtain ⟨d, h1, rfl⟩ := hc
    obtain ⟨xs, hx, hcs⟩ := hr
    exact ⟨xs, hx, in_Cs hcc hin h1 hcs⟩
  · cases hc

theorem renITs_at {hs : List Hand} : ∀ {cs ds : List T}, renITs hs cs = some ds → cs.length = ds.length ∧ ∀ (k : Nat) c, cs[k]? = some c → ∃ d, ds[k]? = some d ∧ renIT hs c = some d
  | [], ds, h => by simp [renITs] at h; subst h; exact ⟨rfl, fun k c h => by simp at h⟩
  | c :: cs, ds, h => by
    simp only [renITs] at h
    split at h
    · rename_i x xs h1 h2
      cases h
      obtain ⟨i1, i2⟩ := renITs_at h2
      refine ⟨by simp [i1], fun k p hp => ?_⟩
      cases k with
      | zero => simp at hp; subst hp; exact ⟨x, rfl, h1⟩
      | succ k => simpa using i2 k p (by simpa using hp)
    · cases h

/-- What is true of a cell at the callee's end is true of it at the caller. -/
theorem out_C {hs : List Hand} {H2 h' : HMap} {L2 L' : Locs} {U' U2 : Nat → Prop} {nv : Nat} {ν : Nat → Nat} (hout : ∀ c h, renN hs c = some h → h' c = some (verB ν (ν c) h.b')) (hU2 : ∀ h ∈ hs, U2 (verOf nv h))
    (hH2 : ∀ c h, renN hs c = some h → ∃ B, renOB hs nv (verOf nv h) h.b' = some B ∧ H2 h.m = some B) (hL2 : ∀ c h, renN hs c = some h → L2 h.m = L' c) {x : Value} {c c1 : C} (hc : renO hs nv c = some c1) (hr : CRep w imm h' L' U' x (verC ν c)) :
    CRep w imm H2 L2 U2 x c1 := by
  have hvar : ∀ {c : Nat} {h : Hand} {ver ty cs}, renN hs c = some h → H2 h.m = some (.var ver ty cs) → ∃ cs', h' c = some (.var (ν c) ty cs') := by
    intro c h ver ty cs hh hB
    obtain ⟨B, h1, h2⟩ := hH2 c h hh
    rw [hB] at h2; cases h2
    have := hout c h hh
    cases hb : h.b' with
    | var v0 ty0 cs0 =>
      rw [hb] at this h1
      simp only [renOB, Option.map_eq_some_iff] at h1
      obtain ⟨_, _, h3⟩ := h1
      cases h3
      exact ⟨_, this⟩
    | arr v0 wr0 st0 ty0 es0 => rw [hb] at h1; simp [renOB] at h1
  have harr : ∀ {c : Nat} {h : Hand} {ver wr st ty es}, renN hs c = some h → H2 h.m = some (.arr ver wr st ty es) → h' c = some (.arr (ν c) wr st ty es) := by
    intro c h ver wr st ty es hh hB
    obtain ⟨B, h1, h2⟩ := hH2 c h hh
    rw [hB] at h2; cases h2
    have := hout c h hh
    cases hb : h.b' with
    | var v0 ty0 cs0 =>
      rw [hb] at h1
      simp only [renOB, Option.map_eq_some_iff] at h1
      obtain ⟨_, _, h3⟩ := h1
      cases h3
    | arr v0 wr0 st0 ty0 es0 =>
      rw [hb] at h1 this
      simp only [renOB, Option.some.injEq] at h1
      cases h1
      exact this
  cases c with
  | v y => simp only [renO, Option.some.injEq] at hc; subst hc; exact hr
  | nil0 => simp only [renO, Option.some.injEq] at hc; subst hc; exact hr
  | vptr xs => simp only [renO, Option.some.injEq] at hc; subst hc; exact hr
  | ow => simp [renO] at hc
  | fn f ps =>
    cases ps with
    | nil => simp only [renO, Option.some.injEq] at hc; subst hc; obtain ⟨qs, q1, q2, q3⟩ := hr; exact ⟨qs, q1, q2, fun k p hp => by simp at hp⟩
    | cons p ps => simp [renO] at hc
  | own c v n =>
    simp only [renO, Option.map_eq_some_iff] at hc
    obtain ⟨h, hh, rfl⟩ := hc
    obtain ⟨v1, v2, v3⟩ := hr
    refine ⟨hU2 h (renN_mem hh).1, v2, fun wr st ty es hB => ?_⟩
    rw [hL2 c h hh]
    exact v3 _ _ _ _ (harr hh hB)
  | ptr c v j =>
    simp only [renO, Option.map_eq_some_iff] at hc
    obtain ⟨h, hh, rfl⟩ := hc
    obtain ⟨v1, v2, v3⟩ := hr
    refine ⟨hU2 h (renN_mem hh).1, v2, fun ty cs hB => ?_⟩
    rw [hL2 c h hh]
    obtain ⟨cs', e⟩ := hvar hh hB
    exact v3 _ _ e
  | aptr c v i j =>
    simp only [renO, Option.map_eq_some_iff] at hc
    obtain ⟨h, hh, rfl⟩ := hc
    obtain ⟨v1, v2, v3⟩ := hr
    refine ⟨hU2 h (renN_mem hh).1, v2, fun wr st ty es hB => ?_⟩
    rw [hL2 c h hh]
    exact v3 _ _ _ _ (harr hh hB)

theorem renOs_at {hs : List Hand} {nv : Nat} : ∀ {cs ds : List C}, renOs hs nv cs = some ds → cs.length = ds.length ∧ ∀ (k : Nat) d, ds[k]? = some d → ∃ c, cs[k]? = some c ∧ renO hs nv c = some d
  | [], ds, h => by simp [renOs] at h; subst h; exact ⟨rfl, fun k c h => by simp at h⟩
  | c :: cs, ds, h => by
    simp only [renOs] at h
    split at h
    · rename_i x xs h1 h2
      cases h
      obtain ⟨i1, i2⟩ := renOs_at h2
      refine ⟨by simp [i1], fun k p hp => ?_⟩
      cases k with
      | zero => simp at hp; subst hp; exact ⟨c, rfl, h1⟩
      | succ k => simpa using i2 k p (by simpa using hp)
    · cases h

theorem renOPs_at {hs : List Hand} {nv : Nat} : ∀ {cs ds : List P1}, renOPs hs nv cs = some ds → cs.length = ds.length ∧ ∀ (k : Nat) d, ds[k]? = some d → ∃ c, cs[k]? = some c ∧ renOP hs nv c = some d
  | [], ds, h => by simp [renOPs] at h; subst h; exact ⟨rfl, fun k c h => by simp at h⟩
  | c :: cs, ds, h => by
    simp only [renOPs] at h
    split at h
    · rename_i x xs h1 h2
      cases h
      obtain ⟨i1, i2⟩ := renOPs_at h2
      refine ⟨by simp [i1], fun k p hp => ?_⟩
      cases k with
      | zero => simp at hp; subst hp; exact ⟨c, rfl, h1⟩
      | succ k => simpa using i2 k p (by simpa using hp)
    · cases h

theorem renOBs_ok {hs : List Hand} {nv : Nat} : ∀ {l : List Hand} {ob : List (Nat × Blk)}, renOBs hs nv l = some ob → (l.map (·.m)).Nodup → (∀ p ∈ ob, ∃ h ∈ l, h.m = p.1) ∧ ∀ (H : HMap), ∀ h ∈ l, ∃ B, renOB hs nv (verOf nv h) h.b' = some B ∧ updH H ob h.m = some B
  | [], ob, h, _ => by simp [renOBs] at h; subst h; exact ⟨fun p hp => (by cases hp), fun _ h hm => (by cases hm)⟩
  | x :: l, ob, h, hn => by
    simp only [renOBs] at h
    split at h
    · rename_i B bs h1 h2
      cases h
      simp only [List.map_cons, List.nodup_cons] at hn
      obtain ⟨i1, i2⟩ := renOBs_ok h2 hn.2
      refine ⟨fun p hp => ?_, fun H h hm => ?_⟩
      · rcases List.mem_cons.1 hp with rfl | hp
        · exact ⟨x, by simp, rfl⟩
        · obtain ⟨h, h3, h4⟩ := i1 p hp; exact ⟨h, by simp [h3], h4⟩
      · rcases List.mem_cons.1 hm with rfl | hm
        · refine ⟨B, h1, ?_⟩
          simp only [updH]
          rw [updH_ne _ _ _ fun p hp e => ?_, upd_same]
          obtain ⟨h', h3, h4⟩ := i1 p hp
          exact hn.1 (List.mem_map.2 ⟨h', h3, h4.trans e⟩)
        · exact i2 _ h hm
    · cases h

theorem find_m {hs : List Hand} (hn : (hs.map (·.m)).Nodup) {h : Hand} (hm : h ∈ hs) : hs.find? (·.m == h.m) = some h := by
  cases hf : hs.find? (·.m == h.m) with
  | none => have := List.find?_eq_none.1 hf h hm; simp at this
  | some h2 =>
    have h3 := List.mem_of_find?_eq_some hf
    have h4 := List.find?_some hf
    simp only [beq_iff_eq] at h4
    rw [nodup_inj (·.m) hs hn h2 h3 h hm h4]

theorem find_c {hs : List Hand} (hn : (hs.map (·.c)).Nodup) {h : Hand} (hm : h ∈ hs) : renN hs h.c = some h := by
  cases hf : renN hs h.c with
  | none => unfold renN at hf; have := List.find?_eq_none.1 hf h hm; simp at this
  | some h2 =>
    obtain ⟨h3, h4⟩ := renN_mem hf
    rw [nodup_inj (·.c) hs hn h2 h3 h hm h4]

theorem out_T {hs : List Hand} {H2 h' : HMap} {L2 L' : Locs} {U' U2 : Nat → Prop} {nv : Nat} {ν : Nat → Nat} (hout : ∀ c h, renN hs c = some h → h' c = some (verB ν (ν c) h.b')) (hU2 : ∀ h ∈ hs, U2 (verOf nv h))
    (hH2 : ∀ c h, renN hs c = some h → ∃ B, renOB hs nv (verOf nv h) h.b' = some B ∧ H2 h.m = some B) (hL2 : ∀ c h, renN hs c = some h → L2 h.m = L' c) {x : Value} {t t1 : T} (hc : renOT hs nv t = some t1) (hr : TRep w imm h' L' U' x (verT ν t)) :
    TRep w imm H2 L2 U2 x t1 := by
  have hCs : ∀ {xs : List Value} {cs ds : List C}, renOs hs nv cs = some ds → CsRep w imm h' L' U' xs (cs.map (verC ν)) → CsRep w imm H2 L2 U2 xs ds := by
    intro xs cs ds h1 h2
    obtain ⟨e1, e2⟩ := renOs_at h1
    refine ⟨by rw [h2.1]; simpa using e1, fun k x d hx hd => ?_⟩
    obtain ⟨c, hc, hcd⟩ := e2 k d hd
    exact out_C hout hU2 hH2 hL2 hcd (h2.2 k x (verC ν c) hx (by simp [hc]))
  have hP : ∀ {x : Value} {p q : P1}, renOP hs nv p = some q → PRep w imm h' L' U' x (verP ν p) → PRep w imm H2 L2 U2 x q := by
    intro x p q h1 h2
    cases p with
    | one c =>
      simp only [renOP, Option.map_eq_some_iff] at h1
      obtain ⟨d, h3, rfl⟩ := h1
      exact out_C hout hU2 hH2 hL2 h3 h2
    | agg cs =>
      simp only [renOP, Option.map_eq_some_iff] at h1
      obtain ⟨d, h3, rfl⟩ := h1
      obtain ⟨xs, hx, hcs⟩ := h2
      exact ⟨xs, hx, hCs h3 hcs⟩
  cases t with
  | pt p =>
    simp only [renOT, Option.map_eq_some_iff] at hc
    obtain ⟨q, h1, rfl⟩ := hc
    exact hP h1 hr
  | tup ps =>
    simp only [renOT, Option.map_eq_some_iff] at hc
    obtain ⟨qs, h1, rfl⟩ := hc
    obtain ⟨xs, hx, hl, hps⟩ := hr
    obtain ⟨e1, e2⟩ := renOPs_at h1
    refine ⟨xs, hx, by rw [hl]; simpa using e1, fun k u y hu hy => ?_⟩
    obtain ⟨c, hc, hcd⟩ := e2 k y hy
    exact hP hcd (hps k u (verP ν c) hu (by simp [hc]))
  | undef => simp [renOT] at hc
  | junk => simp [renOT] at hc

theorem updH_more : ∀ (ws : List (Nat × Blk)) {H H' : HMap}, (∀ n, H n ≠ none → H' n ≠ none) → ∀ {n}, updH H ws n ≠ none → updH H' ws n ≠ none
  | [], _, _, h, n => h n
  | (m, b) :: ws, H, H', h, n => updH_more ws (H := upd H m (some b)) (H' := upd H' m (some b)) (fun k hk => by
      by_cases e : k = m
      · subst e; simp [upd]
      · rw [upd_ne _ _ e] at hk ⊢; exact h k hk)
theorem updH_keep : ∀ (ws : List (Nat × Blk)) {H : HMap} {n : Nat}, H n ≠ none → updH H ws n ≠ none
  | [], _, _, h => h
  | (m, b) :: ws, H, n, h => updH_keep ws (H := upd H m (some b)) (by
      by_cases e : n = m
      · subst e; simp [upd]
      · rw [upd_ne _ _ e]; exact h)
theorem flatC_ver (ν : Nat → Nat) (c : C) : flatC (verC ν c) = flatC c := by cases c <;> rfl
theorem flatT_ver (ν : Nat → Nat) (r : T) : flatT (verT ν r) = flatT r := by
  have hP : ∀ p, flatP (verP ν p) = flatP p := by
    intro p
    cases p with
    | one c => exact flatC_ver ν c
    | agg cs => simp [verP, flatP, flatC_ver, Function.comp_def]
  cases r with
  | pt p => exact hP p
  | tup ps => simp [verT, flatT, hP, Function.comp_def]
  | undef => rfl
  | junk => rfl

theorem call_sound0 (c : Call) (f : Operand) (f' : Opd) (args' : List Opd) (hc : c.callee = .value f) (hf : cOpd f = some f') (hargs : cOpds c.args.toList = some args') (ho : o.op = .call c) {σ : St} {nv : Nat} {e : Ef} (he : CallEff0 P f' args' nv σ e)
    (hH : HOk w imm σ.H L U) (hU : ∃ cc, ∀ v, U v → v < cc) (hnv : ¬ U nv) (hT : ∀ i, TRep w imm σ.H L U (a.tmps.getD i undef) (σ.t i)) {next : Act → World → Prop} {Q : Exit → Act → World → Prop}
    (K : ∀ x w' imm' L', Goes w imm σ.H L U (updH σ.H e.ws) (with_ U nv) e.val x w' imm' L' → next (a.put o.dst x) w') : o.wp P a w next Q := by
  obtain ⟨fid, caps, as, ws, ns, hs, argsC, r, r2, ob, hfv, hlend, has, hin0, hok2, hok3, ⟨hfn, hcall⟩, hrr, hob, rfl⟩ := he
  obtain ⟨cc, hcc⟩ := hU
  have h1 := cOpd_ok hT hf
  rw [hfv] at h1
  obtain ⟨ps, hfe, hpl, hpr⟩ := (show CRep w imm σ.H L U (a.eval f) (.fn fid caps) from h1)
  have h2 := cOpds_ok hT hargs
  -- the arguments, with what was captured
  have hvals : TsRep w imm σ.H L U (c.args.toList.map a.eval ++ ps) (args'.map (ev σ.t) ++ caps.map capT) := by
    refine ⟨by have := h2.1; simp at this; simp [this, hpl], fun k x y hx hy => ?_⟩
    have hl := h2.1
    rcases Nat.lt_or_ge k (args'.map (ev σ.t)).length with hk | hk
    · rw [List.getElem?_append_left (by omega)] at hx hy
      exact h2.2 k x y hx hy
    · rw [List.getElem?_append_right (by omega)] at hx hy
      rw [hl] at hx
      rw [List.getElem?_map, Option.map_eq_some_iff] at hy
      obtain ⟨p, hp, rfl⟩ := hy
      obtain ⟨u, hu1, hu2⟩ := hpr _ p hp
      rw [hu1] at hx; cases hx
      exact hu2
  obtain ⟨imm1, S, hVs⟩ := lendTs_ok hH (fun _ _ wr _ _ _ h => ⟨wr, h⟩) hlend hvals
  have hin := handsIn_mem hin0
  let L1 : Locs := locIn hs L
  have hinv : ∀ c B, hinOf hs c = some B → ∃ h, renN hs c = some h ∧ h ∈ hs ∧ h.b = some B ∧ L1 c = L h.m ∧ updH σ.H ws h.m ≠ none := by
    intro c B hB
    simp only [hinOf, Option.bind_eq_some_iff] at hB
    obtain ⟨h, hr, hb⟩ := hB
    obtain ⟨B', h1, h2⟩ := hin h (renN_mem hr).1 _ hb
    exact ⟨h, hr, (renN_mem hr).1, hb, by simp [L1, locIn, hr], by simp [h2]⟩
  have hHin : HOk w imm1 (hinOf hs) L1 (· < cc) := by
    refine ⟨fun c B hB => ?_, fun c c' g hc hc' hg hg' => ?_, S.hok.glob, S.hok.imm⟩
    · obtain ⟨h, hr, hm, hb, hL, _⟩ := hinv c B hB
      obtain ⟨B', h1, h2⟩ := hin h hm _ hb
      have hq := S.hok.blk h.m _ h2
      cases B with
      | var ver ty cs =>
        simp only [renIB, Option.map_eq_some_iff] at h1
        obtain ⟨ds, h3, rfl⟩ := h1
        obtain ⟨b1, g, cur, b2, b3, b4, b5⟩ := hq
        exact ⟨hcc _ b1, g, cur, by rw [hL]; exact b2, b3, in_Cs hcc hin h3 b4, b5⟩
      | arr ver wr st ty es =>
        simp only [renIB, Option.some.injEq] at h1
        subst h1
        obtain ⟨b1, b2, b3, b4⟩ := hq
        exact ⟨hcc _ b1, b2, b3, by rw [hL]; exact b4⟩
    · cases hB : hinOf hs c with
      | none => exact absurd hB hc
      | some B =>
        cases hB' : hinOf hs c' with
        | none => exact absurd hB' hc'
        | some B' =>
          obtain ⟨h, hr, hm, _, e1, e2⟩ := hinv c B hB
          obtain ⟨h', hr', hm', _, e1', e2'⟩ := hinv c' B' hB'
          rw [e1] at hg
          rw [e1'] at hg'
          have e3 : h.m = h'.m := S.hok.inj _ _ g e2 e2' hg hg'
          have e4 : h = h' := nodup_inj (·.m) hs hok2 h hm h' hm' e3
          rw [← (renN_mem hr).2, ← (renN_mem hr').2, e4]
  have hargsC : TsRep w imm1 (hinOf hs) L1 (· < cc) (c.args.toList.map a.eval ++ ps) argsC := by
    obtain ⟨e1, e2⟩ := renITs_at has
    refine ⟨by rw [hVs.1, e1], fun k x y hx hy => ?_⟩
    obtain ⟨d, h3, h4⟩ := e2 k y hy
    exact in_T hcc hin h4 (hVs.2 k x d hx h3)
  have hC := hcall w imm1 L1 cc _ hHin hargsC
  -- the call itself
  obtain ⟨fn, hfn1, hfn2, hfn3⟩ : ∃ fn, P.funcs[fid]? = some fn ∧ (fn.name == "runtime.NumGoroutine") = false ∧ fn.body.isNone = false := by
    unfold isFn at hfn
    split at hfn
    · rename_i fn hq
      simp at hfn
      exact ⟨fn, hq, by simpa using hfn.1, by cases hb : fn.body <;> simp_all⟩
    · cases hfn
  have hexec : (execOp a.eval o).run P w = .ok (.enter fid (c.args.toList.map a.eval ++ ps).toArray) w := by
    have e1 : (c.args.map a.eval) ++ ps.toArray = (c.args.toList.map a.eval ++ ps).toArray := by
      apply Array.toList_inj.1; simp
    rw [← e1]
    have e2 : (callFunc fid (c.args.map a.eval ++ ps.toArray)).run P w = .ok (.enter fid (c.args.map a.eval ++ ps.toArray)) w := by
      unfold callFunc
      simp only [Sem.run_bind, run_program, Result.andThen_ok, hfn1, hfn2, hfn3, Bool.false_eq_true, if_false, Sem.run_pure]
    simp only [execOp, ho, resolve, hc, hfe, Deferred.ofValue, Sem.run_bind, Sem.run_pure, Result.andThen_ok, invoke, Array.empty_append]
    exact e2
  unfold Oper.wp
  rw [hexec, Oper.upon_enter]
  refine hC.mono ?_
  rintro e2 w2 ⟨x, r', h', imm', L', c', rfl, ⟨ν, rfl, hout0⟩, hx, hHo, hStep, hNear, hExt⟩
  have hout : ∀ c h, renN hs c = some h → h' c = some (verB ν (ν c) h.b') := fun c h hr => (hout0 c h hr).1
  have hfoot : ∀ b, foot (hinOf hs) L1 b → ∃ h ∈ hs, L h.m = some b ∧ updH σ.H ws h.m ≠ none := by
    rintro b ⟨c, hc1, hc2⟩
    cases hB : hinOf hs c with
    | none => exact absurd hB hc1
    | some B =>
      obtain ⟨h, hr, hm, _, e1, e2⟩ := hinv c B hB
      rw [e1] at hc2
      exact ⟨h, hm, hc2, e2⟩
  let L2 : Locs := fun n => match hs.find? (·.m == n) with
    | some h => L' h.c
    | none => L n
  have hSext := S.ext
  have hSstep := S.step
  have hSnear := S.near
  have hSok := S.hok
  have hsub : ∀ n, updH σ.H ob n ≠ none → updH (updH σ.H ws) ob n ≠ none := fun n => updH_more ob fun n h => updH_keep ws h
  have hsame : ∀ h ∈ hs, updH σ.H ob h.m = updH (updH σ.H ws) ob h.m := fun h hm => by
    obtain ⟨B, b1, b2⟩ := (renOBs_ok hob hok2).2 σ.H h hm
    obtain ⟨B', b3, b4⟩ := (renOBs_ok hob hok2).2 (updH σ.H ws) h hm
    rw [b1] at b3; cases b3
    rw [b2, b4]
  have hnot0 : ∀ n, (∀ h ∈ hs, h.m ≠ n) → updH σ.H ob n = σ.H n := fun n hn => updH_ne _ _ _ fun p hp e => by
    obtain ⟨h, hm, hq⟩ := (renOBs_ok hob hok2).1 p hp
    exact hn h hm (hq.trans e)
  have hmore : ∀ n, σ.H n ≠ none → updH σ.H ws n ≠ none := fun n h => updH_keep ws h
  generalize hH1 : updH σ.H ws = H1 at *
  obtain ⟨hob1, hob2⟩ := renOBs_ok hob hok2
  have hat := hob2 H1
  have hnot : ∀ n, (∀ h ∈ hs, h.m ≠ n) → updH H1 ob n = H1 n := fun n hn => updH_ne _ _ _ fun p hp e => by
    obtain ⟨h, hm, hq⟩ := hob1 p hp
    exact hn h hm (hq.trans e)
  have hL2at : ∀ h ∈ hs, L2 h.m = L' h.c := fun h hm => by simp [L2, find_m hok2 hm]
  have hL2not : ∀ n, (∀ h ∈ hs, h.m ≠ n) → L2 n = L n := fun n hn => by
    have : hs.find? (·.m == n) = none := List.find?_eq_none.2 fun h hm => by simpa using hn h hm
    simp [L2, this]
  have hcase : ∀ n, (∃ h ∈ hs, h.m = n) ∨ (∀ h ∈ hs, h.m ≠ n) := fun n => by
    by_cases hq : ∃ h ∈ hs, h.m = n
    · exact .inl hq
    · exact .inr fun h hm e => hq ⟨h, hm, e⟩
  have hframe : ∀ n g, (∀ h ∈ hs, h.m ≠ n) → H1 n ≠ none → L n = some g → w2.heap[g]? = w.heap[g]? := by
    intro n g hn hn1 hg
    refine hStep.frame g (hSok.lt hn1 hg) fun hf => ?_
    obtain ⟨h, hm, hLm, hne⟩ := hfoot g hf
    exact hn h hm (hSok.inj _ _ g hne hn1 hLm hg)
  have himm : ∀ n g o, (∀ h ∈ hs, h.m ≠ n) → H1 n ≠ none → L n = some g → imm' g o → imm1 g o := by
    intro n g o hn hn1 hg ho
    rcases hStep.grew g o ho with h | h | h
    · exact h
    · exact absurd (hSok.lt hn1 hg) (by omega)
    · obtain ⟨h, hm, hLm, hne⟩ := hfoot g h
      exact absurd (hSok.inj _ _ g hne hn1 hLm hg) (hn h hm)
  have hkeep : ∀ h ∈ hs, U (verOf nv h) → verOf nv h = ν h.c ∧ ν h.c < cc := by
    intro h hm hu
    have hr := find_c hok3 hm
    unfold verOf at hu ⊢
    cases hk : h.keep with
    | false => rw [hk] at hu; exact absurd hu hnv
    | true =>
      rw [hk] at hu
      obtain ⟨b, hb, hv⟩ := (hout0 h.c h hr).2 hk
      rw [hb] at hu ⊢
      exact ⟨hv.symm, by rw [hv]; exact hcc _ hu⟩
  have hvers : ∀ h ∈ hs, with_ U nv (verOf nv h) := by
    intro h hm
    unfold verOf
    cases hk : h.keep with
    | false => exact .inr rfl
    | true =>
      obtain ⟨b, hb, hv⟩ := (hout0 h.c h (find_c hok3 hm)).2 hk
      rw [hb]
      obtain ⟨B, h1, h2⟩ := hin h hm b hb
      have hq := hSok.blk h.m _ h2
      cases b with
      | var ver ty cs =>
        simp only [renIB, Option.map_eq_some_iff] at h1
        obtain ⟨ds, h3, rfl⟩ := h1
        exact .inl hq.1
      | arr ver wr st ty es =>
        simp only [renIB, Option.some.injEq] at h1
        subst h1
        exact .inl hq.1
  have hH2 : ∀ c h, renN hs c = some h → ∃ B, renOB hs nv (verOf nv h) h.b' = some B ∧ updH H1 ob h.m = some B := fun c h hr => hat h (renN_mem hr).1
  have hL2c : ∀ c h, renN hs c = some h → L2 h.m = L' c := fun c h hr => by rw [hL2at h (renN_mem hr).1, (renN_mem hr).2]
  have hblkv : ∀ h ∈ hs, ∀ {ver ty cs}, updH H1 ob h.m = some (.var ver ty cs) → ver = verOf nv h ∧ ∃ cs0, renOs hs nv cs0 = some cs ∧ h' h.c = some (.var (ν h.c) ty (cs0.map (verC ν))) := by
    intro h hm ver ty cs hB
    obtain ⟨B, h1, h2⟩ := hat h hm
    rw [hB] at h2; cases h2
    have ho := hout h.c h (find_c hok3 hm)
    cases hb : h.b' with
    | var v0 ty0 cs0 =>
      rw [hb] at h1 ho
      simp only [renOB, Option.map_eq_some_iff] at h1
      obtain ⟨ds, h3, h4⟩ := h1
      cases h4
      exact ⟨rfl, cs0, h3, ho⟩
    | arr v0 wr0 st0 ty0 es0 => rw [hb] at h1; simp [renOB] at h1
  have hblka : ∀ h ∈ hs, ∀ {ver wr st ty es}, updH H1 ob h.m = some (.arr ver wr st ty es) → ver = verOf nv h ∧ h' h.c = some (.arr (ν h.c) wr st ty es) := by
    intro h hm ver wr st ty es hB
    obtain ⟨B, h1, h2⟩ := hat h hm
    rw [hB] at h2; cases h2
    have ho := hout h.c h (find_c hok3 hm)
    cases hb : h.b' with
    | var v0 ty0 cs0 =>
      rw [hb] at h1
      simp only [renOB, Option.map_eq_some_iff] at h1
      obtain ⟨_, _, h4⟩ := h1
      cases h4
    | arr v0 wr0 st0 ty0 es0 =>
      rw [hb] at h1 ho
      simp only [renOB, Option.some.injEq] at h1
      cases h1
      exact ⟨rfl, ho⟩
  have hext : Ext w H1 L U w2 (updH H1 ob) L2 (with_ U nv) := by
    refine ⟨fun _ h => .inl h, fun n v ty cs hu hn => ?_, fun n v wr st ty es hu hn => ?_, fun n v wr st ty es g cur hu hn hg hh => ?_⟩
    · rcases hcase n with ⟨h, hm, rfl⟩ | hq
      · obtain ⟨rfl, cs0, _, h4⟩ := hblkv h hm hn
        obtain ⟨e1, e2⟩ := hkeep h hm hu
        obtain ⟨ty', cs', h5, h6⟩ := hExt.var h.c (ν h.c) ty _ e2 h4
        obtain ⟨h9, hr9, hm9, hb9, hL9, _⟩ := hinv _ _ h5
        have : h9 = h := by
          have := find_c hok3 hm
          rw [hr9] at this; cases this; rfl
        subst this
        obtain ⟨B, h7, h8⟩ := hin h9 hm _ hb9
        simp only [renIB, Option.map_eq_some_iff] at h7
        obtain ⟨ds, h10, rfl⟩ := h7
        exact ⟨ty', ds, by rw [e1]; exact h8, by rw [hL2at h9 hm, h6, hL9]⟩
      · rw [hnot n hq] at hn; exact ⟨ty, cs, hn, hL2not n hq⟩
    · rcases hcase n with ⟨h, hm, rfl⟩ | hq
      · obtain ⟨rfl, h4⟩ := hblka h hm hn
        obtain ⟨e1, e2⟩ := hkeep h hm hu
        obtain ⟨wr', es', h5, h6, h7⟩ := hExt.arr h.c (ν h.c) wr st ty es e2 h4
        obtain ⟨h9, hr9, hm9, hb9, hL9, _⟩ := hinv _ _ h5
        have : h9 = h := by
          have := find_c hok3 hm
          rw [hr9] at this; cases this; rfl
        subst this
        obtain ⟨B, h10, h8⟩ := hin h9 hm _ hb9
        simp only [renIB, Option.some.injEq] at h10
        subst h10
        exact ⟨wr', es', by rw [e1]; exact h8, h6, by rw [hL2at h9 hm, h7, hL9]⟩
      · rw [hnot n hq] at hn; exact ⟨wr, es, hn, Nat.le_refl _, hL2not n hq⟩
    · rcases hcase n with ⟨h, hm, rfl⟩ | hq
      · obtain ⟨rfl, h4⟩ := hblka h hm hn
        obtain ⟨e1, e2⟩ := hkeep h hm hu
        rw [hL2at h hm] at hg
        exact hExt.cells h.c (ν h.c) wr st ty es g cur e2 h4 hg hh
      · rw [hnot n hq] at hn
        rw [hL2not n hq] at hg
        exact ⟨cur, by rw [hframe n g hq (by simp [hn]) hg]; exact hh, rfl⟩
  have hnear3 : ∀ h ∈ hs, ∀ g, L' h.c = some g → (∃ h2 ∈ hs, L h2.m = some g ∧ H1 h2.m ≠ none) ∨ w.heap.size ≤ g := by
    intro h hm g hg
    rcases hNear h.c g (by rw [hout h.c h (find_c hok3 hm)]; simp) hg with hq | hq
    · exact .inl (hfoot g hq)
    · exact .inr hq
  have hok : HOk w2 imm' (updH H1 ob) L2 (with_ U nv) := by
    refine ⟨fun n B hB => ?_, fun n m g hn hm hg hg' => ?_, hHo.glob, hHo.imm⟩
    · rcases hcase n with ⟨h, hm, rfl⟩ | hq
      · cases B with
        | var ver ty cs =>
          obtain ⟨rfl, cs0, h3, h4⟩ := hblkv h hm hB
          obtain ⟨_, g, cur, c2, c3, c4, c5⟩ := hHo.blk h.c _ h4
          refine ⟨hvers h hm, g, cur, by rw [hL2at h hm]; exact c2, c3, ?_, c5⟩
          obtain ⟨e1, e2⟩ := renOs_at h3
          refine ⟨by rw [c4.1]; simpa using e1, fun k x d hx hd => ?_⟩
          obtain ⟨c, hc, hcd⟩ := e2 k d hd
          exact out_C hout hvers hH2 hL2c hcd (c4.2 k x (verC ν c) hx (by simp [hc]))
        | arr ver wr st ty es =>
          obtain ⟨rfl, h4⟩ := hblka h hm hB
          obtain ⟨_, c2, c3, c4⟩ := hHo.blk h.c _ h4
          exact ⟨hvers h hm, c2, c3, by rw [hL2at h hm]; exact c4⟩
      · rw [hnot n hq] at hB
        have hb := hSok.blk n B hB
        cases B with
        | var v ty cs =>
          obtain ⟨h1, g, cur, hg, hh, hcs, hi⟩ := hb
          exact ⟨.inl h1, g, cur, by rw [hL2not n hq]; exact hg, by rw [hframe n g hq (by simp [hB]) hg]; exact hh, hcs.mono hStep.keep hext, fun o ho => hi o (himm n g o hq (by simp [hB]) hg ho)⟩
        | arr v wr st ty es =>
          obtain ⟨h1, h2, h3, hq2⟩ := hb
          refine ⟨.inl h1, h2, h3, ?_⟩
          rcases hq2 with hq2 | ⟨g, cur, hg, hh, hle, hcs, hi⟩
          · exact .inl (by rw [hL2not n hq]; exact hq2)
          · exact .inr ⟨g, cur, by rw [hL2not n hq]; exact hg, by rw [hframe n g hq (by simp [hB]) hg]; exact hh, hle, fun i e hi => (hcs i e hi).mono hStep.keep, fun o ho => hi o (himm n g o hq (by simp [hB]) hg ho)⟩
    · have hmix : ∀ h ∈ hs, ∀ n, (∀ h ∈ hs, h.m ≠ n) → H1 n ≠ none → L n = some g → L' h.c = some g → False := by
        intro h hm n hq hn hg hg'
        rcases hnear3 h hm g hg' with ⟨h2, hm2, h3, h4⟩ | h3
        · exact hq h2 hm2 (hSok.inj _ _ g h4 hn h3 hg)
        · exact absurd (hSok.lt hn hg) (by omega)
      rcases hcase n with ⟨h, hm1, rfl⟩ | hq <;> rcases hcase m with ⟨h2, hm2, rfl⟩ | hq2
      · rw [hL2at h hm1] at hg
        rw [hL2at h2 hm2] at hg'
        have e1 := hHo.inj h.c h2.c g (by rw [hout h.c h (find_c hok3 hm1)]; simp) (by rw [hout h2.c h2 (find_c hok3 hm2)]; simp) hg hg'
        rw [nodup_inj (·.c) hs hok3 h hm1 h2 hm2 e1]
      · rw [hL2at h hm1] at hg
        rw [hL2not m hq2] at hg'
        rw [hnot m hq2] at hm
        exact (hmix h hm1 m hq2 hm hg' hg).elim
      · rw [hL2at h2 hm2] at hg'
        rw [hL2not n hq] at hg
        rw [hnot n hq] at hn
        exact (hmix h2 hm2 n hq hn hg hg').elim
      · rw [hL2not n hq] at hg
        rw [hL2not m hq2] at hg'
        rw [hnot n hq] at hn
        rw [hnot m hq2] at hm
        exact hSok.inj n m g hn hm hg hg'
  have hstep2 : Step w imm1 (foot H1 L) w2 imm' := ⟨hStep.os, hStep.tape, hStep.output, hStep.size,
    fun b hb hf => hStep.frame b hb fun hf2 => (by obtain ⟨h, hm, hL, hne⟩ := hfoot b hf2; exact hf ⟨h.m, hne, hL⟩), hStep.keep,
    fun b o h => (by
      rcases hStep.grew b o h with h | h | h
      · exact .inl h
      · exact .inr (.inl h)
      · obtain ⟨h, hm, hL, hne⟩ := hfoot b h; exact .inr (.inr ⟨h.m, hne, hL⟩))⟩
  have hnear2 : Near w (foot H1 L) (updH H1 ob) L2 := fun n g hn hg => by
    rcases hcase n with ⟨h, hm, rfl⟩ | hq
    · rw [hL2at h hm] at hg
      rcases hnear3 h hm g hg with ⟨h2, hm2, h3, h4⟩ | h3
      · exact .inl ⟨h2.m, h4, h3⟩
      · exact .inr h3
    · rw [hL2not n hq] at hg
      rw [hnot n hq] at hn
      exact .inl ⟨n, hn, hg⟩
  obtain ⟨s1, s2⟩ := Step.trans hSstep hSnear hstep2 hnear2
  by_cases hsc : quiet r hs = true
  · simp only [hsc, if_true, List.nil_append] at K
    simp only [quiet, Bool.and_eq_true, List.all_eq_true] at hsc
    obtain ⟨hfr, hfh⟩ := hsc
    have hk : ∀ b o, imm b o → imm b o ∧ w2.cell? ⟨b, o, none⟩ = w.cell? ⟨b, o, none⟩ := fun b o h => ⟨h, (s1.keep b o h).2⟩
    have hx2 : TRep w2 imm h' L' (· < c') x (verT ν r) := hx.flat (by rw [flatT_ver]; exact hfr)
    have hH3 : ∀ c h, renN hs c = some h → ∃ B, renOB hs nv (verOf nv h) h.b' = some B ∧ updH σ.H ob h.m = some B := fun c h hr => by
      obtain ⟨B, b1, b2⟩ := hH2 c h hr
      exact ⟨B, b1, by rw [hsame h (renN_mem hr).1]; exact b2⟩
    have hext1 := hSext.trans hext
    have hext2 : Ext w σ.H L U w2 (updH σ.H ob) L2 (with_ U nv) := by
      refine ⟨fun _ h => .inl h, fun n v ty cs hu hn => ?_, fun n v wr st ty es hu hn => ?_, fun n v wr st ty es g cur hu hn hg hh => ?_⟩
      · rcases hcase n with ⟨h, hm, rfl⟩ | hq
        · rw [hsame h hm] at hn; exact hext1.var _ _ _ _ hu hn
        · rw [hnot0 n hq] at hn; exact ⟨ty, cs, hn, hL2not n hq⟩
      · rcases hcase n with ⟨h, hm, rfl⟩ | hq
        · rw [hsame h hm] at hn; exact hext1.arr _ _ _ _ _ _ hu hn
        · rw [hnot0 n hq] at hn; exact ⟨wr, es, hn, Nat.le_refl _, hL2not n hq⟩
      · rcases hcase n with ⟨h, hm, rfl⟩ | hq
        · rw [hsame h hm] at hn; exact hext1.cells _ _ _ _ _ _ _ _ hu hn hg hh
        · rw [hnot0 n hq] at hn
          rw [hL2not n hq] at hg
          exact ⟨cur, by rw [hframe n g hq (hmore n (by simp [hn])) hg]; exact hh, rfl⟩
    refine K x w2 imm L2 ⟨out_T hout hvers hH3 hL2c hrr hx2, ⟨fun n B hB => ?_, fun n m g hn hm hg hg' => hok.inj n m g (hsub n hn) (hsub m hm) hg hg', hH.glob.keep hk, fun b o h => Nat.lt_of_lt_of_le (hH.imm b o h) s1.size⟩, hext2, ⟨s1.os, s1.tape, s1.output, s1.size, s1.frame, hk, fun b o h => .inl h⟩, fun n g hn hg => s2 n g (hsub n hn) hg⟩
    rcases hcase n with ⟨h, hm, rfl⟩ | hq
    · have hfb : flatB h.b' = true := (hfh h hm).2
      have hB0 := hB
      rw [hsame h hm] at hB0
      obtain ⟨B', b1, b2⟩ := hat h hm
      rw [hB0] at b2; cases b2
      have hblk := hok.blk _ _ hB0
      have hR : ∀ {y : Value} {q q1 : C}, renO hs nv q = some q1 → CRep w2 imm' h' L' (· < c') y (verC ν q) → flatC q = true → CRep w2 imm (updH σ.H ob) L2 (with_ U nv) y q1 := fun h1 h2 h3 =>
        out_C hout hvers hH3 hL2c h1 (h2.flat (by rw [flatC_ver]; exact h3))
      cases B with
      | var ver ty cs =>
        obtain ⟨rfl, cs0, h3, h4⟩ := hblkv h hm hB0
        obtain ⟨_, g, cur, c2, c3, c4, c5⟩ := hHo.blk h.c _ h4
        have hfb2 : cs0.all flatC = true := by
          cases hb : h.b' with
          | var v0 ty0 cs1 =>
            rw [hb] at b1 hfb
            simp only [renOB, Option.map_eq_some_iff] at b1
            obtain ⟨ds, h5, h6⟩ := b1
            have h7 := hout h.c h (find_c hok3 hm)
            rw [hb, h4] at h7
            simp only [verB, Option.some.injEq, Blk.var.injEq] at h7
            have h8 : cs0.all flatC = (cs0.map (verC ν)).all flatC := by rw [List.all_map]; congr 1; funext q; exact (flatC_ver ν q).symm
            have h9 : cs1.all flatC = (cs1.map (verC ν)).all flatC := by rw [List.all_map]; congr 1; funext q; exact (flatC_ver ν q).symm
            rw [h8, h7.2.2, ← h9]; exact hfb
          | arr v0 wr0 st0 ty0 es0 => rw [hb] at b1; simp [renOB] at b1
        refine ⟨hvers h hm, g, cur, by rw [hL2at h hm]; exact c2, c3, ?_, fun o ho => c5 o (s1.keep g o ho).1⟩
        obtain ⟨e1, e2⟩ := renOs_at h3
        refine ⟨by rw [c4.1]; simpa using e1, fun k x d hx hd => ?_⟩
        obtain ⟨q, hc, hcd⟩ := e2 k d hd
        exact hR hcd (c4.2 k x (verC ν q) hx (by simp [hc])) (List.all_eq_true.1 hfb2 q (List.mem_of_getElem? hc))
      | arr ver wr st ty es =>
        obtain ⟨rfl, h4⟩ := hblka h hm hB0
        have hfb2 : (es.all fun e => e.all flatV) = true := by
          have h7 := hout h.c h (find_c hok3 hm)
          cases hb : h.b' with
          | var v0 ty0 cs1 => rw [hb, h4] at h7; simp [verB] at h7
          | arr v0 wr0 st0 ty0 es0 =>
            rw [hb, h4] at h7
            rw [hb] at hfb
            simp only [verB, Option.some.injEq, Blk.arr.injEq] at h7
            rw [h7.2.2.2.2]; exact hfb
        obtain ⟨c1, c2, c3, c4⟩ := hblk
        refine ⟨c1, c2, c3, ?_⟩
        rcases c4 with c4 | ⟨g, cur, hg, hh, hle, hcs, hi⟩
        · exact .inl c4
        · exact .inr ⟨g, cur, hg, hh, hle, fun i e he => (hcs i e he).flat (List.all_eq_true.1 hfb2 e (List.mem_of_getElem? he)), fun o ho => hi o (s1.keep g o ho).1⟩
    · rw [hnot0 n hq] at hB
      have hb := hH.blk n B hB
      have hne : σ.H n ≠ none := by simp [hB]
      cases B with
      | var v ty cs =>
        obtain ⟨h1, g, cur, hg, hh, hcs, hi⟩ := hb
        exact ⟨.inl h1, g, cur, by rw [hL2not n hq]; exact hg, by rw [hframe n g hq (hmore n hne) hg]; exact hh, hcs.mono hk hext2, hi⟩
      | arr v wr st ty es =>
        obtain ⟨h1, h2, h3, hq2⟩ := hb
        refine ⟨.inl h1, h2, h3, ?_⟩
        rcases hq2 with hq2 | ⟨g, cur, hg, hh, hle, hcs, hi⟩
        · exact .inl (by rw [hL2not n hq]; exact hq2)
        · exact .inr ⟨g, cur, by rw [hL2not n hq]; exact hg, by rw [hframe n g hq (hmore n hne) hg]; exact hh, hle, fun i e hi => (hcs i e hi).mono hk, hi⟩
  · have hsc' : quiet r hs = false := by simpa using hsc
    simp only [hsc', Bool.false_eq_true, if_false] at K
    refine K x w2 imm' L2 ?_
    rw [updH_append, hH1]
    exact ⟨out_T hout hvers hH2 hL2c hrr hx, hok, hSext.trans hext, s1, s2⟩
theorem call_sound (c : Call) (f : Operand) (f' : Opd) (args' : List Opd) (hc : c.callee = .value f) (hf : cOpd f = some f') (hargs : cOpds c.args.toList = some args') (ho : o.op = .call c) {σ : St} {nv : Nat} {e : Ef} (he : CallEff P f' args' nv σ e)
    (hH : HOk w imm σ.H L U) (hU : ∃ cc, ∀ v, U v → v < cc) (hnv : ¬ U nv) (hT : ∀ i, TRep w imm σ.H L U (a.tmps.getD i undef) (σ.t i)) {next : Act → World → Prop} {Q : Exit → Act → World → Prop}
    (K : ∀ x w' imm' L', Goes w imm σ.H L U (updH σ.H e.ws) (with_ U nv) e.val x w' imm' L' → next (a.put o.dst x) w') : o.wp P a w next Q := by
  rcases he with he | ⟨e0, he, hu, rfl⟩
  · exact call_sound0 c f f' args' hc hf hargs ho he hH hU hnv hT K
  · refine call_sound0 c f f' args' hc hf hargs ho he hH hU hnv hT fun x w' imm' L' hgo => K x w' imm' L' ?_
    rw [hu] at hgo
    exact hgo
end
end Go.V

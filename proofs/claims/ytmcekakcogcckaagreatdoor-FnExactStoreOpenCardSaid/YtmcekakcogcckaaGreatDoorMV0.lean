/- The program's StoreOpen returns what the reference's returns, for every disk: no condition but the ones of the given statement. -/
import Derived.Calls
import Derived.Orders
import Derived.Tactics
import Derived.Laws.AppendOwn
import Derived.Laws.MakeOwn
import Derived.Laws.OwnMore
import Derived.Laws.Tables
import Derived.Laws.Rows
import Derived.Laws.Cells
import Derived.Laws.Slices
import Derived.Laws.Strings
import Derived.Laws.Entries
import Derived.Laws.BytesString
import Derived.Laws.CopyRow
import Derived.Laws.IdiomCopy
import Derived.Laws.Concat
import Derived.Laws.Small
import Derived.Laws.StructEq
namespace Go.V
/-- The program's own variables that are read: the block, and what stands at each place of it. -/
def gdom : List (Nat × (Nat → Option Value → Prop)) := [(0, fun o c => c = ((List.range 20).map fun i => Value.int .u64 ((10 ^ i : Nat) : Int))[o]?), (1, fun o c => o = 0 → ∃ a b, c = some (.iface a b)), (2, fun o c => o = 0 → ∃ a b, c = some (.iface a b)), (3, fun o c => o = 0 → ∃ m, c = some (.int .i64 m))]
/-- What stands at a place of a row's element: nothing that owns, or a slice with elements of so many cells and this type. -/
def tsub (ty : TypeId) (j : Nat) : Option (Nat × TypeId) := if ty = 86 ∧ j = 2 then some (7, 120) else if ty = 120 ∧ j = 5 then some (1, 9) else if ty = 120 ∧ j = 6 then some (5, 118) else if ty = 118 ∧ j = 3 then some (1, 9) else if ty = 118 ∧ j = 4 then some (5, 118) else none
end Go.V
namespace Go.V
/-- Closed values: scalars, and slices that nobody writes any more, as lists. -/
inductive V where
  | s (x : Value)
  | sl (es : List (List V))

/-- What a cell holds. -/
inductive C where
  | v (x : V)
  | own (id ver n : Nat)
  | nil0
  | ptr (id ver j : Nat)
  | aptr (id ver i j : Nat)
  | vptr (xs : List V)
  | fn (f : FuncId) (caps : List (Nat × Nat))
  | ow (id ver l n : Nat)
  | tr (id ver n : Nat)
  | tptr (id ver i j : Nat)

inductive P1 where
  | one (c : C)
  | agg (cs : List C)

/-- What a temporary holds. -/
inductive T where
  | junk
  | undef
  | pt (x : P1)
  | tup (xs : List P1)

inductive Blk where
  | var (ver : Nat) (ty : TypeId) (cs : List C)
  | arr (ver : Nat) (wr : Bool) (st : Nat) (ty : TypeId) (es : List (List V))
  | tree (ver : Nat) (wr : Bool) (st : Nat) (ty : TypeId) (es : List (List V)) (op : Option (Nat × List C))

def Blk.ver : Blk → Nat
  | .var v _ _ => v
  | .arr v _ _ _ _ => v
  | .tree v _ _ _ _ _ => v

abbrev HMap := Nat → Option Blk
abbrev Imm := Nat → Nat → Prop
/-- Where a block stands, and what else it owns. -/
structure Locs where
  at_ : Nat → Option Nat
  sub : Nat → Nat → Prop
instance : CoeFun Locs (fun _ => Nat → Option Nat) := ⟨Locs.at_⟩
def Locs.Own (L : Locs) (n b : Nat) : Prop := L n = some b ∨ L.sub n b
theorem Locs.Own.at_ {L : Locs} {n b : Nat} (h : L n = some b) : L.Own n b := .inl h

def at2 {α : Type} (es : List (List α)) (i j : Nat) : Option α := es[i]?.bind (·[j]?)

inductive VRep (w : World) (imm : Imm) : Value → V → Prop where
  | s (x : Value) (h : x.oneCell' = true) : VRep w imm x (.s x)
  | nil (a : Option Addr) (cap : Nat) : VRep w imm (.slice a 0 cap) (.sl [])
  | sl (es : List (List V)) (st b o cap : Nat) (vals : Nat → Nat → Value) (hst : 0 < st) (hne : es ≠ []) (hcap : es.length ≤ cap)
      (hl : ∀ e ∈ es, e.length = st)
      (hc : ∀ i j x, at2 es i j = some x → w.cell? ⟨b, o + i * st + j, none⟩ = some (vals i j) ∧ imm b (o + i * st + j))
      (hr : ∀ i j x, at2 es i j = some x → VRep w imm (vals i j) x) : VRep w imm (.slice (some ⟨b, o, none⟩) es.length cap) (.sl es)

/-- A value that stands alone: its arrays are blocks of S, each held once. -/
inductive VTree (w : World) : Option (Nat × TypeId) → Value → V → (Nat → Prop) → Prop where
  | s {S : Nat → Prop} (x : Value) (h : x.oneCell' = true) : VTree w none x (.s x) S
  | nil {k : Nat × TypeId} {S : Nat → Prop} (a : Option Addr) (cap : Nat) : VTree w (some k) (.slice a 0 cap) (.sl []) S
  | sl {S : Nat → Prop} (st : Nat) (ty : TypeId) (es : List (List V)) (b cap : Nat) (cur : Array Value) (part : Nat → Nat → Nat → Prop) (vals : Nat → Nat → Value)
      (hst : 0 < st) (hcap : es.length ≤ cap) (hm : cap ≤ maxLen) (hl : ∀ e ∈ es, e.length = st)
      (hh : w.heap[b]? = some (.cells cur ty (0, 0))) (hsz : cur.size = cap * st) (hb : S b) (hp : ∀ i j b', part i j b' → S b' ∧ b' ≠ b) (hd : ∀ i j i' j' b', part i j b' → part i' j' b' → i = i' ∧ j = j')
      (hc : ∀ i j x, at2 es i j = some x → cur[i * st + j]? = some (vals i j)) (hr : ∀ i j x, at2 es i j = some x → VTree w (tsub ty j) (vals i j) x (part i j)) :
      VTree w (some (st, ty)) (.slice (some ⟨b, 0, none⟩) es.length cap) (.sl es) S

theorem VTree.frame {w w' : World} {k : Option (Nat × TypeId)} {x : Value} {v : V} {S : Nat → Prop} (h : VTree w k x v S) : ∀ {S' : Nat → Prop}, (∀ b, S b → S' b) → (∀ b, S b → w'.heap[b]? = w.heap[b]?) → VTree w' k x v S' := by
  induction h with
  | s x h => exact fun _ _ => .s x h
  | nil a cap => exact fun _ _ => .nil a cap
  | sl st ty es b cap cur part vals hst hcap hm hl hh hsz hb hp hd hc hr ih =>
    intro S' h1 h2
    exact .sl st ty es b cap cur part vals hst hcap hm hl (by rw [h2 b hb]; exact hh) hsz (h1 b hb) (fun i j b' hb' => ⟨h1 _ (hp i j b' hb').1, (hp i j b' hb').2⟩) hd hc
      fun i j x hx => ih i j x hx (fun _ h => h) fun b' hb' => h2 _ (hp i j b' hb').1

/-- The value of a slice whose array is known whole: none, or the head of block g. -/
def OwnV (w : World) (g : Option Nat) (st : Nat) (ty : TypeId) (n : Nat) (x : Value) : Prop :=
  (∃ a, x = .slice a 0 0 ∧ n = 0) ∨
  ∃ b cap cur, g = some b ∧ x = .slice (some ⟨b, 0, none⟩) n cap ∧ w.heap[b]? = some (.cells cur ty (0, 0)) ∧ n ≤ cap ∧ cap ≤ maxLen ∧ cur.size = cap * st

def CRep (w : World) (imm : Imm) (H : HMap) (L : Locs) (U : Nat → Prop) (x : Value) : C → Prop
  | .v y => VRep w imm x y
  | .nil0 => ∃ a, x = .slice a 0 0
  | .own id ver n => U ver ∧ (∃ a k, x = .slice a n k ∧ n ≤ k) ∧ ∀ wr st ty es, H id = some (.arr ver wr st ty es) → n ≤ es.length ∧ OwnV w (L id) st ty n x
  | .ow id ver l n => U ver ∧ (∃ a k, x = .slice a n k ∧ n ≤ k) ∧ ∀ wr st ty es, H id = some (.arr ver wr st ty es) → l + n ≤ es.length ∧ (n = 0 ∨ ∃ g k, L id = some g ∧ x = .slice (some ⟨g, l * st, none⟩) n k)
  | .ptr id ver j => U ver ∧ (∃ b o, x = .pointer (some ⟨b, o, none⟩)) ∧ ∀ ty cs, H id = some (.var ver ty cs) → ∃ g, L id = some g ∧ x = .pointer (some ⟨g, j, none⟩)
  | .aptr id ver i j => U ver ∧ (∃ b o, x = .pointer (some ⟨b, o, none⟩)) ∧ ∀ wr st ty es, H id = some (.arr ver wr st ty es) → i < es.length ∧ ∃ g, L id = some g ∧ x = .pointer (some ⟨g, i * st + j, none⟩)
  | .tr id ver n => U ver ∧ (∃ a k, x = .slice a n k ∧ n ≤ k) ∧ ∀ wr st ty es op, H id = some (.tree ver wr st ty es op) → n ≤ es.length ∧ OwnV w (L id) st ty n x
  | .tptr id ver i j => U ver ∧ (∃ b o, x = .pointer (some ⟨b, o, none⟩)) ∧ ∀ wr st ty es op, H id = some (.tree ver wr st ty es op) → i < es.length ∧ ∃ g, L id = some g ∧ x = .pointer (some ⟨g, i * st + j, none⟩)
  | .vptr xs => ∃ b o, x = .pointer (some ⟨b, o, none⟩) ∧ ∀ k y, xs[k]? = some y → ∃ u, w.cell? ⟨b, o + k, none⟩ = some u ∧ imm b (o + k) ∧ VRep w imm u y
  | .fn f caps => ∃ ps : List Value, x = .func (.func f) #[] ps.toArray ∧ ps.length = caps.length ∧
      ∀ (k : Nat) p, caps[k]? = some p → ∃ u, ps[k]? = some u ∧ U p.2 ∧ (∃ b o, u = .pointer (some ⟨b, o, none⟩)) ∧ ∀ ty cs, H p.1 = some (.var p.2 ty cs) → ∃ g, L p.1 = some g ∧ u = .pointer (some ⟨g, 0, none⟩)

def CsRep (w : World) (imm : Imm) (H : HMap) (L : Locs) (U : Nat → Prop) (xs : List Value) (cs : List C) : Prop :=
  xs.length = cs.length ∧ ∀ (k : Nat) x y, xs[k]? = some x → cs[k]? = some y → CRep w imm H L U x y

def PRep (w : World) (imm : Imm) (H : HMap) (L : Locs) (U : Nat → Prop) (x : Value) : P1 → Prop
  | .one y => CRep w imm H L U x y
  | .agg cs => ∃ xs : List Value, x = .agg xs.toArray ∧ CsRep w imm H L U xs cs

def TRep (w : World) (imm : Imm) (H : HMap) (L : Locs) (U : Nat → Prop) (x : Value) : T → Prop
  | .junk => True
  | .undef => x = undef
  | .pt y => PRep w imm H L U x y
  | .tup ys => ∃ xs : List Value, x = .tuple xs.toArray ∧ xs.length = ys.length ∧ ∀ (k : Nat) u y, xs[k]? = some u → ys[k]? = some y → PRep w imm H L U u y

def VsRep (w : World) (imm : Imm) (cur : Array Value) (o : Nat) (xs : List V) : Prop :=
  ∀ (k : Nat) y, xs[k]? = some y → ∃ u, cur[o + k]? = some u ∧ VRep w imm u y

def BOk (w : World) (imm : Imm) (H : HMap) (L : Locs) (U : Nat → Prop) (n : Nat) : Blk → Prop
  | .var ver ty cs => U ver ∧ ∃ g cur, L n = some g ∧ w.heap[g]? = some (.cells cur ty (0, 0)) ∧ CsRep w imm H L U cur.toList cs ∧ ∀ o, ¬ imm g o
  | .arr ver wr st ty es => U ver ∧ 0 < st ∧ (∀ e ∈ es, e.length = st) ∧
      ((L n = none ∧ es = []) ∨
       ∃ g cur, L n = some g ∧ w.heap[g]? = some (.cells cur ty (0, 0)) ∧ es.length * st ≤ cur.size ∧
         (∀ i e, es[i]? = some e → VsRep w imm cur (i * st) e) ∧ ∀ o, imm g o → wr = false ∧ o < es.length * st)
  | .tree ver wr st ty es op => U ver ∧ 0 < st ∧ (∀ e ∈ es, e.length = st) ∧ (∀ i cs, op = some (i, cs) → wr = true ∧ i < es.length ∧ cs.length = st) ∧ (∀ b o, L.sub n b → imm b o → wr = false) ∧
      ((L n = none ∧ es = []) ∨
       ∃ (g : Nat) (cur : Array Value) (part : Nat → Nat → Nat → Prop), L n = some g ∧ w.heap[g]? = some (.cells cur ty (0, 0)) ∧ es.length * st ≤ cur.size ∧
         (∀ i j b, part i j b → L.sub n b) ∧ (∀ i j i' j' b, part i j b → part i' j' b → i = i' ∧ j = j') ∧
         (∀ i j x, at2 es i j = some x → op.map (·.1) ≠ some i → ∃ u, cur[i * st + j]? = some u ∧ VTree w (tsub ty j) u x (part i j)) ∧
         (∀ i cs, op = some (i, cs) → CsRep w imm H L U ((cur.toList.drop (i * st)).take st) cs) ∧ ∀ o, imm g o → wr = false)

/-- What the program's own variables hold that are read: they stand as they are. -/
def Glob (w : World) (imm : Imm) : Prop := ∀ x ∈ gdom, ∀ o, imm x.1 o ∧ x.2 o (w.cell? ⟨x.1, o, none⟩)
theorem Glob.keep {w w' : World} {imm imm' : Imm} (h : Glob w imm) (hk : ∀ b o, imm b o → imm' b o ∧ w'.cell? ⟨b, o, none⟩ = w.cell? ⟨b, o, none⟩) : Glob w' imm' := fun x hx o => by
  obtain ⟨h1, h2⟩ := h x hx o
  refine ⟨(hk _ _ h1).1, ?_⟩
  rw [(hk _ _ h1).2]; exact h2

structure HOk (w : World) (imm : Imm) (H : HMap) (L : Locs) (U : Nat → Prop) : Prop where
  blk : ∀ n B, H n = some B → BOk w imm H L U n B
  inj : ∀ n m g, H n ≠ none → H m ≠ none → L.Own n g → L.Own m g → n = m
  sub : ∀ n g, H n ≠ none → L.sub n g → g < w.heap.size ∧ L n ≠ some g
  glob : Glob w imm
  imm : ∀ b o, imm b o → b < w.heap.size

/-- From one world to a later one: what stands outside a set of blocks stays; what is unchangeable stays. -/
structure Step (w : World) (imm : Imm) (fp : Nat → Prop) (w' : World) (imm' : Imm) : Prop where
  os : w'.os = w.os
  tape : w'.tape = w.tape
  output : w'.output = w.output
  size : w.heap.size ≤ w'.heap.size
  frame : ∀ b, b < w.heap.size → ¬ fp b → w'.heap[b]? = w.heap[b]?
  keep : ∀ b o, imm b o → imm' b o ∧ w'.cell? ⟨b, o, none⟩ = w.cell? ⟨b, o, none⟩
  grew : ∀ b o, imm' b o → imm b o ∨ w.heap.size ≤ b ∨ fp b

def foot (H : HMap) (L : Locs) : Nat → Prop := fun b => ∃ n, H n ≠ none ∧ L.Own n b

def Near (w : World) (fp : Nat → Prop) (H : HMap) (L : Locs) : Prop := ∀ n g, H n ≠ none → L.Own n g → fp g ∨ w.heap.size ≤ g

def TsRep (w : World) (imm : Imm) (H : HMap) (L : Locs) (U : Nat → Prop) (vs : List Value) (ts : List T) : Prop :=
  vs.length = ts.length ∧ ∀ (k : Nat) x y, vs[k]? = some x → ts[k]? = some y → TRep w imm H L U x y

/-- What a later state owes to what was said of references. -/
structure Ext (w : World) (H : HMap) (L : Locs) (U : Nat → Prop) (w' : World) (H' : HMap) (L' : Locs) (U' : Nat → Prop) : Prop where
  use : ∀ v, U v → U' v
  var : ∀ n ver ty cs, U ver → H' n = some (.var ver ty cs) → ∃ ty' cs', H n = some (.var ver ty' cs') ∧ L' n = L n
  arr : ∀ n ver wr st ty es, U ver → H' n = some (.arr ver wr st ty es) → ∃ wr' es', H n = some (.arr ver wr' st ty es') ∧ es'.length ≤ es.length ∧ L' n = L n
  cells : ∀ n ver wr st ty es g cur, U ver → H' n = some (.arr ver wr st ty es) → L' n = some g → w.heap[g]? = some (.cells cur ty (0, 0)) → ∃ cur' : Array Value, w'.heap[g]? = some (.cells cur' ty (0, 0)) ∧ cur'.size = cur.size
  tree : ∀ n ver wr st ty es op, U ver → H' n = some (.tree ver wr st ty es op) → ∃ wr' es' op', H n = some (.tree ver wr' st ty es' op') ∧ es'.length ≤ es.length ∧ L' n = L n
  tcells : ∀ n ver wr st ty es op g cur, U ver → H' n = some (.tree ver wr st ty es op) → L' n = some g → w.heap[g]? = some (.cells cur ty (0, 0)) → ∃ cur' : Array Value, w'.heap[g]? = some (.cells cur' ty (0, 0)) ∧ cur'.size = cur.size

/-- A call, told over abstract values: it returns, and what it returns is told by R. -/
def ACalls (P : Program) (f : FuncId) (args : List T) (hin : HMap) (R : T → HMap → Prop) : Prop :=
  ∀ (w : World) (imm : Imm) (L : Locs) (c : Nat) (vs : List Value), HOk w imm hin L (· < c) → TsRep w imm hin L (· < c) vs args →
    Calls P f vs.toArray w fun e w' => ∃ x r h imm' L' c', e = .returned x ∧ R r h ∧ TRep w' imm' h L' (· < c') x r ∧ HOk w' imm' h L' (· < c') ∧
      Step w imm (foot hin L) w' imm' ∧ Near w (foot hin L) h L' ∧ Ext w hin L (· < c) w' h L' (· < c')
/-! monotony -/
theorem VRep.mono {w w' : World} {imm imm' : Imm} (hk : ∀ b o, imm b o → imm' b o ∧ w'.cell? ⟨b, o, none⟩ = w.cell? ⟨b, o, none⟩) {x : Value} {y : V} (h : VRep w imm x y) : VRep w' imm' x y := by
  induction h with
  | s x h => exact .s x h
  | nil a cap => exact .nil a cap
  | sl es st b o cap vals hst hne hcap hl hc hr ih =>
    exact .sl es st b o cap vals hst hne hcap hl (fun i j x hx => by
      obtain ⟨h1, h2⟩ := hc i j x hx
      obtain ⟨h3, h4⟩ := hk _ _ h2
      exact ⟨h4.trans h1, h3⟩) ih

theorem CRep.mono {w w' : World} {imm imm' : Imm} {H H' : HMap} {L L' : Locs} {U U' : Nat → Prop} (hk : ∀ b o, imm b o → imm' b o ∧ w'.cell? ⟨b, o, none⟩ = w.cell? ⟨b, o, none⟩)
    (he : Ext w H L U w' H' L' U') {x : Value} {y : C} (h : CRep w imm H L U x y) : CRep w' imm' H' L' U' x y := by
  cases y with
  | v y => exact VRep.mono hk h
  | nil0 => exact h
  | own id ver n =>
    obtain ⟨h1, h2, h3⟩ := h
    refine ⟨he.use _ h1, h2, fun wr st ty es hH => ?_⟩
    obtain ⟨wr', es', hH', hle, hL⟩ := he.arr _ _ _ _ _ _ h1 hH
    obtain ⟨h4, h5⟩ := h3 _ _ _ _ hH'
    refine ⟨Nat.le_trans h4 hle, ?_⟩
    rcases h5 with h5 | ⟨b, cap, cur, hb, hx, hg, hn, hm, hs⟩
    · exact .inl h5
    · obtain ⟨cur', hg', hs'⟩ := he.cells _ _ _ _ _ _ b cur h1 hH (hL.trans hb) hg
      exact .inr ⟨b, cap, cur', hL.trans hb, hx, hg', hn, hm, hs'.trans hs⟩
  | ow id ver l n =>
    obtain ⟨h1, h2, h3⟩ := h
    refine ⟨he.use _ h1, h2, fun wr st ty es hH => ?_⟩
    obtain ⟨wr', es', hH', hle, hL⟩ := he.arr _ _ _ _ _ _ h1 hH
    obtain ⟨h4, h5⟩ := h3 _ _ _ _ hH'
    refine ⟨Nat.le_trans h4 hle, ?_⟩
    rcases h5 with h5 | ⟨g, k, hg, hx⟩
    · exact .inl h5
    · exact .inr ⟨g, k, hL.trans hg, hx⟩
  | ptr id ver j =>
    obtain ⟨h1, h2, h3⟩ := h
    refine ⟨he.use _ h1, h2, fun ty cs hH => ?_⟩
    obtain ⟨ty', cs', hH', hL⟩ := he.var _ _ _ _ h1 hH
    rw [hL]; exact h3 _ _ hH'
  | aptr id ver i j =>
    obtain ⟨h1, h2, h3⟩ := h
    refine ⟨he.use _ h1, h2, fun wr st ty es hH => ?_⟩
    obtain ⟨wr', es', hH', hle, hL⟩ := he.arr _ _ _ _ _ _ h1 hH
    obtain ⟨h4, h5⟩ := h3 _ _ _ _ hH'
    exact ⟨by omega, by rw [hL]; exact h5⟩
  | tr id ver n =>
    obtain ⟨h1, h2, h3⟩ := h
    refine ⟨he.use _ h1, h2, fun wr st ty es op hH => ?_⟩
    obtain ⟨wr', es', op', hH', hle, hL⟩ := he.tree _ _ _ _ _ _ _ h1 hH
    obtain ⟨h4, h5⟩ := h3 _ _ _ _ _ hH'
    refine ⟨Nat.le_trans h4 hle, ?_⟩
    rcases h5 with h5 | ⟨b, cap, cur, hb, hx, hg, hn, hm, hs⟩
    · exact .inl h5
    · obtain ⟨cur', hg', hs'⟩ := he.tcells _ _ _ _ _ _ _ b cur h1 hH (hL.trans hb) hg
      exact .inr ⟨b, cap, cur', hL.trans hb, hx, hg', hn, hm, hs'.trans hs⟩
  | tptr id ver i j =>
    obtain ⟨h1, h2, h3⟩ := h
    refine ⟨he.use _ h1, h2, fun wr st ty es op hH => ?_⟩
    obtain ⟨wr', es', op', hH', hle, hL⟩ := he.tree _ _ _ _ _ _ _ h1 hH
    obtain ⟨h4, h5⟩ := h3 _ _ _ _ _ hH'
    exact ⟨by omega, by rw [hL]; exact h5⟩
  | vptr xs =>
    obtain ⟨b, o, rfl, h⟩ := h
    refine ⟨b, o, rfl, fun k y hy => ?_⟩
    obtain ⟨u, h1, h2, h3⟩ := h k y hy
    obtain ⟨h4, h5⟩ := hk _ _ h2
    exact ⟨u, h5.trans h1, h4, h3.mono hk⟩
  | fn f caps =>
    obtain ⟨ps, hx, hl, h⟩ := h
    refine ⟨ps, hx, hl, fun k p hp => ?_⟩
    obtain ⟨u, h1, h2, h3, h4⟩ := h k p hp
    refine ⟨u, h1, he.use _ h2, h3, fun ty cs hH => ?_⟩
    obtain ⟨ty', cs', hH', hL⟩ := he.var _ _ _ _ h2 hH
    rw [hL]; exact h4 _ _ hH'

section
variable {w w' : World} {imm imm' : Imm} {H H' : HMap} {L L' : Locs} {U U' : Nat → Prop} (hk : ∀ b o, imm b o → imm' b o ∧ w'.cell? ⟨b, o, none⟩ = w.cell? ⟨b, o, none⟩)
    (he : Ext w H L U w' H' L' U')
include hk he
theorem CsRep.mono {xs : List Value} {cs : List C} (h : CsRep w imm H L U xs cs) : CsRep w' imm' H' L' U' xs cs := ⟨h.1, fun k x y hx hy => (h.2 k x y hx hy).mono hk he⟩
theorem PRep.mono {x : Value} {y : P1} (h : PRep w imm H L U x y) : PRep w' imm' H' L' U' x y := by
  cases y with
  | one y => exact CRep.mono hk he h
  | agg cs => obtain ⟨xs, hx, h⟩ := h; exact ⟨xs, hx, h.mono hk he⟩
theorem TRep.mono {x : Value} {y : T} (h : TRep w imm H L U x y) : TRep w' imm' H' L' U' x y := by
  cases y with
  | junk => trivial
  | undef => exact h
  | pt y => exact PRep.mono hk he h
  | tup ys => obtain ⟨xs, hx, hl, h⟩ := h; exact ⟨xs, hx, hl, fun k u y hu hy => PRep.mono hk he (h k u y hu hy)⟩
end

theorem VsRep.mono {w w' : World} {imm imm' : Imm} (hk : ∀ b o, imm b o → imm' b o ∧ w'.cell? ⟨b, o, none⟩ = w.cell? ⟨b, o, none⟩) {cur : Array Value} {o : Nat} {xs : List V} (h : VsRep w imm cur o xs) : VsRep w' imm' cur o xs :=
  fun k y hy => let ⟨u, h1, h2⟩ := h k y hy; ⟨u, h1, h2.mono hk⟩

def upd {α : Type} (t : Nat → α) (d : Nat) (v : α) : Nat → α := fun i => if i = d then v else t i
@[simp] theorem upd_same {α : Type} (t : Nat → α) (d : Nat) (v : α) : upd t d v d = v := by simp [upd]
theorem upd_ne {α : Type} (t : Nat → α) {d i : Nat} (v : α) (h : i ≠ d) : upd t d v i = t i := by simp [upd, h]

theorem cell_of_heap {w w' : World} {b o : Nat} (h : w'.heap[b]? = w.heap[b]?) : w'.cell? ⟨b, o, none⟩ = w.cell? ⟨b, o, none⟩ := by simp [World.cell?, h]

def Locs.up (L : Locs) (n : Nat) (l : Option Nat) (S : Nat → Prop) : Locs := ⟨upd L.at_ n l, upd L.sub n S⟩
abbrev noB : Nat → Prop := fun _ => False
@[simp] theorem Locs.up_at (L : Locs) (n : Nat) (l : Option Nat) (S : Nat → Prop) : (L.up n l S) n = l := by simp [Locs.up]
@[simp] theorem Locs.up_sub (L : Locs) (n : Nat) (l : Option Nat) (S : Nat → Prop) : (L.up n l S).sub n = S := by simp [Locs.up]
theorem Locs.up_ne (L : Locs) {n m : Nat} (l : Option Nat) (S : Nat → Prop) (h : m ≠ n) : (L.up n l S) m = L m := by simp [Locs.up, upd_ne _ _ h]
theorem Locs.up_sub_ne (L : Locs) {n m : Nat} (l : Option Nat) (S : Nat → Prop) (h : m ≠ n) : (L.up n l S).sub m = L.sub m := by simp [Locs.up, upd_ne _ _ h]
theorem Locs.up_own_ne (L : Locs) {n m b : Nat} (l : Option Nat) (S : Nat → Prop) (h : m ≠ n) : (L.up n l S).Own m b ↔ L.Own m b := by simp only [Locs.Own, Locs.up_ne L l S h, Locs.up_sub_ne L l S h]
theorem Locs.up_own (L : Locs) {n b : Nat} (l : Option Nat) (S : Nat → Prop) : (L.up n l S).Own n b ↔ (l = some b ∨ S b) := by simp only [Locs.Own, Locs.up_at, Locs.up_sub]
@[simp] theorem Locs.up_self (L : Locs) (n : Nat) : L.up n (L n) (L.sub n) = L := by
  obtain ⟨a, s⟩ := L
  simp only [Locs.up, Locs.mk.injEq]
  exact ⟨by funext m; by_cases e : m = n <;> simp [upd, e], by funext m; by_cases e : m = n <;> simp [upd, e]⟩

theorem HOk.lt {w : World} {imm : Imm} {H : HMap} {L : Locs} {U : Nat → Prop} (h : HOk w imm H L U) {m g : Nat} (hm : H m ≠ none) (hg : L.Own m g) : g < w.heap.size := by
  rcases hg with hg | hg
  · cases hB' : H m with
    | none => exact absurd hB' hm
    | some B' =>
      have := h.blk m B' hB'
      cases B' with
      | var ver ty cs =>
        obtain ⟨_, g', cur, hg', hh, _⟩ := this
        rw [hg] at hg'; cases hg'
        exact (Array.getElem?_eq_some_iff.1 hh).1
      | arr ver wr st ty es =>
        obtain ⟨_, _, _, hq⟩ := this
        rcases hq with ⟨hq, _⟩ | ⟨g', cur, hg', hh, _⟩
        · rw [hg] at hq; cases hq
        · rw [hg] at hg'; cases hg'
          exact (Array.getElem?_eq_some_iff.1 hh).1
      | tree ver wr st ty es op =>
        obtain ⟨_, _, _, _, _, hq⟩ := this
        rcases hq with ⟨hq, _⟩ | ⟨g', cur, part, hg', hh, _⟩
        · rw [hg] at hq; cases hq
        · rw [hg] at hg'; cases hg'
          exact (Array.getElem?_eq_some_iff.1 hh).1
  · exact (h.sub m g hm hg).1

/-- What is said of a block stays true if nothing that it owns changes. -/
theorem BOk.mono {w w' : World} {imm imm' : Imm} {H H' : HMap} {L L' : Locs} {U U' : Nat → Prop} (hk : ∀ b o, imm b o → imm' b o ∧ w'.cell? ⟨b, o, none⟩ = w.cell? ⟨b, o, none⟩) (he : Ext w H L U w' H' L' U')
    {n : Nat} {B : Blk} (hL : L' n = L n) (hs : L'.sub n = L.sub n) (hf : ∀ g, L.Own n g → w'.heap[g]? = w.heap[g]?) (hi : ∀ g o, L.Own n g → imm' g o → imm g o) (h : BOk w imm H L U n B) : BOk w' imm' H' L' U' n B := by
  cases B with
  | var ver ty cs =>
    obtain ⟨h1, g, cur, hg, hh, hcs, him⟩ := h
    exact ⟨he.use _ h1, g, cur, hL.trans hg, by rw [hf g (.inl hg)]; exact hh, hcs.mono hk he, fun o ho => him o (hi g o (.inl hg) ho)⟩
  | arr ver wr st ty es =>
    obtain ⟨h1, h2, h3, hq⟩ := h
    refine ⟨he.use _ h1, h2, h3, ?_⟩
    rcases hq with ⟨hq, h0⟩ | ⟨g, cur, hg, hh, hle, hcs, him⟩
    · exact .inl ⟨hL.trans hq, h0⟩
    · exact .inr ⟨g, cur, hL.trans hg, by rw [hf g (.inl hg)]; exact hh, hle, fun i e he => (hcs i e he).mono hk, fun o ho => him o (hi g o (.inl hg) ho)⟩
  | tree ver wr st ty es op =>
    obtain ⟨h1, h2, h3, h4, h5, hq⟩ := h
    refine ⟨he.use _ h1, h2, h3, h4, fun b o hb ho => ?_, ?_⟩
    · rw [hs] at hb; exact h5 b o hb (hi b o (.inr hb) ho)
    · rcases hq with ⟨hq, h0⟩ | ⟨g, cur, part, hg, hh, hle, hp, hd, hcs, hop, him⟩
      · exact .inl ⟨hL.trans hq, h0⟩
      · refine .inr ⟨g, cur, part, hL.trans hg, by rw [hf g (.inl hg)]; exact hh, hle, fun i j b hb => by rw [hs]; exact hp i j b hb, hd, fun i j x hx hne => ?_, fun i cs hi => (hop i cs hi).mono hk he, fun o ho => him o (hi g o (.inl hg) ho)⟩
        obtain ⟨u, hu, ht⟩ := hcs i j x hx hne
        exact ⟨u, hu, ht.frame (fun _ h => h) fun b hb => hf b (.inr (hp i j b hb))⟩

/-- How a block's mark may come about: it is new, or the block stood under it already. -/
@[reducible] def VerOk (w w' : World) (H : HMap) (L : Locs) (U : Nat → Prop) (n : Nat) (B : Blk) (l : Option Nat) : Prop :=
  ¬ U B.ver ∨ (∃ ver ty cs ty' cs', B = .var ver ty cs ∧ H n = some (.var ver ty' cs') ∧ l = L n) ∨
      (∃ ver wr st ty es wr' es', B = .arr ver wr st ty es ∧ H n = some (.arr ver wr' st ty es') ∧ es'.length ≤ es.length ∧ l = L n ∧
        ∀ g cur, l = some g → w.heap[g]? = some (.cells cur ty (0, 0)) → ∃ cur' : Array Value, w'.heap[g]? = some (.cells cur' ty (0, 0)) ∧ cur'.size = cur.size) ∨
      (∃ ver wr st ty es op wr' es' op', B = .tree ver wr st ty es op ∧ H n = some (.tree ver wr' st ty es' op') ∧ es'.length ≤ es.length ∧ l = L n ∧
        ∀ g cur, l = some g → w.heap[g]? = some (.cells cur ty (0, 0)) → ∃ cur' : Array Value, w'.heap[g]? = some (.cells cur' ty (0, 0)) ∧ cur'.size = cur.size)

theorem VerOk.var {w w' : World} {H : HMap} {L : Locs} {U : Nat → Prop} {n : Nat} {l : Option Nat} {ver ty cs} (h : VerOk w w' H L U n (.var ver ty cs) l) (hu : U ver) : ∃ ty' cs', H n = some (.var ver ty' cs') ∧ l = L n := by
  rcases h with hv | ⟨_, ty1, cs1, ty', cs', e1, e2, e3⟩ | ⟨_, _, _, _, _, _, _, e1, _⟩ | ⟨_, _, _, _, _, _, _, _, _, e1, _⟩
  · exact absurd hu hv
  · cases e1; exact ⟨ty', cs', e2, e3⟩
  · cases e1
  · cases e1
theorem VerOk.arr {w w' : World} {H : HMap} {L : Locs} {U : Nat → Prop} {n : Nat} {l : Option Nat} {ver wr st ty es} (h : VerOk w w' H L U n (.arr ver wr st ty es) l) (hu : U ver) : ∃ wr' es', H n = some (.arr ver wr' st ty es') ∧ es'.length ≤ es.length ∧ l = L n ∧
    ∀ g cur, l = some g → w.heap[g]? = some (.cells cur ty (0, 0)) → ∃ cur' : Array Value, w'.heap[g]? = some (.cells cur' ty (0, 0)) ∧ cur'.size = cur.size := by
  rcases h with hv | ⟨_, ty1, cs1, ty', cs', e1, e2, e3⟩ | ⟨_, _, _, _, _, wr', es', e1, e2, e3, e4, e5⟩ | ⟨_, _, _, _, _, _, _, _, _, e1, _⟩
  · exact absurd hu hv
  · cases e1
  · cases e1; exact ⟨wr', es', e2, e3, e4, e5⟩
  · cases e1
theorem VerOk.tree {w w' : World} {H : HMap} {L : Locs} {U : Nat → Prop} {n : Nat} {l : Option Nat} {ver wr st ty es op} (h : VerOk w w' H L U n (.tree ver wr st ty es op) l) (hu : U ver) : ∃ wr' es' op', H n = some (.tree ver wr' st ty es' op') ∧ es'.length ≤ es.length ∧ l = L n ∧
    ∀ g cur, l = some g → w.heap[g]? = some (.cells cur ty (0, 0)) → ∃ cur' : Array Value, w'.heap[g]? = some (.cells cur' ty (0, 0)) ∧ cur'.size = cur.size := by
  rcases h with hv | ⟨_, ty1, cs1, ty', cs', e1, e2, e3⟩ | ⟨_, _, _, _, _, wr', es', e1, e2, e3, e4, e5⟩ | ⟨_, _, _, _, _, _, wr', es', op', e1, e2, e3, e4, e5⟩
  · exact absurd hu hv
  · cases e1
  · cases e1
  · cases e1; exact ⟨wr', es', op', e2, e3, e4, e5⟩

/-- A value that stands alone, lent: nobody writes its blocks. -/
theorem VTree.rep {w : World} {imm : Imm} {k : Option (Nat × TypeId)} {x : Value} {v : V} {S : Nat → Prop} (h : VTree w k x v S) : (∀ b o, S b → imm b o) → VRep w imm x v := by
  induction h with
  | s x h => exact fun _ => .s x h
  | nil a cap => exact fun _ => .nil a cap
  | sl st ty es b cap cur part vals hst hcap hm hl hh hsz hb hp hd hc hr ih =>
    intro hi
    by_cases hne : es = []
    · subst hne; exact .nil _ cap
    · have := VRep.sl (w := w) (imm := imm) es st b 0 cap vals hst hne hcap hl (fun i j x hx => ?_) (fun i j x hx => ih i j x hx fun b' o hb' => hi b' o (hp i j b' hb').1)
      · exact this
      · have h1 := hc i j x hx
        have hlt : i * st + j < cur.size := (Array.getElem?_eq_some_iff.1 h1).1
        refine ⟨?_, hi b _ hb⟩
        have h2 : cur[i * st + j] = vals i j := (Array.getElem?_eq_some_iff.1 h1).2
        simp [World.cell?, hh, hlt, h2]

/-- One name gets a new block: all else stays as it was. -/
theorem upd_all {w w' : World} {imm imm' : Imm} {H : HMap} {L : Locs} {U U' : Nat → Prop} (h : HOk w imm H L U) (n : Nat) (B : Blk) (l : Option Nat) (S : Nat → Prop)
    (hos : w'.os = w.os) (htape : w'.tape = w.tape) (hout : w'.output = w.output) (hsize : w.heap.size ≤ w'.heap.size)
    (hframe : ∀ b, b < w.heap.size → ¬ (H n ≠ none ∧ L.Own n b) → w'.heap[b]? = w.heap[b]?)
    (hkeep : ∀ b o, imm b o → imm' b o ∧ w'.cell? ⟨b, o, none⟩ = w.cell? ⟨b, o, none⟩)
    (hgrew : ∀ b o, imm' b o → imm b o ∨ ((l = some b ∨ S b) ∧ (w.heap.size ≤ b ∨ (H n ≠ none ∧ L.Own n b))))
    (hl : ∀ g, l = some g ∨ S g → (w.heap.size ≤ g ∧ g < w'.heap.size) ∨ (H n ≠ none ∧ L.Own n g)) (hS : ∀ g, S g → l ≠ some g)
    (huse : ∀ v, U v → U' v) (hver : VerOk w w' H L U n B l)
    (hB : (∀ m, Ext w H L U w' (upd H n (some B)) (L.up n l S) U' → m = n → BOk w' imm' (upd H n (some B)) (L.up n l S) U' m B)) :
    HOk w' imm' (upd H n (some B)) (L.up n l S) U' ∧ Ext w H L U w' (upd H n (some B)) (L.up n l S) U' ∧ Step w imm (foot H L) w' imm' ∧ Near w (foot H L) (upd H n (some B)) (L.up n l S) := by
  have hlt : ∀ m g, H m ≠ none → L.Own m g → g < w.heap.size := fun m g hm hg => h.lt hm hg
  have hne : ∀ m g, m ≠ n → H m ≠ none → L.Own m g → w'.heap[g]? = w.heap[g]? := fun m g hmn hm hg =>
    hframe g (hlt m g hm hg) fun ⟨h1, h2⟩ => hmn (h.inj m n g hm h1 hg h2)
  have hext : Ext w H L U w' (upd H n (some B)) (L.up n l S) U' := by
    refine ⟨huse, ?_, ?_, ?_, ?_, ?_⟩
    · intro m ver ty cs hu hm
      by_cases hmn : m = n
      · subst hmn
        simp only [upd_same, Option.some.injEq] at hm
        subst hm
        rw [Locs.up_at]
        exact hver.var hu
      · rw [upd_ne _ _ hmn] at hm
        rw [Locs.up_ne _ _ _ hmn]
        exact ⟨ty, cs, hm, rfl⟩
    · intro m ver wr st ty es hu hm
      by_cases hmn : m = n
      · subst hmn
        simp only [upd_same, Option.some.injEq] at hm
        subst hm
        rw [Locs.up_at]
        obtain ⟨wr', es', h1, h2, h3, _⟩ := hver.arr hu
        exact ⟨wr', es', h1, h2, h3⟩
      · rw [upd_ne _ _ hmn] at hm
        rw [Locs.up_ne _ _ _ hmn]
        exact ⟨wr, es, hm, Nat.le_refl _, rfl⟩
    · intro m ver wr st ty es g cur hu hm hg hh
      by_cases hmn : m = n
      · subst hmn
        simp only [upd_same, Option.some.injEq] at hm
        subst hm
        rw [Locs.up_at] at hg
        obtain ⟨wr', es', _, _, _, h4⟩ := hver.arr hu
        exact h4 g cur hg hh
      · rw [upd_ne _ _ hmn] at hm
        rw [Locs.up_ne _ _ _ hmn] at hg
        exact ⟨cur, by rw [hne m g hmn (by simp [hm]) (.inl hg)]; exact hh, rfl⟩
    · intro m ver wr st ty es op hu hm
      by_cases hmn : m = n
      · subst hmn
        simp only [upd_same, Option.some.injEq] at hm
        subst hm
        rw [Locs.up_at]
        obtain ⟨wr', es', op', h1, h2, h3, _⟩ := hver.tree hu
        exact ⟨wr', es', op', h1, h2, h3⟩
      · rw [upd_ne _ _ hmn] at hm
        rw [Locs.up_ne _ _ _ hmn]
        exact ⟨wr, es, op, hm, Nat.le_refl _, rfl⟩
    · intro m ver wr st ty es op g cur hu hm hg hh
      by_cases hmn : m = n
      · subst hmn
        simp only [upd_same, Option.some.injEq] at hm
        subst hm
        rw [Locs.up_at] at hg
        obtain ⟨wr', es', op', _, _, _, h4⟩ := hver.tree hu
        exact h4 g cur hg hh
      · rw [upd_ne _ _ hmn] at hm
        rw [Locs.up_ne _ _ _ hmn] at hg
        exact ⟨cur, by rw [hne m g hmn (by simp [hm]) (.inl hg)]; exact hh, rfl⟩
  have himm : ∀ m g, m ≠ n → H m ≠ none → L.Own m g → ∀ o, imm' g o → imm g o := by
    intro m g hmn hm hg o ho
    rcases hgrew g o ho with h1 | ⟨h1, h2⟩
    · exact h1
    · rcases h2 with h2 | ⟨h2, h3⟩
      · exact absurd (hlt m g hm hg) (by omega)
      · exact absurd (h.inj m n g hm h2 hg h3) hmn
  refine ⟨⟨?_, ?_, ?_, h.glob.keep hkeep, ?_⟩, hext, ⟨hos, htape, hout, hsize, ?_, hkeep, ?_⟩, ?_⟩
  · intro m B' hm
    by_cases hmn : m = n
    · subst hmn
      simp only [upd_same, Option.some.injEq] at hm
      subst hm
      exact hB m hext rfl
    · rw [upd_ne _ _ hmn] at hm
      exact (h.blk m B' hm).mono hkeep hext (Locs.up_ne _ _ _ hmn) (Locs.up_sub_ne _ _ _ hmn) (fun g hg => hne m g hmn (by simp [hm]) hg) fun g o hg => himm m g hmn (by simp [hm]) hg o
  · intro m m' g hm hm' hg hg'
    by_cases e1 : m = n <;> by_cases e2 : m' = n
    · rw [e1, e2]
    · subst e1
      rw [upd_ne _ _ e2] at hm'
      rw [Locs.up_own_ne _ _ _ e2] at hg'
      rw [Locs.up_own] at hg
      rcases hl g hg with h1 | ⟨h1, h2⟩
      · exact absurd (hlt m' g hm' hg') (by omega)
      · exact h.inj _ _ g h1 hm' h2 hg'
    · subst e2
      rw [upd_ne _ _ e1] at hm
      rw [Locs.up_own_ne _ _ _ e1] at hg
      rw [Locs.up_own] at hg'
      rcases hl g hg' with h1 | ⟨h1, h2⟩
      · exact absurd (hlt m g hm hg) (by omega)
      · exact h.inj _ _ g hm h1 hg h2
    · rw [upd_ne _ _ e1] at hm
      rw [upd_ne _ _ e2] at hm'
      rw [Locs.up_own_ne _ _ _ e1] at hg
      rw [Locs.up_own_ne _ _ _ e2] at hg'
      exact h.inj _ _ g hm hm' hg hg'
  · intro m g hm hg
    by_cases hmn : m = n
    · subst hmn
      rw [Locs.up_sub] at hg
      rw [Locs.up_at]
      refine ⟨?_, hS g hg⟩
      rcases hl g (.inr hg) with h1 | ⟨h1, h2⟩
      · exact h1.2
      · exact Nat.lt_of_lt_of_le (hlt m g h1 h2) hsize
    · rw [upd_ne _ _ hmn] at hm
      rw [Locs.up_sub_ne _ _ _ hmn] at hg
      rw [Locs.up_ne _ _ _ hmn]
      exact ⟨Nat.lt_of_lt_of_le (h.sub m g hm hg).1 hsize, (h.sub m g hm hg).2⟩
  · intro b o hb
    rcases hgrew b o hb with h1 | ⟨h1, _⟩
    · exact Nat.lt_of_lt_of_le (h.imm b o h1) hsize
    · rcases hl b h1 with h2 | ⟨h2, h3⟩
      · exact h2.2
      · exact Nat.lt_of_lt_of_le (hlt n b h2 h3) hsize
  · intro b hb hf
    exact hframe b hb fun ⟨h1, h2⟩ => hf ⟨n, h1, h2⟩
  · intro b o hb
    rcases hgrew b o hb with h1 | ⟨_, h2 | ⟨h2, h3⟩⟩
    · exact .inl h1
    · exact .inr (.inl h2)
    · exact .inr (.inr ⟨n, h2, h3⟩)
  · intro m g hm hg
    by_cases hmn : m = n
    · subst hmn
      rw [Locs.up_own] at hg
      rcases hl g hg with h1 | ⟨h1, h2⟩
      · exact .inr h1.1
      · exact .inl ⟨m, h1, h2⟩
    · rw [upd_ne _ _ hmn] at hm
      rw [Locs.up_own_ne _ _ _ hmn] at hg
      exact .inl ⟨m, hm, hg⟩

theorem VerOk.same {w w' : World} {H : HMap} {L : Locs} {U : Nat → Prop} {n : Nat} {B : Blk} {l : Option Nat} (hn : H n = some B) (hl : l = L n) (hf : ∀ g, L n = some g → w'.heap[g]? = w.heap[g]?) : VerOk w w' H L U n B l := by
  cases B with
  | var ver ty cs => exact .inr (.inl ⟨ver, ty, cs, ty, cs, rfl, hn, hl⟩)
  | arr ver wr st ty es => exact .inr (.inr (.inl ⟨ver, wr, st, ty, es, wr, es, rfl, hn, Nat.le_refl _, hl, fun g cur hg hh => ⟨cur, by rw [hf g (hl ▸ hg)]; exact hh, rfl⟩⟩))
  | tree ver wr st ty es op => exact .inr (.inr (.inr ⟨ver, wr, st, ty, es, op, wr, es, op, rfl, hn, Nat.le_refl _, hl, fun g cur hg hh => ⟨cur, by rw [hf g (hl ▸ hg)]; exact hh, rfl⟩⟩))

/-- Some names get other blocks, and what they owned may go from one to the other; the names of K stay as they are. -/
theorem upd_many {w w' : World} {imm imm' : Imm} {H H' : HMap} {L L' : Locs} {U U' : Nat → Prop} (h : HOk w imm H L U) (K : Nat → Prop)
    (hos : w'.os = w.os) (htape : w'.tape = w.tape) (hout : w'.output = w.output) (hsize : w.heap.size ≤ w'.heap.size)
    (same : ∀ n, K n → H' n = H n ∧ L' n = L n ∧ L'.sub n = L.sub n)
    (hframe : ∀ b, b < w.heap.size → (∀ m, ¬ K m → H m ≠ none → ¬ L.Own m b) → w'.heap[b]? = w.heap[b]?)
    (hkeep : ∀ b o, imm b o → imm' b o ∧ w'.cell? ⟨b, o, none⟩ = w.cell? ⟨b, o, none⟩)
    (hgrew : ∀ b o, imm' b o → imm b o ∨ (w.heap.size ≤ b ∧ b < w'.heap.size) ∨ ∃ m, ¬ K m ∧ H m ≠ none ∧ L.Own m b)
    (own : ∀ m b, ¬ K m → H' m ≠ none → L'.Own m b → ((∃ m', ¬ K m' ∧ H m' ≠ none ∧ L.Own m' b) ∨ w.heap.size ≤ b) ∧ b < w'.heap.size)
    (inj : ∀ n m g, ¬ K n → ¬ K m → H' n ≠ none → H' m ≠ none → L'.Own n g → L'.Own m g → n = m) (sub : ∀ n g, ¬ K n → H' n ≠ none → L'.sub n g → L' n ≠ some g)
    (huse : ∀ v, U v → U' v) (hver : ∀ n B, ¬ K n → H' n = some B → VerOk w w' H L U n B (L' n))
    (hB : Ext w H L U w' H' L' U' → ∀ n B, ¬ K n → H' n = some B → BOk w' imm' H' L' U' n B) :
    HOk w' imm' H' L' U' ∧ Ext w H L U w' H' L' U' ∧ Step w imm (foot H L) w' imm' ∧ Near w (foot H L) H' L' := by
  have hKO : ∀ n g, K n → L'.Own n g → L.Own n g := fun n g hK hg => by
    obtain ⟨_, a, b⟩ := same n hK
    rcases hg with hg | hg
    · exact .inl (a ▸ hg)
    · exact .inr (b ▸ hg)
  have hKf : ∀ n g, K n → H n ≠ none → L.Own n g → w'.heap[g]? = w.heap[g]? := fun n g hK hn hg => hframe g (h.lt hn hg) fun m hm hm2 hg2 => hm (h.inj n m g hn hm2 hg hg2 ▸ hK)
  have hver' : ∀ n B, H' n = some B → VerOk w w' H L U n B (L' n) := fun n B hn => by
    by_cases hK : K n
    · obtain ⟨a, b, _⟩ := same n hK
      rw [a] at hn
      exact VerOk.same hn b fun g hg => hKf n g hK (by simp [hn]) (.inl hg)
    · exact hver n B hK hn
  have hext : Ext w H L U w' H' L' U' :=
    ⟨huse, fun n ver ty cs hu hm => (hver' n _ hm).var hu, fun n ver wr st ty es hu hm => let ⟨a, b, c, d, e, _⟩ := (hver' n _ hm).arr hu; ⟨a, b, c, d, e⟩,
      fun n ver wr st ty es g cur hu hm hg hh => let ⟨_, _, _, _, _, f⟩ := (hver' n _ hm).arr hu; f g cur hg hh,
      fun n ver wr st ty es op hu hm => let ⟨a, b, c, d, e, f, _⟩ := (hver' n _ hm).tree hu; ⟨a, b, c, d, e, f⟩,
      fun n ver wr st ty es op g cur hu hm hg hh => let ⟨_, _, _, _, _, _, f⟩ := (hver' n _ hm).tree hu; f g cur hg hh⟩
  have hmix : ∀ n m g, K n → ¬ K m → H' n ≠ none → H' m ≠ none → L'.Own n g → L'.Own m g → False := fun n m g hK hK' hn hm hg hg' => by
    have hn' : H n ≠ none := by rw [← (same n hK).1]; exact hn
    have hg := hKO n g hK hg
    rcases (own m g hK' hm hg').1 with ⟨m', h1, h2, h3⟩ | h1
    · exact h1 (h.inj n m' g hn' h2 hg h3 ▸ hK)
    · exact absurd (h.lt hn' hg) (by omega)
  refine ⟨⟨fun n B hn => ?_, fun n m g hn hm hg hg' => ?_, fun n g hn hg => ?_, h.glob.keep hkeep, fun b o ho => ?_⟩, hext, ⟨hos, htape, hout, hsize, fun b hb hf => ?_, hkeep, fun b o ho => ?_⟩, fun n g hn hg => ?_⟩
  · by_cases hK : K n
    · obtain ⟨a, b, c⟩ := same n hK
      rw [a] at hn
      refine (h.blk n B hn).mono hkeep hext b c (fun g hg => hKf n g hK (by simp [hn]) hg) fun g o hg ho => ?_
      rcases hgrew g o ho with h1 | ⟨h1, _⟩ | ⟨m, h1, h2, h3⟩
      · exact h1
      · exact absurd (h.lt (by simp [hn]) hg) (by omega)
      · exact absurd (h.inj n m g (by simp [hn]) h2 hg h3 ▸ hK) h1
    · exact hB hext n B hK hn
  · by_cases h1 : K n <;> by_cases h2 : K m
    · exact h.inj n m g (by rw [← (same n h1).1]; exact hn) (by rw [← (same m h2).1]; exact hm) (hKO n g h1 hg) (hKO m g h2 hg')
    · exact (hmix n m g h1 h2 hn hm hg hg').elim
    · exact (hmix m n g h2 h1 hm hn hg' hg).elim
    · exact inj n m g h1 h2 hn hm hg hg'
  · by_cases hK : K n
    · obtain ⟨a, b, c⟩ := same n hK
      rw [a] at hn
      rw [c] at hg
      rw [b]
      exact ⟨Nat.lt_of_lt_of_le (h.sub n g hn hg).1 hsize, (h.sub n g hn hg).2⟩
    · exact ⟨(own n g hK hn (.inr hg)).2, sub n g hK hn hg⟩
  · rcases hgrew b o ho with h1 | h1 | ⟨m, _, h2, h3⟩
    · exact Nat.lt_of_lt_of_le (h.imm b o h1) hsize
    · exact h1.2
    · exact Nat.lt_of_lt_of_le (h.lt h2 h3) hsize
  · exact hframe b hb fun m _ h2 h3 => hf ⟨m, h2, h3⟩
  · rcases hgrew b o ho with h1 | h1 | ⟨m, _, h2, h3⟩
    · exact .inl h1
    · exact .inr (.inl h1.1)
    · exact .inr (.inr ⟨m, h2, h3⟩)
  · by_cases hK : K n
    · exact .inl ⟨n, by rw [← (same n hK).1]; exact hn, hKO n g hK hg⟩
    · rcases (own n g hK hn hg).1 with ⟨m, _, h2, h3⟩ | h1
      · exact .inl ⟨m, h2, h3⟩
      · exact .inr h1

theorem Ext.refl (w : World) (H : HMap) (L : Locs) (U : Nat → Prop) : Ext w H L U w H L U :=
  ⟨fun _ h => h, fun _ _ ty cs _ h => ⟨ty, cs, h, rfl⟩, fun _ _ wr _ _ es _ h => ⟨wr, es, h, Nat.le_refl _, rfl⟩, fun _ _ _ _ _ _ _ cur _ _ _ h => ⟨cur, h, rfl⟩,
    fun _ _ wr _ _ es op _ h => ⟨wr, es, op, h, Nat.le_refl _, rfl⟩, fun _ _ _ _ _ _ _ _ cur _ _ _ h => ⟨cur, h, rfl⟩⟩

theorem Step.refl (w : World) (imm : Imm) (fp : Nat → Prop) : Step w imm fp w imm := ⟨rfl, rfl, rfl, Nat.le_refl _, fun _ _ _ => rfl, fun _ _ h => ⟨h, rfl⟩, fun _ _ h => .inl h⟩

theorem Near.refl (w : World) (H : HMap) (L : Locs) : Near w (foot H L) H L := fun n _ hn hg => .inl ⟨n, hn, hg⟩

theorem Step.trans {w w1 w2 : World} {imm imm1 imm2 : Imm} {fp : Nat → Prop} {H1 H2 : HMap} {L1 L2 : Locs} (h1 : Step w imm fp w1 imm1) (n1 : Near w fp H1 L1)
    (h2 : Step w1 imm1 (foot H1 L1) w2 imm2) (n2 : Near w1 (foot H1 L1) H2 L2) : Step w imm fp w2 imm2 ∧ Near w fp H2 L2 := by
  refine ⟨⟨h2.os.trans h1.os, h2.tape.trans h1.tape, h2.output.trans h1.output, Nat.le_trans h1.size h2.size, ?_, ?_, ?_⟩, ?_⟩
  · intro b hb hf
    rw [h2.frame b (Nat.lt_of_lt_of_le hb h1.size) ?_, h1.frame b hb hf]
    rintro ⟨n, hn, hL⟩
    rcases n1 n b hn hL with h | h
    · exact hf h
    · omega
  · intro b o hi
    obtain ⟨a1, a2⟩ := h1.keep b o hi
    obtain ⟨b1, b2⟩ := h2.keep b o a1
    exact ⟨b1, b2.trans a2⟩
  · intro b o hi
    rcases h2.grew b o hi with h | h | ⟨n, hn, hL⟩
    · exact h1.grew b o h
    · exact .inr (.inl (Nat.le_trans h1.size h))
    · rcases n1 n b hn hL with h | h
      · exact .inr (.inr h)
      · exact .inr (.inl h)
  · intro n g hn hg
    rcases n2 n g hn hg with ⟨m, hm, hL⟩ | h
    · exact n1 m g hm hL
    · exact .inr (Nat.le_trans h1.size h)

theorem Ext.trans {w w1 w2 : World} {H H1 H2 : HMap} {L L1 L2 : Locs} {U U1 U2 : Nat → Prop} (a : Ext w H L U w1 H1 L1 U1) (b : Ext w1 H1 L1 U1 w2 H2 L2 U2) : Ext w H L U w2 H2 L2 U2 := by
  refine ⟨fun v h => b.use v (a.use v h), ?_, ?_, ?_, ?_, ?_⟩
  · intro n ver ty cs hu hn
    obtain ⟨ty1, cs1, h1, e1⟩ := b.var n ver ty cs (a.use _ hu) hn
    obtain ⟨ty2, cs2, h2, e2⟩ := a.var n ver ty1 cs1 hu h1
    exact ⟨ty2, cs2, h2, e1.trans e2⟩
  · intro n ver wr st ty es hu hn
    obtain ⟨wr1, es1, h1, l1, e1⟩ := b.arr n ver wr st ty es (a.use _ hu) hn
    obtain ⟨wr2, es2, h2, l2, e2⟩ := a.arr n ver wr1 st ty es1 hu h1
    exact ⟨wr2, es2, h2, Nat.le_trans l2 l1, e1.trans e2⟩
  · intro n ver wr st ty es g cur hu hn hg hh
    obtain ⟨wr1, es1, h1, l1, e1⟩ := b.arr n ver wr st ty es (a.use _ hu) hn
    obtain ⟨cur1, c1, s1⟩ := a.cells n ver wr1 st ty es1 g cur hu h1 (e1.symm.trans hg) hh
    obtain ⟨cur2, c2, s2⟩ := b.cells n ver wr st ty es g cur1 (a.use _ hu) hn hg c1
    exact ⟨cur2, c2, s2.trans s1⟩
  · intro n ver wr st ty es op hu hn
    obtain ⟨wr1, es1, op1, h1, l1, e1⟩ := b.tree n ver wr st ty es op (a.use _ hu) hn
    obtain ⟨wr2, es2, op2, h2, l2, e2⟩ := a.tree n ver wr1 st ty es1 op1 hu h1
    exact ⟨wr2, es2, op2, h2, Nat.le_trans l2 l1, e1.trans e2⟩
  · intro n ver wr st ty es op g cur hu hn hg hh
    obtain ⟨wr1, es1, op1, h1, l1, e1⟩ := b.tree n ver wr st ty es op (a.use _ hu) hn
    obtain ⟨cur1, c1, s1⟩ := a.tcells n ver wr1 st ty es1 op1 g cur hu h1 (e1.symm.trans hg) hh
    obtain ⟨cur2, c2, s2⟩ := b.tcells n ver wr st ty es op g cur1 (a.use _ hu) hn hg c1
    exact ⟨cur2, c2, s2.trans s1⟩

theorem CRep.use {w : World} {H : HMap} {L : Locs} {U U' : Nat → Prop} (hu : ∀ v, U v → U' v) : Ext w H L U w H L U' :=
  ⟨hu, fun _ _ ty cs _ h => ⟨ty, cs, h, rfl⟩, fun _ _ wr _ _ es _ h => ⟨wr, es, h, Nat.le_refl _, rfl⟩, fun _ _ _ _ _ _ _ cur _ _ _ h => ⟨cur, h, rfl⟩,
    fun _ _ wr _ _ es op _ h => ⟨wr, es, op, h, Nat.le_refl _, rfl⟩, fun _ _ _ _ _ _ _ _ cur _ _ _ h => ⟨cur, h, rfl⟩⟩
end Go.V
namespace Go.V

inductive Opd where
  | t (i : Nat)
  | k (x : T)

inductive AOp where
  | mv (x : Opd)
  | pick (c a b : Opd)
  | alloc (ty : TypeId) (cs : List C)
  | box (ty : TypeId) (x : Opd)
  | build (zero : List C) (parts : List (Nat × Nat × Opd))
  | bsl (st : Nat) (ty : TypeId) (parts : List Opd)
  | ld (n : Nat) (ag : Bool) (x : Opd)
  | st (n : Nat) (x v : Opd)
  | nck (x : Opd)
  | bin (op : BinOp) (x y : Opd)
  | binB (op : BinOp) (x y : Opd)
  | cmpA (neg : Bool) (ks : List Nat) (x y : Opd)
  | un (op : UnOp) (x : Opd)
  | cnvI (k : IntKind) (x : Opd)
  | mkf (f : FuncId) (caps : List Opd)
  | mks (st : Nat) (ty : TypeId) (bytes : Nat) (zero : List V) (l c : Opd)
  | slc (st : Nat) (x : Opd) (lo hi : Option Opd)
  | slc0 (x : Opd)
  | slcS (x : Opd) (lo hi : Option Opd)
  | fa (off : Nat) (x : Opd)
  | fl (off n : Nat) (ag : Bool) (x : Opd)
  | ia (st : Nat) (x i : Opd)
  | ix (x i : Opd)
  | ext (i : Nat) (x : Opd)
  | len (x : Opd)
  | lenS (x : Opd)
  | mmx (mx : Bool) (x y : Opd)
  | cpy (x y : Opd)
  | iap (n st : Nat) (x i : Opd)
  | ixA (n st : Nat) (ag : Bool) (x i : Opd)
  | cnvBS (x : Opd)
  | isnil (neg : Bool) (x : Opd)
  | bad
  | app (st : Nat) (ty : TypeId) (bytes : Nat) (x y : Opd)
  | mm3 (x y z : Opd)
  | cnvSB (x : Opd)
  | appS (ty : TypeId) (bytes : Nat) (x y : Opd)
  | call (f : Opd) (args : List Opd)

structure AOper where
  k : Nat
  d : Option Nat
  g : Option (Nat × Bool)
  un : List Nat
  op : AOp

structure St where
  t : Nat → T
  H : HMap
  ctr : Nat

structure Ef where
  val : T
  ws : List (Nat × Blk)
  rn : List Nat
  wn : List Nat

abbrev Ef.pure (v : T) : Ef := ⟨v, [], [], []⟩

def ev (t : Nat → T) : Opd → T
  | .t i => t i
  | .k x => x

abbrev T.c (x : C) : T := .pt (.one x)
abbrev T.s (x : Value) : T := .pt (.one (.v (.s x)))
abbrev T.b (x : Bool) : T := .pt (.one (.v (.s (.bool x))))
abbrev T.i (x : Int) : T := .pt (.one (.v (.s (.int .i64 x))))

def P1.cells : P1 → List C
  | .one c => [c]
  | .agg cs => cs

/-- The cells from k on are these. -/
def putC {α : Type} (cs : List α) (k : Nat) (ns : List α) : List α := cs.take k ++ ns ++ cs.drop (k + ns.length)

/-- A cell as a closed value; an array of the call's own is given away for reading. -/
def sealC (H : HMap) : C → Option (V × List (Nat × Blk) × List Nat)
  | .v x => some (x, [], [])
  | .nil0 => some (.sl [], [], [])
  | .own id ver n => match H id with
    | some (.arr ver' _ st ty es) => if ver' = ver ∧ n ≤ es.length then some (.sl (es.take n), [(id, .arr ver false st ty es)], [id]) else none
    | _ => none
  | .ow id ver l n => match H id with
    | some (.arr ver' _ st ty es) => if ver' = ver ∧ l + n ≤ es.length then some (.sl ((es.drop l).take n), [(id, .arr ver false st ty es)], [id]) else none
    | _ => none
  | .tr id ver n => match H id with
    | some (.tree ver' _ st ty es none) => if ver' = ver ∧ n ≤ es.length then some (.sl (es.take n), [(id, .tree ver false st ty es none)], [id]) else none
    | _ => none
  | _ => none

def sealCs (H : HMap) : List C → Option (List V × List (Nat × Blk) × List Nat)
  | [] => some ([], [], [])
  | c :: cs => match sealC H c, sealCs H cs with
    | some (x, w, n), some (xs, ws, ns) => some (x :: xs, w ++ ws, n ++ ns)
    | _, _ => none

/-- The parts of a slice's literal, each with so many cells. -/
def sealPs (H : HMap) (st : Nat) : List T → Option (List (List V) × List (Nat × Blk) × List Nat)
  | [] => some ([], [], [])
  | .pt p :: ps => match sealCs H p.cells, sealPs H st ps with
    | some (x, w, n), some (xs, ws, ns) => if x.length = st then some (x :: xs, w ++ ws, n ++ ns) else none
    | _, _ => none
  | _ :: _ => none

/-- Rows of plain cells. -/
def flatFrom (ty : TypeId) : Nat → List V → Bool
  | _, [] => true
  | j, .s _ :: xs => (tsub ty j).isNone && flatFrom ty (j + 1) xs
  | _, _ :: _ => false
/-- Rows of plain cells and of slices with nothing in them. -/
def thinFrom (ty : TypeId) : Nat → List V → Bool
  | _, [] => true
  | j, .s _ :: xs => (tsub ty j).isNone && thinFrom ty (j + 1) xs
  | j, .sl [] :: xs => (tsub ty j).isSome && thinFrom ty (j + 1) xs
  | _, _ :: _ => false
/-- A cell that is given over into a tree: what it holds, and the names that go with it. -/
def moveC (H : HMap) (k : Option (Nat × TypeId)) : C → Option (V × List Nat)
  | .v (.s x) => if k = none then some (.s x, []) else none
  | .v (.sl []) => if k = none then none else some (.sl [], [])
  | .nil0 => if k = none then none else some (.sl [], [])
  | .own id ver n => match H id with
    | some (.arr ver' true st ty es) => if ver' = ver ∧ n ≤ es.length ∧ k = some (st, ty) ∧ ∀ e ∈ es, flatFrom ty 0 e = true then some (.sl (es.take n), [id]) else none
    | _ => none
  | .tr id ver n => match H id with
    | some (.tree ver' true st ty es none) => if ver' = ver ∧ n ≤ es.length ∧ k = some (st, ty) then some (.sl (es.take n), [id]) else none
    | _ => none
  | _ => none
def moveCs (H : HMap) (ty : TypeId) : Nat → List C → Option (List V × List Nat)
  | _, [] => some ([], [])
  | j, c :: cs => match moveC H (tsub ty j) c, moveCs H ty (j + 1) cs with
    | some (x, n), some (xs, ns) => some (x :: xs, n ++ ns)
    | _, _ => none
def movePs (H : HMap) (st : Nat) (ty : TypeId) : List T → Option (List (List V) × List Nat)
  | [] => some ([], [])
  | .pt p :: ps => match moveCs H ty 0 p.cells, movePs H st ty ps with
    | some (x, n), some (xs, ns) => if x.length = st then some (x :: xs, n ++ ns) else none
    | _, _ => none
  | _ :: _ => none
def isTr : C → Bool
  | .tr _ _ _ => true
  | _ => false
def hasTr : List T → Bool
  | [] => false
  | .pt p :: ps => p.cells.any isTr || hasTr ps
  | _ :: _ => false

def fillP (t : Nat → T) : List C → List (Nat × Nat × Opd) → Option (List C)
  | cs, [] => some cs
  | cs, (off, size, x) :: ps => match ev t x with
    | .pt p => if p.cells.length = size ∧ off + size ≤ cs.length then fillP t (putC cs off p.cells) ps else none
    | _ => none

def asInt : T → Option (IntKind × Int)
  | .pt (.one (.v (.s (.int k n)))) => some (k, n)
  | _ => none

def sInt (op : BinOp) (k : IntKind) (a b : Int) : Option Value :=
  match op with
  | .add => some (.int k (k.wrap (a + b)))
  | .sub => some (.int k (k.wrap (a - b)))
  | .mul => some (.int k (k.wrap (a * b)))
  | .quo => if b = 0 then none else some (.int k (k.wrap (a.tdiv b)))
  | .rem => if b = 0 then none else some (.int k (a.tmod b))
  | .and => some (.int k (k.wrap ((BitVec.ofInt k.bits a &&& BitVec.ofInt k.bits b).toNat)))
  | .or => some (.int k (k.wrap ((BitVec.ofInt k.bits a ||| BitVec.ofInt k.bits b).toNat)))
  | .xor => some (.int k (k.wrap ((BitVec.ofInt k.bits a ^^^ BitVec.ofInt k.bits b).toNat)))
  | .shl => if b < 0 then none else some (.int k (k.wrap (a * 2 ^ (min b.toNat k.bits))))
  | .shr => if b < 0 then none else some (.int k (a.fdiv (2 ^ (min b.toNat k.bits))))
  | .eql => some (.bool (a == b))
  | .neq => some (.bool (a != b))
  | .lss => some (.bool (decide (a < b)))
  | .leq => some (.bool (decide (a ≤ b)))
  | .gtr => some (.bool (decide (a > b)))
  | .geq => some (.bool (decide (a ≥ b)))
  | _ => none

/-- Two texts fit into one. -/
def fits (a b : ByteArray) : Prop := a.size + b.size ≤ 9223372036854775807
instance (a b : ByteArray) : Decidable (fits a b) := Nat.decLe _ _

def sStr (op : BinOp) (a b : ByteArray) : Option Value :=
  match op with
  | .add => if fits a b then some (.string (a ++ b)) else none
  | .eql => some (.bool (a.toList == b.toList))
  | .neq => some (.bool (!(a.toList == b.toList)))
  | .lss => some (.bool (Op.bytesLess a.toList b.toList))
  | .leq => some (.bool (Op.bytesLess a.toList b.toList || a.toList == b.toList))
  | .gtr => some (.bool (!(Op.bytesLess a.toList b.toList || a.toList == b.toList)))
  | .geq => some (.bool (!Op.bytesLess a.toList b.toList))
  | _ => none

def isShift : BinOp → Bool
  | .shl | .shr => true
  | _ => false

def sBin (op : BinOp) (a b : Value) : Option Value :=
  match a, b with
  | .int k x, .int k' y => if k = k' ∨ isShift op = true then sInt op k x y else none
  | .string x, .string y => sStr op x y
  | _, _ => none

def sUn (op : UnOp) (a : Value) : Option Value :=
  match op, a with
  | .not, .bool b => some (.bool !b)
  | .neg, .int k n => some (.int k (k.wrap (0 - n)))
  | _, _ => none

/-- What a slice holds that is read whole: for the second operand of append. -/
def srcOf (H : HMap) : T → Option (List (List V) × List Nat)
  | .pt (.one .nil0) => some ([], [])
  | .pt (.one (.v (.sl es))) => some (es, [])
  | .pt (.one (.own id ver n)) => match H id with
    | some (.arr ver' _ _ _ es) => if ver' = ver then some (es.take n, [id]) else none
    | _ => none
  | .pt (.one (.ow id ver l n)) => match H id with
    | some (.arr ver' _ _ _ es) => if ver' = ver ∧ l + n ≤ es.length then some ((es.drop l).take n, [id]) else none
    | _ => none
  | .pt (.one (.v (.s (.slice _ n _)))) => if n = 0 then some ([], []) else none
  | _ => none

/-- The elements of a tree that is given over. -/
def trOf (H : HMap) : T → Option (Nat × TypeId × List (List V))
  | .pt (.one (.tr id ver n)) => match H id with
    | some (.tree ver' true _ ty es none) => if ver' = ver ∧ n ≤ es.length then some (id, ty, es.take n) else none
    | _ => none
  | _ => none

/-- The array that copy writes: its name, its mark, from where, how much. -/
def dstOf : T → Option (Nat × Nat × Nat × Nat)
  | .pt (.one (.own id v n)) => some (id, v, 0, n)
  | .pt (.one (.ow id v l n)) => some (id, v, l, n)
  | _ => none

/-- Whether structs of numbers, truth values and texts are alike. -/
def eqK : List Nat → List C → List C → Option Bool
  | [], [], [] => some true
  | 0 :: ks, .v (.s (.int k a)) :: cs, .v (.s (.int k' b)) :: ds => if k = k' then (eqK ks cs ds).map fun r => (a == b) && r else none
  | 1 :: ks, .v (.s (.bool a)) :: cs, .v (.s (.bool b)) :: ds => (eqK ks cs ds).map fun r => (a == b) && r
  | 2 :: ks, .v (.s (.string a)) :: cs, .v (.s (.string b)) :: ds => (eqK ks cs ds).map fun r => (a.toList == b.toList) && r
  | _, _, _ => none

/-- The bytes of a row. -/
def bytesOf : List (List V) → Option (List Int)
  | [] => some []
  | [.s (.int .u8 n)] :: es => (bytesOf es).map (n :: ·)
  | _ => none
/-- The bytes of a text, as a row. -/
def eBs (s : ByteArray) : List (List V) := s.data.toList.map fun b => [.s (.int .u8 b.toNat)]
def pushB (ns : List Int) : ByteArray := ns.foldl (fun r n => r.push (UInt8.ofNat n.toNat)) ByteArray.empty

/-- The cells that a pointer points to, up to the end of what it points into. -/
def ptrC (H : HMap) : T → Option (List C × List Nat)
  | .pt (.one (.ptr id ver j)) => match H id with
    | some (.var ver' _ cs) => if ver' = ver then some (cs.drop j, [id]) else none
    | _ => none
  | .pt (.one (.aptr id ver i j)) => match H id with
    | some (.arr ver' _ _ _ es) => if ver' = ver then (es[i]?).map fun e => ((e.drop j).map .v, [id]) else none
    | _ => none
  | .pt (.one (.vptr xs)) => some (xs.map .v, [])
  | .pt (.one (.tptr id ver i j)) => match H id with
    | some (.tree ver' _ _ _ _ (some (i', cs))) => if ver' = ver ∧ i' = i then some (cs.drop j, [id]) else none
    | _ => none
  | _ => none

def loadT (H : HMap) (n : Nat) (ag : Bool) (x : T) : Option (T × List Nat) :=
  match ptrC H x with
  | some (cs, rn) => if ag then (if n ≤ cs.length then some (.pt (.agg (cs.take n)), rn) else none) else (cs[0]?).map fun c => (.pt (.one c), rn)
  | none => none

def toVs : List C → Option (List V)
  | [] => some []
  | .v x :: cs => (toVs cs).map (x :: ·)
  | .nil0 :: cs => (toVs cs).map (.sl [] :: ·)
  | _ :: _ => none

def storeT (H : HMap) (n : Nat) (p : P1) : T → Option (List (Nat × Blk) × List Nat)
  | .pt (.one (.ptr id ver j)) => match H id with
    | some (.var ver' ty cs) => if ver' = ver ∧ p.cells.length = n ∧ j + n ≤ cs.length then some ([(id, .var ver ty (putC cs j p.cells))], [id]) else none
    | _ => none
  | .pt (.one (.aptr id ver i j)) => match H id, toVs p.cells with
    | some (.arr ver' wr st ty es), some xs => if wr = true ∧ ver' = ver then match es[i]? with
      | some e => if xs.length = n ∧ j + n ≤ e.length then some ([(id, .arr ver true st ty (es.set i (putC e j xs)))], [id]) else none
      | none => none
      else none
    | _, _ => none
  | .pt (.one (.tptr id ver i j)) => match H id with
    | some (.tree ver' wr st ty es (some (i', cs))) => if ver' = ver ∧ i' = i ∧ p.cells.length = n ∧ j + n ≤ cs.length then some ([(id, .tree ver wr st ty es (some (i, putC cs j p.cells)))], [id]) else none
    | _ => none
  | _ => none

def capsOf : List T → Option (List (Nat × Nat))
  | [] => some []
  | .pt (.one (.ptr id ver 0)) :: ts => (capsOf ts).map ((id, ver) :: ·)
  | _ :: _ => none

/-- The bounds of a slice expression: both are there, or stand for the ends. -/
def lohi (t : Nat → T) (len : Nat) (lo hi : Option Opd) : Option (Nat × Nat) :=
  match (match lo with | none => some (IntKind.i64, (0 : Int)) | some o => asInt (ev t o)), (match hi with | none => some (IntKind.i64, (len : Int)) | some o => asInt (ev t o)) with
  | some (_, l), some (_, h) => if 0 ≤ l ∧ l ≤ h ∧ h ≤ (len : Int) then some (l.toNat, h.toNat) else none
  | _, _ => none

def core (op : AOp) (d ver : Nat) (t : Nat → T) (H : HMap) : Option Ef :=
  match op with
  | .mv x => some (.pure (ev t x))
  | .pick c a b => match ev t c with
    | .pt (.one (.v (.s (.bool b')))) => some (.pure (if b' then ev t a else ev t b))
    | _ => none
  | .alloc ty cs => some ⟨.pt (.one (.ptr d ver 0)), [(d, .var ver ty cs)], [d], [d]⟩
  | .box ty x => match ev t x with
    | .pt p => some ⟨.pt (.one (.ptr d ver 0)), [(d, .var ver ty p.cells)], [d], [d]⟩
    | _ => none
  | .build zero parts => (fillP t zero parts).map fun cs => .pure (.pt (.agg cs))
  | .bsl st ty parts => if hasTr (parts.map (ev t)) = true then (match movePs H st ty (parts.map (ev t)) with
      | some (es, ns) => if ns.Nodup ∧ d ∉ ns then some ⟨.pt (.one (.tr d ver es.length)), ns.map (fun n => (n, .arr ver true 1 ty [])) ++ [(d, .tree ver true st ty es none)], d :: ns, d :: ns⟩ else none
      | none => none)
    else match sealPs H st (parts.map (ev t)) with
    | some (es, ws, ns) => some ⟨.pt (.one (.own d ver es.length)), ws ++ [(d, .arr ver true st ty es)], d :: ns, d :: ns⟩
    | none => none
  | .ld n ag x => (loadT H n ag (ev t x)).map fun (v, rn) => ⟨v, [], rn, []⟩
  | .st n x v => match ev t v with
    | .pt p => (storeT H n p (ev t x)).map fun (ws, wn) => ⟨.undef, ws, wn, wn⟩
    | _ => none
  | .nck x => match ev t x with
    | .pt (.one (.fn f cs)) => some (.pure (.pt (.one (.fn f cs))))
    | .pt (.one (.ptr a b c)) => some (.pure (.pt (.one (.ptr a b c))))
    | .pt (.one (.vptr xs)) => some (.pure (.pt (.one (.vptr xs))))
    | .pt (.one (.aptr a b c e)) => some (.pure (.pt (.one (.aptr a b c e))))
    | .pt (.one (.tptr a b c e)) => some (.pure (.pt (.one (.tptr a b c e))))
    | _ => none
  | .bin op x y => match ev t x, ev t y with
    | .pt (.one (.v (.s a))), .pt (.one (.v (.s b))) => (sBin op a b).map fun v => .pure (.s v)
    | _, _ => none
  | .cmpA neg ks x y => match ev t x, ev t y with
    | .pt (.agg cs), .pt (.agg ds) => (eqK ks cs ds).map fun r => .pure (.b (if neg then !r else r))
    | _, _ => none
  | .binB op x y => match ev t x, ev t y with
    | .pt (.one (.v (.s (.bool a)))), .pt (.one (.v (.s (.bool b)))) => match op with
      | .eql => some (.pure (.b (a == b)))
      | .neq => some (.pure (.b (!(a == b))))
      | _ => none
    | _, _ => none
  | .un op x => match ev t x with
    | .pt (.one (.v (.s a))) => (sUn op a).map fun v => .pure (.s v)
    | _ => none
  | .cnvI k x => (asInt (ev t x)).map fun (_, n) => .pure (.s (.int k (k.wrap n)))
  | .mkf f caps => (capsOf (caps.map (ev t))).map fun cs => .pure (.pt (.one (.fn f cs)))
  | .mks st ty bytes zero l c => match asInt (ev t l), asInt (ev t c) with
    | some (_, l), some (_, c) =>
      if 0 ≤ l ∧ l ≤ c ∧ bytes * c ≤ 281474976710656 ∧ c ≤ 9223372036854775807 ∧ zero.length = st ∧ 0 < st then
        some ⟨.pt (.one (.own d ver l.toNat)), [(d, .arr ver true st ty (List.replicate l.toNat zero))], [d], [d]⟩ else none
    | _, _ => none
  | .slcS x lo hi => match ev t x with
    | .pt (.one (.v (.s (.string s)))) => (lohi t s.size lo hi).map fun (l, h) => .pure (.s (.string (s.extract l h)))
    | _ => none
  | .slc st x lo hi => match ev t x with
    | .pt (.one (.v (.sl es))) => match lohi t es.length lo hi with
      | some (l, h) => if ∀ e ∈ es, e.length = st then some (.pure (.pt (.one (.v (.sl ((es.drop l).take (h - l))))))) else none
      | none => none
    | .pt (.one (.own id v n)) => match lohi t n lo hi with
      | some (0, h) => some (.pure (.pt (.one (.own id v h))))
      | some (l + 1, h) => match H id with
        | some (.arr v' _ st' _ es) => if v' = v ∧ st' = st ∧ h ≤ es.length then some ⟨.pt (.one (.ow id v (l + 1) (h - (l + 1)))), [], [id], []⟩ else none
        | _ => none
      | none => none
    | .pt (.one .nil0) => match lohi t 0 lo hi with
      | some _ => some (.pure (.pt (.one .nil0)))
      | none => none
    | _ => none
  | .slc0 x => match ev t x with
    | .pt (.one (.v (.sl _))) => some (.pure (.pt (.one .nil0)))
    | .pt (.one (.own _ _ _)) => some (.pure (.pt (.one .nil0)))
    | .pt (.one .nil0) => some (.pure (.pt (.one .nil0)))
    | _ => none
  | .fa off x => match ev t x with
    | .pt (.one (.ptr id v j)) => some (.pure (.pt (.one (.ptr id v (j + off)))))
    | .pt (.one (.aptr id v i j)) => some (.pure (.pt (.one (.aptr id v i (j + off)))))
    | .pt (.one (.tptr id v i j)) => some (.pure (.pt (.one (.tptr id v i (j + off)))))
    | .pt (.one (.vptr xs)) => some (.pure (.pt (.one (.vptr (xs.drop off)))))
    | _ => none
  | .fl off n ag x => match ev t x with
    | .pt (.agg cs) =>
      if ag then (if off + n ≤ cs.length then some (.pure (.pt (.agg ((cs.drop off).take n)))) else none)
      else (cs[off]?).map fun c => .pure (.pt (.one c))
    | _ => none
  | .ia st x i => match ev t x, asInt (ev t i) with
    | .pt (.one (.v (.sl es))), some (_, n) => if 0 ≤ n then match es[n.toNat]? with
      | some e => if e.length = st then some (.pure (.pt (.one (.vptr e)))) else none
      | none => none
      else none
    | .pt (.one (.own id v m)), some (_, n) => if 0 ≤ n ∧ n < m then match H id with
      | some (.arr v' _ st' _ es) => if v' = v ∧ st' = st ∧ m ≤ es.length then some ⟨.pt (.one (.aptr id v n.toNat 0)), [], [id], []⟩ else none
      | _ => none
      else none
    | .pt (.one (.tr id v m)), some (_, n) => if 0 ≤ n ∧ n < m then match H id with
      | some (.tree v' _ st' _ es _) => if v' = v ∧ st' = st ∧ m ≤ es.length then some ⟨.pt (.one (.tptr id v n.toNat 0)), [], [id], []⟩ else none
      | _ => none
      else none
    | _, _ => none
  | .ix x i => match ev t x, asInt (ev t i) with
    | .pt (.one (.v (.s (.string s)))), some (_, n) => if 0 ≤ n then (s.data[n.toNat]?).map fun b => .pure (.s (.int .u8 b.toNat)) else none
    | _, _ => none
  | .ext i x => match ev t x with
    | .tup xs => (xs[i]?).map fun p => .pure (.pt p)
    | _ => none
  | .lenS x => match ev t x with
    | .pt (.one (.v (.s (.string s)))) => some (.pure (.i s.size))
    | _ => none
  | .mmx mx x y => match asInt (ev t x), asInt (ev t y) with
    | some (k, a), some (_, b) => some (.pure (.s (.int k (if mx then max a b else min a b))))
    | _, _ => none
  | .iap n st x i => match ev t x, asInt (ev t i) with
    | .pt (.one (.ptr id v j)), some (_, m) => if 0 ≤ m ∧ m.toNat < n then some (.pure (.pt (.one (.ptr id v (j + m.toNat * st))))) else none
    | _, _ => none
  | .ixA n st ag x i => match ev t x, asInt (ev t i) with
    | .pt (.agg cs), some (_, m) => if 0 ≤ m ∧ m.toNat < n then
        (if ag then (if m.toNat * st + st ≤ cs.length then some (.pure (.pt (.agg ((cs.drop (m.toNat * st)).take st)))) else none)
        else (cs[m.toNat * st]?).map fun c => .pure (.pt (.one c)))
      else none
    | _, _ => none
  | .len x => match ev t x with
    | .pt (.one (.v (.sl es))) => some (.pure (.i es.length))
    | .pt (.one (.own _ _ n)) => some (.pure (.i n))
    | .pt (.one (.tr _ _ n)) => some (.pure (.i n))
    | .pt (.one .nil0) => some (.pure (.i 0))
    | _ => none
  | .app st ty bytes x y => match trOf H (ev t y) with
   | some (d2, ty2, ys) => if ty2 = ty ∧ (∀ e ∈ ys, e.length = st) ∧ 0 < st then match ev t x with
      | .pt (.one .nil0) => if ys.length * bytes ≤ 140737488355328 ∧ ys.length ≤ 9223372036854775807 ∧ d ≠ d2 then
          some ⟨.pt (.one (.tr d ver ys.length)), [(d2, .arr ver true st ty []), (d, .tree ver true st ty ys none)], [d, d2], [d, d2]⟩ else none
      | .pt (.one (.tr id v n)) => match H id with
        | some (.tree v' true st' ty' es none) =>
          if v' = v ∧ st' = st ∧ ty' = ty ∧ n ≤ es.length ∧ (n + ys.length) * bytes ≤ 140737488355328 ∧ n + ys.length ≤ 9223372036854775807 ∧ id ≠ d2 then
            some ⟨.pt (.one (.tr id ver (n + ys.length))), [(d2, .arr ver true st ty []), (id, .tree ver true st ty (es.take n ++ ys) none)], [id, d2], [id, d2]⟩ else none
        | _ => none
      | _ => none
      else none
   | none => match srcOf H (ev t y) with
    | none => none
    | some (ys, ns) => if (∀ e ∈ ys, e.length = st) ∧ 0 < st then match ev t x with
      | .pt (.one .nil0) => if ys.length * bytes ≤ 140737488355328 ∧ ys.length ≤ 9223372036854775807 then
          some ⟨.pt (.one (.own d ver ys.length)), [(d, .arr ver true st ty ys)], d :: ns, [d]⟩ else none
      | .pt (.one (.own id v n)) => match H id with
        | some (.arr v' wr st' ty' es) =>
          if v' = v ∧ st' = st ∧ ty' = ty ∧ n ≤ es.length ∧ (n = es.length ∨ wr = true) ∧ (n + ys.length) * bytes ≤ 140737488355328 ∧ n + ys.length ≤ 9223372036854775807 then
            some ⟨.pt (.one (.own id ver (n + ys.length))), [(id, .arr ver wr st ty (es.take n ++ ys))], id :: ns, [id]⟩ else none
        | _ => none
      | _ => none
      else none
  | .cpy x y => match srcOf H (ev t y), dstOf (ev t x) with
    | some (ys, ns), some (id, v, l, n) => match H id with
      | some (.arr v' wr st' ty es) => if v' = v ∧ st' = 1 ∧ wr = true ∧ l + n ≤ es.length ∧ ∀ e ∈ ys, e.length = 1 then
          some ⟨.i (min ys.length n : Nat), [(id, .arr v true 1 ty (es.take l ++ ys.take n ++ es.drop (l + min ys.length n)))], id :: ns, [id]⟩ else none
      | _ => none
    | _, _ => none
  | .cnvBS x => match srcOf H (ev t x) with
    | some (ys, ns) => (bytesOf ys).map fun bs => ⟨.s (.string (pushB bs)), [], ns, []⟩
    | none => none
  | .isnil neg x => match ev t x with
    | .pt (.one (.v (.sl (_ :: _)))) => some (.pure (.b neg))
    | .pt (.one (.v (.s (.slice a _ _)))) => some (.pure (.b (a.isNone != neg)))
    | _ => none
  | .call _ _ => none
  | .bad => none
  | .mm3 x y z => match asInt (ev t x), asInt (ev t y), asInt (ev t z) with
    | some (k, a), some (_, b), some (_, c) => some (.pure (.s (.int k (max (max a b) c))))
    | _, _, _ => none
  | .cnvSB x => match ev t x with
    | .pt (.one (.v (.s (.string s)))) => some (.pure (.pt (.one (.v (.sl (eBs s))))))
    | _ => none
  | .appS ty bytes x y => match ev t y, ev t x with
    | .pt (.one (.v (.s (.string s)))), .pt (.one (.own id v n)) => match H id with
      | some (.arr v' wr st' ty' es) => if v' = v ∧ st' = 1 ∧ ty' = ty ∧ 0 < n ∧ n ≤ es.length ∧ (n = es.length ∨ wr = true) ∧ (n + s.size) * bytes ≤ 140737488355328 ∧ n + s.size ≤ 9223372036854775807 then
          some ⟨.pt (.one (.own id ver (n + s.size))), [(id, .arr ver wr 1 ty (es.take n ++ eBs s))], [id], [id]⟩ else none
      | _ => none
    | _, _ => none

def updD (t : Nat → T) : Option Nat → T → (Nat → T)
  | none, _ => t
  | some d, v => upd t d v

def updH (H : HMap) : List (Nat × Blk) → HMap
  | [] => H
  | (n, b) :: ws => updH (upd H n (some b)) ws

def St.app (σ : St) (d : Option Nat) (e : Ef) : St := ⟨updD σ.t d e.val, updH σ.H e.ws, σ.ctr⟩
end Go.V
namespace Go.V

theorem oneCell_s {w : World} {imm : Imm} {x : Value} {y : V} (h : VRep w imm x y) : x.oneCell' = true := by
  cases h with
  | s _ h => exact h
  | nil => rfl
  | sl => rfl

theorem CRep.oneCell {w : World} {imm : Imm} {H : HMap} {L : Locs} {U : Nat → Prop} {x : Value} {y : C} (h : CRep w imm H L U x y) : x.oneCell' = true := by
  cases y with
  | v y => exact oneCell_s h
  | nil0 => obtain ⟨a, rfl⟩ := h; rfl
  | own => obtain ⟨_, ⟨_, _, rfl, _⟩, _⟩ := h; rfl
  | ow => obtain ⟨_, ⟨_, _, rfl, _⟩, _⟩ := h; rfl
  | tr => obtain ⟨_, ⟨_, _, rfl, _⟩, _⟩ := h; rfl
  | tptr => obtain ⟨_, ⟨_, _, rfl⟩, _⟩ := h; rfl
  | ptr => obtain ⟨_, ⟨_, _, rfl⟩, _⟩ := h; rfl
  | aptr => obtain ⟨_, ⟨_, _, rfl⟩, _⟩ := h; rfl
  | vptr => obtain ⟨_, _, rfl, _⟩ := h; rfl
  | fn => obtain ⟨_, rfl, _⟩ := h; rfl

theorem cells_one {x : Value} (h : x.oneCell' = true) : x.cells = #[x] := by cases x <;> first | rfl | simp [Value.oneCell'] at h

theorem PRep.cells {w : World} {imm : Imm} {H : HMap} {L : Locs} {U : Nat → Prop} {x : Value} {p : P1} (h : PRep w imm H L U x p) : CsRep w imm H L U x.cells.toList p.cells := by
  cases p with
  | one c =>
    have h : CRep w imm H L U x c := h
    rw [cells_one h.oneCell]
    refine ⟨rfl, fun k u y hu hy => ?_⟩
    cases k with
    | zero => simp [P1.cells] at hu hy; subst hu; subst hy; exact h
    | succ k => simp at hu
  | agg cs => obtain ⟨xs, rfl, h⟩ := h; exact h

theorem CsRep.ones {w : World} {imm : Imm} {H : HMap} {L : Locs} {U : Nat → Prop} {xs : List Value} {cs : List C} (h : CsRep w imm H L U xs cs) : ∀ x ∈ xs, x.oneCell' = true := by
  intro x hx
  obtain ⟨k, hk, rfl⟩ := List.getElem_of_mem hx
  have hk' : k < cs.length := h.1 ▸ hk
  exact (h.2 k _ cs[k] (List.getElem?_eq_getElem hk) (List.getElem?_eq_getElem hk')).oneCell

theorem HOk.use {w : World} {imm : Imm} {H : HMap} {L : Locs} {U U' : Nat → Prop} (h : HOk w imm H L U) (hu : ∀ v, U v → U' v) : HOk w imm H L U' := by
  refine ⟨fun n B hB => ?_, h.inj, h.sub, h.glob, h.imm⟩
  exact (h.blk n B hB).mono (fun _ _ h => ⟨h, rfl⟩) (CRep.use (w := w) hu) rfl rfl (fun _ _ => rfl) fun _ _ _ h => h

abbrev with_ (U : Nat → Prop) (ver : Nat) : Nat → Prop := fun v => U v ∨ v = ver

structure Goes (w : World) (imm : Imm) (H : HMap) (L : Locs) (U : Nat → Prop) (H' : HMap) (U' : Nat → Prop) (val : T) (x : Value) (w' : World) (imm' : Imm) (L' : Locs) : Prop where
  val : TRep w' imm' H' L' U' x val
  hok : HOk w' imm' H' L' U'
  ext : Ext w H L U w' H' L' U'
  step : Step w imm (foot H L) w' imm'
  near : Near w (foot H L) H' L'

theorem goes_pure {w : World} {imm : Imm} {H : HMap} {L : Locs} {U U' : Nat → Prop} {val : T} {x : Value} (hH : HOk w imm H L U) (hu : ∀ v, U v → U' v) (h : TRep w imm H L U x val) :
    Goes w imm H L U H U' val x w imm L :=
  ⟨h.mono (fun _ _ h => ⟨h, rfl⟩) (CRep.use (w := w) hu), hH.use hu, CRep.use (w := w) hu, Step.refl _ _ _, Near.refl _ _ _⟩

theorem keep_alloc {w : World} {imm : Imm} {H : HMap} {L : Locs} {U : Nat → Prop} (hH : HOk w imm H L U) (o : Obj) : ∀ b k, imm b k → imm b k ∧ (w.alloc o).cell? ⟨b, k, none⟩ = w.cell? ⟨b, k, none⟩ :=
  fun b k h => ⟨h, World.cell?_alloc_lt w o _ (hH.imm b k h)⟩

/-- A new variable. -/
theorem goes_var {w : World} {imm : Imm} {H : HMap} {L : Locs} {U : Nat → Prop} (hH : HOk w imm H L U) (d ver : Nat) (hv : ¬ U ver) (ty : TypeId) (cur : Array Value) (cs : List C) (h : CsRep w imm H L U cur.toList cs) :
    Goes w imm H L U (upd H d (some (.var ver ty cs))) (with_ U ver) (.pt (.one (.ptr d ver 0))) (.pointer (some ⟨w.heap.size, 0, none⟩)) (w.alloc (.cells cur ty)) imm (L.up d (some w.heap.size) noB) := by
  have hk := keep_alloc hH (.cells cur ty)
  obtain ⟨h1, h2, h3, h4⟩ := upd_all (w' := w.alloc (.cells cur ty)) (imm' := imm) (U' := with_ U ver) hH d (.var ver ty cs) (some w.heap.size) noB rfl rfl rfl (by simp)
    (fun b hb _ => heap_alloc_old w _ b hb) hk (fun b o h => .inl h) (fun g hg => by rcases hg with hg | hg; cases hg; exact .inl ⟨Nat.le_refl _, by simp⟩; exact hg.elim) (fun _ h => h.elim) (fun v h => .inl h) (.inl hv)
    (fun m he hm => by
      subst hm
      refine ⟨.inr rfl, w.heap.size, cur, by simp, heap_alloc_new w _, h.mono hk he, fun o ho => ?_⟩
      exact absurd (hH.imm _ _ ho) (Nat.lt_irrefl _))
  exact ⟨⟨.inr rfl, ⟨_, _, rfl⟩, fun ty' cs' hH' => by simp at hH' ⊢⟩, h1, h2, h3, h4⟩

/-- A new array. -/
theorem goes_arr {w w' : World} {imm : Imm} {H : HMap} {L : Locs} {U : Nat → Prop} (hH : HOk w imm H L U) (d ver : Nat) (hv : ¬ U ver) (wr : Bool) (ty : TypeId) (cur : Array Value) (st : Nat) (es : List (List V)) (n cap : Nat)
    (hos : w'.os = w.os) (htape : w'.tape = w.tape) (hout : w'.output = w.output) (hheap : w'.heap = w.heap.push (.cells cur ty))
    (hst : 0 < st) (hl : ∀ e ∈ es, e.length = st) (hsz : es.length * st ≤ cur.size) (h : ∀ i e, es[i]? = some e → VsRep w imm cur (i * st) e) (hn : n ≤ es.length) (hnc : n ≤ cap) (hcm : cap ≤ maxLen) (hcs : cur.size = cap * st) :
    Goes w imm H L U (upd H d (some (.arr ver wr st ty es))) (with_ U ver) (.pt (.one (.own d ver n))) (.slice (some ⟨w.heap.size, 0, none⟩) n cap) w' imm (L.up d (some w.heap.size) noB) := by
  have hold : ∀ b, b < w.heap.size → w'.heap[b]? = w.heap[b]? := fun b hb => by rw [hheap]; exact heap_alloc_old w _ b hb
  have hnew : w'.heap[w.heap.size]? = some (.cells cur ty (0, 0)) := by rw [hheap]; exact heap_alloc_new w _
  have hk : ∀ b k, imm b k → imm b k ∧ w'.cell? ⟨b, k, none⟩ = w.cell? ⟨b, k, none⟩ := fun b k h => ⟨h, cell_of_heap (hold b (hH.imm b k h))⟩
  obtain ⟨h1, h2, h3, h4⟩ := upd_all (w' := w') (imm' := imm) (U' := with_ U ver) hH d (.arr ver wr st ty es) (some w.heap.size) noB hos htape hout (by rw [hheap]; simp)
    (fun b hb _ => hold b hb) hk (fun b o h => .inl h) (fun g hg => by rcases hg with hg | hg; cases hg; exact .inl ⟨Nat.le_refl _, by rw [hheap]; simp⟩; exact hg.elim) (fun _ h => h.elim) (fun v h => .inl h) (.inl hv)
    (fun m he hm => by
      subst hm
      refine ⟨.inr rfl, hst, hl, .inr ⟨w.heap.size, cur, by simp, hnew, hsz, fun i e hi => (h i e hi).mono hk, fun o ho => ?_⟩⟩
      exact absurd (hH.imm _ _ ho) (Nat.lt_irrefl _))
  refine ⟨⟨.inr rfl, ⟨_, _, rfl, hnc⟩, fun wr st' ty' es' hH' => ?_⟩, h1, h2, h3, h4⟩
  simp only [upd_same, Option.some.injEq, Blk.arr.injEq] at hH'
  obtain ⟨_, _, rfl, rfl, rfl⟩ := hH'
  exact ⟨hn, .inr ⟨w.heap.size, cap, cur, by simp, rfl, hnew, hnc, hcm, hcs⟩⟩

/-- An array is taken anew where it stands, or where there is none: its elements from a place on are others. -/
theorem goes_arr_at {w w' : World} {imm : Imm} {H : HMap} {L : Locs} {U : Nat → Prop} (hH : HOk w imm H L U) (id ver0 ver : Nat) (hv : ¬ U ver) (wr : Bool) (st : Nat) (ty : TypeId) (es0 es : List (List V)) (hB : H id = some (.arr ver0 wr st ty es0))
    (hos : w'.os = w.os) (htape : w'.tape = w.tape) (hout : w'.output = w.output) (g : Nat) (hg : L id = some g) (cur new : Array Value) (hcur : w.heap[g]? = some (.cells cur ty (0, 0)))
    (hheap : w'.heap[g]? = some (.cells new ty (0, 0))) (hsize : w'.heap.size = w.heap.size) (hold : ∀ b, b ≠ g → w'.heap[b]? = w.heap[b]?) (hnew : new.size = cur.size)
    (hkeep : ∀ o, imm g o → new[o]? = cur[o]?) (hfront : ∀ o, imm g o → o < es.length * st)
    (hl : ∀ e ∈ es, e.length = st) (hsz : es.length * st ≤ cur.size) (h : ∀ i e, es[i]? = some e → VsRep w imm new (i * st) e) (n cap : Nat) (hn : n ≤ es.length) (hnc : n ≤ cap) (hcm : cap ≤ maxLen) (hcs : cur.size = cap * st) :
    Goes w imm H L U (upd H id (some (.arr ver wr st ty es))) (with_ U ver) (.pt (.one (.own id ver n))) (.slice (some ⟨g, 0, none⟩) n cap) w' imm L := by
  obtain ⟨_, hst, _, hq⟩ := hH.blk id _ hB
  have hi : ∀ o, imm g o → wr = false := by
    rcases hq with ⟨hq, _⟩ | ⟨g', cur', hg', hh, _, _, hi⟩
    · rw [hg] at hq; cases hq
    · rw [hg] at hg'; cases hg'
      exact fun o ho => (hi o ho).1
  have hk : ∀ b k, imm b k → imm b k ∧ w'.cell? ⟨b, k, none⟩ = w.cell? ⟨b, k, none⟩ := fun b k h => ⟨h, by
    by_cases e : b = g
    · subst e
      rw [cell_of_row w' b k new ty _ hheap, cell_of_row w b k cur ty _ hcur]
      exact hkeep k h
    · exact cell_of_heap (hold b e)⟩
  have hL : L.up id (some g) (L.sub id) = L := by rw [← hg]; exact L.up_self id
  obtain ⟨h1, h2, h3, h4⟩ := upd_all (w' := w') (imm' := imm) (U' := with_ U ver) hH id (.arr ver wr st ty es) (some g) (L.sub id) hos htape hout (by omega)
    (fun b hb hne => hold b (fun e => hne ⟨by simp [hB], by rw [e]; exact .inl hg⟩)) hk (fun b o h => .inl h) (fun g' hg' => .inr ⟨by simp [hB], hg'.imp (fun e => hg.trans e) (fun h => h)⟩) (fun g' h e => (hH.sub id g' (by simp [hB]) h).2 (hg.trans e)) (fun v h => .inl h) (.inl hv)
    (fun m he hm => by
      subst hm
      exact ⟨.inr rfl, hst, hl, .inr ⟨g, new, by simp, hheap, by rw [hnew]; exact hsz, fun i e hi => (h i e hi).mono hk, fun o ho => ⟨hi o ho, hfront o ho⟩⟩⟩)
  rw [hL] at h1 h2 h4
  refine ⟨⟨.inr rfl, ⟨_, _, rfl, hnc⟩, fun wr st' ty' es' hH' => ?_⟩, h1, h2, h3, h4⟩
  simp only [upd_same, Option.some.injEq, Blk.arr.injEq] at hH'
  obtain ⟨_, _, rfl, rfl, rfl⟩ := hH'
  exact ⟨hn, .inr ⟨g, cap, new, hg, rfl, hheap, hnc, hcm, hnew.trans hcs⟩⟩

/-- An array under a new mark, the world as it is. -/
theorem goes_arr_same {w : World} {imm : Imm} {H : HMap} {L : Locs} {U : Nat → Prop} (hH : HOk w imm H L U) (id ver0 ver : Nat) (hv : ¬ U ver) (wr : Bool) (st : Nat) (ty : TypeId) (es0 es : List (List V)) (hB : H id = some (.arr ver0 wr st ty es0)) (n : Nat)
    (he : es = es0.take n) (hn : n ≤ es0.length) (hnw : n = es0.length ∨ wr = true) (x : Value) (hx : OwnV w (L id) st ty n x) :
    Goes w imm H L U (upd H id (some (.arr ver wr st ty es))) (with_ U ver) (.pt (.one (.own id ver n))) x w imm L := by
  obtain ⟨_, hst, hle, hq⟩ := hH.blk id _ hB
  have hL : L.up id (L id) (L.sub id) = L := L.up_self id
  have hk : ∀ b k, imm b k → imm b k ∧ w.cell? ⟨b, k, none⟩ = w.cell? ⟨b, k, none⟩ := fun b k h => ⟨h, rfl⟩
  have hlen : es.length = n := by rw [he]; simp; omega
  obtain ⟨h1, h2, h3, h4⟩ := upd_all (w' := w) (imm' := imm) (U' := with_ U ver) hH id (.arr ver wr st ty es) (L id) (L.sub id) rfl rfl rfl (Nat.le_refl _)
    (fun b hb hne => rfl) hk (fun b o h => .inl h) (fun g hg => .inr ⟨by simp [hB], hg⟩) (fun g' h e => (hH.sub id g' (by simp [hB]) h).2 e) (fun v h => .inl h) (.inl hv)
    (fun m hE hm => by
      subst hm
      refine ⟨.inr rfl, hst, fun e hm => hle e (by rw [he] at hm; exact List.mem_of_mem_take hm), ?_⟩
      rcases hq with ⟨hq, h0⟩ | ⟨g, cur, hg, hh, hsz, hcs, hi⟩
      · refine .inl ⟨by simp [hq], ?_⟩
        rw [he, h0]; simp
      · refine .inr ⟨g, cur, by simp [hg], hh, ?_, fun i e hie => ?_, fun o ho => ⟨(hi o ho).1, ?_⟩⟩
        · exact Nat.le_trans (Nat.mul_le_mul_right _ (by omega)) hsz
        · rw [he, List.getElem?_take] at hie
          split at hie
          · exact hcs i e hie
          · cases hie
        · rcases hnw with hnw | hnw
          · rw [hlen, hnw]; exact (hi o ho).2
          · have := (hi o ho).1; rw [hnw] at this; cases this)
  rw [hL] at h1 h2 h4
  refine ⟨⟨.inr rfl, ?_, fun wr st' ty' es' hH' => ?_⟩, h1, h2, h3, h4⟩
  · rcases hx with ⟨a, rfl, rfl⟩ | ⟨b, cap, cur, _, rfl, _, h5, _⟩
    · exact ⟨_, _, rfl, Nat.le_refl _⟩
    · exact ⟨_, _, rfl, h5⟩
  · simp only [upd_same, Option.some.injEq, Blk.arr.injEq] at hH'
    obtain ⟨_, _, rfl, rfl, rfl⟩ := hH'
    exact ⟨by omega, hx⟩

/-- A new name for no array. -/
theorem goes_arr_nil {w : World} {imm : Imm} {H : HMap} {L : Locs} {U : Nat → Prop} (hH : HOk w imm H L U) (d ver : Nat) (hv : ¬ U ver) (wr : Bool) (st : Nat) (ty : TypeId) (hst : 0 < st) (a : Option Addr) :
    Goes w imm H L U (upd H d (some (.arr ver wr st ty []))) (with_ U ver) (.pt (.one (.own d ver 0))) (.slice a 0 0) w imm (L.up d none noB) := by
  have hk : ∀ b k, imm b k → imm b k ∧ w.cell? ⟨b, k, none⟩ = w.cell? ⟨b, k, none⟩ := fun b k h => ⟨h, rfl⟩
  obtain ⟨h1, h2, h3, h4⟩ := upd_all (w' := w) (imm' := imm) (U' := with_ U ver) hH d (.arr ver wr st ty []) none noB rfl rfl rfl (Nat.le_refl _)
    (fun b hb hne => rfl) hk (fun b o h => .inl h) (fun g hg => by rcases hg with hg | hg; cases hg; exact hg.elim) (fun _ h => h.elim) (fun v h => .inl h) (.inl hv)
    (fun m hE hm => by subst hm; exact ⟨.inr rfl, hst, fun e he => by simp at he, .inl ⟨by simp, rfl⟩⟩)
  refine ⟨⟨.inr rfl, ⟨_, _, rfl, Nat.le_refl _⟩, fun wr st' ty' es' hH' => ?_⟩, h1, h2, h3, h4⟩
  simp only [upd_same, Option.some.injEq, Blk.arr.injEq] at hH'
  obtain ⟨_, _, rfl, rfl, rfl⟩ := hH'
  exact ⟨Nat.le_refl _, .inl ⟨a, rfl, rfl⟩⟩

theorem heap_lt {w : World} {g : Nat} {o : Obj} (h : w.heap[g]? = some o) : g < w.heap.size := (Array.getElem?_eq_some_iff.1 h).1

/-- Cells of a variable are written. -/
theorem goes_store {w : World} {imm : Imm} {H : HMap} {L : Locs} {U U' : Nat → Prop} (hu : ∀ v, U v → U' v) (hH : HOk w imm H L U) (id ver : Nat) (ty : TypeId) (cs : List C) (hB : H id = some (.var ver ty cs)) (g : Nat) (hg : L id = some g)
    (cur : Array Value) (hcur : w.heap[g]? = some (.cells cur ty (0, 0))) (new : Array Value) (cs' : List C) (hn : CsRep w imm H L U new.toList cs') :
    Goes w imm H L U (upd H id (some (.var ver ty cs'))) U' .undef undef (w.setRow g new) imm L := by
  have hb := hH.blk id _ hB
  obtain ⟨hv, g', cur', hg', hh, hcs, hi⟩ := hb
  rw [hg] at hg'; cases hg'
  rw [hcur] at hh; cases hh
  have hk : ∀ b k, imm b k → imm b k ∧ (w.setRow g new).cell? ⟨b, k, none⟩ = w.cell? ⟨b, k, none⟩ := fun b k h => ⟨h, cell_setRow_other w g new _ (fun e => by subst e; exact hi _ h)⟩
  have hL : L.up id (some g) (L.sub id) = L := by rw [← hg]; exact L.up_self id
  obtain ⟨h1, h2, h3, h4⟩ := upd_all (w' := w.setRow g new) (imm' := imm) (U' := U') hH id (.var ver ty cs') (some g) (L.sub id) rfl rfl rfl (by simp)
    (fun b hb hne => setRow_other w g b new (fun e => hne ⟨by simp [hB], by rw [e]; exact .inl hg⟩)) hk (fun b o h => .inl h) (fun g' hg' => .inr ⟨by simp [hB], hg'.imp (fun e => hg.trans e) (fun h => h)⟩) (fun g' h e => (hH.sub id g' (by simp [hB]) h).2 (hg.trans e)) hu
    (.inr (.inl ⟨ver, ty, cs', ty, cs, rfl, hB, hg.symm⟩))
    (fun m he hm => by
      subst hm
      exact ⟨hu _ hv, g, new, by simp, setRow_heap w g cur new ty (0, 0) hcur, hn.mono hk he, hi⟩)
  rw [hL] at h1 h2 h4
  exact ⟨rfl, h1, h2, h3, h4⟩

/-- Cells of an array that nobody else reads are written. -/
theorem goes_storeA {w : World} {imm : Imm} {H : HMap} {L : Locs} {U U' : Nat → Prop} (hu : ∀ v, U v → U' v) (hH : HOk w imm H L U) (id ver st : Nat) (ty : TypeId) (es es' : List (List V)) (hB : H id = some (.arr ver true st ty es)) (g : Nat) (hg : L id = some g)
    (cur : Array Value) (hcur : w.heap[g]? = some (.cells cur ty (0, 0))) (new : Array Value) (hnew : new.size = cur.size) (hl : es'.length = es.length) (hls : ∀ e ∈ es', e.length = st) (hn : ∀ i e, es'[i]? = some e → VsRep w imm new (i * st) e) :
    Goes w imm H L U (upd H id (some (.arr ver true st ty es'))) U' .undef undef (w.setRow g new) imm L := by
  have hb := hH.blk id _ hB
  obtain ⟨hv, hst, hle, hq⟩ := hb
  rcases hq with ⟨hq, _⟩ | ⟨g', cur', hg', hh, hsz, hcs, hi⟩
  · rw [hg] at hq; cases hq
  rw [hg] at hg'; cases hg'
  rw [hcur] at hh; cases hh
  have hk : ∀ b k, imm b k → imm b k ∧ (w.setRow g new).cell? ⟨b, k, none⟩ = w.cell? ⟨b, k, none⟩ := fun b k h => ⟨h, cell_setRow_other w g new _ (fun e => by subst e; have := (hi _ h).1; cases this)⟩
  have hL : L.up id (some g) (L.sub id) = L := by rw [← hg]; exact L.up_self id
  obtain ⟨h1, h2, h3, h4⟩ := upd_all (w' := w.setRow g new) (imm' := imm) (U' := U') hH id (.arr ver true st ty es') (some g) (L.sub id) rfl rfl rfl (by simp)
    (fun b hb hne => setRow_other w g b new (fun e => hne ⟨by simp [hB], by rw [e]; exact .inl hg⟩)) hk (fun b o h => .inl h) (fun g' hg' => .inr ⟨by simp [hB], hg'.imp (fun e => hg.trans e) (fun h => h)⟩) (fun g' h e => (hH.sub id g' (by simp [hB]) h).2 (hg.trans e)) hu
    (.inr (.inr (.inl ⟨ver, true, st, ty, es', true, es, rfl, hB, by omega, hg.symm, fun g2 cur2 e2 hh2 => by
      cases e2; rw [hcur] at hh2; cases hh2; exact ⟨new, setRow_heap w g cur new ty (0, 0) hcur, hnew⟩⟩)))
    (fun m he hm => by
      subst hm
      exact ⟨hu _ hv, hst, hls, .inr ⟨g, new, by simp, setRow_heap w g cur new ty (0, 0) hcur, by rw [hl, hnew]; exact hsz, fun i e hi => (hn i e hi).mono hk, fun o ho => by have := (hi o ho).1; cases this⟩⟩)
  rw [hL] at h1 h2 h4
  exact ⟨rfl, h1, h2, h3, h4⟩

/-- The same arrays, but for whether they may be written. -/
structure SameA (H H' : HMap) : Prop where
  arr : ∀ id ver wr st ty es, H id = some (.arr ver wr st ty es) → ∃ wr', H' id = some (.arr ver wr' st ty es)
  tree : ∀ id ver wr st ty es op, H id = some (.tree ver wr st ty es op) → ∃ wr', H' id = some (.tree ver wr' st ty es op)
theorem SameA.refl (H : HMap) : SameA H H := ⟨fun _ _ wr _ _ _ h => ⟨wr, h⟩, fun _ _ wr _ _ _ _ h => ⟨wr, h⟩⟩

theorem seal1 {w : World} {imm : Imm} {H H0 : HMap} {L : Locs} {U : Nat → Prop} (hH : HOk w imm H L U) (hs : SameA H0 H) {c : C} {x : Value} {v : V} {ws : List (Nat × Blk)} {ns : List Nat}
    (h : sealC H0 c = some (v, ws, ns)) (hc : CRep w imm H L U x c) :
    ∃ imm', HOk w imm' (updH H ws) L U ∧ VRep w imm' x v ∧ Ext w H L U w (updH H ws) L U ∧ SameA H0 (updH H ws) ∧ Step w imm (foot H L) w imm' ∧ Near w (foot H L) (updH H ws) L := by
  cases c with
  | v y =>
    simp [sealC] at h
    obtain ⟨rfl, rfl, rfl⟩ := h
    exact ⟨imm, hH, hc, Ext.refl _ _ _ _, hs, Step.refl _ _ _, Near.refl _ _ _⟩
  | nil0 =>
    simp [sealC] at h
    obtain ⟨rfl, rfl, rfl⟩ := h
    obtain ⟨a, rfl⟩ := hc
    exact ⟨imm, hH, .nil a 0, Ext.refl _ _ _ _, hs, Step.refl _ _ _, Near.refl _ _ _⟩
  | own id ver n =>
    simp only [sealC] at h
    split at h
    · rename_i ver' wr0 st ty es hB0
      split at h
      · rename_i hcond
        obtain ⟨rfl, hn⟩ := hcond
        simp only [Option.some.injEq, Prod.mk.injEq] at h
        obtain ⟨rfl, rfl, rfl⟩ := h
        obtain ⟨wr, hB⟩ := hs.arr _ _ _ _ _ _ hB0
        obtain ⟨hu, hst, hle, hq⟩ := hH.blk id _ hB
        obtain ⟨_, _, h3⟩ := hc
        obtain ⟨_, hov⟩ := h3 _ _ _ _ hB
        let imm' : Imm := fun b o => imm b o ∨ (L id = some b ∧ o < es.length * st)
        have hk : ∀ b k, imm b k → imm' b k ∧ w.cell? ⟨b, k, none⟩ = w.cell? ⟨b, k, none⟩ := fun b k h => ⟨.inl h, rfl⟩
        have hL : L.up id (L id) (L.sub id) = L := L.up_self id
        obtain ⟨h1, h2, h3, h4⟩ := upd_all (w' := w) (imm' := imm') (U' := U) hH id (.arr ver' false st ty es) (L id) (L.sub id) rfl rfl rfl (Nat.le_refl _) (fun _ _ _ => rfl) hk
          (fun b o h => h.imp (fun h => h) fun ⟨h1, h2⟩ => ⟨.inl h1, .inr ⟨by simp [hB], .inl h1⟩⟩) (fun g hg => .inr ⟨by simp [hB], hg⟩) (fun g' h e => (hH.sub id g' (by simp [hB]) h).2 e) (fun _ h => h)
          (.inr (.inr (.inl ⟨ver', false, st, ty, es, wr, es, rfl, hB, Nat.le_refl _, rfl, fun g cur _ hh => ⟨cur, hh, rfl⟩⟩)))
          (fun m he hm => by
            subst hm
            refine ⟨hu, hst, hle, ?_⟩
            rcases hq with ⟨hq, he⟩ | ⟨g, cur, hg, hh, hsz, hcs, hi⟩
            · exact .inl ⟨by simp [hq], he⟩
            · exact .inr ⟨g, cur, by simp [hg], hh, hsz, fun i e hi => (hcs i e hi).mono hk, fun o ho => ⟨rfl, by rcases ho with ho | ho; exact (hi o ho).2; exact ho.2⟩⟩)
        rw [hL] at h1 h2 h4
        refine ⟨imm', h1, ?_, h2, ?_, h3, h4⟩
        · rcases hov with ⟨a, rfl, rfl⟩ | ⟨b, cap, cur, hb, rfl, hh, hnc, hcm, hcs⟩
          · exact .nil a 0
          · rcases hq with ⟨hq, _⟩ | ⟨g, cur', hg, hh', hsz, hcells, hi⟩
            · rw [hb] at hq; cases hq
            · rw [hb] at hg; cases hg
              rw [hh] at hh'; cases hh'
              by_cases hn0 : n = 0
              · subst hn0; exact .nil _ cap
              · have hlen : (es.take n).length = n := by simp; omega
                have := VRep.sl (w := w) (imm := imm') (es.take n) st b 0 cap (fun i j => cur.getD (i * st + j) undef) hst (by intro e; simp [e] at hlen; omega) (by omega)
                  (fun e he => hle e (List.mem_of_mem_take he)) (fun i j x hx => ?_) (fun i j x hx => ?_)
                · rw [hlen] at this; exact this
                all_goals
                  simp only [at2, List.getElem?_take] at hx
                  split at hx
                  case isFalse => simp at hx
                  cases he : es[i]? with
                  | none => simp [he] at hx
                  | some e =>
                    simp [he] at hx
                    obtain ⟨u, hu1, hu2⟩ := hcells i e he j x hx
                    have hi' : i < es.length := (List.getElem?_eq_some_iff.1 he).1
                    have hj : j < st := by have := hle e (List.mem_of_getElem? he); rw [← this]; exact (List.getElem?_eq_some_iff.1 hx).1
                    have hlt : i * st + j < cur.size := (Array.getElem?_eq_some_iff.1 hu1).1
                    have hu3 : cur[i * st + j] = u := (Array.getElem?_eq_some_iff.1 hu1).2
                    first
                      | (refine ⟨?_, .inr ⟨hb, ?_⟩⟩
                         · simp [World.cell?, hh, hlt]
                         · have : i * st + j < (i + 1) * st := by rw [Nat.succ_mul]; omega
                           have h5 : (i + 1) * st ≤ es.length * st := Nat.mul_le_mul_right _ hi'
                           simp; omega)
                      | (have e1 : cur.getD (i * st + j) undef = u := by simp [hlt, hu3]
                         rw [e1]; exact hu2.mono hk)
        · refine ⟨fun id' v' wr' st' ty' es' hB' => ?_, fun id' v' wr' st' ty' es' op' hB' => ?_⟩
          · by_cases e : id' = id
            · subst e
              rw [hB0] at hB'; cases hB'
              exact ⟨false, by simp [updH]⟩
            · obtain ⟨wr2, h5⟩ := hs.arr _ _ _ _ _ _ hB'
              exact ⟨wr2, by simp only [updH]; rw [upd_ne _ _ e]; exact h5⟩
          · by_cases e : id' = id
            · subst e
              rw [hB0] at hB'; cases hB'
            · obtain ⟨wr2, h5⟩ := hs.tree _ _ _ _ _ _ _ hB'
              exact ⟨wr2, by simp only [updH]; rw [upd_ne _ _ e]; exact h5⟩
      · cases h
    · cases h
  | ow id ver l n =>
    simp only [sealC] at h
    split at h
    · rename_i ver' wr0 st ty es hB0
      split at h
      · rename_i hcond
        obtain ⟨rfl, hn⟩ := hcond
        simp only [Option.some.injEq, Prod.mk.injEq] at h
        obtain ⟨rfl, rfl, rfl⟩ := h
        obtain ⟨wr, hB⟩ := hs.arr _ _ _ _ _ _ hB0
        obtain ⟨hu, hst, hle, hq⟩ := hH.blk id _ hB
        obtain ⟨_, hx, h3⟩ := hc
        obtain ⟨_, hov⟩ := h3 _ _ _ _ hB
        let imm' : Imm := fun b o => imm b o ∨ (L id = some b ∧ o < es.length * st)
        have hk : ∀ b k, imm b k → imm' b k ∧ w.cell? ⟨b, k, none⟩ = w.cell? ⟨b, k, none⟩ := fun b k h => ⟨.inl h, rfl⟩
        have hL : L.up id (L id) (L.sub id) = L := L.up_self id
        obtain ⟨h1, h2, h3, h4⟩ := upd_all (w' := w) (imm' := imm') (U' := U) hH id (.arr ver' false st ty es) (L id) (L.sub id) rfl rfl rfl (Nat.le_refl _) (fun _ _ _ => rfl) hk
          (fun b o h => h.imp (fun h => h) fun ⟨h1, h2⟩ => ⟨.inl h1, .inr ⟨by simp [hB], .inl h1⟩⟩) (fun g hg => .inr ⟨by simp [hB], hg⟩) (fun g' h e => (hH.sub id g' (by simp [hB]) h).2 e) (fun _ h => h)
          (.inr (.inr (.inl ⟨ver', false, st, ty, es, wr, es, rfl, hB, Nat.le_refl _, rfl, fun g cur _ hh => ⟨cur, hh, rfl⟩⟩)))
          (fun m he hm => by
            subst hm
            refine ⟨hu, hst, hle, ?_⟩
            rcases hq with ⟨hq, he⟩ | ⟨g, cur, hg, hh, hsz, hcs, hi⟩
            · exact .inl ⟨by simp [hq], he⟩
            · exact .inr ⟨g, cur, by simp [hg], hh, hsz, fun i e hi => (hcs i e hi).mono hk, fun o ho => ⟨rfl, by rcases ho with ho | ho; exact (hi o ho).2; exact ho.2⟩⟩)
        rw [hL] at h1 h2 h4
        refine ⟨imm', h1, ?_, h2, ?_, h3, h4⟩
        · obtain ⟨a0, k0, hx0, hnk⟩ := hx
          rcases hov with rfl | ⟨g', k, hg', hxe⟩
          · rw [hx0]; exact .nil a0 k0
          · rcases hq with ⟨hq, _⟩ | ⟨g, cur, hg, hh, hsz, hcells, hi⟩
            · rw [hg'] at hq; cases hq
            · rw [hg'] at hg; cases hg
              by_cases hn0 : n = 0
              · subst hn0; rw [hx0]; exact .nil a0 k0
              · have hlen : ((es.drop l).take n).length = n := by simp; omega
                have hnk' : n ≤ k := by rw [hx0] at hxe; cases hxe; exact hnk
                have := VRep.sl (w := w) (imm := imm') ((es.drop l).take n) st g' (l * st) k (fun i j => cur.getD (l * st + i * st + j) undef) hst (by intro e; simp [e] at hlen; omega) (by omega)
                  (fun e he => hle e (List.mem_of_mem_drop (List.mem_of_mem_take he))) (fun i j x hx => ?_) (fun i j x hx => ?_)
                · rw [hlen] at this; rw [hxe]; exact this
                all_goals
                  simp only [at2, List.getElem?_take, List.getElem?_drop] at hx
                  split at hx
                  case isFalse => simp at hx
                  cases he : es[l + i]? with
                  | none => simp [he] at hx
                  | some e =>
                    simp [he] at hx
                    obtain ⟨u, hu1, hu2⟩ := hcells (l + i) e he j x hx
                    rw [Nat.add_mul] at hu1
                    have hi' : l + i < es.length := (List.getElem?_eq_some_iff.1 he).1
                    have hj : j < st := by have := hle e (List.mem_of_getElem? he); rw [← this]; exact (List.getElem?_eq_some_iff.1 hx).1
                    have hlt : l * st + i * st + j < cur.size := (Array.getElem?_eq_some_iff.1 hu1).1
                    have hu3 : cur[l * st + i * st + j] = u := (Array.getElem?_eq_some_iff.1 hu1).2
                    first
                      | (refine ⟨?_, .inr ⟨hg', ?_⟩⟩
                         · simp [World.cell?, hh, hlt]
                         · have h6 : l * st + i * st + j < (l + i + 1) * st := by rw [Nat.succ_mul, Nat.add_mul]; omega
                           have h5 : (l + i + 1) * st ≤ es.length * st := Nat.mul_le_mul_right _ hi'
                           omega)
                      | (have e1 : cur.getD (l * st + i * st + j) undef = u := by simp [hlt, hu3]
                         rw [e1]; exact hu2.mono hk)
        · refine ⟨fun id' v' wr' st' ty' es' hB' => ?_, fun id' v' wr' st' ty' es' op' hB' => ?_⟩
          · by_cases e : id' = id
            · subst e
              rw [hB0] at hB'; cases hB'
              exact ⟨false, by simp [updH]⟩
            · obtain ⟨wr2, h5⟩ := hs.arr _ _ _ _ _ _ hB'
              exact ⟨wr2, by simp only [updH]; rw [upd_ne _ _ e]; exact h5⟩
          · by_cases e : id' = id
            · subst e
              rw [hB0] at hB'; cases hB'
            · obtain ⟨wr2, h5⟩ := hs.tree _ _ _ _ _ _ _ hB'
              exact ⟨wr2, by simp only [updH]; rw [upd_ne _ _ e]; exact h5⟩
      · cases h
    · cases h
  | tr id ver n =>
    simp only [sealC] at h
    split at h
    · rename_i ver' wr0 st ty es hB0
      split at h
      · rename_i hcond
        obtain ⟨rfl, hn⟩ := hcond
        simp only [Option.some.injEq, Prod.mk.injEq] at h
        obtain ⟨rfl, rfl, rfl⟩ := h
        obtain ⟨wr, hB⟩ := hs.tree _ _ _ _ _ _ _ hB0
        obtain ⟨hu, hst, hle, hop, hsi, hq⟩ := hH.blk id _ hB
        obtain ⟨_, hx, h3⟩ := hc
        obtain ⟨_, hov⟩ := h3 _ _ _ _ _ hB
        let imm' : Imm := fun b o => imm b o ∨ (L.Own id b)
        have hk : ∀ b k, imm b k → imm' b k ∧ w.cell? ⟨b, k, none⟩ = w.cell? ⟨b, k, none⟩ := fun b k h => ⟨.inl h, rfl⟩
        have hL : L.up id (L id) (L.sub id) = L := L.up_self id
        obtain ⟨h1, h2, h3, h4⟩ := upd_all (w' := w) (imm' := imm') (U' := U) hH id (.tree ver' false st ty es none) (L id) (L.sub id) rfl rfl rfl (Nat.le_refl _) (fun _ _ _ => rfl) hk
          (fun b o h => h.imp (fun h => h) fun h1 => ⟨h1, .inr ⟨by simp [hB], h1⟩⟩) (fun g hg => .inr ⟨by simp [hB], hg⟩) (fun g' h e => (hH.sub id g' (by simp [hB]) h).2 e) (fun _ h => h)
          (.inr (.inr (.inr ⟨ver', false, st, ty, es, none, wr, es, none, rfl, hB, Nat.le_refl _, rfl, fun g cur _ hh => ⟨cur, hh, rfl⟩⟩)))
          (fun m he hm => by
            subst hm
            refine ⟨hu, hst, hle, fun i cs h => (by cases h), fun b o _ _ => rfl, ?_⟩
            rcases hq with ⟨hq, he⟩ | ⟨g, cur, part, hg, hh, hsz, hp, hd, hcs, _, hi⟩
            · exact .inl ⟨by simp [hq], he⟩
            · exact .inr ⟨g, cur, part, by simp [hg], hh, hsz, by simpa using hp, hd, hcs, fun i cs h => (by cases h), fun o ho => rfl⟩)
        rw [hL] at h1 h2 h4
        refine ⟨imm', h1, ?_, h2, ?_, h3, h4⟩
        · rcases hov with ⟨a, rfl, rfl⟩ | ⟨b, cap, cur, hb, rfl, hh, hnc, hcm, hcs⟩
          · exact .nil a 0
          · rcases hq with ⟨hq, _⟩ | ⟨g, cur', part, hg, hh', hsz, hp, hd, hcells, _, hi⟩
            · rw [hb] at hq; cases hq
            · rw [hb] at hg; cases hg
              rw [hh] at hh'; cases hh'
              by_cases hn0 : n = 0
              · subst hn0; exact .nil _ cap
              · have hlen : (es.take n).length = n := by simp; omega
                have hat : ∀ i j x, at2 (es.take n) i j = some x → at2 es i j = some x := fun i j x hx => by
                  simp only [at2, List.getElem?_take] at hx
                  split at hx
                  case isFalse => simp at hx
                  exact hx
                have := VRep.sl (w := w) (imm := imm') (es.take n) st b 0 cap (fun i j => cur.getD (i * st + j) undef) hst (by intro e; simp [e] at hlen; omega) (by omega)
                  (fun e he => hle e (List.mem_of_mem_take he)) (fun i j x hx => ?_) (fun i j x hx => ?_)
                · rw [hlen] at this; exact this
                all_goals
                  obtain ⟨u, hu1, hu2⟩ := hcells i j x (hat i j x hx) (by simp)
                  have hlt : i * st + j < cur.size := (Array.getElem?_eq_some_iff.1 hu1).1
                  have hu3 : cur[i * st + j] = u := (Array.getElem?_eq_some_iff.1 hu1).2
                  first
                    | (refine ⟨?_, .inr (.inl hb)⟩
                       simp [World.cell?, hh, hlt])
                    | (have e1 : cur.getD (i * st + j) undef = u := by simp [hlt, hu3]
                       rw [e1]; exact hu2.rep fun b' o hb' => .inr (.inr (hp i j b' hb')))
        · refine ⟨fun id' v' wr' st' ty' es' hB' => ?_, fun id' v' wr' st' ty' es' op' hB' => ?_⟩
          · by_cases e : id' = id
            · subst e
              rw [hB0] at hB'; cases hB'
            · obtain ⟨wr2, h5⟩ := hs.arr _ _ _ _ _ _ hB'
              exact ⟨wr2, by simp only [updH]; rw [upd_ne _ _ e]; exact h5⟩
          · by_cases e : id' = id
            · subst e
              rw [hB0] at hB'; cases hB'
              exact ⟨false, by simp [updH]⟩
            · obtain ⟨wr2, h5⟩ := hs.tree _ _ _ _ _ _ _ hB'
              exact ⟨wr2, by simp only [updH]; rw [upd_ne _ _ e]; exact h5⟩
      · cases h
    · cases h
  | ptr => simp [sealC] at h
  | aptr => simp [sealC] at h
  | tptr => simp [sealC] at h
  | vptr => simp [sealC] at h
  | fn => simp [sealC] at h

theorem updH_append (H : HMap) (a b : List (Nat × Blk)) : updH H (a ++ b) = updH (updH H a) b := by
  induction a generalizing H with
  | nil => rfl
  | cons x a ih => obtain ⟨n, B⟩ := x; simp [updH, ih]

/-- What a row of seals does: the world stays; what is told of the values is closed. -/
structure Sealed (w : World) (imm : Imm) (H : HMap) (L : Locs) (U : Nat → Prop) (H0 H' : HMap) (imm' : Imm) : Prop where
  hok : HOk w imm' H' L U
  ext : Ext w H L U w H' L U
  same : SameA H0 H'
  step : Step w imm (foot H L) w imm'
  near : Near w (foot H L) H' L

theorem Sealed.trans {w : World} {imm imm1 imm2 : Imm} {H H1 H2 H0 : HMap} {L : Locs} {U : Nat → Prop} (a : Sealed w imm H L U H0 H1 imm1) (b : Sealed w imm1 H1 L U H0 H2 imm2) : Sealed w imm H L U H0 H2 imm2 := by
  obtain ⟨s, n⟩ := Step.trans a.step a.near b.step b.near
  exact ⟨b.hok, a.ext.trans b.ext, b.same, s, n⟩

def VsOf (w : World) (imm : Imm) (xs : List Value) (vs : List V) : Prop := xs.length = vs.length ∧ ∀ (k : Nat) x y, xs[k]? = some x → vs[k]? = some y → VRep w imm x y

theorem sealCs_ok {w : World} {H0 : HMap} {L : Locs} {U : Nat → Prop} : ∀ {cs : List C} {imm : Imm} {H : HMap} (_ : HOk w imm H L U) (_ : SameA H0 H) {xs : List Value} {vs : List V} {ws : List (Nat × Blk)} {ns : List Nat}
    (_ : sealCs H0 cs = some (vs, ws, ns)) (_ : CsRep w imm H L U xs cs), ∃ imm', Sealed w imm H L U H0 (updH H ws) imm' ∧ VsOf w imm' xs vs
  | [], imm, H, hH, hs, xs, vs, ws, ns, h, hc => by
    simp [sealCs] at h
    obtain ⟨rfl, rfl, rfl⟩ := h
    have : xs = [] := List.eq_nil_of_length_eq_zero hc.1
    subst this
    exact ⟨imm, ⟨hH, Ext.refl _ _ _ _, hs, Step.refl _ _ _, Near.refl _ _ _⟩, rfl, fun k x y hx => by simp at hx⟩
  | c :: cs, imm, H, hH, hs, xs, vs, ws, ns, h, hc => by
    simp only [sealCs] at h
    split at h
    · rename_i v w1 n1 vs' w2 n2 h1 h2
      simp only [Option.some.injEq, Prod.mk.injEq] at h
      obtain ⟨rfl, rfl, rfl⟩ := h
      cases xs with
      | nil => have := hc.1; simp at this
      | cons x xs =>
        have hcx : CRep w imm H L U x c := hc.2 0 x c rfl rfl
        obtain ⟨imm1, a1, a2, a3, a4, a5, a6⟩ := seal1 hH hs h1 hcx
        have hc' : CsRep w imm1 (updH H w1) L U xs cs := ⟨by have := hc.1; simpa using this, fun k u y hu hy => (hc.2 (k + 1) u y (by simpa using hu) (by simpa using hy)).mono (fun b o h => ⟨(a5.keep b o h).1, rfl⟩) a3⟩
        obtain ⟨imm2, b1, b2, b3⟩ := sealCs_ok a1 a4 h2 hc'
        have S1 : Sealed w imm H L U H0 (updH H w1) imm1 := ⟨a1, a3, a4, a5, a6⟩
        refine ⟨imm2, ?_, ?_, ?_⟩
        · rw [updH_append]; exact S1.trans b1
        · simp [b2]
        · intro k u y hu hy
          cases k with
          | zero => simp at hu hy; subst hu; subst hy; exact a2.mono (fun b o h => ⟨(b1.step.keep b o h).1, rfl⟩)
          | succ k => exact b3 k u y (by simpa using hu) (by simpa using hy)
    · cases h
end Go.V
namespace Go.V

def constC : Value → Option C
  | .bool b => some (.v (.s (.bool b)))
  | .int k n => some (.v (.s (.int k n)))
  | .string s => some (.v (.s (.string s)))
  | .slice none 0 0 => some .nil0
  | .pointer none => some (.v (.s (.pointer none)))
  | .nilFunc => some (.v (.s .nilFunc))
  | .nilIface => some (.v (.s .nilIface))
  | _ => none

def constCs : List Value → Option (List C)
  | [] => some []
  | x :: xs => match constC x, constCs xs with
    | some c, some cs => some (c :: cs)
    | _, _ => none

def constT : Value → Option T
  | .agg cs => (constCs cs.toList).map fun cs => .pt (.agg cs)
  | v => (constC v).map fun c => .pt (.one c)

def cOpd : Operand → Option Opd
  | .tmp t => some (.t t)
  | .const v => (constT v).map .k
  | .func f => some (.k (.pt (.one (.fn f []))))
  | .global _ => none

def cOpds : List Operand → Option (List Opd)
  | [] => some []
  | x :: xs => match cOpd x, cOpds xs with
    | some c, some cs => some (c :: cs)
    | _, _ => none

def cOpt : Option Operand → Option (Option Opd)
  | none => some none
  | some x => (cOpd x).map some

def zeroCs (P : Program) (t : TypeId) : Option (List C) := ((P.info? t).bind (·.zero)).bind fun z => constCs z.cells.toList
def sizeT (P : Program) (t : TypeId) : Option Nat := (P.info? t).map (·.size)
def isAggT (P : Program) (t : TypeId) : Option Bool := (P.underlying t).map fun | .struct _ | .array .. => true | _ => false
def elemT (P : Program) (t : TypeId) : Option TypeId := (P.underlying t).bind fun | .slice e => some e | _ => none
def placesT (P : Program) (t : TypeId) : Option (List (Nat × Nat)) := (P.underlying t).bind fun | .struct fs => fs.toList.mapM (fun f => (P.info? f.type).map fun i => (f.offset, i.size)) | .array n e => (P.info? e).map (fun i => (List.range n).map fun k => (k * i.size, i.size)) | _ => none
def arrT (P : Program) (t : TypeId) : Option (Nat × TypeId) := (P.underlying t).bind fun | .array n e => some (n, e) | _ => none

def cParts (places : List (Nat × Nat)) : List (Nat × Operand) → Option (List (Nat × Nat × Opd))
  | [] => some []
  | (i, x) :: ps => match places[i]?, cOpd x, cParts places ps with
    | some (off, size), some y, some qs => some ((off, size, y) :: qs)
    | _, _, _ => none

/-- The parts of a slice's literal: from place k on, all, in order. -/
def cElems : Nat → List (Nat × Operand) → Option (List Opd)
  | _, [] => some []
  | k, (i, x) :: ps => if i = k then match cOpd x, cElems (k + 1) ps with
    | some y, some qs => some (y :: qs)
    | _, _ => none
    else none
/-- The kinds of a struct's fields, if each is one plain cell. -/
def fieldKs (P : Program) : List Field → Nat → Option (List Nat)
  | [], _ => some []
  | f :: fs, n => if f.name ≠ "_" ∧ f.offset = n ∧ isAggT P f.type = some false then match P.underlying f.type, fieldKs P fs (n + 1) with
    | some (.int _), some ks => some (0 :: ks)
    | some .bool, some ks => some (1 :: ks)
    | some .string, some ks => some (2 :: ks)
    | _, _ => none
    else none

/-- What is asked of the types. -/
structure Env where
  und : TypeId → Option TypeDesc
  zero : TypeId → Option (List C)
  places : TypeId → Option (List (Nat × Nat))
  elem : TypeId → Option TypeId
  size : TypeId → Option Nat
  agg : TypeId → Option Bool
  info : TypeId → Option TypeInfo
  arr : TypeId → Option (Nat × TypeId)
  fks : List Field → Option (List Nat)
  held : TypeId → Bool
  eqg : TypeId → Bool
def envOf (P : Program) : Env := ⟨P.underlying, zeroCs P, placesT P, elemT P, sizeT P, isAggT P, P.info?, arrT P, fun fs => fieldKs P fs 0, P.stoodInHeld, P.eqGuardType P.depth⟩
def compOpG (E : Env) (o : Oper) : Option AOp :=
  match o.op with
  | .move x => (cOpd x).map .mv
  | .assign x => (cOpd x).map .mv
  | .pick c a b => match cOpd c, cOpd a, cOpd b with
    | some c, some a, some b => some (.pick c a b)
    | _, _, _ => none
  | .alloc e => (E.zero e).map fun z => .alloc e z
  | .box e x => (cOpd x).map fun x => .box e x
  | .build t ps => match E.zero t, E.places t with
    | some z, some pl => (cParts pl ps.toList).map fun qs => .build z qs
    | _, _ => none
  | .buildSlice t len ps => match E.elem t with
    | some e => match E.size e, E.zero e, cElems 0 ps.toList with
      | some n, some _, some qs => if qs.length = len ∧ 0 < n ∧ len * n ≤ 16777216 then some (.bsl n e qs) else none
      | _, _, _ => none
    | none => none
  | .load t x => match E.size t, E.agg t, cOpd x with
    | some n, some ag, some x => some (.ld n ag x)
    | _, _, _ => none
  | .store t x v => match E.size t, cOpd x, cOpd v with
    | some n, some x, some v => some (.st n x v)
    | _, _, _ => none
  | .nilCheck x => (cOpd x).map .nck
  | .binOp op t x y _ => match cOpd x, cOpd y with
    | some x', some y' => match E.und t with
      | some .bool => some (.binB op x' y')
      | some (.struct fs) => match E.fks fs.toList, E.held t, E.eqg t, op with
        | some ks, false, false, .eql => some (.cmpA false ks x' y')
        | some ks, false, false, .neq => some (.cmpA true ks x' y')
        | _, _, _, _ => none
      | some (.int _) | some .string => some (.bin op x' y')
      | some (.slice _) => match op, y with
        | .eql, .const (.slice none 0 0) => some (.isnil false x')
        | .neq, .const (.slice none 0 0) => some (.isnil true x')
        | _, _ => none
      | _ => none
    | _, _ => none
  | .unOp op _ x => (cOpd x).map (.un op)
  | .convert s d x => match E.und s, E.und d, cOpd x with
    | some _, some (.int k), some x => some (.cnvI k x)
    | some (.slice e), some .string, some x => match E.und e with
      | some (.int .u8) => some (.cnvBS x)
      | _ => none
    | some .string, some (.slice e), some x => match E.und e with
      | some (.int .u8) => some (.cnvSB x)
      | _ => none
    | _, _, _ => none
  | .makeFunc (.func f) first caps => if first.isEmpty then (cOpds caps.toList).map (.mkf f) else none
  | .makeSlice t l c => match E.elem t, cOpd l, cOpd c with
    | some e, some l, some c => match E.info e, (E.zero e).bind toVs with
      | some i, some z => if z.length = i.size then some (.mks i.size e i.bytes z l c) else none
      | _, _ => none
    | _, _, _ => none
  | .slice t x lo hi mx => match mx with
    | none => match cOpd x, cOpt lo, cOpt hi with
      | some x, some lo, some hi => match E.und t with
        | some .string => some (.slcS x lo hi)
        | some (.slice e) => match E.size e with
          | some n => if 0 < n then some (.slc n x lo hi) else none
          | none => none
        | _ => none
      | _, _, _ => none
    | some (.const (.int .i64 0)) => match lo, hi, E.elem t with
      | none, some (.const (.int .i64 0)), some e => if (E.size e).isSome then (cOpd x).map .slc0 else none
      | _, _, _ => none
    | _ => none
  | .fieldAddr s x f => match E.und s, cOpd x with
    | some (.struct fs), some x => match fs[f]? with
      | some fd => match E.size fd.type with
        | some n => if 0 < n then some (.fa fd.offset x) else none
        | none => none
      | none => none
    | _, _ => none
  | .field s x f => match E.und s, cOpd x with
    | some (.struct fs), some x => match fs[f]? with
      | some fd => match E.size fd.type, E.agg fd.type with
        | some n, some ag => some (.fl fd.offset n ag x)
        | _, _ => none
      | none => none
    | _, _ => none
  | .indexAddr t x i => match E.elem t, cOpd x, cOpd i with
    | some e, some x, some i => (E.size e).map fun n => .ia n x i
    | none, some x, some i => match E.arr t with
      | some (n, e) => (E.size e).map fun s => .iap n s x i
      | none => none
    | _, _, _ => none
  | .index t x i => match E.und t, cOpd x, cOpd i with
    | some .string, some x, some i => some (.ix x i)
    | some (.array n e), some x, some i => match E.size e, E.agg e with
      | some s, some ag => some (.ixA n s ag x i)
      | _, _ => none
    | _, _, _ => none
  | .extract x i => (cOpd x).map (.ext i)
  | .call c => match c.callee with
    | .builtin .len => match c.args.toList, c.argTypes.toList with
      | [x], [t] => match E.und t with
        | some .string => (cOpd x).map .lenS
        | some (.slice _) => (cOpd x).map .len
        | _ => none
      | _, _ => none
    | .builtin .append => match c.args.toList, c.argTypes.toList with
      | [x, y], [t, t'] => if t = t' then match E.elem t, cOpd x, cOpd y with
        | some e, some x, some y => match E.info e, E.zero e with
          | some i, some z => if z.length = i.size ∧ 0 < i.size then some (.app i.size e i.bytes x y) else none
          | _, _ => none
        | _, _, _ => none
        else match E.und t', E.elem t, cOpd x, cOpd y with
        | some .string, some e, some x, some y => match E.info e, E.zero e, E.und e with
          | some i, some z, some (.int .u8) => if z.length = 1 ∧ i.size = 1 then some (.appS e i.bytes x y) else none
          | _, _, _ => none
        | _, _, _, _ => none
      | _, _ => none
    | .builtin .copy => match c.args.toList, c.argTypes.toList with
      | [x, y], [t, _] => match E.elem t, cOpd x, cOpd y with
        | some e, some x, some y => if E.size e = some 1 then some (.cpy x y) else none
        | _, _, _ => none
      | _, _ => none
    | .builtin .max => match c.args.toList with
      | [x, y] => match cOpd x, cOpd y with
        | some x, some y => some (.mmx true x y)
        | _, _ => none
      | [x, y, z] => match cOpd x, cOpd y, cOpd z with
        | some x, some y, some z => some (.mm3 x y z)
        | _, _, _ => none
      | _ => none
    | .builtin .min => match c.args.toList with
      | [x, y] => match cOpd x, cOpd y with
        | some x, some y => some (.mmx false x y)
        | _, _ => none
      | _ => none
    | .value f => match cOpd f, cOpds c.args.toList with
      | some f, some xs => some (.call f xs)
      | _, _ => none
    | _ => none
  | _ => some .bad
def compOp0 (P : Program) (o : Oper) : Option AOp := compOpG (envOf P) o
/-- What is not covered may stand where it is never run. -/
def compOp (P : Program) (o : Oper) : Option AOp := some ((compOp0 P o).getD .bad)
theorem compOp_of {P : Program} {o : Oper} {ao : AOp} (h : compOp P o = some ao) (hb : ao ≠ .bad) : compOp0 P o = some ao := by
  unfold compOp at h
  cases h0 : compOp0 P o with
  | none => rw [h0] at h; cases h; exact absurd rfl hb
  | some x => rw [h0] at h; cases h; rfl

/-! what the constants are -/
theorem constC_ok {w : World} {imm : Imm} {H : HMap} {L : Locs} {U : Nat → Prop} {x : Value} {c : C} (h : constC x = some c) : CRep w imm H L U x c := by
  unfold constC at h
  split at h <;> first | (cases h; exact .s _ rfl) | (cases h; exact ⟨none, rfl⟩) | cases h

theorem constCs_ok {w : World} {imm : Imm} {H : HMap} {L : Locs} {U : Nat → Prop} : ∀ {xs : List Value} {cs : List C}, constCs xs = some cs → CsRep w imm H L U xs cs
  | [], cs, h => by simp [constCs] at h; subst h; exact ⟨rfl, fun k x y hx => by simp at hx⟩
  | x :: xs, cs, h => by
    simp only [constCs] at h
    split at h
    · rename_i c cs' h1 h2
      cases h
      have ih := constCs_ok (w := w) (imm := imm) (H := H) (L := L) (U := U) h2
      refine ⟨by simp [ih.1], fun k u y hu hy => ?_⟩
      cases k with
      | zero => simp at hu hy; subst hu; subst hy; exact constC_ok h1
      | succ k => exact ih.2 k u y (by simpa using hu) (by simpa using hy)
    · cases h

theorem constT_ok {w : World} {imm : Imm} {H : HMap} {L : Locs} {U : Nat → Prop} {x : Value} {t : T} (h : constT x = some t) : TRep w imm H L U x t := by
  unfold constT at h
  split at h
  · rename_i cs
    cases h1 : constCs cs.toList with
    | none => simp [h1] at h
    | some l => simp [h1] at h; subst h; exact ⟨cs.toList, by simp, constCs_ok h1⟩
  · cases h1 : constC x with
    | none => simp [h1] at h
    | some c => simp [h1] at h; subst h; exact constC_ok h1

theorem cOpd_ok {w : World} {imm : Imm} {H : HMap} {L : Locs} {U : Nat → Prop} {a : Act} {t : Nat → T} (hT : ∀ i, TRep w imm H L U (a.tmps.getD i undef) (t i)) {x : Operand} {y : Opd} (h : cOpd x = some y) :
    TRep w imm H L U (a.eval x) (ev t y) := by
  cases x with
  | tmp i => simp [cOpd] at h; subst h; exact hT i
  | const v =>
    simp only [cOpd, Option.map_eq_some_iff] at h
    obtain ⟨t', h1, rfl⟩ := h
    exact constT_ok h1
  | func f => simp [cOpd] at h; subst h; exact ⟨[], rfl, rfl, fun k p hp => by simp at hp⟩
  | global g => simp [cOpd] at h

theorem cOpds_ok {w : World} {imm : Imm} {H : HMap} {L : Locs} {U : Nat → Prop} {a : Act} {t : Nat → T} (hT : ∀ i, TRep w imm H L U (a.tmps.getD i undef) (t i)) : ∀ {xs : List Operand} {ys : List Opd}, cOpds xs = some ys →
    TsRep w imm H L U (xs.map a.eval) (ys.map (ev t))
  | [], ys, h => by simp [cOpds] at h; subst h; exact ⟨rfl, fun k x y hx => by simp at hx⟩
  | x :: xs, ys, h => by
    simp only [cOpds] at h
    split at h
    · rename_i c cs' h1 h2
      cases h
      have ih := cOpds_ok hT h2
      refine ⟨by simpa using ih.1, fun k u y hu hy => ?_⟩
      cases k with
      | zero => simp at hu hy; subst hu; subst hy; exact cOpd_ok hT h1
      | succ k => exact ih.2 k u y (by simpa using hu) (by simpa using hy)
    · cases h
end Go.V
namespace Go.V

def OpR (P : Program) (a : Act) (o : Oper) (w : World) (imm : Imm) (H : HMap) (L : Locs) (U : Nat → Prop) (H' : HMap) (U' : Nat → Prop) (val : T) : Prop :=
  ∃ x w' imm' L', ((execOp a.eval o).run P w = .ok (.value x) w' ∨ ((execOp a.eval o).run P w = .ok .skip w' ∧ x = undef)) ∧ Goes w imm H L U H' U' val x w' imm' L'

section
variable {P : Program} {a : Act} {o : Oper} {w : World} {imm : Imm} {H : HMap} {L : Locs} {U : Nat → Prop} {t : Nat → T} {ver : Nat}

theorem opR_pure (hH : HOk w imm H L U) {x : Value} {val : T} (hr : (execOp a.eval o).run P w = .ok (.value x) w) (h : TRep w imm H L U x val) : OpR P a o w imm H L U H (with_ U ver) val :=
  ⟨x, w, imm, L, .inl hr, goes_pure hH (fun _ h => .inl h) h⟩

theorem rep_s {x y : Value} (h : TRep w imm H L U x (.pt (.one (.v (.s y))))) : x = y := by
  have h : VRep w imm x (.s y) := h
  cases h; rfl

theorem rep_asInt {x : Value} {v : T} {k : IntKind} {n : Int} (h : TRep w imm H L U x v) (hv : asInt v = some (k, n)) : x = .int k n := by
  unfold asInt at hv
  split at hv
  · simp at hv; obtain ⟨rfl, rfl⟩ := hv; exact rep_s h
  · cases hv

theorem ok_mv (x : Operand) (y : Opd) (hx : cOpd x = some y) (hH : HOk w imm H L U) (hT : ∀ i, TRep w imm H L U (a.tmps.getD i undef) (t i)) (ho : o.op = .move x ∨ o.op = .assign x) :
    OpR P a o w imm H L U H (with_ U ver) (ev t y) :=
  opR_pure hH (x := a.eval x) (by rcases ho with ho | ho <;> simp [execOp, ho]) (cOpd_ok hT hx)

theorem ok_pick (c x y : Operand) (c' x' y' : Opd) (hc : cOpd c = some c') (hx : cOpd x = some x') (hy : cOpd y = some y') (hH : HOk w imm H L U) (hT : ∀ i, TRep w imm H L U (a.tmps.getD i undef) (t i))
    (ho : o.op = .pick c x y) {b : Bool} (hb : ev t c' = .pt (.one (.v (.s (.bool b))))) : OpR P a o w imm H L U H (with_ U ver) (if b then ev t x' else ev t y') := by
  have h1 := cOpd_ok hT hc
  rw [hb] at h1
  have h2 := rep_s h1
  cases b
  · exact opR_pure hH (x := a.eval y) (by simp [execOp, ho, asBool, h2]) (cOpd_ok hT hy)
  · exact opR_pure hH (x := a.eval x) (by simp [execOp, ho, asBool, h2]) (cOpd_ok hT hx)

theorem zeroCs_ok {ty : TypeId} {cs : List C} (h : zeroCs P ty = some cs) : ∃ i z, P.info? ty = some i ∧ i.zero = some z ∧ constCs z.cells.toList = some cs := by
  unfold zeroCs at h
  cases hi : P.info? ty with
  | none => simp [hi] at h
  | some i =>
    cases hz : i.zero with
    | none => simp [hi, hz] at h
    | some z => simp [hi, hz] at h; exact ⟨i, z, rfl, hz, by simpa using h⟩

theorem ok_alloc (e : TypeId) (cs : List C) (hz : zeroCs P e = some cs) (hH : HOk w imm H L U) (hv : ¬ U ver) (ho : o.op = .alloc e) (d : Nat) :
    OpR P a o w imm H L U (upd H d (some (.var ver e cs))) (with_ U ver) (.pt (.one (.ptr d ver 0))) := by
  obtain ⟨i, z, hi, hz, hc⟩ := zeroCs_ok hz
  exact ⟨_, _, _, _, .inl (by simp [execOp, ho, Instr.alloc, zeroValue, typeInfo, hi, hz, newVar, newRow]), goes_var hH d ver hv e z.cells cs (constCs_ok hc)⟩

theorem ok_box (e : TypeId) (x : Operand) (x' : Opd) (hx : cOpd x = some x') (hH : HOk w imm H L U) (hT : ∀ i, TRep w imm H L U (a.tmps.getD i undef) (t i)) (hv : ¬ U ver) (ho : o.op = .box e x) (d : Nat) {p : P1} (hp : ev t x' = .pt p) :
    OpR P a o w imm H L U (upd H d (some (.var ver e p.cells))) (with_ U ver) (.pt (.one (.ptr d ver 0))) := by
  have h1 := cOpd_ok hT hx
  rw [hp] at h1
  have h1 : PRep w imm H L U (a.eval x) p := h1
  exact ⟨_, _, _, _, .inl (by simp [execOp, ho, Instr.box, newVar, newRow]), goes_var hH d ver hv e _ _ h1.cells⟩

theorem fill_ok (places : List (Nat × Nat)) (hT : ∀ i, TRep w imm H L U (a.tmps.getD i undef) (t i)) : ∀ (ps : List (Nat × Operand)) (qs : List (Nat × Nat × Opd)) (cur : Array Value) (cs cs' : List C), cParts places ps = some qs →
    CsRep w imm H L U cur.toList cs → fillP t cs qs = some cs' → ∃ cur' : Array Value, Instr.fill (places.toArray[·]?) cur (ps.map fun (i, x) => (i, a.eval x)) = some cur' ∧ CsRep w imm H L U cur'.toList cs'
  | [], qs, cur, cs, cs', hq, hc, hf => by
    simp [cParts] at hq; subst hq
    simp [fillP] at hf; subst hf
    exact ⟨cur, by simp [Instr.fill], hc⟩
  | (i, x) :: ps, qs, cur, cs, cs', hq, hc, hf => by
    simp only [cParts] at hq
    split at hq
    · rename_i off size y qs' hpl hy hqs
      cases hq
      simp only [fillP] at hf
      split at hf
      · rename_i p hp
        split at hf
        · rename_i hcond
          have h1 := cOpd_ok hT hy
          rw [hp] at h1
          have h1 : PRep w imm H L U (a.eval x) p := h1
          have h2 := h1.cells
          have hlen : (a.eval x).cells.size = size := by have := h2.1; rw [Array.length_toList] at this; omega
          have hcl := hc.1
          rw [Array.length_toList] at hcl
          have hfold : ∀ (l : List Value) (k : Nat) (arr : Array Value), off + k + l.length ≤ arr.size →
              (((l.zipIdx k).foldl (fun cs (x : Value × Nat) => cs.setIfInBounds (off + x.2) x.1) arr).toList) = arr.toList.take (off + k) ++ l ++ arr.toList.drop (off + k + l.length) := by
            intro l
            induction l with
            | nil => intro k arr _; simp
            | cons v l ih =>
              intro k arr hle
              simp only [List.length_cons] at hle
              rw [List.zipIdx_cons, List.foldl_cons, ih (k + 1) _ (by simp; omega)]
              have hlt : off + k < arr.toList.length := by simp; omega
              simp only [Array.toList_setIfInBounds]
              have e := list_seg_step arr.toList (off + k) v l (by simp; omega)
              simp only [List.length_cons]
              rw [← e]
              congr 3
          have hrep : CsRep w imm H L U ((a.eval x).cells.zipIdx.foldl (fun cs (x : Value × Nat) => cs.setIfInBounds (off + x.2) x.1) cur).toList (putC cs off p.cells) := by
            have e := hfold (a.eval x).cells.toList 0 cur (by simp; omega)
            rw [← Array.foldl_toList, Array.toList_zipIdx, e]
            unfold putC
            simp only [Nat.add_zero]
            refine ⟨by simp only [List.length_append, List.length_take, List.length_drop, Array.length_toList]; omega, fun k u y hu hy => ?_⟩
            have hpl : p.cells.length = (a.eval x).cells.toList.length := h2.1.symm
            rw [List.append_assoc] at hu hy
            rcases Nat.lt_or_ge k off with hk | hk
            · rw [List.getElem?_append_left (by simp; omega), List.getElem?_take_of_lt hk] at hu
              rw [List.getElem?_append_left (by simp; omega), List.getElem?_take_of_lt hk] at hy
              exact hc.2 k u y hu hy
            · rw [List.getElem?_append_right (by simp; omega)] at hu
              rw [List.getElem?_append_right (by simp; omega)] at hy
              have e1 : (cur.toList.take off).length = off := by simp; omega
              have e2 : (cs.take off).length = off := by simp; omega
              rw [e1] at hu
              rw [e2] at hy
              rcases Nat.lt_or_ge (k - off) p.cells.length with hk2 | hk2
              · rw [List.getElem?_append_left (by omega)] at hu hy
                exact h2.2 _ u y hu hy
              · rw [List.getElem?_append_right (by omega), List.getElem?_drop] at hu
                rw [List.getElem?_append_right (by omega), List.getElem?_drop] at hy
                rw [← hpl] at hu
                exact hc.2 _ u y hu hy
          obtain ⟨cur', h3, h4⟩ := fill_ok places hT ps qs' _ _ cs' hqs hrep hf
          refine ⟨cur', ?_, h4⟩
          simp only [List.map_cons, Instr.fill]
          have hpl' : places.toArray[i]? = some (off, size) := by simpa using hpl
          simp only [hpl', hlen]
          rw [if_neg (by have := hcond.2; simp; omega)]
          exact h3
        · cases hf
      · cases hf
    · cases hq

theorem fill_more {f g : Nat → Option (Nat × Nat)} (hfg : ∀ i p, f i = some p → g i = some p) : ∀ (ps : List (Nat × Value)) (cur : Array Value) {cur' : Array Value}, Instr.fill f cur ps = some cur' → Instr.fill g cur ps = some cur'
  | [], cur, cur', h => h
  | (i, v) :: ps, cur, cur', h => by
    unfold Instr.fill at h ⊢
    cases hf : f i with
    | none => simp [hf] at h
    | some p =>
      obtain ⟨off, size⟩ := p
      rw [hfg i _ hf]
      simp only [hf] at h ⊢
      split at h
      · cases h
      · rename_i hc
        rw [if_neg hc]
        exact fill_more hfg ps _ h

theorem ok_build (ty : TypeId) (ps : Array (Nat × Operand)) (z : List C) (pl : List (Nat × Nat)) (qs : List (Nat × Nat × Opd)) (hz : zeroCs P ty = some z) (hpl : placesT P ty = some pl) (hq : cParts pl ps.toList = some qs)
    (hH : HOk w imm H L U) (hT : ∀ i, TRep w imm H L U (a.tmps.getD i undef) (t i)) (ho : o.op = .build ty ps) {cs : List C} (hf : fillP t z qs = some cs) : OpR P a o w imm H L U H (with_ U ver) (.pt (.agg cs)) := by
  obtain ⟨i, zv, hi, hz, hc⟩ := zeroCs_ok hz
  obtain ⟨cur, h1, h2⟩ := fill_ok pl hT ps.toList qs zv.cells z cs hq (constCs_ok hc) hf
  have hb : P.built ty (ps.map fun (i, x) => (i, a.eval x)).toList = some cur := by
    unfold placesT at hpl
    cases hu : P.underlying ty with
    | none => simp [hu] at hpl
    | some d =>
      cases d <;> simp only [hu, Option.bind_some] at hpl <;> first | (cases hpl; done) | skip
      case array n e =>
        cases hie : P.info? e with
        | none => simp [hie] at hpl
        | some ie =>
          simp only [hie, Option.map_some, Option.some.injEq] at hpl
          unfold Program.built
          simp only [hi, hu, hz, hie]
          rw [Array.toList_map]
          refine fill_more (fun i p hp => ?_) _ _ h1
          subst hpl
          rw [List.getElem?_toArray, List.getElem?_map, Option.map_eq_some_iff] at hp
          obtain ⟨k, hk, rfl⟩ := hp
          have : k = i := by
            rw [List.getElem?_range] at hk
            · exact (Option.some.inj hk).symm
            · have := (List.getElem?_eq_some_iff.1 hk).1; simpa using this
          rw [this]
      case struct fs =>
        unfold Program.built
        simp only [hi, hu, hz, hpl]
        rw [Array.toList_map]
        exact h1
  refine opR_pure hH (x := .agg cur) ?_ ⟨cur.toList, by simp, h2⟩
  have := run_build (P := P) w ty (ps.map fun (i, x) => (i, a.eval x)) cur hb
  simp [execOp, ho, this]

theorem sizeT_ok {ty : TypeId} {n : Nat} (h : sizeT P ty = some n) : ∃ i, P.info? ty = some i ∧ i.size = n := by
  unfold sizeT at h; simpa using h

theorem elemT_ok {ty e : TypeId} (h : elemT P ty = some e) : P.underlying ty = some (.slice e) := by
  unfold elemT at h
  cases hu : P.underlying ty with
  | none => simp [hu] at h
  | some d => cases d <;> simp [hu] at h; subst h; rfl

theorem run_isAgg {ty : TypeId} {b : Bool} (h : isAggT P ty = some b) : (isAgg ty).run P w = .ok b w := by
  unfold isAggT at h
  cases hu : P.underlying ty with
  | none => simp [hu] at h
  | some d =>
    simp [hu] at h
    subst h
    cases d <;> simp [isAgg, run_underlying hu]

/-- From an address on these cells stand. -/
def CellsAt (w : World) (imm : Imm) (H : HMap) (L : Locs) (U : Nat → Prop) (b o : Nat) (cs : List C) : Prop :=
  ∀ (k : Nat) y, cs[k]? = some y → ∃ u, w.cell? ⟨b, o + k, none⟩ = some u ∧ CRep w imm H L U u y

theorem ptrC_ok (hH : HOk w imm H L U) {x : Value} {v : T} (h : TRep w imm H L U x v) {cs : List C} {rn : List Nat} (hp : ptrC H v = some (cs, rn)) : ∃ b o', x = .pointer (some ⟨b, o', none⟩) ∧ CellsAt w imm H L U b o' cs := by
  unfold ptrC at hp
  split at hp
  · rename_i id ver j
    split at hp
    · rename_i ver' ty cs' hB
      split at hp
      · rename_i hv
        subst hv
        simp at hp
        obtain ⟨rfl, rfl⟩ := hp
        obtain ⟨_, _, h3⟩ := (h : CRep w imm H L U x (.ptr id ver' j))
        obtain ⟨g, hg, rfl⟩ := h3 _ _ hB
        obtain ⟨_, g', cur, hg', hh, hcs, _⟩ := hH.blk id _ hB
        rw [hg] at hg'; cases hg'
        refine ⟨g, j, rfl, fun k y hy => ?_⟩
        rw [List.getElem?_drop] at hy
        have hlt : j + k < cur.toList.length := by rw [hcs.1]; exact (List.getElem?_eq_some_iff.1 hy).1
        refine ⟨cur[j + k]'(by simpa using hlt), ?_, hcs.2 (j + k) _ y (by simp at hlt; simp [hlt]) hy⟩
        simp at hlt
        simp [World.cell?, hh, hlt]
      · cases hp
    · cases hp
  · rename_i id ver i j
    split at hp
    · rename_i ver' wr st ty es hB
      split at hp
      · rename_i hv
        subst hv
        cases he : es[i]? with
        | none => simp [he] at hp
        | some e =>
          simp [he] at hp
          obtain ⟨rfl, rfl⟩ := hp
          obtain ⟨_, _, h3⟩ := (h : CRep w imm H L U x (.aptr id ver' i j))
          obtain ⟨_, g, hg, rfl⟩ := h3 _ _ _ _ hB
          obtain ⟨_, _, _, hq⟩ := hH.blk id _ hB
          rcases hq with ⟨hq, _⟩ | ⟨g', cur, hg', hh, hsz, hcs, _⟩
          · rw [hg] at hq; cases hq
          rw [hg] at hg'; cases hg'
          refine ⟨g, i * st + j, rfl, fun k y hy => ?_⟩
          rw [List.getElem?_drop, List.getElem?_map, Option.map_eq_some_iff] at hy
          obtain ⟨z, hz, rfl⟩ := hy
          obtain ⟨u, hu1, hu2⟩ := hcs i e he (j + k) z hz
          exact ⟨u, by simp [World.cell?, hh, Nat.add_assoc, hu1], hu2⟩
      · cases hp
    · cases hp
  · rename_i xs
    simp at hp
    obtain ⟨rfl, rfl⟩ := hp
    obtain ⟨b, o', rfl, h3⟩ := (h : CRep w imm H L U x (.vptr xs))
    refine ⟨b, o', rfl, fun k y hy => ?_⟩
    rw [List.getElem?_map, Option.map_eq_some_iff] at hy
    obtain ⟨z, hz, rfl⟩ := hy
    obtain ⟨u, h4, _, h5⟩ := h3 k z hz
    exact ⟨u, h4, h5⟩
  · rename_i id ver i j
    split at hp
    · rename_i ver' wr st ty es i' cs' hB
      split at hp
      · rename_i hv
        obtain ⟨rfl, rfl⟩ := hv
        simp at hp
        obtain ⟨rfl, rfl⟩ := hp
        obtain ⟨_, _, h3⟩ := (h : CRep w imm H L U x (.tptr id ver' i' j))
        obtain ⟨_, g, hg, rfl⟩ := h3 _ _ _ _ _ hB
        obtain ⟨_, _, _, _, _, hq⟩ := hH.blk id _ hB
        rcases hq with ⟨hq, _⟩ | ⟨g', cur, part, hg', hh, hsz, _, _, _, hop, _⟩
        · rw [hg] at hq; cases hq
        rw [hg] at hg'; cases hg'
        have hcs := hop _ _ rfl
        refine ⟨g, i' * st + j, rfl, fun k y hy => ?_⟩
        rw [List.getElem?_drop] at hy
        have hlt : j + k < ((cur.toList.drop (i' * st)).take st).length := by rw [hcs.1]; exact (List.getElem?_eq_some_iff.1 hy).1
        have hu := List.getElem?_eq_getElem hlt
        refine ⟨_, ?_, hcs.2 (j + k) _ y hu hy⟩
        rw [← hu]
        have h1 : j + k < st := by simp at hlt; omega
        rw [List.getElem?_take_of_lt h1, List.getElem?_drop]
        simp [World.cell?, hh, Nat.add_assoc]
      · cases hp
    · cases hp
  · cases hp

theorem add_eq (b o k : Nat) : (⟨b, o, none⟩ : Addr).add k = ⟨b, o + k, none⟩ := by unfold Addr.add; split <;> simp_all

theorem run_ld (ty : TypeId) (n : Nat) (ag : Bool) (hn : sizeT P ty = some n) (hag : isAggT P ty = some ag) (hH : HOk w imm H L U) {x : Value} {x0 v : T} (hx : TRep w imm H L U x x0) {rn : List Nat} (hl : loadT H n ag x0 = some (v, rn)) :
    ∃ b o' y, x = .pointer (some ⟨b, o', none⟩) ∧ (loadVar ty ⟨b, o', none⟩).run P w = .ok y w ∧ TRep w imm H L U y v := by
  unfold loadT at hl
  split at hl
  · rename_i cs rn' hp
    obtain ⟨b, o', hxe, hcs⟩ := ptrC_ok hH hx hp
    obtain ⟨i, hi, hin⟩ := sizeT_ok hn
    have hA := run_isAgg (w := w) hag
    cases ag with
    | true =>
      simp only [if_true] at hl
      split at hl
      · rename_i hle
        simp at hl
        obtain ⟨rfl, rfl⟩ := hl
        let us : List Value := (List.range n).map fun k => (w.cell? ⟨b, o' + k, none⟩).getD undef
        have hus : ∀ k, k < n → ∃ y, cs[k]? = some y ∧ ∃ u, us[k]? = some u ∧ w.cell? ⟨b, o' + k, none⟩ = some u ∧ CRep w imm H L U u y := by
          intro k hk
          have hk' : k < cs.length := by omega
          obtain ⟨u, h1, h2⟩ := hcs k cs[k] (List.getElem?_eq_getElem hk')
          exact ⟨_, List.getElem?_eq_getElem hk', u, by simp [us, hk, h1], h1, h2⟩
        have hlen : us.length = n := by simp [us]
        have hrun := run_loadCells_list (P := P) (w := w) ⟨b, o', none⟩ us (fun j v hv => by
          have hj : j < n := by have := (List.getElem?_eq_some_iff.1 hv).1; omega
          obtain ⟨y, _, u, hu1, hu2, _⟩ := hus j hj
          rw [hu1] at hv; cases hv
          rw [add_eq]; exact hu2)
        rw [hlen] at hrun
        refine ⟨b, o', .agg us.toArray, hxe, ?_, us, rfl, ?_, ?_⟩
        · simp [loadVar, hA, sizeOf, typeInfo, hi, hin, hrun]
        · simp [hlen]; omega
        · intro k u y hu hy
          rw [List.getElem?_take] at hy
          split at hy
          · rename_i hk
            obtain ⟨y', hy', u', hu', _, hr⟩ := hus k hk
            rw [hu'] at hu; cases hu
            rw [hy'] at hy; cases hy
            exact hr
          · cases hy
      · cases hl
    | false =>
      simp at hl
      obtain ⟨c, hc, rfl, rfl⟩ := hl
      obtain ⟨u, h1, h2⟩ := hcs 0 c (by simpa using hc)
      refine ⟨b, o', u, hxe, ?_, h2⟩
      simp at h1
      simp [loadVar, hA, h1]
  · cases hl

theorem ok_ld (ty : TypeId) (x : Operand) (n : Nat) (ag : Bool) (x' : Opd) (hn : sizeT P ty = some n) (hag : isAggT P ty = some ag) (hx : cOpd x = some x') (hH : HOk w imm H L U) (hT : ∀ i, TRep w imm H L U (a.tmps.getD i undef) (t i))
    (ho : o.op = .load ty x) {v : T} {rn : List Nat} (hl : loadT H n ag (ev t x') = some (v, rn)) : OpR P a o w imm H L U H (with_ U ver) v := by
  obtain ⟨b, o', y, h1, h2, h3⟩ := run_ld (P := P) ty n ag hn hag hH (cOpd_ok hT hx) hl
  exact opR_pure hH (x := y) (by simp [execOp, ho, Instr.loadAt, Instr.sureAddr, h1, h2]) h3

theorem putC_rep {xs : List Value} {cs : List C} {j : Nat} {new : List Value} {ncs : List C} (h : CsRep w imm H L U xs cs) (hn : CsRep w imm H L U new ncs) (hle : j + ncs.length ≤ cs.length) :
    CsRep w imm H L U (xs.take j ++ new ++ xs.drop (j + new.length)) (putC cs j ncs) := by
  have h1 := h.1
  have h2 := hn.1
  unfold putC
  refine ⟨by simp only [List.length_append, List.length_take, List.length_drop]; omega, fun k u y hu hy => ?_⟩
  rw [List.append_assoc] at hu hy
  rcases Nat.lt_or_ge k j with hk | hk
  · rw [List.getElem?_append_left (by simp; omega), List.getElem?_take_of_lt hk] at hu
    rw [List.getElem?_append_left (by simp; omega), List.getElem?_take_of_lt hk] at hy
    exact h.2 k u y hu hy
  · rw [List.getElem?_append_right (by simp; omega)] at hu
    rw [List.getElem?_append_right (by simp; omega)] at hy
    have e1 : (xs.take j).length = j := by simp; omega
    have e2 : (cs.take j).length = j := by simp; omega
    rw [e1] at hu
    rw [e2] at hy
    rcases Nat.lt_or_ge (k - j) ncs.length with hk2 | hk2
    · rw [List.getElem?_append_left (by omega)] at hu hy
      exact hn.2 _ u y hu hy
    · rw [List.getElem?_append_right (by omega), List.getElem?_drop] at hu
      rw [List.getElem?_append_right (by omega), List.getElem?_drop] at hy
      rw [h2] at hu
      exact h.2 _ u y hu hy

theorem toVs_ok : ∀ {cs : List C} {vs : List V} {xs : List Value}, toVs cs = some vs → CsRep w imm H L U xs cs → VsOf w imm xs vs
  | [], vs, xs, h, hc => by
    simp [toVs] at h; subst h
    have : xs = [] := List.eq_nil_of_length_eq_zero hc.1
    subst this
    exact ⟨rfl, fun k x y hx => by simp at hx⟩
  | c :: cs, vs, xs, h, hc => by
    cases xs with
    | nil => have := hc.1; simp at this
    | cons x xs =>
      have htl : CsRep w imm H L U xs cs := ⟨by have := hc.1; simpa using this, fun k u y hu hy => hc.2 (k + 1) u y (by simpa using hu) (by simpa using hy)⟩
      have hhd : CRep w imm H L U x c := hc.2 0 x c rfl rfl
      have key : ∀ (v : V) (vs' : List V), toVs cs = some vs' → VRep w imm x v → VsOf w imm (x :: xs) (v :: vs') := by
        intro v vs' h1 h2
        have ih := toVs_ok (xs := xs) h1 htl
        refine ⟨by simp [ih.1], fun k u y hu hy => ?_⟩
        cases k with
        | zero => simp at hu hy; subst hu; subst hy; exact h2
        | succ k => exact ih.2 k u y (by simpa using hu) (by simpa using hy)
      unfold toVs at h
      split at h
      · cases ‹c :: cs = []›
      · rename_i v cs' heq
        cases heq
        simp at h
        obtain ⟨vs', h1, rfl⟩ := h
        exact key _ _ h1 hhd
      · rename_i cs' heq
        cases heq
        simp at h
        obtain ⟨vs', h1, rfl⟩ := h
        obtain ⟨a, rfl⟩ := (hhd : ∃ a, x = .slice a 0 0)
        exact key _ _ h1 (.nil a 0)
      · cases h
end
end Go.V
namespace Go.V
section
variable {P : Program} {a : Act} {o : Oper} {w : World} {imm : Imm} {H : HMap} {L : Locs} {U : Nat → Prop} {t : Nat → T} {ver : Nat}

theorem putV_rep {cur : Array Value} {st : Nat} {es : List (List V)} (h : ∀ i e, es[i]? = some e → VsRep w imm cur (i * st) e) (hl : ∀ e ∈ es, e.length = st) {i j : Nat} {e : List V} (he : es[i]? = some e) {new : List Value} {xs : List V}
    (hn : VsOf w imm new xs) (hle : j + xs.length ≤ e.length) (hsz : es.length * st ≤ cur.size) :
    ∀ k e', (es.set i (putC e j xs))[k]? = some e' → VsRep w imm (cur.toList.take (i * st + j) ++ new ++ cur.toList.drop (i * st + j + new.length)).toArray (k * st) e' := by
  intro k e' hk q y hy
  have h1 := hn.1
  have hel := hl e (List.mem_of_getElem? he)
  have hi : i < es.length := (List.getElem?_eq_some_iff.1 he).1
  have hbound : i * st + st ≤ es.length * st := by have := Nat.mul_le_mul_right st hi; rw [Nat.succ_mul] at this; omega
  have hA : ∀ p, p < i * st + j ∨ i * st + j + new.length ≤ p → (cur.toList.take (i * st + j) ++ new ++ cur.toList.drop (i * st + j + new.length)).toArray[p]? = cur[p]? := by
    intro p hp
    simp only [List.getElem?_toArray]
    rw [List.append_assoc]
    rcases hp with hp | hp
    · rw [List.getElem?_append_left (by simp; omega), List.getElem?_take_of_lt hp, Array.getElem?_toList]
    · rw [List.getElem?_append_right (by simp; omega), List.getElem?_append_right (by simp; omega), List.getElem?_drop, Array.getElem?_toList]
      congr 1
      simp; omega
  have hB : ∀ p, p < new.length → (cur.toList.take (i * st + j) ++ new ++ cur.toList.drop (i * st + j + new.length)).toArray[i * st + j + p]? = new[p]? := by
    intro p hp
    simp only [List.getElem?_toArray]
    rw [List.append_assoc, List.getElem?_append_right (by simp; omega)]
    have e1 : (cur.toList.take (i * st + j)).length = i * st + j := by simp; omega
    rw [e1, List.getElem?_append_left (by omega)]
    congr 1
    omega
  rw [List.getElem?_set] at hk
  split at hk
  · rename_i hik
    subst hik
    have hk : some (putC e j xs) = some e' := by simpa [hi] using hk
    by_cases hxx : True
    · cases hk
      unfold putC at hy
      rw [List.append_assoc] at hy
      rcases Nat.lt_or_ge q j with hq | hq
      · rw [List.getElem?_append_left (by simp; omega), List.getElem?_take_of_lt hq] at hy
        obtain ⟨u, hu1, hu2⟩ := h i e he q y hy
        exact ⟨u, by rw [hA _ (.inl (by omega))]; exact hu1, hu2⟩
      · rw [List.getElem?_append_right (by simp; omega)] at hy
        have e2 : (e.take j).length = j := by simp; omega
        rw [e2] at hy
        rcases Nat.lt_or_ge (q - j) xs.length with hq2 | hq2
        · rw [List.getElem?_append_left hq2] at hy
          have hlt : q - j < new.length := by omega
          refine ⟨new[q - j], ?_, hn.2 (q - j) _ y (List.getElem?_eq_getElem hlt) hy⟩
          have := hB (q - j) hlt
          rw [show i * st + j + (q - j) = i * st + q from by omega] at this
          rw [this, List.getElem?_eq_getElem hlt]
        · rw [List.getElem?_append_right hq2, List.getElem?_drop, show j + xs.length + (q - j - xs.length) = q from by omega] at hy
          obtain ⟨u, hu1, hu2⟩ := h i e he q y hy
          exact ⟨u, by rw [hA _ (.inr (by omega))]; exact hu1, hu2⟩
    · exact absurd trivial hxx
  · rename_i hik
    obtain ⟨u, hu1, hu2⟩ := h k e' hk q y hy
    have hk' : k < es.length := (List.getElem?_eq_some_iff.1 hk).1
    have hq : q < st := by have := hl e' (List.mem_of_getElem? hk); rw [← this]; exact (List.getElem?_eq_some_iff.1 hy).1
    refine ⟨u, ?_, hu2⟩
    rw [hA]
    · exact hu1
    · rcases Nat.lt_or_ge k i with hki | hki
      · have : k * st + st ≤ i * st := by have := Nat.mul_le_mul_right st hki; rw [Nat.succ_mul] at this; omega
        exact .inl (by omega)
      · have : i * st + st ≤ k * st := by have := Nat.mul_le_mul_right st (show i + 1 ≤ k by omega); rw [Nat.succ_mul] at this; omega
        exact .inr (by omega)

/-- Cells of a tree's element that stands open are written. -/
theorem goes_storeT {U' : Nat → Prop} (hu : ∀ v, U v → U' v) (hH : HOk w imm H L U) (id ver st : Nat) (wr : Bool) (ty : TypeId) (es : List (List V)) (i : Nat) (cs cs' : List C) (hB : H id = some (.tree ver wr st ty es (some (i, cs)))) (g : Nat) (hg : L id = some g)
    (cur : Array Value) (hcur : w.heap[g]? = some (.cells cur ty (0, 0))) (new : Array Value) (hnew : new.size = cur.size) (hout : ∀ k, k < i * st ∨ i * st + st ≤ k → new[k]? = cur[k]?) (hl : cs'.length = st)
    (hn : CsRep w imm H L U ((new.toList.drop (i * st)).take st) cs') :
    Goes w imm H L U (upd H id (some (.tree ver wr st ty es (some (i, cs'))))) U' .undef undef (w.setRow g new) imm L := by
  have hb := hH.blk id _ hB
  obtain ⟨hv, hst, hle, hop, hsi, hq⟩ := hb
  obtain ⟨rfl, hil, _⟩ := hop _ _ rfl
  rcases hq with ⟨hq, _⟩ | ⟨g', cur', part, hg', hh, hsz, hp, hd, hcs, _, hi⟩
  · rw [hg] at hq; cases hq
  rw [hg] at hg'; cases hg'
  rw [hcur] at hh; cases hh
  have hk : ∀ b k, imm b k → imm b k ∧ (w.setRow g new).cell? ⟨b, k, none⟩ = w.cell? ⟨b, k, none⟩ := fun b k h => ⟨h, cell_setRow_other w g new _ (fun e => by subst e; have := (hi _ h); cases this)⟩
  have hL : L.up id (some g) (L.sub id) = L := by rw [← hg]; exact L.up_self id
  have hne : H id ≠ none := by simp [hB]
  obtain ⟨h1, h2, h3, h4⟩ := upd_all (w' := w.setRow g new) (imm' := imm) (U' := U') hH id (.tree ver true st ty es (some (i, cs'))) (some g) (L.sub id) rfl rfl rfl (by simp)
    (fun b hb hne => setRow_other w g b new (fun e => hne ⟨by simp [hB], by rw [e]; exact .inl hg⟩)) hk (fun b o h => .inl h) (fun g' hg' => .inr ⟨by simp [hB], hg'.imp (fun e => hg.trans e) (fun h => h)⟩) (fun g' h e => (hH.sub id g' hne h).2 (hg.trans e)) hu
    (.inr (.inr (.inr ⟨ver, true, st, ty, es, _, true, es, _, rfl, hB, Nat.le_refl _, hg.symm, fun g2 cur2 e2 hh2 => by
      cases e2; rw [hcur] at hh2; cases hh2; exact ⟨new, setRow_heap w g cur new ty (0, 0) hcur, hnew⟩⟩)))
    (fun m he hm => by
      subst hm
      refine ⟨hu _ hv, hst, hle, fun i2 cs2 e2 => ?_, fun b o hb ho => ?_, .inr ⟨g, new, part, by simp, setRow_heap w g cur new ty (0, 0) hcur, by rw [hnew]; exact hsz, by simpa using hp, hd, fun i2 j2 x hx hne2 => ?_, fun i2 cs2 e2 => ?_, fun o ho => by have := (hi o ho); cases this⟩⟩
      · cases e2; exact ⟨rfl, hil, hl⟩
      · rw [Locs.up_sub] at hb; have := hsi b o hb ho; cases this
      · simp only [Option.map_some] at hne2
        have hne3 : i2 ≠ i := fun e => hne2 (by rw [e])
        obtain ⟨u, hu1, hu2⟩ := hcs i2 j2 x hx (by simpa using fun e : i = i2 => hne3 e.symm)
        have hx2 := hx
        simp only [at2, Option.bind_eq_some_iff] at hx2
        obtain ⟨e, he1, he2⟩ := hx2
        have hj2 : j2 < st := by have := hle e (List.mem_of_getElem? he1); rw [← this]; exact (List.getElem?_eq_some_iff.1 he2).1
        refine ⟨u, ?_, hu2.frame (fun _ h => h) fun b hb => setRow_other w g b new fun e => ?_⟩
        · rw [hout]
          · exact hu1
          · rcases Nat.lt_or_ge i2 i with hki | hki
            · have : i2 * st + st ≤ i * st := by have := Nat.mul_le_mul_right st hki; rw [Nat.succ_mul] at this; omega
              exact .inl (by omega)
            · have : i * st + st ≤ i2 * st := by have := Nat.mul_le_mul_right st (show i + 1 ≤ i2 by omega); rw [Nat.succ_mul] at this; omega
              exact .inr (by omega)
        · subst e
          exact (hH.sub _ b hne (hp _ _ _ hb)).2 hg
      · cases e2; exact hn.mono hk he)
  rw [hL] at h1 h2 h4
  exact ⟨rfl, h1, h2, h3, h4⟩

theorem put_part {α : Type} (A N : List α) (b j st : Nat) (h1 : b + st ≤ A.length) (h2 : j + N.length ≤ st) :
    (((A.take (b + j) ++ N ++ A.drop (b + j + N.length)).drop b).take st) = ((A.drop b).take st).take j ++ N ++ ((A.drop b).take st).drop (j + N.length) := by
  have e1 : A.take (b + j) = A.take b ++ (A.drop b).take j := by rw [List.take_add]
  have e2 : (A.take b).length = b := by simp; omega
  have e6 : (A.drop b).length = A.length - b := by simp
  rw [e1, List.append_assoc, List.append_assoc, List.drop_append_of_le_length (by omega), List.drop_of_length_le (by omega), List.nil_append]
  have e3 : ((A.drop b).take st).take j = (A.drop b).take j := by rw [List.take_take]; congr 1; omega
  have e4 : ((A.drop b).take st).drop (j + N.length) = ((A.drop b).drop (j + N.length)).take (st - (j + N.length)) := by rw [List.drop_take]
  have e5 : A.drop (b + j + N.length) = (A.drop b).drop (j + N.length) := by rw [List.drop_drop]; congr 1; omega
  have l1 : ((A.drop b).take j).length = j := by rw [List.length_take]; omega
  rw [e3, e4, e5]
  generalize (A.drop b).take j = X at l1
  generalize (A.drop b).drop (j + N.length) = Y
  have k1 : X.take st = X := List.take_of_length_le (by omega)
  have k2 : N.take (st - j) = N := List.take_of_length_le (by omega)
  rw [List.take_append, List.take_append, l1, k1, k2, List.append_assoc]
  congr 3
  omega

theorem ok_st (ty : TypeId) (x v : Operand) (n : Nat) (x' v' : Opd) (hn : sizeT P ty = some n) (hx : cOpd x = some x') (hv' : cOpd v = some v') (hH : HOk w imm H L U) (hT : ∀ i, TRep w imm H L U (a.tmps.getD i undef) (t i))
    (ho : o.op = .store ty x v) {p : P1} (hp : ev t v' = .pt p) {ws : List (Nat × Blk)} {wn : List Nat} (hs : storeT H n p (ev t x') = some (ws, wn)) : OpR P a o w imm H L U (updH H ws) (with_ U ver) .undef := by
  obtain ⟨i, hi, hin⟩ := sizeT_ok hn
  have hpx := cOpd_ok hT hv'
  rw [hp] at hpx
  have hpx : PRep w imm H L U (a.eval v) p := hpx
  have hcs := hpx.cells
  have hones := hcs.ones
  have hxx := cOpd_ok hT hx
  unfold storeT at hs
  split at hs
  · rename_i id ver1 j hxe
    rw [hxe] at hxx
    split at hs
    · rename_i ver' ty' cs hB
      split at hs
      · rename_i hc
        obtain ⟨rfl, hlen, hle⟩ := hc
        simp at hs
        obtain ⟨rfl, rfl⟩ := hs
        obtain ⟨_, _, h3⟩ := (hxx : CRep w imm H L U (a.eval x) (.ptr id ver' j))
        obtain ⟨g, hg, hxv⟩ := h3 _ _ hB
        obtain ⟨_, g', cur, hg', hh, hrep, _⟩ := hH.blk id _ hB
        rw [hg] at hg'; cases hg'
        have hsz : (a.eval v).cells.size = n := by have := hcs.1; rw [Array.length_toList] at this; omega
        have hrl := hrep.1
        rw [Array.length_toList] at hrl
        have hrun := run_storeCells_at P g j ty' (a.eval v).cells.toList 0 cur w hh (by rw [Array.length_toList]; omega) hones
        refine ⟨undef, _, imm, L, .inr ⟨?_, rfl⟩, goes_store (fun _ h => .inl h) hH id ver' ty' cs hB g hg cur hh _ _ (putC_rep hrep hcs (by omega))⟩
        simp only [Nat.add_zero] at hrun
        simp [execOp, ho, Instr.storeAt, Instr.sureAddr, hxv, storeVar, sizeOf, typeInfo, hi, hin, hsz, hrun]
      · cases hs
    · cases hs
  · rename_i id ver1 i1 j hxe
    rw [hxe] at hxx
    split at hs
    · rename_i ver' wr st ty' es xs hB hxs
      split at hs
      · rename_i hc
        obtain ⟨rfl, rfl⟩ := hc
        split at hs
        · rename_i e he
          split at hs
          · rename_i hc2
            obtain ⟨hlen, hle⟩ := hc2
            simp at hs
            obtain ⟨rfl, rfl⟩ := hs
            obtain ⟨_, _, h3⟩ := (hxx : CRep w imm H L U (a.eval x) (.aptr id ver' i1 j))
            obtain ⟨hi1, g, hg, hxv⟩ := h3 _ _ _ _ hB
            obtain ⟨_, hst, hls, hq⟩ := hH.blk id _ hB
            rcases hq with ⟨hq, _⟩ | ⟨g', cur, hg', hh, hsz, hrep, _⟩
            · rw [hg] at hq; cases hq
            rw [hg] at hg'; cases hg'
            have hvs := toVs_ok hxs hcs
            have hvl := hvs.1
            have hcl : (a.eval v).cells.size = n := by rw [Array.length_toList] at hvl; omega
            have hel := hls e (List.mem_of_getElem? he)
            have hbound : i1 * st + st ≤ es.length * st := by have := Nat.mul_le_mul_right st hi1; rw [Nat.succ_mul] at this; omega
            have hrun := run_storeCells_at P g (i1 * st + j) ty' (a.eval v).cells.toList 0 cur w hh (by rw [Array.length_toList]; omega) hones
            simp only [Nat.add_zero] at hrun
            refine ⟨undef, _, imm, L, .inr ⟨?_, rfl⟩, goes_storeA (fun _ h => .inl h) hH id ver' st ty' es _ hB g hg cur hh _ ?_ ?_ ?_ (putV_rep hrep hls he hvs (by omega) hsz)⟩
            · simp [execOp, ho, Instr.storeAt, Instr.sureAddr, hxv, storeVar, sizeOf, typeInfo, hi, hin, hcl, hrun]
            · simp only [List.size_toArray, List.length_append, List.length_take, List.length_drop, Array.length_toList]; omega
            · simp
            · intro e' he'
              rcases List.mem_or_eq_of_mem_set he' with h | h
              · exact hls e' h
              · subst h
                unfold putC
                simp only [List.length_append, List.length_take, List.length_drop]
                omega
          · cases hs
        · cases hs
      · cases hs
    · cases hs
  · rename_i id ver1 i1 j hxe
    rw [hxe] at hxx
    split at hs
    · rename_i ver' wr st ty' es i2 cs hB
      split at hs
      · rename_i hc
        obtain ⟨rfl, rfl, hlen, hle⟩ := hc
        simp at hs
        obtain ⟨rfl, rfl⟩ := hs
        obtain ⟨_, _, h3⟩ := (hxx : CRep w imm H L U (a.eval x) (.tptr id ver' i2 j))
        obtain ⟨hi1, g, hg, hxv⟩ := h3 _ _ _ _ _ hB
        obtain ⟨_, hst, hls, hop, _, hq⟩ := hH.blk id _ hB
        obtain ⟨_, _, hcl⟩ := hop _ _ rfl
        rcases hq with ⟨hq, _⟩ | ⟨g', cur, part, hg', hh, hsz, _, _, _, hrep, _⟩
        · rw [hg] at hq; cases hq
        rw [hg] at hg'; cases hg'
        have hcn : (a.eval v).cells.toList.length = n := by have := hcs.1; omega
        have hcn2 : (a.eval v).cells.size = n := by rw [← Array.length_toList]; exact hcn
        have hbound : i2 * st + st ≤ es.length * st := by have := Nat.mul_le_mul_right st hi1; rw [Nat.succ_mul] at this; omega
        have hcl2 : i2 * st + st ≤ cur.toList.length := by rw [Array.length_toList]; omega
        have hrun := run_storeCells_at P g (i2 * st + j) ty' (a.eval v).cells.toList 0 cur w hh (by omega) hones
        simp only [Nat.add_zero] at hrun
        refine ⟨undef, _, imm, L, .inr ⟨?_, rfl⟩, goes_storeT (fun _ h => .inl h) hH id ver' st wr ty' es i2 cs _ hB g hg cur hh (cur.toList.take (i2 * st + j) ++ (a.eval v).cells.toList ++ cur.toList.drop (i2 * st + j + (a.eval v).cells.toList.length)).toArray ?_ ?_ ?_ ?_⟩
        · simp [execOp, ho, Instr.storeAt, Instr.sureAddr, hxv, storeVar, sizeOf, typeInfo, hi, hin, hcn2, hrun]
        · simp only [List.size_toArray, List.length_append, List.length_take, List.length_drop, Array.length_toList] at hcn hcl2 ⊢; omega
        · intro k hk
          rw [List.getElem?_toArray, List.append_assoc]
          rcases Nat.lt_or_ge k (i2 * st + j) with h | h
          · rw [List.getElem?_append_left (by simp only [List.length_take]; omega), List.getElem?_take_of_lt h, Array.getElem?_toList]
          · rw [List.getElem?_append_right (by simp only [List.length_take]; omega), List.getElem?_append_right (by simp only [List.length_take]; omega), List.getElem?_drop, ← Array.getElem?_toList]
            congr 1
            simp only [List.length_take]
            omega
        · unfold putC
          simp only [List.length_append, List.length_take, List.length_drop]
          omega
        · rw [List.toList_toArray, put_part _ _ _ _ _ hcl2 (by omega)]
          exact putC_rep (hrep _ _ rfl) hcs (by omega)
      · cases hs
    · cases hs
  · cases hs

def isPtr : T → Bool
  | .pt (.one (.ptr _ _ _)) => true
  | .pt (.one (.aptr _ _ _ _)) => true
  | .pt (.one (.vptr _)) => true
  | .pt (.one (.tptr _ _ _ _)) => true
  | _ => false

theorem isPtr_ok {x : Value} {v : T} (h : TRep w imm H L U x v) (hp : isPtr v = true) : ∃ b o', x = .pointer (some ⟨b, o', none⟩) := by
  unfold isPtr at hp
  split at hp
  · exact h.2.1
  · exact h.2.1
  · obtain ⟨b, o', h1, _⟩ := h; exact ⟨b, o', h1⟩
  · exact h.2.1
  · cases hp

theorem ok_nck (x : Operand) (x' : Opd) (hx : cOpd x = some x') (hH : HOk w imm H L U) (hT : ∀ i, TRep w imm H L U (a.tmps.getD i undef) (t i)) (ho : o.op = .nilCheck x) (hp : isPtr (ev t x') = true) :
    OpR P a o w imm H L U H (with_ U ver) (ev t x') := by
  have h1 := cOpd_ok hT hx
  obtain ⟨b, o', hxe⟩ := isPtr_ok h1 hp
  exact opR_pure hH (x := a.eval x) (by simp [execOp, ho, hxe]) h1

theorem ok_nckF (x : Operand) (x' : Opd) (hx : cOpd x = some x') (hH : HOk w imm H L U) (hT : ∀ i, TRep w imm H L U (a.tmps.getD i undef) (t i)) (ho : o.op = .nilCheck x) {f : FuncId} {cs : List (Nat × Nat)} (hp : ev t x' = .pt (.one (.fn f cs))) :
    OpR P a o w imm H L U H (with_ U ver) (.pt (.one (.fn f cs))) := by
  have h1 := cOpd_ok hT hx
  rw [hp] at h1
  have h2 : CRep w imm H L U (a.eval x) (.fn f cs) := h1
  obtain ⟨ps, hxe, _⟩ := h2
  exact opR_pure hH (x := a.eval x) (by simp [execOp, ho, hxe]) h1

theorem guard_int (op : BinOp) (ty : TypeId) (x y : Operand) (k k' : IntKind) (m n : Int) : (eqGuard op ty x y (.int k m) (.int k' n)).run P w = .ok () w := by unfold eqGuard; cases op <;> rfl
theorem guard_str (op : BinOp) (ty : TypeId) (x y : Operand) (m n : ByteArray) : (eqGuard op ty x y (.string m) (.string n)).run P w = .ok () w := by unfold eqGuard; cases op <;> rfl
theorem guard_bool (op : BinOp) (ty : TypeId) (x y : Operand) (m n : Bool) : (eqGuard op ty x y (.bool m) (.bool n)).run P w = .ok () w := by unfold eqGuard; cases op <;> rfl

theorem sInt_ok (op : BinOp) (ty : TypeId) (k k' : IntKind) (m n : Int) (v : Value) (hk : k = k' ∨ isShift op = true) (h : sInt op k m n = some v) : (binOp op ty (.int k m) (.int k' n)).run P w = .ok v w ∧ v.oneCell' = true := by
  cases op
  case quo =>
    have hk : k = k' := by simpa [isShift] using hk
    subst hk
    simp only [sInt] at h
    split at h
    · cases h
    · rename_i h0; cases h; exact ⟨by simp [binOp, Op.intDiv, h0], rfl⟩
  case rem =>
    have hk : k = k' := by simpa [isShift] using hk
    subst hk
    simp only [sInt] at h
    split at h
    · cases h
    · rename_i h0; cases h; exact ⟨by simp [binOp, Op.intDiv, h0], rfl⟩
  case shl =>
    simp only [sInt] at h
    split at h
    · cases h
    · rename_i h0; cases h; exact ⟨by simp [binOp, Op.shift, h0], rfl⟩
  case shr =>
    simp only [sInt] at h
    split at h
    · cases h
    · rename_i h0; cases h; exact ⟨by simp [binOp, Op.shift, h0], rfl⟩
  case andNot => simp [sInt] at h
  all_goals
    have hk : k = k' := by simpa [isShift] using hk
    subst hk
    simp only [sInt, Option.some.injEq] at h
    subst h
    exact ⟨by simp [binOp, Op.intArith, Op.intBits, Op.intCmp], rfl⟩

theorem sStr_ok (op : BinOp) (ty : TypeId) (m n : ByteArray) (v : Value) (h : sStr op m n = some v) : (binOp op ty (.string m) (.string n)).run P w = .ok v w ∧ v.oneCell' = true := by
  cases op
  case add =>
    simp only [sStr] at h
    split at h
    · rename_i h0; cases h; exact ⟨by simp only [binOp]; exact run_string_add_sum _ _ _ h0, rfl⟩
    · cases h
  case sub => simp [sStr] at h
  case mul => simp [sStr] at h
  case quo => simp [sStr] at h
  case rem => simp [sStr] at h
  case and => simp [sStr] at h
  case or => simp [sStr] at h
  case xor => simp [sStr] at h
  case shl => simp [sStr] at h
  case shr => simp [sStr] at h
  case andNot => simp [sStr] at h
  all_goals
    simp only [sStr, Option.some.injEq] at h
    subst h
    exact ⟨by simp [binOp, Op.stringOp], rfl⟩

theorem sBin_ok (op : BinOp) (ty : TypeId) (x y : Operand) (p q v : Value) (h : sBin op p q = some v) : (eqGuard op ty x y p q).run P w = .ok () w ∧ (binOp op ty p q).run P w = .ok v w ∧ v.oneCell' = true := by
  unfold sBin at h
  split at h
  · split at h
    · rename_i hk
      exact ⟨guard_int op ty x y _ _ _ _, sInt_ok op ty _ _ _ _ v hk h⟩
    · cases h
  · exact ⟨guard_str op ty x y _ _, sStr_ok op ty _ _ v h⟩
  · cases h

theorem ok_bin (op : BinOp) (ty ty2 : TypeId) (x y : Operand) (x' y' : Opd) (hx : cOpd x = some x') (hy : cOpd y = some y') (hH : HOk w imm H L U) (hT : ∀ i, TRep w imm H L U (a.tmps.getD i undef) (t i)) (ho : o.op = .binOp op ty x y ty2)
    {p q v : Value} (hp : ev t x' = .pt (.one (.v (.s p)))) (hq : ev t y' = .pt (.one (.v (.s q)))) (hv : sBin op p q = some v) : OpR P a o w imm H L U H (with_ U ver) (.s v) := by
  have h1 := cOpd_ok hT hx
  have h2 := cOpd_ok hT hy
  rw [hp] at h1
  rw [hq] at h2
  have e1 := rep_s h1
  have e2 := rep_s h2
  obtain ⟨h3, h4, h5⟩ := sBin_ok (P := P) (w := w) op ty x y p q v hv
  exact opR_pure hH (x := v) (by simp [execOp, ho, e1, e2, h3, h4]) (.s v h5)

theorem ok_binB (op : BinOp) (ty ty2 : TypeId) (x y : Operand) (x' y' : Opd) (hu : P.underlying ty = some .bool) (hx : cOpd x = some x') (hy : cOpd y = some y') (hH : HOk w imm H L U) (hT : ∀ i, TRep w imm H L U (a.tmps.getD i undef) (t i)) (ho : o.op = .binOp op ty x y ty2)
    {p q : Bool} (hp : ev t x' = .pt (.one (.v (.s (.bool p))))) (hq : ev t y' = .pt (.one (.v (.s (.bool q))))) {b : Bool} (hop : op = .eql ∧ b = (p == q) ∨ op = .neq ∧ b = !(p == q)) : OpR P a o w imm H L U H (with_ U ver) (.b b) := by
  have h1 := cOpd_ok hT hx
  have h2 := cOpd_ok hT hy
  rw [hp] at h1
  rw [hq] at h2
  have e1 := rep_s h1
  have e2 := rep_s h2
  have hg := guard_bool (P := P) (w := w) op ty x y p q
  refine opR_pure hH (x := .bool b) ?_ (.s _ rfl)
  rcases hop with ⟨rfl, rfl⟩ | ⟨rfl, rfl⟩
  · simp only [execOp, ho, e1, e2]; rw [Sem.run_bind, Sem.run_bind, hg]; simp [run_eql_bool w ty p q hu]
  · simp only [execOp, ho, e1, e2]; rw [Sem.run_bind, Sem.run_bind, hg]; simp [run_neq_bool w ty p q hu]

theorem part_run {ty : TypeId} {off : Nat} {xs : Array Value} {v : Value} (ha : isAggT P ty = some false) (hx : xs[off]? = some v) : (part ty xs off).run P w = .ok v w := by
  simp [part, run_isAgg ha, hx]
theorem eqFields_ok (d : Nat) (xs ys : Array Value) : ∀ (fs : List Field) (n : Nat) (ks : List Nat) (cs ds : List C) (r : Bool), fieldKs P fs n = some ks → eqK ks cs ds = some r →
    (∀ j u, cs[j]? = some (.v (.s u)) → xs[n + j]? = some u) → (∀ j u, ds[j]? = some (.v (.s u)) → ys[n + j]? = some u) → (Op.eqFields (d + 1) xs ys fs).run P w = .ok r w
  | [], n, ks, cs, ds, r, hk, he, hx, hy => by
    simp [fieldKs] at hk
    subst hk
    unfold eqK at he
    split at he <;> simp_all [Op.eqFields]
  | f :: fs, n, ks, cs, ds, r, hk, he, hx, hy => by
    simp only [fieldKs] at hk
    split at hk
    · rename_i hc
      obtain ⟨h1, h2, h3⟩ := hc
      have step : ∀ (u v : Value) (cs' ds' : List C) (ks' : List Nat) (r' b : Bool), cs = .v (.s u) :: cs' → ds = .v (.s v) :: ds' → fieldKs P fs (n + 1) = some ks' → eqK ks' cs' ds' = some r' → (Op.equalIn (d + 1) f.type u v).run P w = .ok b w → (Op.eqFields (d + 1) xs ys (f :: fs)).run P w = .ok (b && r') w := by
        intro u v cs' ds' ks' r' b hcs hds hf hq hb
        subst hcs hds
        have e1 := part_run (P := P) (w := w) h3 (h2 ▸ hx 0 u rfl)
        have e2 := part_run (P := P) (w := w) h3 (h2 ▸ hy 0 v rfl)
        simp only [Nat.add_zero] at e1 e2
        have ih := eqFields_ok d xs ys fs (n + 1) ks' cs' ds' r' hf hq (fun j u h => by have := hx (j + 1) u h; rw [← this]; congr 1; omega) (fun j u h => by have := hy (j + 1) u h; rw [← this]; congr 1; omega)
        simp only [Op.eqFields, h1, ne_eq, not_false_eq_true, if_true, Sem.run_bind, e1, e2, hb, Result.andThen_ok]
        cases b with
        | false => simp
        | true => simp [ih]
      split at hk
      · rename_i k ks' hu hf
        simp only [Option.some.injEq] at hk
        subst hk
        unfold eqK at he
        split at he
        · simp_all
        · rename_i ks2 k1 a cs' k2 b ds' hks
          simp only [List.cons.injEq, true_and] at hks
          subst hks
          split at he
          · rename_i hkk
            subst hkk
            simp only [Option.map_eq_some_iff] at he
            obtain ⟨r', hr', rfl⟩ := he
            exact step _ _ cs' ds' ks' r' (a == b) rfl rfl hf hr' (run_equalIn_int w d f.type _ _ a b hu)
          · cases he
        all_goals simp_all
      · rename_i ks' hu hf
        simp only [Option.some.injEq] at hk
        subst hk
        unfold eqK at he
        split at he
        · simp_all
        · simp_all
        · rename_i ks2 a cs' b ds' hks
          simp only [List.cons.injEq, true_and] at hks
          subst hks
          simp only [Option.map_eq_some_iff] at he
          obtain ⟨r', hr', rfl⟩ := he
          exact step _ _ cs' ds' ks' r' (a == b) rfl rfl hf hr' (run_equalIn_bool' w d f.type a b hu)
        all_goals simp_all
      · rename_i ks' hu hf
        simp only [Option.some.injEq] at hk
        subst hk
        unfold eqK at he
        split at he
        · simp_all
        · simp_all
        · simp_all
        · rename_i ks2 a cs' b ds' hks
          simp only [List.cons.injEq, true_and] at hks
          subst hks
          simp only [Option.map_eq_some_iff] at he
          obtain ⟨r', hr', rfl⟩ := he
          exact step _ _ cs' ds' ks' r' (a.toList == b.toList) rfl rfl hf hr' (run_equalIn_string w d f.type a b hu)
        all_goals simp_all
      · cases hk
    · cases hk
theorem ok_cmpA (neg : Bool) (op : BinOp) (ty ty2 : TypeId) (x y : Operand) (x' y' : Opd) {fs : Array Field} (hu : P.underlying ty = some (.struct fs)) {ks : List Nat} (hk : fieldKs P fs.toList 0 = some ks) (hs : P.stoodInHeld ty = false) (hg : P.eqGuardType P.depth ty = false) (hx : cOpd x = some x') (hy : cOpd y = some y') (hH : HOk w imm H L U) (hT : ∀ i, TRep w imm H L U (a.tmps.getD i undef) (t i)) (ho : o.op = .binOp op ty x y ty2)
    (hop : op = if neg then .neq else .eql) {cs ds : List C} (hp : ev t x' = .pt (.agg cs)) (hq : ev t y' = .pt (.agg ds)) {r : Bool} (hr : eqK ks cs ds = some r) : OpR P a o w imm H L U H (with_ U ver) (.b (if neg then !r else r)) := by
  have h1 := cOpd_ok hT hx
  have h2 := cOpd_ok hT hy
  rw [hp] at h1
  rw [hq] at h2
  obtain ⟨xs, e1, c1⟩ := (show PRep w imm H L U _ (.agg cs) from h1)
  obtain ⟨ys, e2, c2⟩ := (show PRep w imm H L U _ (.agg ds) from h2)
  have hfo : P.fieldsOf ty = fs := by simp [Program.fieldsOf, hu]
  have hcell : ∀ {zs : List Value} {es : List C}, CsRep w imm H L U zs es → ∀ j u, es[j]? = some (.v (.s u)) → zs.toArray[0 + j]? = some u := by
    intro zs es hc j u he
    have hlt : j < zs.length := by rw [hc.1]; exact (List.getElem?_eq_some_iff.1 he).1
    have h := hc.2 j zs[j] _ (List.getElem?_eq_getElem hlt) he
    have : zs[j] = u := rep_s (H := H) (L := L) (U := U) h
    rw [Nat.zero_add, List.getElem?_toArray, List.getElem?_eq_getElem hlt, this]
  have he := eqFields_ok (P := P) (w := w) 9998 xs.toArray ys.toArray fs.toList 0 ks cs ds r hk hr (hcell c1) (hcell c2)
  have hE : (Op.equalIn 10000 ty (.agg xs.toArray) (.agg ys.toArray)).run P w = .ok r w := by
    rw [run_equalIn_struct w 9999 ty _ _ (by rw [hfo]; exact hu) hs, hfo]
    exact he
  have hgu := run_eqGuard_agg (P := P) w op ty x y xs.toArray ys.toArray hg
  refine opR_pure hH (x := .bool (if neg then !r else r)) ?_ (.s _ rfl)
  cases neg with
  | false =>
    simp only [Bool.false_eq_true, if_false] at hop ⊢
    subst hop
    simp only [execOp, ho, e1, e2]; rw [Sem.run_bind, Sem.run_bind, hgu]; simp [run_eql_struct, hE]
  | true =>
    simp only [if_true] at hop ⊢
    subst hop
    simp only [execOp, ho, e1, e2]; rw [Sem.run_bind, Sem.run_bind, hgu]; simp [run_neq_struct, hE]

theorem ok_un (op : UnOp) (ty : TypeId) (x : Operand) (x' : Opd) (hx : cOpd x = some x') (hH : HOk w imm H L U) (hT : ∀ i, TRep w imm H L U (a.tmps.getD i undef) (t i)) (ho : o.op = .unOp op ty x)
    {p v : Value} (hp : ev t x' = .pt (.one (.v (.s p)))) (hv : sUn op p = some v) : OpR P a o w imm H L U H (with_ U ver) (.s v) := by
  have h1 := cOpd_ok hT hx
  rw [hp] at h1
  have e1 := rep_s h1
  unfold sUn at hv
  split at hv
  · simp at hv; subst hv
    exact opR_pure hH (by simp [execOp, ho, e1, Op.unary]) (.s _ rfl)
  · simp at hv; subst hv
    exact opR_pure hH (by simp [execOp, ho, e1, Op.unary, Op.intArith]) (.s _ rfl)
  · cases hv

theorem ok_cnvI (s d : TypeId) (k : IntKind) (x : Operand) (x' : Opd) {ds : TypeDesc} (hs : P.underlying s = some ds) (hd : P.underlying d = some (.int k)) (hx : cOpd x = some x') (hH : HOk w imm H L U) (hT : ∀ i, TRep w imm H L U (a.tmps.getD i undef) (t i)) (ho : o.op = .convert s d x)
    {k' : IntKind} {n : Int} (hp : asInt (ev t x') = some (k', n)) : OpR P a o w imm H L U H (with_ U ver) (.s (.int k (k.wrap n))) := by
  have e1 := rep_asInt (cOpd_ok hT hx) hp
  exact opR_pure hH (by simp [execOp, ho, e1, convert, run_underlying hs, run_underlying hd, Conv.intToInt]) (.s _ rfl)

theorem capsOf_ok : ∀ {ts : List T} {cs : List (Nat × Nat)} {xs : List Value}, capsOf ts = some cs → TsRep w imm H L U xs ts → xs.length = cs.length ∧
    ∀ (k : Nat) p, cs[k]? = some p → ∃ u, xs[k]? = some u ∧ U p.2 ∧ (∃ b o, u = .pointer (some ⟨b, o, none⟩)) ∧ ∀ ty cs', H p.1 = some (.var p.2 ty cs') → ∃ g, L p.1 = some g ∧ u = .pointer (some ⟨g, 0, none⟩)
  | [], cs, xs, h, hr => by
    simp [capsOf] at h; subst h
    exact ⟨by have := hr.1; simpa using this, fun k p hp => by simp at hp⟩
  | x :: ts, cs, xs, h, hr => by
    cases xs with
    | nil => have := hr.1; simp at this
    | cons u xs =>
      unfold capsOf at h
      split at h
      · cases ‹x :: ts = []›
      · rename_i id ver ts' heq
        cases heq
        simp at h
        obtain ⟨cs', h1, rfl⟩ := h
        have htl : TsRep w imm H L U xs ts := ⟨by have := hr.1; simpa using this, fun k x y hx hy => hr.2 (k + 1) x y (by simpa using hx) (by simpa using hy)⟩
        obtain ⟨h2, h3⟩ := capsOf_ok h1 htl
        refine ⟨by simp [h2], fun k p hp => ?_⟩
        cases k with
        | zero =>
          simp at hp; subst hp
          have h0 : CRep w imm H L U u (.ptr id ver 0) := hr.2 0 u _ rfl rfl
          exact ⟨u, rfl, h0⟩
        | succ k => exact h3 k p (by simpa using hp)
      · cases h

theorem ok_mkf (f : FuncId) (first caps : Array Operand) (hfirst : first.isEmpty = true) (ys : List Opd) (hy : cOpds caps.toList = some ys) (hH : HOk w imm H L U) (hT : ∀ i, TRep w imm H L U (a.tmps.getD i undef) (t i)) (ho : o.op = .makeFunc (.func f) first caps)
    {cs : List (Nat × Nat)} (hc : capsOf (ys.map (ev t)) = some cs) : OpR P a o w imm H L U H (with_ U ver) (.pt (.one (.fn f cs))) := by
  have h1 := cOpds_ok hT hy
  obtain ⟨h2, h3⟩ := capsOf_ok hc h1
  have hf : first = #[] := by simpa using hfirst
  refine opR_pure hH (x := .func (.func f) #[] (caps.map a.eval)) (by simp [execOp, ho, hf, Instr.makeFunc]) ?_
  refine ⟨caps.toList.map a.eval, ?_, h2, h3⟩
  congr 1
  rw [← Array.toList_map]

theorem constCs_len : ∀ {xs : List Value} {cs : List C}, constCs xs = some cs → xs.length = cs.length
  | [], cs, h => by simp [constCs] at h; subst h; rfl
  | x :: xs, cs, h => by
    simp only [constCs] at h
    split at h
    · rename_i h2; cases h; simp [constCs_len h2]
    · cases h

theorem ok_mks (ty e : TypeId) (l c : Operand) (l' c' : Opd) (i : TypeInfo) (z : List V) (he : elemT P ty = some e) (hl : cOpd l = some l') (hc : cOpd c = some c') (hi : P.info? e = some i) (hz : (zeroCs P e).bind toVs = some z) (hzl : z.length = i.size)
    (hH : HOk w imm H L U) (hT : ∀ i, TRep w imm H L U (a.tmps.getD i undef) (t i)) (hv : ¬ U ver) (ho : o.op = .makeSlice ty l c) (d : Nat) {kl kc : IntKind} {m n : Int} (hm : asInt (ev t l') = some (kl, m)) (hn : asInt (ev t c') = some (kc, n))
    (h0 : 0 ≤ m) (hmn : m ≤ n) (hb : (i.bytes : Int) * n ≤ 281474976710656) (h63 : n ≤ 9223372036854775807) (hst : 0 < i.size) :
    OpR P a o w imm H L U (upd H d (some (.arr ver true i.size e (List.replicate m.toNat z)))) (with_ U ver) (.pt (.one (.own d ver m.toNat))) := by
  have e1 := rep_asInt (cOpd_ok hT hl) hm
  have e2 := rep_asInt (cOpd_ok hT hc) hn
  cases hzc : zeroCs P e with
  | none => simp [hzc] at hz
  | some cs =>
    simp [hzc] at hz
    obtain ⟨i', zv, hi', hzv, hcs⟩ := zeroCs_ok hzc
    rw [hi] at hi'; cases hi'
    have hrun := run_make (P := P) w ty e i zv (elemT_ok he) hi hzv kl kc m n h0 hmn hb h63
    have hvs := toVs_ok hz (constCs_ok (w := w) (imm := imm) (H := H) (L := L) (U := U) hcs)
    have hzs : zv.cells.size = i.size := by have := hvs.1; rw [Array.length_toList] at this; omega
    refine ⟨_, w.alloc (.cells (madeCells zv.cells (n.toNat * i.size)) e), _, _, .inl (by simp [execOp, ho, e1, e2, hrun]), goes_arr hH d ver hv true e (madeCells zv.cells (n.toNat * i.size)) i.size _ m.toNat n.toNat rfl rfl rfl rfl hst ?_ ?_ ?_ (by simp) (by omega) (by simp [maxLen]; omega) (by simp [size_madeCells])⟩
    · intro x hx
      rw [List.mem_replicate] at hx
      rw [hx.2]; exact hzl
    · simp [size_madeCells]
      exact Nat.mul_le_mul_right _ (by omega)
    · intro k x hx q y hy
      rw [List.getElem?_replicate] at hx
      split at hx
      · rename_i hk
        cases hx
        have hq : q < i.size := by rw [← hzl]; exact (List.getElem?_eq_some_iff.1 hy).1
        have hlt : q < zv.cells.toList.length := by simp; omega
        refine ⟨zv.cells.toList[q], ?_, hvs.2 q _ y (List.getElem?_eq_getElem hlt) hy⟩
        have hb2 : k * i.size + q < n.toNat * i.size := by
          have h5 : (k + 1) * i.size ≤ n.toNat * i.size := Nat.mul_le_mul_right _ (by omega)
          rw [Nat.succ_mul] at h5; omega
        have hmod : (k * i.size + q) % zv.cells.size = q := by rw [hzs, Nat.mul_comm, Nat.mul_add_mod, Nat.mod_eq_of_lt hq]
        simp at hlt
        simp [madeCells, hb2, hmod, hlt]
      · cases hx
end
end Go.V
namespace Go.V
section
variable {P : Program} {a : Act} {o : Oper} {w : World} {imm : Imm} {H : HMap} {L : Locs} {U : Nat → Prop} {t : Nat → T} {ver : Nat}

theorem bounds_ok (isS : Bool) (len cap : Nat) (hlc : len ≤ cap) (lo hi : Option Operand) (lo' hi' : Option Opd) (hlo : cOpt lo = some lo') (hhi : cOpt hi = some hi') (hT : ∀ i, TRep w imm H L U (a.tmps.getD i undef) (t i)) {l h : Nat} (hh : lohi t len lo' hi' = some (l, h)) :
    (Instr.sliceBounds isS len cap (lo.map a.eval) (hi.map a.eval) none).run P w = .ok (l, h, cap) w ∧ l ≤ h ∧ h ≤ len := by
  unfold lohi at hh
  split at hh
  · rename_i k1 l1 k2 h1 e1 e2
    split at hh
    · rename_i hc
      simp at hh
      obtain ⟨rfl, rfl⟩ := hh
      have hhi2 : ∀ v : Int, 0 ≤ v → v ≤ len → ∀ kk code, (Instr.sliceBound (.int kk v) cap code).run P w = .ok v.toNat w := fun v h0 h2 kk code => by
        have : v ≤ (cap : Int) := by omega
        simp [Instr.sliceBound, asIntOf, h0, this]
      have hlo2 : ∀ (v : Int) (y : Nat), 0 ≤ v → v ≤ y → ∀ kk code, (Instr.sliceBound (.int kk v) y code).run P w = .ok v.toNat w := fun v y h0 h2 kk code => by
        simp [Instr.sliceBound, asIntOf, h0, h2]
      refine ⟨?_, by omega, by omega⟩
      cases lo with
      | none =>
        simp [cOpt] at hlo; subst hlo
        simp at e1; obtain ⟨_, rfl⟩ := e1
        cases hi with
        | none =>
          simp [cOpt] at hhi; subst hhi
          simp at e2; obtain ⟨_, rfl⟩ := e2
          simp [Instr.sliceBounds]
        | some y =>
          simp [cOpt] at hhi; obtain ⟨y', hy, rfl⟩ := hhi
          have := rep_asInt (cOpd_ok hT hy) e2
          simp [Instr.sliceBounds, this, hhi2 h1 (by omega) (by omega)]
      | some x =>
        simp [cOpt] at hlo; obtain ⟨x', hx, rfl⟩ := hlo
        have h3 := rep_asInt (cOpd_ok hT hx) e1
        cases hi with
        | none =>
          simp [cOpt] at hhi; subst hhi
          simp at e2; obtain ⟨_, rfl⟩ := e2
          simp [Instr.sliceBounds, h3, hlo2 l1 len (by omega) (by omega)]
        | some y =>
          simp [cOpt] at hhi; obtain ⟨y', hy, rfl⟩ := hhi
          have h4 := rep_asInt (cOpd_ok hT hy) e2
          simp [Instr.sliceBounds, h3, h4, hhi2 h1 (by omega) (by omega), hlo2 l1 h1.toNat (by omega) (by omega)]
    · cases hh
  · cases hh

theorem view_slice {x : Value} {es : List (List V)} (h : VRep w imm x (.sl es)) {st l k : Nat} (hst : ∀ e ∈ es, e.length = st) (hlk : l ≤ k) (hk : k ≤ es.length) :
    ∃ ad cap, x = .slice ad es.length cap ∧ es.length ≤ cap ∧ VRep w imm (.slice (if cap = l then ad else ad.map (·.add (l * st))) (k - l) (cap - l)) (.sl ((es.drop l).take (k - l))) := by
  cases h with
  | nil ad cap =>
    simp at hk
    subst hk
    have : l = 0 := by omega
    subst this
    exact ⟨ad, cap, rfl, Nat.zero_le _, by simpa using VRep.nil _ _⟩
  | sl es st' b o cap vals hst' hne hcap hl hc hr =>
    refine ⟨some ⟨b, o, none⟩, cap, rfl, hcap, ?_⟩
    have hss : st = st' := by
      cases es with
      | nil => exact absurd rfl hne
      | cons e es => rw [← hst e (by simp), hl e (by simp)]
    subst hss
    by_cases hkl : k - l = 0
    · rw [hkl]; simpa using VRep.nil _ _
    · have hcl : ¬ cap = l := by omega
      simp only [hcl, if_false, Option.map_some, add_eq]
      have hlen : ((es.drop l).take (k - l)).length = k - l := by simp; omega
      have := VRep.sl (w := w) (imm := imm) ((es.drop l).take (k - l)) st b (o + l * st) (cap - l) (fun i j => vals (i + l) j) hst' (by intro e; simp [e] at hlen; omega) (by omega)
        (fun e he => hl e (List.mem_of_mem_drop (List.mem_of_mem_take he))) (fun i j x hx => ?_) (fun i j x hx => ?_)
      · rw [hlen] at this; exact this
      all_goals
        have hx' : at2 es (i + l) j = some x := by
          simp only [at2, List.getElem?_take, List.getElem?_drop] at hx ⊢
          split at hx
          · rw [Nat.add_comm]; exact hx
          · cases hx
        first
          | exact hr _ _ _ hx'
          | (have h1 := hc _ _ _ hx'
             have e1 : o + l * st + i * st + j = o + (i + l) * st + j := by rw [Nat.add_mul]; omega
             rw [e1]; exact h1)

theorem ok_slc_str (ty : TypeId) (x : Operand) (lo hi : Option Operand) (x' : Opd) (lo' hi' : Option Opd) (hu : P.underlying ty = some .string) (hx : cOpd x = some x') (hlo : cOpt lo = some lo') (hhi : cOpt hi = some hi')
    (hH : HOk w imm H L U) (hT : ∀ i, TRep w imm H L U (a.tmps.getD i undef) (t i)) (ho : o.op = .slice ty x lo hi none) {s : ByteArray} (hp : ev t x' = .pt (.one (.v (.s (.string s))))) {l h : Nat} (hb : lohi t s.size lo' hi' = some (l, h)) :
    OpR P a o w imm H L U H (with_ U ver) (.s (.string (s.extract l h))) := by
  have h1 := cOpd_ok hT hx
  rw [hp] at h1
  have e1 := rep_s h1
  obtain ⟨h2, _, _⟩ := bounds_ok (P := P) false s.size s.size (Nat.le_refl _) lo hi lo' hi' hlo hhi hT hb
  exact opR_pure hH (by simp [execOp, ho, e1, Instr.sliceAt, Instr.slice, run_underlying hu, h2]) (.s _ rfl)

theorem run_slice (ty e : TypeId) (i : TypeInfo) (hu : P.underlying ty = some (.slice e)) (hi : P.info? e = some i) (ad : Option Addr) (len cap : Nat) (lo hi' : Option Value) {l h : Nat} (hb : (Instr.sliceBounds true len cap lo hi' none).run P w = .ok (l, h, cap) w) :
    (Instr.sliceAt ty (.slice ad len cap) lo hi' none).run P w = .ok (.slice (if cap = l then ad else ad.map (·.add (l * i.size))) (h - l) (cap - l)) w := by
  simp [Instr.sliceAt, Instr.slice, run_underlying hu, hb, sizeOf, typeInfo, hi]

theorem ok_slc_view (ty e : TypeId) (n : Nat) (x : Operand) (lo hi : Option Operand) (x' : Opd) (lo' hi' : Option Opd) (hu : P.underlying ty = some (.slice e)) (hn : sizeT P e = some n) (hx : cOpd x = some x') (hlo : cOpt lo = some lo') (hhi : cOpt hi = some hi')
    (hH : HOk w imm H L U) (hT : ∀ i, TRep w imm H L U (a.tmps.getD i undef) (t i)) (ho : o.op = .slice ty x lo hi none) {es : List (List V)} (hp : ev t x' = .pt (.one (.v (.sl es)))) {l h : Nat} (hb : lohi t es.length lo' hi' = some (l, h))
    (hst : ∀ e ∈ es, e.length = n) : OpR P a o w imm H L U H (with_ U ver) (.pt (.one (.v (.sl ((es.drop l).take (h - l)))))) := by
  have h1 := cOpd_ok hT hx
  rw [hp] at h1
  have h1 : VRep w imm (a.eval x) (.sl es) := h1
  obtain ⟨i, hi2, hin⟩ := sizeT_ok hn
  obtain ⟨q, hlh, hhl⟩ : (∃ q : Unit, True) ∧ l ≤ h ∧ h ≤ es.length := ⟨⟨(), trivial⟩, (bounds_ok (P := P) true es.length es.length (Nat.le_refl _) lo hi lo' hi' hlo hhi hT hb).2⟩
  obtain ⟨ad, cap, hxe, hcap, hv⟩ := view_slice h1 hst hlh hhl
  obtain ⟨h2, _, _⟩ := bounds_ok (P := P) true es.length cap hcap lo hi lo' hi' hlo hhi hT hb
  have h3 := run_slice (P := P) ty e i hu hi2 ad es.length cap _ _ h2
  rw [hin] at h3
  refine opR_pure hH ?_ hv
  simp only [execOp, ho, hxe, Option.map_none, Sem.run_bind, h3, Result.andThen_ok, Sem.run_pure]

theorem ok_slc_own (ty e : TypeId) (n : Nat) (x : Operand) (lo hi : Option Operand) (x' : Opd) (lo' hi' : Option Opd) (hu : P.underlying ty = some (.slice e)) (hn : sizeT P e = some n) (hx : cOpd x = some x') (hlo : cOpt lo = some lo') (hhi : cOpt hi = some hi')
    (hH : HOk w imm H L U) (hT : ∀ i, TRep w imm H L U (a.tmps.getD i undef) (t i)) (ho : o.op = .slice ty x lo hi none) {id v m : Nat} (hp : ev t x' = .pt (.one (.own id v m))) {h : Nat} (hb : lohi t m lo' hi' = some (0, h)) :
    OpR P a o w imm H L U H (with_ U ver) (.pt (.one (.own id v h))) := by
  have h1 := cOpd_ok hT hx
  rw [hp] at h1
  have h1 : CRep w imm H L U (a.eval x) (.own id v m) := h1
  obtain ⟨hv, ⟨ad, k, hxe, hmk⟩, h3⟩ := h1
  obtain ⟨i, hi2, hin⟩ := sizeT_ok hn
  obtain ⟨h2, _, hhm⟩ := bounds_ok (P := P) true m k hmk lo hi lo' hi' hlo hhi hT hb
  have h4 := run_slice (P := P) ty e i hu hi2 ad m k _ _ h2
  have had : (if k = 0 then ad else ad.map (·.add (0 * i.size))) = ad := by
    split
    · rfl
    · cases ad <;> simp [Addr.add]
  rw [had] at h4
  refine opR_pure hH (x := .slice ad h k) ?_ ⟨hv, ⟨ad, k, rfl, by omega⟩, fun wr st ty es hB => ?_⟩
  · simp only [execOp, ho, hxe, Option.map_none, Sem.run_bind, h4, Result.andThen_ok, Sem.run_pure, Nat.sub_zero]
  · obtain ⟨h5, h6⟩ := h3 _ _ _ _ hB
    refine ⟨by omega, ?_⟩
    rw [hxe] at h6
    rcases h6 with ⟨a', e1, e2⟩ | ⟨b, cap, cur, hb', e1, hh, h7, h8, h9⟩
    · cases e1
      exact .inl ⟨ad, by have : h = 0 := by omega
                         subst this; rfl, by omega⟩
    · cases e1
      exact .inr ⟨b, k, cur, hb', rfl, hh, by omega, h8, h9⟩

theorem ok_slc_ow (ty e : TypeId) (n : Nat) (x : Operand) (lo hi : Option Operand) (x' : Opd) (lo' hi' : Option Opd) (hu : P.underlying ty = some (.slice e)) (hn : sizeT P e = some n) (hx : cOpd x = some x') (hlo : cOpt lo = some lo') (hhi : cOpt hi = some hi')
    (hH : HOk w imm H L U) (hT : ∀ i, TRep w imm H L U (a.tmps.getD i undef) (t i)) (ho : o.op = .slice ty x lo hi none) {id v m : Nat} (hp : ev t x' = .pt (.one (.own id v m))) {l h : Nat} (hb : lohi t m lo' hi' = some (l, h)) (hl : 0 < l)
    {wr0 : Bool} {ty0 : TypeId} {es0 : List (List V)} (hB0 : H id = some (.arr v wr0 n ty0 es0)) (hhe : h ≤ es0.length) :
    OpR P a o w imm H L U H (with_ U ver) (.pt (.one (.ow id v l (h - l)))) := by
  have h1 := cOpd_ok hT hx
  rw [hp] at h1
  obtain ⟨hv, ⟨ad, k, hxe, hmk⟩, h3⟩ := (show CRep w imm H L U (a.eval x) (.own id v m) from h1)
  obtain ⟨i, hi2, hin⟩ := sizeT_ok hn
  obtain ⟨h2, hlh, hhm⟩ := bounds_ok (P := P) true m k hmk lo hi lo' hi' hlo hhi hT hb
  have h4 := run_slice (P := P) ty e i hu hi2 ad m k _ _ h2
  rw [hin] at h4
  refine opR_pure hH (x := .slice (if k = l then ad else ad.map (·.add (l * n))) (h - l) (k - l)) ?_ ⟨hv, ⟨_, _, rfl, by omega⟩, fun wr st ty es hB => ?_⟩
  · simp only [execOp, ho, hxe, Option.map_none, Sem.run_bind, h4, Result.andThen_ok, Sem.run_pure]
  · rw [hB0] at hB
    cases hB
    obtain ⟨h5, h6⟩ := h3 _ _ _ _ hB0
    refine ⟨by omega, ?_⟩
    by_cases hz : h - l = 0
    · exact .inl hz
    · rw [hxe] at h6
      rcases h6 with ⟨a', e1, e2⟩ | ⟨b, cap, cur, hb', e1, hh, h7, h8, h9⟩
      · omega
      · cases e1
        have hkl : ¬ k = l := by omega
        refine .inr ⟨b, k - l, hb', ?_⟩
        rw [if_neg hkl]
        show Value.slice (some (Addr.add ⟨b, 0, none⟩ (l * n))) (h - l) (k - l) = _
        have : Addr.add ⟨b, 0, none⟩ (l * n) = ⟨b, l * n, none⟩ := by simp only [Addr.add, Nat.zero_add]; split <;> simp_all
        rw [this]

theorem ok_slc_nil (ty e : TypeId) (n : Nat) (x : Operand) (lo hi : Option Operand) (x' : Opd) (lo' hi' : Option Opd) (hu : P.underlying ty = some (.slice e)) (hn : sizeT P e = some n) (hx : cOpd x = some x') (hlo : cOpt lo = some lo') (hhi : cOpt hi = some hi')
    (hH : HOk w imm H L U) (hT : ∀ i, TRep w imm H L U (a.tmps.getD i undef) (t i)) (ho : o.op = .slice ty x lo hi none) (hp : ev t x' = .pt (.one .nil0)) {q : Nat × Nat} (hb : lohi t 0 lo' hi' = some q) :
    OpR P a o w imm H L U H (with_ U ver) (.pt (.one .nil0)) := by
  have h1 := cOpd_ok hT hx
  rw [hp] at h1
  have h1 : ∃ ad, a.eval x = .slice ad 0 0 := h1
  obtain ⟨ad, hxe⟩ := h1
  obtain ⟨l, h⟩ := q
  obtain ⟨i, hi2, hin⟩ := sizeT_ok hn
  obtain ⟨h2, hlh, hh⟩ := bounds_ok (P := P) true 0 0 (Nat.le_refl _) lo hi lo' hi' hlo hhi hT hb
  have h3 := run_slice (P := P) ty e i hu hi2 ad 0 0 _ _ h2
  have e1 : l = 0 := by omega
  have e2 : h = 0 := by omega
  subst e1; subst e2
  refine opR_pure hH (x := .slice ad 0 0) ?_ ⟨ad, rfl⟩
  simp only [execOp, ho, hxe, Option.map_none, Sem.run_bind, h3, Result.andThen_ok, Sem.run_pure]
  simp

theorem ok_slc0 (ty e : TypeId) (x : Operand) (x' : Opd) (hu : P.underlying ty = some (.slice e)) (hn : (sizeT P e).isSome = true) (hx : cOpd x = some x') (hH : HOk w imm H L U) (hT : ∀ i, TRep w imm H L U (a.tmps.getD i undef) (t i))
    (ho : o.op = .slice ty x none (some (.const (.int .i64 0))) (some (.const (.int .i64 0)))) (hp : (∃ es, ev t x' = .pt (.one (.v (.sl es)))) ∨ (∃ i v n, ev t x' = .pt (.one (.own i v n))) ∨ ev t x' = .pt (.one .nil0)) :
    OpR P a o w imm H L U H (with_ U ver) (.pt (.one .nil0)) := by
  have h1 := cOpd_ok hT hx
  have hsl : ∃ ad len cap, a.eval x = .slice ad len cap := by
    rcases hp with ⟨es, hp⟩ | ⟨i, v, n, hp⟩ | hp <;> rw [hp] at h1
    · have h2 : VRep w imm (a.eval x) (.sl es) := h1
      generalize a.eval x = y at h2
      cases h2 <;> exact ⟨_, _, _, rfl⟩
    · obtain ⟨_, ⟨ad, k, h2, _⟩, _⟩ := (show CRep w imm H L U (a.eval x) (.own i v n) from h1)
      exact ⟨_, _, _, h2⟩
    · obtain ⟨ad, h2⟩ := (show ∃ ad, a.eval x = .slice ad 0 0 from h1)
      exact ⟨_, _, _, h2⟩
  obtain ⟨ad, len, cap, hxe⟩ := hsl
  obtain ⟨n, hn⟩ := Option.isSome_iff_exists.1 hn
  obtain ⟨i, hi2, hin⟩ := sizeT_ok hn
  refine opR_pure hH (x := .slice ad 0 0) ?_ ⟨ad, rfl⟩
  have hrun : (Instr.sliceAt ty (.slice ad len cap) none (some (.int .i64 0)) (some (.int .i64 0))).run P w = .ok (.slice ad 0 0) w := by
    simp [Instr.sliceAt, Instr.slice, run_underlying hu, Instr.sliceBounds, Instr.sliceBound, asIntOf, sizeOf, typeInfo, hi2]
  have hk : a.eval (.const (.int .i64 0)) = .int .i64 0 := rfl
  simp only [execOp, ho, hxe, Option.map_none, Option.map_some, hk, Sem.run_bind, hrun, Result.andThen_ok, Sem.run_pure]

theorem ok_fa (s : TypeId) (fs : Array Field) (f : Nat) (fd : Field) (n : Nat) (x : Operand) (x' : Opd) (hu : P.underlying s = some (.struct fs)) (hf : fs[f]? = some fd) (hn : sizeT P fd.type = some n) (hpos : 0 < n) (hx : cOpd x = some x')
    (hH : HOk w imm H L U) (hT : ∀ i, TRep w imm H L U (a.tmps.getD i undef) (t i)) (ho : o.op = .fieldAddr s x f) {v : T}
    (hv : (∃ id vr j, ev t x' = .pt (.one (.ptr id vr j)) ∧ v = .pt (.one (.ptr id vr (j + fd.offset)))) ∨ (∃ id vr i j, ev t x' = .pt (.one (.aptr id vr i j)) ∧ v = .pt (.one (.aptr id vr i (j + fd.offset)))) ∨
      (∃ xs, ev t x' = .pt (.one (.vptr xs)) ∧ v = .pt (.one (.vptr (xs.drop fd.offset)))) ∨ (∃ id vr i j, ev t x' = .pt (.one (.tptr id vr i j)) ∧ v = .pt (.one (.tptr id vr i (j + fd.offset))))) : OpR P a o w imm H L U H (with_ U ver) v := by
  have h1 := cOpd_ok hT hx
  obtain ⟨i, hi2, hin⟩ := sizeT_ok hn
  have hpos' : ¬ i.size = 0 := by omega
  have hrun : ∀ b o', a.eval x = .pointer (some ⟨b, o', none⟩) → (execOp a.eval o).run P w = .ok (.value (.pointer (some ⟨b, o' + fd.offset, none⟩))) w := by
    intro b o' hxe
    simp [execOp, ho, hxe, Instr.fieldAt, run_underlying hu, hf, Instr.sureAddr, fieldPlace, sizeOf, typeInfo, hi2, hpos', add_eq]
  rcases hv with ⟨id, vr, j, hp, rfl⟩ | ⟨id, vr, k, j, hp, rfl⟩ | ⟨xs, hp, rfl⟩ | ⟨id, vr, k, j, hp, rfl⟩ <;> rw [hp] at h1
  · obtain ⟨h2, ⟨b, o', hxe⟩, h3⟩ := (show CRep w imm H L U (a.eval x) (.ptr id vr j) from h1)
    refine opR_pure hH (hrun b o' hxe) ⟨h2, ⟨_, _, rfl⟩, fun ty cs hB => ?_⟩
    obtain ⟨g, hg, h4⟩ := h3 _ _ hB
    rw [hxe] at h4; cases h4
    exact ⟨_, hg, rfl⟩
  · obtain ⟨h2, ⟨b, o', hxe⟩, h3⟩ := (show CRep w imm H L U (a.eval x) (.aptr id vr k j) from h1)
    refine opR_pure hH (hrun b o' hxe) ⟨h2, ⟨_, _, rfl⟩, fun wr st ty es hB => ?_⟩
    obtain ⟨h5, g, hg, h4⟩ := h3 _ _ _ _ hB
    rw [hxe] at h4; cases h4
    exact ⟨h5, _, hg, by rw [Nat.add_assoc]⟩
  · obtain ⟨b, o', hxe, h3⟩ := (show CRep w imm H L U (a.eval x) (.vptr xs) from h1)
    refine opR_pure hH (hrun b o' hxe) ⟨b, _, rfl, fun k y hy => ?_⟩
    rw [List.getElem?_drop] at hy
    have := h3 _ y hy
    rw [← Nat.add_assoc] at this
    exact this
  · obtain ⟨h2, ⟨b, o', hxe⟩, h3⟩ := (show CRep w imm H L U (a.eval x) (.tptr id vr k j) from h1)
    refine opR_pure hH (hrun b o' hxe) ⟨h2, ⟨_, _, rfl⟩, fun wr st ty es op hB => ?_⟩
    obtain ⟨h5, g, hg, h4⟩ := h3 _ _ _ _ _ hB
    rw [hxe] at h4; cases h4
    exact ⟨h5, _, hg, by rw [Nat.add_assoc]⟩

theorem ok_fl (s : TypeId) (fs : Array Field) (f : Nat) (fd : Field) (n : Nat) (ag : Bool) (x : Operand) (x' : Opd) (hu : P.underlying s = some (.struct fs)) (hf : fs[f]? = some fd) (hn : sizeT P fd.type = some n) (hag : isAggT P fd.type = some ag) (hx : cOpd x = some x')
    (hH : HOk w imm H L U) (hT : ∀ i, TRep w imm H L U (a.tmps.getD i undef) (t i)) (ho : o.op = .field s x f) {cs : List C} (hp : ev t x' = .pt (.agg cs)) {v : T}
    (hv : (ag = true ∧ fd.offset + n ≤ cs.length ∧ v = .pt (.agg ((cs.drop fd.offset).take n))) ∨ (ag = false ∧ ∃ c, cs[fd.offset]? = some c ∧ v = .pt (.one c))) : OpR P a o w imm H L U H (with_ U ver) v := by
  have h1 := cOpd_ok hT hx
  rw [hp] at h1
  obtain ⟨xs, hxe, hxs⟩ := (show PRep w imm H L U (a.eval x) (.agg cs) from h1)
  obtain ⟨i, hi2, hin⟩ := sizeT_ok hn
  have hA := run_isAgg (w := w) hag
  have hlen := hxs.1
  rcases hv with ⟨rfl, hle, rfl⟩ | ⟨rfl, c, hc, rfl⟩
  · refine opR_pure hH (x := .agg (xs.toArray.extract fd.offset (fd.offset + n))) ?_ ⟨(xs.drop fd.offset).take n, ?_, ?_, ?_⟩
    · simp [execOp, ho, hxe, Instr.field, run_underlying hu, hf, asAgg, part, hA, sizeOf, typeInfo, hi2, hin]
    · simp [List.take_drop]
    · simp; omega
    · intro k u y hu hy
      rw [List.getElem?_take, List.getElem?_drop] at hu hy
      by_cases hk : k < n
      · rw [if_pos hk] at hu hy
        exact hxs.2 _ u y hu hy
      · rw [if_neg hk] at hu
        cases hu
  · have hlt : fd.offset < xs.length := by rw [hlen]; exact (List.getElem?_eq_some_iff.1 hc).1
    refine opR_pure hH (x := xs[fd.offset]) ?_ (hxs.2 fd.offset _ c (List.getElem?_eq_getElem hlt) hc)
    simp [execOp, ho, hxe, Instr.field, run_underlying hu, hf, asAgg, part, hA, hlt]

theorem ok_ia_view (ty e : TypeId) (n : Nat) (x i : Operand) (x' i' : Opd) (hu : P.underlying ty = some (.slice e)) (hn : sizeT P e = some n) (hx : cOpd x = some x') (hi : cOpd i = some i') (hH : HOk w imm H L U) (hT : ∀ i, TRep w imm H L U (a.tmps.getD i undef) (t i))
    (ho : o.op = .indexAddr ty x i) {es : List (List V)} (hp : ev t x' = .pt (.one (.v (.sl es)))) {k : IntKind} {m : Int} (hm : asInt (ev t i') = some (k, m)) (h0 : 0 ≤ m) {el : List V} (he : es[m.toNat]? = some el) (hel : el.length = n) :
    OpR P a o w imm H L U H (with_ U ver) (.pt (.one (.vptr el))) := by
  have h1 := cOpd_ok hT hx
  rw [hp] at h1
  have e2 := rep_asInt (cOpd_ok hT hi) hm
  have h1 : VRep w imm (a.eval x) (.sl es) := h1
  obtain ⟨i, hi2, hin⟩ := sizeT_ok hn
  generalize hxe : a.eval x = xv at h1
  cases h1 with
  | nil => simp at he
  | sl es st b o' cap vals hst hne hcap hl hc hr =>
    have hlt : m.toNat < es.length := (List.getElem?_eq_some_iff.1 he).1
    have hss : n = st := by rw [← hel]; exact hl el (List.mem_of_getElem? he)
    subst hss
    have hml : m < es.length := by omega
    refine opR_pure hH (x := .pointer (some ⟨b, o' + m.toNat * n, none⟩)) ?_ ⟨b, _, rfl, fun q y hy => ?_⟩
    · simp [execOp, ho, hxe, e2, Instr.indexAt, asIntOf, run_underlying hu, h0, hml, sizeOf, typeInfo, hi2, hin, add_eq]
    · have hx' : at2 es m.toNat q = some y := by simp [at2, he, hy]
      obtain ⟨h3, h4⟩ := hc _ _ _ hx'
      exact ⟨_, h3, h4, hr _ _ _ hx'⟩

theorem ok_ia_own (ty e : TypeId) (n : Nat) (x i : Operand) (x' i' : Opd) (hu : P.underlying ty = some (.slice e)) (hn : sizeT P e = some n) (hx : cOpd x = some x') (hi : cOpd i = some i') (hH : HOk w imm H L U) (hT : ∀ i, TRep w imm H L U (a.tmps.getD i undef) (t i))
    (ho : o.op = .indexAddr ty x i) {id v q : Nat} (hp : ev t x' = .pt (.one (.own id v q))) {k : IntKind} {m : Int} (hm : asInt (ev t i') = some (k, m)) (h0 : 0 ≤ m) (hmq : m < q) {wr : Bool} {ty' : TypeId} {es : List (List V)} (hB : H id = some (.arr v wr n ty' es)) :
    OpR P a o w imm H L U H (with_ U ver) (.pt (.one (.aptr id v m.toNat 0))) := by
  have h1 := cOpd_ok hT hx
  rw [hp] at h1
  have e2 := rep_asInt (cOpd_ok hT hi) hm
  obtain ⟨hv, ⟨ad, kc, hxe, _⟩, h3⟩ := (show CRep w imm H L U (a.eval x) (.own id v q) from h1)
  obtain ⟨hqe, hov⟩ := h3 _ _ _ _ hB
  obtain ⟨i, hi2, hin⟩ := sizeT_ok hn
  rcases hov with ⟨a', e1, e3⟩ | ⟨b, cap, cur, hb, e1, hh, h7, h8, h9⟩
  · omega
  · refine opR_pure hH (x := .pointer (some ⟨b, m.toNat * n, none⟩)) ?_ ⟨hv, ⟨_, _, rfl⟩, fun wr2 st2 ty2 es2 hB2 => ?_⟩
    · simp [execOp, ho, e1, e2, Instr.indexAt, asIntOf, run_underlying hu, h0, hmq, sizeOf, typeInfo, hi2, hin, add_eq]
    · rw [hB] at hB2; cases hB2
      exact ⟨by omega, b, hb, by simp⟩

theorem ok_ia_tr (ty e : TypeId) (n : Nat) (x i : Operand) (x' i' : Opd) (hu : P.underlying ty = some (.slice e)) (hn : sizeT P e = some n) (hx : cOpd x = some x') (hi : cOpd i = some i') (hH : HOk w imm H L U) (hT : ∀ i, TRep w imm H L U (a.tmps.getD i undef) (t i))
    (ho : o.op = .indexAddr ty x i) {id v q : Nat} (hp : ev t x' = .pt (.one (.tr id v q))) {k : IntKind} {m : Int} (hm : asInt (ev t i') = some (k, m)) (h0 : 0 ≤ m) (hmq : m < q) {wr : Bool} {ty' : TypeId} {es : List (List V)} {op : Option (Nat × List C)} (hB : H id = some (.tree v wr n ty' es op)) :
    OpR P a o w imm H L U H (with_ U ver) (.pt (.one (.tptr id v m.toNat 0))) := by
  have h1 := cOpd_ok hT hx
  rw [hp] at h1
  have e2 := rep_asInt (cOpd_ok hT hi) hm
  obtain ⟨hv, ⟨ad, kc, hxe, _⟩, h3⟩ := (show CRep w imm H L U (a.eval x) (.tr id v q) from h1)
  obtain ⟨hqe, hov⟩ := h3 _ _ _ _ _ hB
  obtain ⟨i, hi2, hin⟩ := sizeT_ok hn
  rcases hov with ⟨a', e1, e3⟩ | ⟨b, cap, cur, hb, e1, hh, h7, h8, h9⟩
  · omega
  · refine opR_pure hH (x := .pointer (some ⟨b, m.toNat * n, none⟩)) ?_ ⟨hv, ⟨_, _, rfl⟩, fun wr2 st2 ty2 es2 op2 hB2 => ?_⟩
    · simp [execOp, ho, e1, e2, Instr.indexAt, asIntOf, run_underlying hu, h0, hmq, sizeOf, typeInfo, hi2, hin, add_eq]
    · rw [hB] at hB2; cases hB2
      exact ⟨by omega, b, hb, by simp⟩

theorem ok_ix (ty : TypeId) (x i : Operand) (x' i' : Opd) (hu : P.underlying ty = some .string) (hx : cOpd x = some x') (hi : cOpd i = some i') (hH : HOk w imm H L U) (hT : ∀ i, TRep w imm H L U (a.tmps.getD i undef) (t i))
    (ho : o.op = .index ty x i) {s : ByteArray} (hp : ev t x' = .pt (.one (.v (.s (.string s))))) {k : IntKind} {m : Int} (hm : asInt (ev t i') = some (k, m)) (h0 : 0 ≤ m) {b : UInt8} (hb : s.data[m.toNat]? = some b) :
    OpR P a o w imm H L U H (with_ U ver) (.s (.int .u8 b.toNat)) := by
  have h1 := cOpd_ok hT hx
  rw [hp] at h1
  have e1 := rep_s h1
  have e2 := rep_asInt (cOpd_ok hT hi) hm
  have hlt : m.toNat < s.data.size := (Array.getElem?_eq_some_iff.1 hb).1
  have hbe : s.data[m.toNat] = b := (Array.getElem?_eq_some_iff.1 hb).2
  have hsz : s.size = s.data.size := rfl
  have hcond : 0 ≤ m ∧ m < (s.size : Int) := by omega
  refine opR_pure hH ?_ (.s _ rfl)
  have := run_index_string (P := P) w ty s k m hu
  rw [dif_pos hcond] at this
  have hget : s[m.toNat]'(by omega) = b := hbe
  rw [hget] at this
  simp [execOp, ho, e1, e2, this]

theorem arrT_ok {ty e : TypeId} {n : Nat} (h : arrT P ty = some (n, e)) : P.underlying ty = some (.array n e) := by
  unfold arrT at h
  cases hu : P.underlying ty with
  | none => simp [hu] at h
  | some d => cases d <;> simp [hu] at h; obtain ⟨rfl, rfl⟩ := h; rfl

theorem ok_mmx (c : Call) (mx : Bool) (x y : Operand) (x' y' : Opd) (hc : c.callee = .builtin (if mx then .max else .min)) (hargs : c.args.toList = [x, y]) (hx : cOpd x = some x') (hy : cOpd y = some y')
    (hH : HOk w imm H L U) (hT : ∀ i, TRep w imm H L U (a.tmps.getD i undef) (t i)) (ho : o.op = .call c) {k k' : IntKind} {m n : Int} (hm : asInt (ev t x') = some (k, m)) (hn : asInt (ev t y') = some (k', n)) :
    OpR P a o w imm H L U H (with_ U ver) (.s (.int k (if mx then max m n else min m n))) := by
  have e1 := rep_asInt (cOpd_ok hT hx) hm
  have e2 := rep_asInt (cOpd_ok hT hy) hn
  have ea : c.args = #[x, y] := by rw [← Array.toArray_toList (xs := c.args), hargs]
  refine opR_pure hH (x := .int k (if mx then max m n else min m n)) ?_ (.s _ rfl)
  cases mx with
  | true =>
    have hq : (if n > m then n else m) = max m n := by omega
    simp [execOp, ho, resolve, hc, ea, invoke, builtin, e1, e2, Builtin.max_, Builtin.max2]
    omega
  | false =>
    simp [execOp, ho, resolve, hc, ea, invoke, builtin, e1, e2, Builtin.min_, Builtin.min2]
    omega

theorem ok_mm3 (c : Call) (x y z : Operand) (x' y' z' : Opd) (hc : c.callee = .builtin .max) (hargs : c.args.toList = [x, y, z]) (hx : cOpd x = some x') (hy : cOpd y = some y') (hz : cOpd z = some z')
    (hH : HOk w imm H L U) (hT : ∀ i, TRep w imm H L U (a.tmps.getD i undef) (t i)) (ho : o.op = .call c) {k k' k'' : IntKind} {m n q : Int} (hm : asInt (ev t x') = some (k, m)) (hn : asInt (ev t y') = some (k', n)) (hq : asInt (ev t z') = some (k'', q)) :
    OpR P a o w imm H L U H (with_ U ver) (.s (.int k (max (max m n) q))) := by
  have e1 := rep_asInt (cOpd_ok hT hx) hm
  have e2 := rep_asInt (cOpd_ok hT hy) hn
  have e3 := rep_asInt (cOpd_ok hT hz) hq
  have ea : c.args = #[x, y, z] := by rw [← Array.toArray_toList (xs := c.args), hargs]
  refine opR_pure hH (x := .int k (max (max m n) q)) ?_ (.s _ rfl)
  have h1 : (if n > m then n else m) = max m n := by omega
  have h2 : (if q > max m n then q else max m n) = max (max m n) q := by omega
  simp [execOp, ho, resolve, hc, ea, invoke, builtin, e1, e2, e3, Builtin.max_, Builtin.max2]
  omega

theorem ok_iap (ty e : TypeId) (len n : Nat) (x i : Operand) (x' i' : Opd) (hu : P.underlying ty = some (.array len e)) (hn : sizeT P e = some n) (hx : cOpd x = some x') (hi : cOpd i = some i') (hH : HOk w imm H L U) (hT : ∀ i, TRep w imm H L U (a.tmps.getD i undef) (t i))
    (ho : o.op = .indexAddr ty x i) {id vr j : Nat} (hp : ev t x' = .pt (.one (.ptr id vr j))) {k : IntKind} {m : Int} (hm : asInt (ev t i') = some (k, m)) (h0 : 0 ≤ m) (hlt : m.toNat < len) :
    OpR P a o w imm H L U H (with_ U ver) (.pt (.one (.ptr id vr (j + m.toNat * n)))) := by
  have h1 := cOpd_ok hT hx
  rw [hp] at h1
  have e2 := rep_asInt (cOpd_ok hT hi) hm
  obtain ⟨ie, hi2, hin⟩ := sizeT_ok hn
  obtain ⟨h2, ⟨b, o', hxe⟩, h3⟩ := (show CRep w imm H L U (a.eval x) (.ptr id vr j) from h1)
  have hcond : 0 ≤ m ∧ m < (len : Int) := by omega
  have hrun : (execOp a.eval o).run P w = .ok (.value (.pointer (some ⟨b, o' + m.toNat * n, none⟩))) w := by
    simp [execOp, ho, hxe, e2, Instr.indexAt, asIntOf, run_underlying hu, Instr.sureAddr, hcond.1, hcond.2, sizeOf, typeInfo, hi2, hin, add_eq]
  refine opR_pure hH hrun ⟨h2, ⟨_, _, rfl⟩, fun ty cs hB => ?_⟩
  obtain ⟨g, hg, h4⟩ := h3 _ _ hB
  rw [hxe] at h4; cases h4
  exact ⟨_, hg, rfl⟩

theorem ok_ixA (ty e : TypeId) (len n : Nat) (ag : Bool) (x i : Operand) (x' i' : Opd) (hu : P.underlying ty = some (.array len e)) (hn : sizeT P e = some n) (hag : isAggT P e = some ag) (hx : cOpd x = some x') (hi : cOpd i = some i')
    (hH : HOk w imm H L U) (hT : ∀ i, TRep w imm H L U (a.tmps.getD i undef) (t i)) (ho : o.op = .index ty x i) {cs : List C} (hp : ev t x' = .pt (.agg cs)) {k : IntKind} {m : Int} (hm : asInt (ev t i') = some (k, m)) (h0 : 0 ≤ m) (hlt : m.toNat < len) {v : T}
    (hv : (ag = true ∧ m.toNat * n + n ≤ cs.length ∧ v = .pt (.agg ((cs.drop (m.toNat * n)).take n))) ∨ (ag = false ∧ ∃ c, cs[m.toNat * n]? = some c ∧ v = .pt (.one c))) : OpR P a o w imm H L U H (with_ U ver) v := by
  have h1 := cOpd_ok hT hx
  rw [hp] at h1
  have e2 := rep_asInt (cOpd_ok hT hi) hm
  obtain ⟨xs, hxe, hxs⟩ := (show PRep w imm H L U (a.eval x) (.agg cs) from h1)
  obtain ⟨ie, hi2, hin⟩ := sizeT_ok hn
  have hA := run_isAgg (w := w) hag
  have hlen := hxs.1
  have hcond : 0 ≤ m ∧ m < (len : Int) := by omega
  rcases hv with ⟨rfl, hle, rfl⟩ | ⟨rfl, c, hc, rfl⟩
  · refine opR_pure hH (x := .agg (xs.toArray.extract (m.toNat * n) (m.toNat * n + n))) ?_ ⟨(xs.drop (m.toNat * n)).take n, ?_, ?_, ?_⟩
    · simp [execOp, ho, hxe, e2, Instr.index, asIntOf, run_underlying hu, hcond.1, hcond.2, part, hA, sizeOf, typeInfo, hi2, hin]
    · simp [List.take_drop]
    · simp; omega
    · intro k u y hu hy
      rw [List.getElem?_take, List.getElem?_drop] at hu hy
      by_cases hk : k < n
      · rw [if_pos hk] at hu hy
        exact hxs.2 _ u y hu hy
      · rw [if_neg hk] at hu
        cases hu
  · have hlt2 : m.toNat * n < xs.length := by rw [hlen]; exact (List.getElem?_eq_some_iff.1 hc).1
    refine opR_pure hH (x := xs[m.toNat * n]) ?_ (hxs.2 (m.toNat * n) _ c (List.getElem?_eq_getElem hlt2) hc)
    simp [execOp, ho, hxe, e2, Instr.index, asIntOf, run_underlying hu, hcond.1, hcond.2, part, hA, sizeOf, typeInfo, hi2, hin, hlt2]

theorem ok_ext (i : Nat) (x : Operand) (x' : Opd) (hx : cOpd x = some x') (hH : HOk w imm H L U) (hT : ∀ i, TRep w imm H L U (a.tmps.getD i undef) (t i)) (ho : o.op = .extract x i) {ps : List P1} (hp : ev t x' = .tup ps) {p : P1} (hi : ps[i]? = some p) :
    OpR P a o w imm H L U H (with_ U ver) (.pt p) := by
  have h1 := cOpd_ok hT hx
  rw [hp] at h1
  obtain ⟨xs, hxe, hl, h2⟩ := h1
  have hlt : i < xs.length := by rw [hl]; exact (List.getElem?_eq_some_iff.1 hi).1
  refine opR_pure hH (x := xs[i]) ?_ (h2 i _ p (List.getElem?_eq_getElem hlt) hi)
  simp [execOp, ho, hxe, Instr.extract, hlt]

theorem ok_len (c : Call) (x : Operand) (ty : TypeId) (x' : Opd) (hc : c.callee = .builtin .len) (hargs : c.args.toList = [x]) (hts : c.argTypes.toList = [ty]) (hx : cOpd x = some x')
    (hH : HOk w imm H L U) (hT : ∀ i, TRep w imm H L U (a.tmps.getD i undef) (t i)) (ho : o.op = .call c) {n : Nat}
    (hp : (P.underlying ty = some .string ∧ ∃ s, ev t x' = .pt (.one (.v (.s (.string s)))) ∧ n = s.size) ∨ ((∃ e, P.underlying ty = some (.slice e)) ∧ ((∃ es, ev t x' = .pt (.one (.v (.sl es))) ∧ n = es.length) ∨ (∃ id v, ev t x' = .pt (.one (.own id v n))) ∨ (ev t x' = .pt (.one .nil0) ∧ n = 0) ∨ ∃ id v, ev t x' = .pt (.one (.tr id v n))))) :
    OpR P a o w imm H L U H (with_ U ver) (.i n) := by
  have h1 := cOpd_ok hT hx
  have ea : c.args = #[x] := by rw [← Array.toArray_toList (xs := c.args), hargs]
  have et : c.argTypes = #[ty] := by rw [← Array.toArray_toList (xs := c.argTypes), hts]
  refine opR_pure hH (x := .int .i64 n) ?_ (.s _ rfl)
  rcases hp with ⟨hu, s, hp, rfl⟩ | ⟨⟨e, hu⟩, hp⟩
  · rw [hp] at h1
    have e1 := rep_s h1
    simp [execOp, ho, resolve, hc, ea, et, invoke, builtin, e1, Builtin.len_, run_underlying hu, goInt]
  · have hsl : ∃ ad cap, a.eval x = .slice ad n cap := by
      rcases hp with ⟨es, hp, rfl⟩ | ⟨id, v, hp⟩ | ⟨hp, rfl⟩ | ⟨id, v, hp⟩ <;> rw [hp] at h1
      · have h2 : VRep w imm (a.eval x) (.sl es) := h1
        generalize a.eval x = y at h2
        cases h2 <;> exact ⟨_, _, rfl⟩
      · obtain ⟨_, ⟨ad, k, h2, _⟩, _⟩ := (show CRep w imm H L U (a.eval x) (.own id v n) from h1)
        exact ⟨_, _, h2⟩
      · obtain ⟨ad, h2⟩ := (show ∃ ad, a.eval x = .slice ad 0 0 from h1)
        exact ⟨_, _, h2⟩
      · obtain ⟨_, ⟨ad, k, h2, _⟩, _⟩ := (show CRep w imm H L U (a.eval x) (.tr id v n) from h1)
        exact ⟨_, _, h2⟩
    obtain ⟨ad, cap, hxe⟩ := hsl
    simp [execOp, ho, resolve, hc, ea, et, invoke, builtin, hxe, Builtin.len_, run_underlying hu, goInt]
end

/-! What is given over into a tree. -/
section
variable {w : World} {imm : Imm} {H : HMap} {L : Locs} {U : Nat → Prop}
theorem flatFrom_at {ty : TypeId} : ∀ {e : List V} {k : Nat}, flatFrom ty k e = true → ∀ (j : Nat) x, e[j]? = some x → ∃ y, x = .s y ∧ tsub ty (k + j) = none
  | [], _, _, j, x, hx => by simp at hx
  | .s y :: e, k, h, j, x, hx => by
    simp only [flatFrom, Bool.and_eq_true, Option.isNone_iff_eq_none] at h
    cases j with
    | zero => simp at hx; subst hx; exact ⟨y, rfl, h.1⟩
    | succ j => have := flatFrom_at h.2 j x (by simpa using hx); rw [show k + 1 + j = k + (j + 1) from by omega] at this; exact this
  | .sl es :: e, k, h, j, x, hx => by simp [flatFrom] at h

/-- The blocks that these names own and that nobody reads. -/
def OwnS (imm : Imm) (L : Locs) (l : List Nat) : Nat → Prop := fun b => ∃ n ∈ l, L.Own n b ∧ ∀ o, ¬ imm b o

theorem moveC_ok (hH : HOk w imm H L U) {k : Option (Nat × TypeId)} {c : C} {x : Value} {v : V} {ns : List Nat} (h : moveC H k c = some (v, ns)) (hr : CRep w imm H L U x c) :
    VTree w k x v (OwnS imm L ns) ∧ ∀ n ∈ ns, H n ≠ none := by
  unfold moveC at h
  split at h
  · rename_i y
    split at h
    · rename_i hk
      subst hk
      simp at h
      obtain ⟨rfl, rfl⟩ := h
      have h1 := oneCell_s (show VRep w imm x (.s y) from hr)
      have h2 := rep_s (H := H) (L := L) (U := U) hr
      subst h2
      exact ⟨.s _ h1, fun n hn => by simp at hn⟩
    · cases h
  · split at h
    · cases h
    · rename_i hk
      simp at h
      obtain ⟨rfl, rfl⟩ := h
      cases k with
      | none => exact absurd rfl hk
      | some k =>
        cases (show VRep w imm x (.sl []) from hr) with
        | nil a cap => exact ⟨.nil a cap, fun n hn => by simp at hn⟩
        | sl _ _ _ _ _ _ _ hne => exact absurd rfl hne
  · split at h
    · cases h
    · rename_i hk
      simp at h
      obtain ⟨rfl, rfl⟩ := h
      obtain ⟨a, rfl⟩ := (hr : ∃ a, x = .slice a 0 0)
      cases k with
      | none => exact absurd rfl hk
      | some k => exact ⟨.nil a 0, fun n hn => by simp at hn⟩
  · rename_i id ver n
    split at h
    · rename_i ver' st ty es hB
      split at h
      · rename_i hc
        obtain ⟨rfl, hn, rfl, hfl⟩ := hc
        simp at h
        obtain ⟨rfl, rfl⟩ := h
        refine ⟨?_, fun n hn => by simp at hn; subst hn; simp [hB]⟩
        obtain ⟨_, _, h3⟩ := hr
        obtain ⟨_, hov⟩ := h3 _ _ _ _ hB
        obtain ⟨_, hst, hle, hq⟩ := hH.blk id _ hB
        rcases hov with ⟨a, rfl, rfl⟩ | ⟨b, cap, cur, hb, rfl, hh, hnc, hcm, hcs⟩
        · exact .nil a 0
        · rcases hq with ⟨hq, _⟩ | ⟨g, cur', hg, hh', hsz, hcells, hi⟩
          · rw [hb] at hq; cases hq
          · rw [hb] at hg; cases hg
            rw [hh] at hh'; cases hh'
            have hlen : (es.take n).length = n := by simp; omega
            have hat : ∀ i j x, at2 (es.take n) i j = some x → ∃ u, cur[i * st + j]? = some u ∧ VTree w (tsub ty j) u x noB := fun i j x hx => by
              simp only [at2, List.getElem?_take] at hx
              split at hx
              case isFalse => simp at hx
              rw [Option.bind_eq_some_iff] at hx
              obtain ⟨e, he, hx⟩ := hx
              obtain ⟨u, hu1, hu2⟩ := hcells i e he j x hx
              obtain ⟨y, rfl, hy⟩ := flatFrom_at (hfl e (List.mem_of_getElem? he)) j x hx
              rw [Nat.zero_add] at hy
              rw [hy]
              have h1 := oneCell_s hu2
              have h2 := rep_s (H := H) (L := L) (U := U) hu2
              subst h2
              exact ⟨_, hu1, .s _ h1⟩
            have := VTree.sl (w := w) (S := OwnS imm L [id]) st ty (es.take n) b cap cur (fun _ _ => noB) (fun i j => cur.getD (i * st + j) undef) hst (by omega) hcm (fun e he => hle e (List.mem_of_mem_take he)) hh hcs
              ⟨id, by simp, .inl hb, fun o ho => by have := (hi o ho).1; cases this⟩ (fun _ _ _ h => h.elim) (fun _ _ _ _ _ h => h.elim)
              (fun i j x hx => by
                obtain ⟨u, h1, _⟩ := hat i j x hx
                have hlt := (Array.getElem?_eq_some_iff.1 h1).1
                simp [hlt])
              (fun i j x hx => by
                obtain ⟨u, h1, h2⟩ := hat i j x hx
                have hlt := (Array.getElem?_eq_some_iff.1 h1).1
                have e1 : cur.getD (i * st + j) undef = u := by simp [hlt, (Array.getElem?_eq_some_iff.1 h1).2]
                simp only [e1]; exact h2)
            rw [hlen] at this
            exact this
      · cases h
    · cases h
  · rename_i id ver n
    split at h
    · rename_i ver' st ty es hB
      split at h
      · rename_i hc
        obtain ⟨rfl, hn, rfl⟩ := hc
        simp at h
        obtain ⟨rfl, rfl⟩ := h
        refine ⟨?_, fun n hn => by simp at hn; subst hn; simp [hB]⟩
        obtain ⟨_, _, h3⟩ := hr
        obtain ⟨_, hov⟩ := h3 _ _ _ _ _ hB
        obtain ⟨_, hst, hle, _, hsi, hq⟩ := hH.blk id _ hB
        rcases hov with ⟨a, rfl, rfl⟩ | ⟨b, cap, cur, hb, rfl, hh, hnc, hcm, hcs⟩
        · exact .nil a 0
        · rcases hq with ⟨hq, _⟩ | ⟨g, cur', part, hg, hh', hsz, hp, hd, hcells, _, hi⟩
          · rw [hb] at hq; cases hq
          · rw [hb] at hg; cases hg
            rw [hh] at hh'; cases hh'
            have hlen : (es.take n).length = n := by simp; omega
            have hat : ∀ i j x, at2 (es.take n) i j = some x → ∃ u, cur[i * st + j]? = some u ∧ VTree w (tsub ty j) u x (part i j) := fun i j x hx => by
              simp only [at2, List.getElem?_take] at hx
              split at hx
              case isFalse => simp at hx
              exact hcells i j x hx (by simp)
            have := VTree.sl (w := w) (S := OwnS imm L [id]) st ty (es.take n) b cap cur part (fun i j => cur.getD (i * st + j) undef) hst (by omega) hcm (fun e he => hle e (List.mem_of_mem_take he)) hh hcs
              ⟨id, by simp, .inl hb, fun o ho => by have := (hi o ho); cases this⟩
              (fun i j b' h => ⟨⟨id, by simp, .inr (hp _ _ _ h), fun o ho => by have := hsi b' o (hp _ _ _ h) ho; cases this⟩, fun e => (hH.sub id b' (by simp [hB]) (hp _ _ _ h)).2 (e ▸ hb)⟩) hd
              (fun i j x hx => by
                obtain ⟨u, h1, _⟩ := hat i j x hx
                have hlt := (Array.getElem?_eq_some_iff.1 h1).1
                simp [hlt])
              (fun i j x hx => by
                obtain ⟨u, h1, h2⟩ := hat i j x hx
                have hlt := (Array.getElem?_eq_some_iff.1 h1).1
                have e1 : cur.getD (i * st + j) undef = u := by simp [hlt, (Array.getElem?_eq_some_iff.1 h1).2]
                simp only [e1]; exact h2)
            rw [hlen] at this
            exact this
      · cases h
    · cases h
  · cases h

/-- The cells of an element that is given over: which names go with which cell. -/
theorem moveCs_ok (hH : HOk w imm H L U) {ty : TypeId} : ∀ {cs : List C} {k : Nat} {xs : List Value} {vs : List V} {ns : List Nat} (_ : moveCs H ty k cs = some (vs, ns)) (_ : CsRep w imm H L U xs cs),
    vs.length = cs.length ∧ (∀ n ∈ ns, H n ≠ none) ∧ ∃ f : Nat → List Nat, (∀ j n, n ∈ f j → n ∈ ns) ∧ (ns.Nodup → ∀ j j' n, n ∈ f j → n ∈ f j' → j = j') ∧
      ∀ (j : Nat) v, vs[j]? = some v → ∃ u, xs[j]? = some u ∧ VTree w (tsub ty (k + j)) u v (OwnS imm L (f j))
  | [], k, xs, vs, ns, h, hr => by
    simp [moveCs] at h
    obtain ⟨rfl, rfl⟩ := h
    exact ⟨rfl, fun n hn => by simp at hn, fun _ => [], fun j n hn => by simp at hn, fun _ j j' n hn => by simp at hn, fun j v hv => by simp at hv⟩
  | c :: cs, k, xs, vs, ns, h, hr => by
    simp only [moveCs] at h
    split at h
    · rename_i v n1 vs' n2 h1 h2
      simp only [Option.some.injEq, Prod.mk.injEq] at h
      obtain ⟨rfl, rfl⟩ := h
      cases xs with
      | nil => have := hr.1; simp at this
      | cons x xs =>
        have htl : CsRep w imm H L U xs cs := ⟨by have := hr.1; simpa using this, fun k u y hu hy => hr.2 (k + 1) u y (by simpa using hu) (by simpa using hy)⟩
        obtain ⟨a1, a2⟩ := moveC_ok hH h1 (hr.2 0 x c rfl rfl)
        obtain ⟨b1, b2, f, b3, b4, b5⟩ := moveCs_ok hH h2 htl
        refine ⟨by simp [b1], fun n hn => ?_, fun j => match j with | 0 => n1 | j + 1 => f j, fun j n hn => ?_, fun hnd j j' n hn hn' => ?_, fun j v' hv => ?_⟩
        · rcases List.mem_append.1 hn with hn | hn
          · exact a2 n hn
          · exact b2 n hn
        · cases j with
          | zero => exact List.mem_append.2 (.inl hn)
          | succ j => exact List.mem_append.2 (.inr (b3 j n hn))
        · have hnd' := List.nodup_append.1 hnd
          cases j with
          | zero => cases j' with
            | zero => rfl
            | succ j' => exact absurd rfl (hnd'.2.2 n hn n (b3 j' n hn'))
          | succ j => cases j' with
            | zero => exact absurd rfl (hnd'.2.2 n hn' n (b3 j n hn))
            | succ j' => rw [b4 hnd'.2.1 j j' n hn hn']
        · cases j with
          | zero => simp at hv; subst hv; exact ⟨x, rfl, a1⟩
          | succ j =>
            obtain ⟨u, h3, h4⟩ := b5 j v' (by simpa using hv)
            rw [show k + 1 + j = k + (j + 1) from by omega] at h4
            exact ⟨u, by simpa using h3, h4⟩
    · cases h

end
end Go.V

/- For all schemas the program's KindJoin gives what the reference's gives, leaves its arguments as they were and shares no memory: the law returns true for every input, and its arguments read as before. Conditions: none. -/
import Derived.Test.YtkbelgihflbofaaMX2
import Derived.Shelf.Sort.Plain
import Derived.Shelf.Slices.In.SortNone
import Derived.Shelf.Slices.CompactS
import Derived.Shelf.SlGeneric
import Derived.Shelf.Spec.SlicesGrow
import Derived.Lib.RowBridge
import Derived.Sort.Walk0
set_option linter.unusedVariables false
set_option linter.unusedSimpArgs false
namespace Go.Proofs
open Go.Shelf
def Try.laysSort_ren : Go.Shelf.Ren := ⟨fun | 190 => 65 | 125 => 80 | 258 => 79 | 128 => 94 | 129 => 95 | 302 => 86 | 303 => 87 | 304 => 88 | 305 => 89 | 306 => 90 | 307 => 91 | 308 => 71 | 309 => 92 | 310 => 93 | 333 => 100 | 329 => 101 | 330 => 102 | 334 => 103 | 335 => 104 | 336 => 82 | 344 => 105 | n => n, fun | 31 => 22 | 9 => 9 | 3 => 3 | 46 => 76 | 0 => 0 | 51 => 95 | 53 => 97 | 4 => 4 | 183 => 89 | 182 => 88 | 131 => 64 | 5 => 5 | 218 => 99 | 222 => 71 | 228 => 104 | 229 => 105 | n => n, fun | n => n⟩
theorem Try.laysSort : Go.Proofs.Lays.n190 Try.prog Try.laysSort_ren := {
  mixed := by kernel_rfl
  f125 := Try.func80.trans (congrArg some (by kernel_rfl))
  f128 := Try.func94.trans (congrArg some (by kernel_rfl))
  f129 := Try.func95.trans (congrArg some (by kernel_rfl))
  f190 := Try.func65.trans (congrArg some (by kernel_rfl))
  f258 := Try.func79.trans (congrArg some (by kernel_rfl))
  f302 := Try.func86.trans (congrArg some (by kernel_rfl))
  f303 := Try.func87.trans (congrArg some (by kernel_rfl))
  f304 := Try.func88.trans (congrArg some (by kernel_rfl))
  f305 := Try.func89.trans (congrArg some (by kernel_rfl))
  f306 := Try.func90.trans (congrArg some (by kernel_rfl))
  f307 := Try.func91.trans (congrArg some (by kernel_rfl))
  f308 := Try.func71.trans (congrArg some (by kernel_rfl))
  f309 := Try.func92.trans (congrArg some (by kernel_rfl))
  f310 := Try.func93.trans (congrArg some (by kernel_rfl))
  f329 := Try.func101.trans (congrArg some (by kernel_rfl))
  f330 := Try.func102.trans (congrArg some (by kernel_rfl))
  f333 := Try.func100.trans (congrArg some (by kernel_rfl))
  f334 := Try.func103.trans (congrArg some (by kernel_rfl))
  f335 := Try.func104.trans (congrArg some (by kernel_rfl))
  f336 := Try.func82.trans (congrArg some (by kernel_rfl))
  f344 := Try.func105.trans (congrArg some (by kernel_rfl))
  t0 := Try.underlying0
  a0 := Try.isAgg0
  z0 := Try.sizeOf0
  v0 := Try.zeroValue0
  t3 := Try.underlying3
  a3 := Try.isAgg3
  z3 := Try.sizeOf3
  v3 := Try.zeroValue3
  t4 := Try.underlying4
  a4 := Try.isAgg4
  z4 := Try.sizeOf4
  v4 := Try.zeroValue4
  t5 := Try.underlying5
  a5 := Try.isAgg5
  z5 := Try.sizeOf5
  v5 := Try.zeroValue5
  t9 := Try.underlying9
  a9 := Try.isAgg9
  z9 := Try.sizeOf9
  v9 := Try.zeroValue9
  t31 := Try.underlying22
  a31 := Try.isAgg22
  z31 := Try.sizeOf22
  v31 := Try.zeroValue22
  t46 := Try.underlying76
  a46 := Try.isAgg76
  z46 := Try.sizeOf76
  v46 := Try.zeroValue76
  t51 := Try.underlying95
  a51 := Try.isAgg95
  z51 := Try.sizeOf95
  v51 := Try.zeroValue95
  t53 := Try.underlying97
  a53 := Try.isAgg97
  z53 := Try.sizeOf97
  v53 := Try.zeroValue97
  t131 := Try.underlying64
  a131 := Try.isAgg64
  z131 := Try.sizeOf64
  v131 := Try.zeroValue64
  t182 := Try.underlying88
  a182 := Try.isAgg88
  z182 := Try.sizeOf88
  v182 := Try.zeroValue88
  t183 := Try.underlying89
  a183 := Try.isAgg89
  z183 := Try.sizeOf89
  v183 := Try.zeroValue89
  t218 := Try.underlying99
  a218 := Try.isAgg99
  z218 := Try.sizeOf99
  v218 := Try.zeroValue99
  t222 := Try.underlying71
  a222 := Try.isAgg71
  z222 := Try.sizeOf71
  v222 := Try.zeroValue71
  t228 := Try.underlying104
  a228 := Try.isAgg104
  z228 := Try.sizeOf104
  v228 := Try.zeroValue104
  t229 := Try.underlying105
  a229 := Try.isAgg105
  z229 := Try.sizeOf105
  v229 := Try.zeroValue105 }
def Try.laysCompact_ren : Go.Shelf.Ren := ⟨fun | 194 => 66 | n => n, fun | 31 => 22 | 9 => 9 | 3 => 3 | 4 => 4 | 0 => 0 | n => n, fun | n => n⟩
theorem Try.laysCompact : Go.Proofs.Lays.n194 Try.prog Try.laysCompact_ren := {
  mixed := by kernel_rfl
  f194 := Try.func66.trans (congrArg some (by kernel_rfl))
  t0 := Try.underlying0
  a0 := Try.isAgg0
  z0 := Try.sizeOf0
  v0 := Try.zeroValue0
  t3 := Try.underlying3
  a3 := Try.isAgg3
  z3 := Try.sizeOf3
  v3 := Try.zeroValue3
  t4 := Try.underlying4
  a4 := Try.isAgg4
  z4 := Try.sizeOf4
  v4 := Try.zeroValue4
  t9 := Try.underlying9
  a9 := Try.isAgg9
  z9 := Try.sizeOf9
  v9 := Try.zeroValue9
  t31 := Try.underlying22
  a31 := Try.isAgg22
  z31 := Try.sizeOf22
  v31 := Try.zeroValue22 }
def Try.laysGrow_ren : Go.Shelf.Ren := ⟨fun | 4 => 78 | n => n, fun | 22 => 22 | 25 => 9 | 3 => 3 | 4 => 4 | 9 => 9 | 20 => 20 | 0 => 0 | n => n, fun | n => n⟩
theorem Try.laysGrow : Go.Proofs.Lays8.n4 Try.prog Try.laysGrow_ren := {
  mixed := by kernel_rfl
  f4 := ⟨"slices.Grow[[]string,string]", by decide, Try.func78.trans (congrArg some (by kernel_rfl))⟩
  t0 := Try.underlying0
  a0 := Try.isAgg0
  z0 := Try.sizeOf0
  v0 := Try.zeroValue0
  t3 := Try.underlying3
  a3 := Try.isAgg3
  z3 := Try.sizeOf3
  v3 := Try.zeroValue3
  t4 := Try.underlying4
  a4 := Try.isAgg4
  z4 := Try.sizeOf4
  v4 := Try.zeroValue4
  t9 := Try.underlying9
  a9 := Try.isAgg9
  z9 := Try.sizeOf9
  v9 := Try.zeroValue9
  t20 := Try.underlying20
  a20 := Try.isAgg20
  z20 := Try.sizeOf20
  v20 := Try.zeroValue20
  t22 := Try.underlying22
  a22 := Try.isAgg22
  z22 := Try.sizeOf22
  v22 := Try.zeroValue22 }
end Go.Proofs
namespace Go.V
open Go.Proofs Go.Sort
def ofL (l : List UInt8) : ByteArray := ⟨l.toArray⟩
theorem rowL_ofL (zs : List (List UInt8)) : rowL (zs.map ofL) = zs := by
  simp [rowL, ofL, Function.comp_def]
theorem ofL_data (b : ByteArray) : ofL b.data.toList = b := by simp [ofL]
theorem ofL_rowL (ss : List ByteArray) : (rowL ss).map ofL = ss := by
  simp [rowL, ofL_data, Function.comp_def]
theorem isFn65 : isFn Try.prog 65 = true := by kernel_rfl
theorem isFn66 : isFn Try.prog 66 = true := by kernel_rfl
theorem isFn78 : isFn Try.prog 78 = true := by kernel_rfl
abbrev srt (zs : List (List UInt8)) : List (List UInt8) := zs.mergeSort fun x y => decide (x ≤ y)
theorem sort_ok (ss : List ByteArray) (hs : ss.length < 4611686018427387904) (n m v : Nat) : ACallsF Try.prog 65 [.c (.own n v ss.length)] (rowH n m v 9 ss ((srt (rowL ss)).map ofL)) (.tup []) := by
  refine row_sort isFn65 (by simp [srt, rowL]) (fun a cap w => Any.slices_Sort_string_none Try.laysSort a cap w) fun g cap w hH hg _ => ?_
  have h := Any.slices_Sort_string Try.laysSort g 0 cap (rowL ss) w hH hg (by rw [rowL_len]; exact hs)
  rw [rowL_len] at h
  refine h.mono ?_
  rintro e w' ⟨h1, q, os, h2⟩
  exact ⟨h1, q, os, by rw [rowL_ofL]; exact h2⟩
abbrev cmp (zs : List (List UInt8)) : List (List UInt8) := Lib.compact zs
theorem cmp_le (zs : List (List UInt8)) : (cmp zs).length ≤ zs.length := Lib.compact_length_le zs
theorem compact_ok (ss : List ByteArray) (hs : ss.length ≤ 9223372036854775807) (n m v : Nat) : ∃ rest, (cmp (rowL ss)).length + rest = ss.length ∧
    ACallsF Try.prog 66 [.c (.own n v ss.length)] (rowH n m v 9 ss ((cmp (rowL ss)).map ofL ++ List.replicate rest (ofL []))) (.c (.own n v (cmp (rowL ss)).length)) := by
  have hle := cmp_le (rowL ss)
  rw [rowL_len] at hle
  refine ⟨ss.length - (cmp (rowL ss)).length, by omega, row_comp isFn66 (by simp; omega) hle (fun a cap w => Any.slices_Compact_string_empty Try.laysCompact a cap w) fun g cap w hH hg hcap => ?_⟩
  have h := Any.slices_Compact_string Try.laysCompact g 0 cap (rowL ss) w hH (by rw [rowL_len]; exact hs) (by rw [rowL_len]; exact hcap)
  rw [rowL_len] at h
  refine h.mono ?_
  rintro e w' ⟨h1, q, h2⟩
  have e1 : (cmp (rowL ss)).map ofL ++ List.replicate (ss.length - (cmp (rowL ss)).length) (ofL []) = ((cmp (rowL ss)) ++ List.replicate (ss.length - (cmp (rowL ss)).length) []).map ofL := by simp
  exact ⟨h1, q, #[], by rw [e1, rowL_ofL, grow_empty]; exact h2⟩
end Go.V
set_option linter.unusedSimpArgs false
namespace Go.V
open Go.Proofs
theorem freshHand {w w' : World} {imm : Imm} {L : Locs} {c N m : Nat} {ty : TypeId} {x : Value} (hH : HOk w imm (hinOf [⟨N, m, none, .arr 0 true 1 ty [], false⟩]) L (· < c))
    (hw : (w' = w ∧ ∃ a, x = .slice a 0 0) ∨ ∃ (cells : Array Value) (cap : Nat), x = .slice (some ⟨w.heap.size, 0, none⟩) 0 cap ∧ w' = w.drew.alloc (.cells cells ty) ∧ cells.size = cap ∧ cap ≤ maxLen) :
    ∃ (x' : Value) (r : T) (h : HMap) (imm' : Imm) (L' : Locs) (c' : Nat), Ending.returned x = .returned x' ∧ (∃ ν : Nat → Nat, r = verT ν (.c (.own N 0 0)) ∧ ∀ c h0, renN [⟨N, m, none, .arr 0 true 1 ty [], false⟩] c = some h0 → h c = some (verB ν (ν c) h0.b') ∧ (h0.keep = true → ∃ b, h0.b = some b ∧ ν c = b.ver)) ∧
      TRep w' imm' h L' (· < c') x' r ∧ HOk w' imm' h L' (· < c') ∧ Step w imm (foot (hinOf [⟨N, m, none, .arr 0 true 1 ty [], false⟩]) L) w' imm' ∧ Near w (foot (hinOf [⟨N, m, none, .arr 0 true 1 ty [], false⟩]) L) h L' ∧
      Ext w (hinOf [⟨N, m, none, .arr 0 true 1 ty [], false⟩]) L (· < c) w' h L' (· < c') := by
  have hnone : ∀ k, hinOf [⟨N, m, none, .arr 0 true 1 ty [], false⟩] k = none := by
    intro k
    by_cases h : (N == k) = true
    · simp [hinOf, renN, h]
    · simp only [Bool.not_eq_true] at h; simp [hinOf, renN, h]
  let H' : HMap := fun k => if k = N then some (.arr c true 1 ty []) else none
  have hn : ∀ k, H' k ≠ none → k = N := fun k hk => by
    by_cases h : k = N
    · exact h
    · simp [H', h] at hk
  have hN : H' N = some (.arr c true 1 ty []) := by simp [H']
  have left : ∃ ν : Nat → Nat, T.c (.own N c 0) = verT ν (.c (.own N 0 0)) ∧ ∀ k h0, renN [⟨N, m, none, .arr 0 true 1 ty [], false⟩] k = some h0 → H' k = some (verB ν (ν k) h0.b') ∧ (h0.keep = true → ∃ b, h0.b = some b ∧ ν k = b.ver) := by
    refine ⟨fun _ => c, rfl, fun k h0 hk => ?_⟩
    by_cases h : (N == k) = true
    · simp only [renN, List.find?_cons, h, Option.some.injEq] at hk
      subst hk
      have hk : k = N := (by simpa using h : N = k).symm
      subst hk
      exact ⟨hN, fun h => by cases h⟩
    · simp only [Bool.not_eq_true] at h
      simp [renN, h] at hk
  rcases hw with ⟨rfl, a, rfl⟩ | ⟨cells, cap, rfl, rfl, hsz, hcap⟩
  · refine ⟨_, _, H', imm, ⟨fun _ => none, fun _ _ => False⟩, c + 1, rfl, left, ?_, ⟨fun k B hk => ?_, fun a b g ha hb _ _ => (hn a ha).trans (hn b hb).symm, fun _ _ _ hg => hg.elim, hH.glob, hH.imm⟩, ⟨rfl, rfl, rfl, Nat.le_refl _, fun _ _ _ => rfl, fun _ _ h => ⟨h, rfl⟩, fun _ _ h => .inl h⟩, fun k g hk hg => ?_, ⟨fun x hx => Nat.lt_succ_of_lt hx, fun k ver ty' cs hu hk => ?_, fun k ver wr st ty' es hu hk => ?_, fun k ver wr st ty' es g cur hu hk => ?_, fun k ver wr st ty' es op hu hk => ?_, fun k ver wr st ty' es op g cur hu hk => ?_⟩⟩
    · refine ⟨Nat.lt_succ_self c, ⟨_, _, rfl, Nat.le_refl _⟩, fun wr st ty' es hes => ⟨Nat.zero_le _, .inl ⟨_, rfl, rfl⟩⟩⟩
    · have := hn k (by rw [hk]; simp)
      subst this
      rw [hN] at hk
      cases hk
      exact ⟨Nat.lt_succ_self c, Nat.one_pos, by simp, .inl ⟨by simp, rfl⟩⟩
    · rcases hg with hg | hg <;> cases hg
    · have := hn k (by rw [hk]; simp)
      subst this
      rw [hN] at hk
      cases hk
    · have := hn k (by rw [hk]; simp)
      subst this
      rw [hN] at hk
      cases hk
      exact absurd hu (Nat.lt_irrefl c)
    · have := hn k (by rw [hk]; simp)
      subst this
      rw [hN] at hk
      cases hk
      exact absurd hu (Nat.lt_irrefl c)
    · have := hn k (by rw [hk]; simp)
      subst this
      rw [hN] at hk
      cases hk
    · have := hn k (by rw [hk]; simp)
      subst this
      rw [hN] at hk
      cases hk
  · have e0 : (w.drew.alloc (.cells cells ty)).heap = w.heap.push (.cells cells ty) := rfl
    have hnew : (w.drew.alloc (.cells cells ty)).heap[w.heap.size]? = some (.cells cells ty (0, 0)) := by rw [e0, Array.getElem?_push_size]
    have hold : ∀ b, b < w.heap.size → (w.drew.alloc (.cells cells ty)).heap[b]? = w.heap[b]? := fun b hb => by
      rw [e0, Array.getElem?_push_lt hb, Array.getElem?_eq_getElem hb]
    have hsz2 : w.heap.size ≤ (w.drew.alloc (.cells cells ty)).heap.size := by rw [e0]; simp
    refine ⟨_, _, H', imm, ⟨fun k => if k = N then some w.heap.size else none, fun _ _ => False⟩, c + 1, rfl, left, ?_, ⟨fun k B hk => ?_, fun a b g ha hb _ _ => (hn a ha).trans (hn b hb).symm, fun _ _ _ hg => hg.elim, hH.glob.keep fun b o h => ⟨h, by simp only [World.cell?, hold b (hH.imm b o h)]⟩, fun b o hb => Nat.lt_of_lt_of_le (hH.imm b o hb) hsz2⟩, ⟨rfl, rfl, rfl, hsz2, fun b hb _ => hold b hb, fun b o h => ⟨h, by simp only [World.cell?, hold b (hH.imm b o h)]⟩, fun _ _ h => .inl h⟩, fun k g hk hg => ?_, ⟨fun x hx => Nat.lt_succ_of_lt hx, fun k ver ty' cs hu hk => ?_, fun k ver wr st ty' es hu hk => ?_, fun k ver wr st ty' es g cur hu hk => ?_, fun k ver wr st ty' es op hu hk => ?_, fun k ver wr st ty' es op g cur hu hk => ?_⟩⟩
    · refine ⟨Nat.lt_succ_self c, ⟨_, _, rfl, Nat.zero_le _⟩, fun wr st ty' es hes => ?_⟩
      rw [hN] at hes
      cases hes
      exact ⟨Nat.zero_le _, .inr ⟨w.heap.size, cap, cells, by simp, rfl, hnew, Nat.zero_le _, hcap, by omega⟩⟩
    · have := hn k (by rw [hk]; simp)
      subst this
      rw [hN] at hk
      cases hk
      exact ⟨Nat.lt_succ_self c, Nat.one_pos, by simp, .inr ⟨w.heap.size, cells, by simp, hnew, by simp, by simp, fun o ho => absurd (hH.imm _ o ho) (Nat.lt_irrefl _)⟩⟩
    · have := hn k hk
      subst this
      rcases hg with hg | hg
      · simp at hg
        exact .inr (by omega)
      · cases hg
    · have := hn k (by rw [hk]; simp)
      subst this
      rw [hN] at hk
      cases hk
    · have := hn k (by rw [hk]; simp)
      subst this
      rw [hN] at hk
      cases hk
      exact absurd hu (Nat.lt_irrefl c)
    · have := hn k (by rw [hk]; simp)
      subst this
      rw [hN] at hk
      cases hk
      exact absurd hu (Nat.lt_irrefl c)
    · have := hn k (by rw [hk]; simp)
      subst this
      rw [hN] at hk
      cases hk
    · have := hn k (by rw [hk]; simp)
      subst this
      rw [hN] at hk
      cases hk
theorem info9 : ∃ i, Try.prog.info? 9 = some i ∧ i.zero = some (.string ⟨#[]⟩) ∧ i.size = 1 ∧ i.bytes = 16 := ⟨Try.t9, by kernel_rfl, rfl, rfl, rfl⟩
theorem grow_ok (N m n : Nat) (hn : n ≤ 2000000) : ACallsF Try.prog 78 [.c .nil0, .i n] [⟨N, m, none, .arr 0 true 1 9 [], false⟩] (.c (.own N 0 0)) := by
  refine ⟨isFn78, fun w imm L c vs hH hT => ?_⟩
  obtain ⟨x, y, rfl⟩ : ∃ x y, vs = [x, y] := by
    have := hT.1
    match vs, this with
    | [x, y], _ => exact ⟨x, y, rfl⟩
  obtain ⟨a, rfl⟩ : ∃ a, x = .slice a 0 0 := hT.2 0 x _ rfl rfl
  have hy : y = .int .i64 n := by
    have : VRep w imm y (.s (.int .i64 n)) := hT.2 1 y _ rfl rfl
    cases this; rfl
  subst hy
  obtain ⟨i, i1, i2, i3, i4⟩ := info9
  by_cases h0 : n = 0
  · subst h0
    refine (Any8.slices_Grow_room Try.laysGrow a 0 0 0 w (by omega) (by omega) (by omega) (by omega)).mono ?_
    rintro e w' ⟨rfl, rfl⟩
    exact freshHand hH (.inl ⟨rfl, a, rfl⟩)
  · refine (Any8.slices_Grow_grow Try.laysGrow i _ i1 i2 (by rw [i3]; omega) a 0 0 n [] w (by omega) (by omega) (by rw [i4]; omega) (by omega) (by simp) (fun _ => rfl) (fun _ _ j v h => by simp at h)).mono ?_
    rintro e w' ⟨rfl, rfl⟩
    have hge := grownCap_ge w (0 + n) 0 9
    refine freshHand hH (.inr ⟨_, _, rfl, rfl, ?_, grownCap_le_maxLen w (0 + n) 0 9 (by simp [maxLen]; omega)⟩)
    have hz : ∀ k, (Builtin.zeroCells (Value.cells (.string ⟨#[]⟩)) k).size = k := fun k => by simp [Builtin.zeroCells, Value.cells]
    simp only [Array.size_append, hz]
    simp
    have hq : (Try.laysGrow_ren.t 25) = 9 := rfl
    rw [hq]
    simp at hge ⊢
    omega
end Go.V
set_option linter.unusedSimpArgs false
set_option maxRecDepth 20000
namespace Go.V
open Go.Proofs
/-- A call that gives back a new array of its own. -/
theorem callA {P : Program} {t : Nat → T} {H : HMap} {c : Nat} {f : Opd} {args : List Opd} {fid : FuncId} {n m N st : Nat} {ty : TypeId} {es : List (List V)} {argsC : List T} {k : Nat} {d : Option Nat} {un : List Nat} {l : List AOper} {prev : List (Nat × List Nat × List Nat)} {K : St → Prop}
    (hC : ACallsF P fid argsC [⟨n, m, none, .arr 0 true st ty es, false⟩] (.c (.own n 0 N))) (hf : ev t f = .pt (.one (.fn fid []))) (hl : args.map (ev t) = argsC)
    (h1 : lendTs H argsC argsC = some (argsC, [], [])) (h2 : renITs [⟨n, m, none, .arr 0 true st ty es, false⟩] argsC = some argsC)
    (hk : chk prev un ⟨.c (.own m (c + k) N), [(m, .arr (c + k) true st ty es)], [m], [m]⟩ = true ∧ DRun P l ((k, [m], [m]) :: prev) K ⟨updD t d (.c (.own m (c + k) N)), upd H m (some (.arr (c + k) true st ty es)), c⟩) :
    step P k d un (.call f args) l prev K t H c := by
  let hs : List Hand := [⟨n, m, none, .arr 0 true st ty es, false⟩]
  have hN : renN hs n = some ⟨n, m, none, .arr 0 true st ty es, false⟩ := by simp [hs, renN]
  refine callW (caps := []) (ws := []) (ns := []) (r' := .c (.own m (c + k) N)) (ob := [(m, .arr (c + k) true st ty es)]) hs hC hf (by rw [hl]; simpa using h1) h2 ⟨trivial, trivial⟩ (by simp [hs]) (by simp [hs]) ?_ ?_ ?_
  · simp only [T.c, renOT, renOP, renO, hN, Option.map_some, verOf]; rfl
  · simp only [hs, renOBs, renOB, verOf]; rfl
  · have e1 : (if quiet (.c (.own n 0 N)) hs = true then ([] : List (Nat × Blk)) else []) = [] := by split <;> rfl
    have e2 : (if quiet (.c (.own n 0 N)) hs = true then ([] : List Nat) else []) = [] := by split <;> rfl
    rw [e1, e2]
    simpa [hs, updH] using hk
theorem rowS_encS (ss : List ByteArray) : rowS ss = encS ss := rfl
def sum2 (xs ys : List ByteArray) : Nat → Nat
  | 0 => 0
  | 1 => xs.length
  | _ => xs.length + ys.length
def app2 (xs ys : List ByteArray) : Nat → List ByteArray
  | 0 => []
  | 1 => xs
  | _ => xs ++ ys
def ok64 := okF.gu (P := Try.prog) tab Try.func64 Try.ntmps64 (by conv => lhs; cbv) (by kernel_rfl)
def inv64a (xs ys : List ByteArray) (i : Nat) (σ : St) : Prop := σ.t 0 = .c (.v (.sl [[.sl (encS xs)], [.sl (encS ys)]])) ∧ σ.t 3 = .i (sum2 xs ys i) ∧ σ.t 9 = .c (.v (.sl [[.sl (encS xs)], [.sl (encS ys)]])) ∧ σ.t 10 = .i 2 ∧ σ.t 11 = .i i
def inv64b (xs ys : List ByteArray) (i : Nat) (σ : St) : Prop := σ.t 25 = .c (.v (.sl [[.sl (encS xs)], [.sl (encS ys)]])) ∧ σ.t 26 = .i 2 ∧ σ.t 27 = .i i ∧ ∃ v, σ.t 6 = .c (.own 3108 v (app2 xs ys i).length) ∧ σ.H 3108 = some (.arr v true 1 9 (encS (app2 xs ys i)))
abbrev catH (m : Nat) (ss : List ByteArray) : Hand := ⟨3108, m, none, .arr 0 true 1 9 (encS ss), false⟩
theorem concat_ok (xs ys : List ByteArray) (ha : xs.length ≤ 1000000) (hb : ys.length ≤ 1000000) (m : Nat) : ACallsF Try.prog 64 [.c (.v (.sl [[.sl (encS xs)], [.sl (encS ys)]]))] [catH m (xs ++ ys)] (.c (.own 3108 0 (xs ++ ys).length)) := by
  refine ACallsF.intro ok64 follows fun X c0 => ?_
  simp only [go_sem]
  refine AW.upto 2 (inv64a xs ys) ⟨rfl, rfl, rfl, rfl, rfl⟩ fun i t H c hi h => ?_
  obtain ⟨e0, e3, e9, e10, e11⟩ := h
  simp only [T.c, T.i, T.s] at e0 e3 e9 e10 e11
  have hxa : (∀ (e : List V), e ∈ encS xs → e.length = 1) = True := eq_true (rowS_one xs)
  have hya : (∀ (e : List V), e ∈ encS ys → e.length = 1) = True := eq_true (rowS_one ys)
  have hx0 : sum2 xs ys 1 = xs.length := rfl
  have hx2 : sum2 xs ys 2 = xs.length + ys.length := rfl
  rcases (by omega : i = 0 ∨ i = 1 ∨ i = 2) with rfl | rfl | rfl
  · have w0 : IntKind.i64.wrap ((sum2 xs ys 0 : Int) + xs.length) = (sum2 xs ys 1 : Nat) := by rw [wrap64 ⟨by simp [sum2], by simp [sum2]; omega⟩]; simp [sum2]
    have w1 : IntKind.i64.wrap (((0 : Nat) : Int) + 1) = ((0 + 1 : Nat) : Int) := wrap64 (x := ((0 : Nat) : Int) + 1) ⟨by omega, by omega⟩
    have k0 : ((0 : Nat) : Int) < 2 := by omega
    have kz : (0 : Int) ≤ ((0 : Nat) : Int) := by omega
    have k1 : ¬ ((sum2 xs ys 1 : Nat) : Int) < 0 := by omega
    simp only [go_sem, e0, e3, e9, e10, e11, encS_len, w0, k1, k0, kz, w1, Int.toNat_natCast, List.getElem?_cons_zero, List.length_cons, List.length_nil]
    exact ⟨e0, rfl, e9, e10, rfl⟩
  · have w0 : IntKind.i64.wrap ((sum2 xs ys 1 : Int) + ys.length) = (sum2 xs ys 2 : Nat) := by rw [wrap64 ⟨by omega, by omega⟩, hx2, hx0]; omega
    have w1 : IntKind.i64.wrap (((1 : Nat) : Int) + 1) = ((1 + 1 : Nat) : Int) := wrap64 (x := ((1 : Nat) : Int) + 1) ⟨by omega, by omega⟩
    have k0 : ((1 : Nat) : Int) < 2 := by omega
    have kz : (0 : Int) ≤ ((1 : Nat) : Int) := by omega
    have k1 : ¬ ((sum2 xs ys 2 : Nat) : Int) < 0 := by omega
    simp only [go_sem, e0, e3, e9, e10, e11, encS_len, w0, k1, k0, kz, w1, Int.toNat_natCast, List.getElem?_cons_succ, List.getElem?_cons_zero, List.length_cons, List.length_nil]
    exact ⟨e0, rfl, e9, e10, rfl⟩
  · have k0 : ¬ ((2 : Nat) : Int) < 2 := by omega
    simp only [go_sem, e0, e3, e9, e10, e11, k0]
    refine callA (m := 3108) (grow_ok 3108 3108 (sum2 xs ys 2) (by omega)) rfl rfl rfl rfl ?_
    simp only [go_sem, e0, List.length_cons, List.length_nil]
    refine AW.upto 2 (inv64b xs ys) ⟨rfl, rfl, rfl, _, rfl, rfl⟩ fun i t H c hi h => ?_
    obtain ⟨e25, e26, e27, v, e6, eH⟩ := h
    simp only [T.c, T.i, T.s] at e25 e26 e27 e6 eH
    rcases (by omega : i = 0 ∨ i = 1 ∨ i = 2) with rfl | rfl | rfl
    · have w1 : IntKind.i64.wrap (((0 : Nat) : Int) + 1) = ((0 + 1 : Nat) : Int) := wrap64 (x := ((0 : Nat) : Int) + 1) ⟨by omega, by omega⟩
      have k0 : ((0 : Nat) : Int) < 2 := by omega
      have kz : (0 : Int) ≤ ((0 : Nat) : Int) := by omega
      have q1 : (xs.length) * 16 ≤ 140737488355328 := by omega
      have q2 : xs.length ≤ 9223372036854775807 := by omega
      simp only [go_sem, e25, e26, e27, e6, eH, app2, List.length_nil, Nat.zero_add, encS_len, hxa, q1, q2, k0, kz, w1, Int.toNat_natCast, List.getElem?_cons_zero, List.length_cons]
      exact ⟨e25, e26, rfl, _, rfl, rfl⟩
    · have w1 : IntKind.i64.wrap (((1 : Nat) : Int) + 1) = ((1 + 1 : Nat) : Int) := wrap64 (x := ((1 : Nat) : Int) + 1) ⟨by omega, by omega⟩
      have k0 : ((1 : Nat) : Int) < 2 := by omega
      have kz : (0 : Int) ≤ ((1 : Nat) : Int) := by omega
      have q1 : (xs.length + ys.length) * 16 ≤ 140737488355328 := by omega
      have q2 : xs.length + ys.length ≤ 9223372036854775807 := by omega
      have htk : List.take xs.length (encS xs) = encS xs := take_encS xs
      simp only [go_sem, e25, e26, e27, e6, eH, app2, encS_len, q1, q2, k0, kz, w1, hya, htk, Int.toNat_natCast, List.getElem?_cons_succ, List.getElem?_cons_zero, List.length_cons, Nat.le_refl]
      have hl2 : (app2 xs ys (1 + 1)).length = xs.length + ys.length := List.length_append
      have he2 : encS (app2 xs ys (1 + 1)) = encS xs ++ encS ys := by simp [encS, app2]
      exact ⟨e25, e26, rfl, _, by rw [hl2]; rfl, by rw [he2]; rfl⟩
    · have k0 : ¬ ((2 : Nat) : Int) < 2 := by omega
      have hq : encS (xs ++ ys) = encS xs ++ encS ys := by simp [encS]
      simp only [go_sem, e25, e26, e27, e6, eH, app2, k0, List.length_append, imp_self]
end Go.V
set_option linter.unusedSimpArgs false
set_option maxRecDepth 20000
namespace Go.V
open Go.Proofs
def bare : Kd → Kd
  | .mk s ns ks => if s = 6 then (match ks with | x :: _ => x | [] => .mk s ns ks) else .mk s ns ks
def opt (k : Kd) : Kd := if k.sort = 6 then k else .mk 6 [] [k]
theorem bare_6 {ns : List ByteArray} {ks : List Kd} {x : Kd} (h : ks[0]? = some x) : bare (.mk 6 ns ks) = x := by
  cases ks with
  | nil => simp at h
  | cons y l => simp at h; subst h; simp [bare]
theorem bare_n {s : Int} {ns : List ByteArray} {ks : List Kd} (h : s ≠ 6) : bare (.mk s ns ks) = .mk s ns ks := by simp [bare, h]
theorem opt_6 (ns : List ByteArray) (ks : List Kd) : opt (.mk 6 ns ks) = .mk 6 ns ks := by simp [opt, Kd.sort]
theorem opt_n {s : Int} {ns : List ByteArray} {ks : List Kd} (h : s ≠ 6) : opt (.mk s ns ks) = .mk 6 [] [.mk s ns ks] := by simp [opt, Kd.sort, h]
def ok57 := okF.gu (P := Try.prog) tab Try.func57 Try.ntmps57 (by conv => lhs; cbv) (by kernel_rfl)
theorem bareS_ok (s : Int) (ns : List ByteArray) (ks : List Kd) (h : s = 6 → ∃ x, ks[0]? = some x) : ACallsF Try.prog 57 [tK (.mk s ns ks)] [] (tK (bare (.mk s ns ks))) := by
  refine ACallsF.intro ok57 follows fun X c0 => ?_
  by_cases hs : s = 6
  · subst hs
    obtain ⟨x, hx⟩ := h rfl
    have ex := encKs_at hx
    rw [bare_6 hx]
    simp only [go_sem, encK_mk, ex, Int.toNat_zero, List.length_map, encK_len, takeK, Nat.le_refl, Int.le_refl]
  · rw [bare_n hs]
    have e0 : (s == 6) = false := by simpa using hs
    simp only [go_sem, encK_mk, e0]
def ok60 := okF.gu (P := Try.prog) tab Try.func60 Try.ntmps60 (by conv => lhs; cbv) (by kernel_rfl)
theorem bareI_ok (s : Int) (ns : List ByteArray) (ks : List Kd) (h : s = 6 → ∃ x, ks[0]? = some x) : ACallsF Try.prog 60 [tK (.mk s ns ks)] [] (tK (bare (.mk s ns ks))) := by
  refine ACallsF.intro ok60 follows fun X c0 => ?_
  by_cases hs : s = 6
  · subst hs
    obtain ⟨x, hx⟩ := h rfl
    have ex := encKs_at hx
    rw [bare_6 hx]
    simp only [go_sem, encK_mk, ex, Int.toNat_zero, List.length_map, encK_len, takeK, Nat.le_refl, Int.le_refl]
  · rw [bare_n hs]
    have e0 : (s == 6) = false := by simpa using hs
    simp only [go_sem, encK_mk, e0]
def ok76 := okF.gu (P := Try.prog) tab Try.func76 Try.ntmps76 (by conv => lhs; cbv) (by kernel_rfl)
def inv76 (s : Int) (ns : List ByteArray) (ks : List Kd) (i : Nat) (σ : St) : Prop :=
  (∃ u, σ.t 1 = .c (.ptr 1 u 0) ∧ σ.H 1 = some (.var u 38 [.v (.s (.int .i64 s)), .v (.sl (encS ns)), .v (.sl (encKs ks))])) ∧
  (∃ u, σ.t 2 = .c (.ptr 2 u 0) ∧ σ.H 2 = some (.var u 38 [.v (.s (.int .i64 0)), .nil0, .nil0])) ∧
  (∃ u a b, σ.t 3 = .c (.ptr 3 u 0) ∧ σ.H 3 = some (.var u 38 [.v (.s (.int .i64 s)), .own 7 a ns.length, .own 2004 b i]) ∧ σ.H 7 = some (.arr a true 1 9 (encS ns)) ∧ σ.H 2004 = some (.arr b true 3 38 (encKs (ks.take i)))) ∧
  σ.t 4 = .i i
theorem copyK_ok : ∀ (k : Kd), KB 2000000 k → ACallsF Try.prog 76 [tK k] [] (tK k) := by
  intro k
  induction k using Kd.ind with
  | _ s ns ks ih =>
    intro hB
    obtain ⟨b1, b2, b3, b4⟩ := hB.inv
    have hxa : (∀ (e : List V), e ∈ encS ns → e.length = 1) = True := eq_true (rowS_one ns)
    have q1 : ns.length * 16 ≤ 140737488355328 := by omega
    have q2 : ns.length ≤ 9223372036854775807 := by omega
    refine ACallsF.intro ok76 follows fun X c0 => ?_
    simp only [go_sem, encK_mk, encS_len, hxa, q1, q2, Nat.zero_add, List.length_nil]
    refine AW.reify 3 2 2004 3 38 rfl rfl rfl (by decide) ?_
    refine AW.upto ks.length (inv76 s ns ks) ⟨⟨_, rfl, rfl⟩, ⟨_, rfl, rfl⟩, ⟨_, _, _, rfl, rfl, rfl, rfl⟩, rfl⟩ fun i t H c hi h => ?_
    obtain ⟨⟨u1, e1, eH1⟩, ⟨u2, e2, eH2⟩, ⟨u3, a, b, e3, eH3, eHa, eHb⟩, e4⟩ := h
    simp only [T.c, T.i] at e1 eH1 e2 eH2 e3 eH3 eHa eHb e4
    have hlr : (encKs (ks.take i)).length = i := by rw [encKs_len, List.length_take]; omega
    have htk : List.take i (encKs (ks.take i)) = encKs (ks.take i) := List.take_of_length_le (by omega)
    by_cases hlt : i < ks.length
    · have g1 : (i : Int) < ks.length := by omega
      have gz : (0 : Int) ≤ i := by omega
      have gw : IntKind.i64.wrap ((i : Int) + 1) = ((i + 1 : Nat) : Int) := wrap64 (x := (i : Int) + 1) ⟨by omega, by omega⟩
      have q3 : (i + 1) * 56 ≤ 140737488355328 := by omega
      have q4 : i + 1 ≤ 9223372036854775807 := by omega
      obtain ⟨u, hu⟩ : ∃ u, ks[i]? = some u := ⟨_, List.getElem?_eq_getElem hlt⟩
      have hmu := List.mem_of_getElem? hu
      have eu := encKs_at hu
      have hC := ih _ hmu (b4 _ hmu)
      simp only [go_sem, e1, eH1, e3, eH3, e4, g1, gz, eu, Int.toNat_natCast, List.length_map, encK_len, encKs_len, takeK, Nat.le_refl]
      refine callC hC rfl rfl (by simp [closedA, closedP, closedC]) (by simp [closedT, closedP, closedC]) ?_
      simp only [go_sem, e4, e3, eH3, eHb, hlr, htk, gw, q3, q4, encKs_len, encK_len]
      have hnew : encKs (ks.take (i + 1)) = encKs (ks.take i) ++ [encK u] := by rw [List.take_add_one, hu]; exact encKs_snoc _ _
      unfold inv76
      rw [hnew]
      exact ⟨hlt, ⟨u1, e1, eH1⟩, ⟨u2, e2, eH2⟩, ⟨u3, _, _, e3, rfl, eHa, rfl⟩, rfl⟩
    · have hin : i = ks.length := by omega
      subst hin
      have g1 : ¬ ((ks.length : Nat) : Int) < ks.length := by omega
      rw [List.take_length] at eHb htk hlr
      simp only [go_sem, e1, eH1, e2, eH2, e3, eH3, eHa, eHb, e4, g1, hlr, htk, Nat.le_refl, encK_mk, encS_len, encKs_len, take_encS]
def ok61 := okF.gu (P := Try.prog) tab Try.func61 Try.ntmps61 (by conv => lhs; cbv) (by kernel_rfl)
theorem maybeOfO_ok (k : Kd) (hB : KB 2000000 k) (m1 m2 : Nat) : ACallsF Try.prog 61 [tK k] (kdH 2001 5 m1 m2 (.mk 6 [] [k])) (.pt (oKd 2001 0 5 0 (.mk 6 [] [k]))) := by
  have nd : (([4003, 4004] : List Nat).Nodup ∧ ¬ 5 ∈ ([4003, 4004] : List Nat)) = True := eq_true (by decide)
  have e1 : encKs [k] = [encK k] := by simp [encKs_eq]
  refine own0 (r := .pt (.agg [.v (.s (.int .i64 6)), .nil0, .tr 5 0 1])) (hs := [newT 5 m2 3 38 (encKs [k])]) false 0 1 2001 m1 1 9 (by decide) rfl rfl (fun ν ν' h => by simp [verT, verP, verC, h]) (fun ν ν' h x hx v => by simp at hx; subst hx; rfl) (ACallsF.intro ok61 follows fun X c0 => ?_)
  simp only [go_sem, List.length_map, encK_len, takeK, Nat.le_refl]
  refine callKd (m1 := 4003) (m2 := 4004) (ws := []) (ns := []) (cloneKd_ok k hB 4003 4004) (by decide) (by decide) rfl (lendC1 (clKd k)) (by simp [clKd]) ⟨?_, ?_⟩
  · simp only [go_sem]
  rw [e1, encK_eta]
  simp only [go_sem, nd, take_encS, take_encKs, imp_self]
def ok62 := okF.gu (P := Try.prog) tab Try.func62 Try.ntmps62 (by conv => lhs; cbv) (by kernel_rfl)
theorem listOfO_ok (k : Kd) (hB : KB 2000000 k) (m1 m2 : Nat) : ACallsF Try.prog 62 [tK k] (kdH 2001 5 m1 m2 (.mk 4 [] [k])) (.pt (oKd 2001 0 5 0 (.mk 4 [] [k]))) := by
  have nd : (([4003, 4004] : List Nat).Nodup ∧ ¬ 5 ∈ ([4003, 4004] : List Nat)) = True := eq_true (by decide)
  have e1 : encKs [k] = [encK k] := by simp [encKs_eq]
  refine own0 (r := .pt (.agg [.v (.s (.int .i64 4)), .nil0, .tr 5 0 1])) (hs := [newT 5 m2 3 38 (encKs [k])]) false 0 1 2001 m1 1 9 (by decide) rfl rfl (fun ν ν' h => by simp [verT, verP, verC, h]) (fun ν ν' h x hx v => by simp at hx; subst hx; rfl) (ACallsF.intro ok62 follows fun X c0 => ?_)
  simp only [go_sem, List.length_map, encK_len, takeK, Nat.le_refl]
  refine callKd (m1 := 4003) (m2 := 4004) (ws := []) (ns := []) (cloneKd_ok k hB 4003 4004) (by decide) (by decide) rfl (lendC1 (clKd k)) (by simp [clKd]) ⟨?_, ?_⟩
  · simp only [go_sem]
  rw [e1, encK_eta]
  simp only [go_sem, nd, take_encS, take_encKs, imp_self]
def ok67 := okF.gu (P := Try.prog) tab Try.func67 Try.ntmps67 (by conv => lhs; cbv) (by kernel_rfl)
theorem optO_ok (k : Kd) (hB : KB 2000000 k) (m1 m2 : Nat) : ACallsF Try.prog 67 [tK k] (kdH 2001 5 m1 m2 (opt k)) (.pt (oKd 2001 0 5 0 (opt k))) := by
  have hcl := clKd k
  obtain ⟨s, ns, ks⟩ := k
  have e := encK_mk s ns ks
  by_cases hs : s = 6
  · subst hs
    rw [opt_6]
    have hC := cloneKd_ok (.mk 6 ns ks) hB 2001 5
    simp only [tK, encK_mk, List.map_cons, List.map_nil] at hC hcl
    refine ACallsF.intro ok67 follows fun X c0 => ?_
    simp only [go_sem, encK_mk]
    refine callKd (m1 := 2001) (m2 := 5) (ws := []) (ns := []) hC (by decide) (by decide) rfl (lendC1 hcl) (by simp [hcl]) ⟨?_, ?_⟩
    · simp only [go_sem]
    simp only [go_sem, imp_self]
  · have e0 : (s == 6) = false := by simpa using hs
    rw [opt_n hs]
    have hC := maybeOfO_ok (.mk s ns ks) hB 2001 5
    simp only [tK, encK_mk, List.map_cons, List.map_nil] at hC hcl
    refine ACallsF.intro ok67 follows fun X c0 => ?_
    simp only [go_sem, encK_mk, e0]
    refine callKd (m1 := 2001) (m2 := 5) (ws := []) (ns := []) hC (by decide) (by decide) rfl (lendC1 hcl) (by simp [hcl]) ⟨?_, ?_⟩
    · simp only [go_sem]
    simp only [go_sem, imp_self]
def ok58 := okF.gu (P := Try.prog) tab Try.func58 Try.ntmps58 (by conv => lhs; cbv) (by kernel_rfl)
theorem optS_ok (k : Kd) (hB : KB 2000000 k) : ACallsF Try.prog 58 [tK k] [] (tK (opt k)) := by
  obtain ⟨s, ns, ks⟩ := k
  refine ACallsF.intro ok58 follows fun X c0 => ?_
  by_cases hs : s = 6
  · subst hs
    rw [opt_6]
    simp only [go_sem, encK_mk]
    refine callC (argsC := [tK (.mk 6 ns ks)]) (copyK_ok _ hB) rfl (by simp only [go_sem, tK, encK_mk]) (by simp [closedA, closedP, closedC]) (by simp [closedT, closedP, closedC]) ?_
    simp only [go_sem, encK_mk]
  · have e0 : (s == 6) = false := by simpa using hs
    rw [opt_n hs]
    simp only [go_sem, encK_mk, e0]
    refine callC (argsC := [tK (.mk s ns ks)]) (copyK_ok _ hB) rfl (by simp only [go_sem, tK, encK_mk]) (by simp [closedA, closedP, closedC]) (by simp [closedT, closedP, closedC]) ?_
    have hw : encK (.mk 6 [] [.mk s ns ks]) = [.s (.int .i64 6), .sl [], .sl [encK (.mk s ns ks)]] := by simp [encK, encS, encKs]
    simp only [go_sem, encK_len, hw, List.length_cons, List.length_nil]
end Go.V
set_option linter.unusedSimpArgs false
namespace Go.V
open Go.Proofs
theorem bl_asymm : ∀ {x y : List UInt8}, Op.bytesLess x y = true → Op.bytesLess y x = false := by
  intro x y h
  cases h2 : Op.bytesLess y x with
  | false => rfl
  | true => have := bl_trans h h2; rw [bl_irrefl] at this; cases this
theorem less_asymm {a b : ByteArray} (h : less a b = true) : less b a = false := bl_asymm h
theorem bl_tri : ∀ {x y : List UInt8}, Op.bytesLess x y = false → Op.bytesLess y x = false → x = y
  | [], [], _, _ => rfl
  | [], _ :: _, h, _ => by simp [Op.bytesLess] at h
  | _ :: _, [], _, h => by simp [Op.bytesLess] at h
  | a :: x, b :: y, h1, h2 => by
    simp only [Op.bytesLess, Bool.or_eq_false_iff, decide_eq_false_iff_not, Bool.and_eq_false_iff, beq_eq_false_iff_ne] at h1 h2
    have e : a = b := UInt8.le_antisymm (UInt8.not_lt.1 h2.1) (UInt8.not_lt.1 h1.1)
    subst e
    have g1 : Op.bytesLess x y = false := by rcases h1.2 with h | h; exact absurd rfl h; exact h
    have g2 : Op.bytesLess y x = false := by rcases h2.2 with h | h; exact absurd rfl h; exact h
    rw [bl_tri g1 g2]
theorem less_tri {a b : ByteArray} (h1 : less a b = false) (h2 : less b a = false) : a = b := by
  have := bl_tri h1 h2
  rwa [ByteArray.toList_eq, ByteArray.toList_eq, Array.toList_inj, ← ByteArray.ext_iff] at this
/-- Two rows of names, put together. -/
def mrg : List ByteArray → List ByteArray → List ByteArray
  | [], ys => ys
  | x :: xs, [] => x :: xs
  | x :: xs, y :: ys => if less x y = true then x :: mrg xs (y :: ys) else if less y x = true then y :: mrg (x :: xs) ys else x :: mrg xs ys
termination_by xs ys => xs.length + ys.length
theorem mrg_nil (xs : List ByteArray) : mrg xs [] = xs := by cases xs <;> simp [mrg]
theorem nil_mrg (ys : List ByteArray) : mrg [] ys = ys := by simp [mrg]
theorem mrg_lt {x y : ByteArray} {xs ys : List ByteArray} (h : less x y = true) : mrg (x :: xs) (y :: ys) = x :: mrg xs (y :: ys) := by rw [mrg, if_pos h]
theorem mrg_gt {x y : ByteArray} {xs ys : List ByteArray} (h : less y x = true) : mrg (x :: xs) (y :: ys) = y :: mrg (x :: xs) ys := by rw [mrg, if_neg (by rw [less_asymm h]; simp), if_pos h]
theorem mrg_eq (x : ByteArray) (xs ys : List ByteArray) : mrg (x :: xs) (x :: ys) = x :: mrg xs ys := by rw [mrg, if_neg (by rw [less_irrefl]; simp), if_neg (by rw [less_irrefl]; simp)]
theorem mem_mrg (z : ByteArray) : ∀ xs ys : List ByteArray, z ∈ mrg xs ys ↔ z ∈ xs ∨ z ∈ ys
  | [], ys => by simp [nil_mrg]
  | x :: xs, [] => by simp [mrg_nil]
  | x :: xs, y :: ys => by
    cases h1 : less x y with
    | true => rw [mrg_lt h1, List.mem_cons, mem_mrg z xs (y :: ys), List.mem_cons]; simp [or_assoc]
    | false =>
      cases h2 : less y x with
      | true => rw [mrg_gt h2, List.mem_cons, mem_mrg z (x :: xs) ys, List.mem_cons, List.mem_cons]; constructor <;> rintro (h | (h | h)) <;> simp_all
      | false =>
        cases less_tri h1 h2
        rw [mrg_eq, List.mem_cons, mem_mrg z xs ys, List.mem_cons, List.mem_cons]
        constructor
        · rintro (h | (h | h)) <;> simp [h]
        · rintro ((h | h) | (h | h)) <;> simp [h]
termination_by xs ys => xs.length + ys.length
theorem mrg_comm : ∀ xs ys : List ByteArray, mrg xs ys = mrg ys xs
  | [], ys => by rw [nil_mrg, mrg_nil]
  | x :: xs, [] => by rw [nil_mrg, mrg_nil]
  | x :: xs, y :: ys => by
    cases h1 : less x y with
    | true => rw [mrg_lt h1, mrg_gt h1, mrg_comm xs (y :: ys)]
    | false =>
      cases h2 : less y x with
      | true => rw [mrg_gt h2, mrg_lt h2, mrg_comm (x :: xs) ys]
      | false =>
        cases less_tri h1 h2
        rw [mrg_eq, mrg_eq, mrg_comm xs ys]
termination_by xs ys => xs.length + ys.length
theorem mrg_len : ∀ xs ys : List ByteArray, (mrg xs ys).length ≤ xs.length + ys.length
  | [], ys => by simp [nil_mrg]
  | x :: xs, [] => by simp [mrg_nil]
  | x :: xs, y :: ys => by
    cases h1 : less x y with
    | true => rw [mrg_lt h1]; have := mrg_len xs (y :: ys); simp only [List.length_cons] at this ⊢; omega
    | false =>
      cases h2 : less y x with
      | true => rw [mrg_gt h2]; have := mrg_len (x :: xs) ys; simp only [List.length_cons] at this ⊢; omega
      | false =>
        cases less_tri h1 h2
        rw [mrg_eq]; have := mrg_len xs ys; simp only [List.length_cons] at this ⊢; omega
termination_by xs ys => xs.length + ys.length
abbrev PW (xs : List ByteArray) : Prop := xs.Pairwise fun a b => less a b = true
theorem mrg_pw : ∀ xs ys : List ByteArray, PW xs → PW ys → PW (mrg xs ys)
  | [], ys, _, h => by rwa [nil_mrg]
  | x :: xs, [], h, _ => by rwa [mrg_nil]
  | x :: xs, y :: ys, hx, hy => by
    obtain ⟨a1, a2⟩ := List.pairwise_cons.1 hx
    obtain ⟨b1, b2⟩ := List.pairwise_cons.1 hy
    cases h1 : less x y with
    | true =>
      rw [mrg_lt h1]
      refine List.pairwise_cons.2 ⟨fun z hz => ?_, mrg_pw xs (y :: ys) a2 hy⟩
      rcases (mem_mrg z xs (y :: ys)).1 hz with h | h
      · exact a1 z h
      · rcases List.mem_cons.1 h with rfl | h
        · exact h1
        · exact less_trans h1 (b1 z h)
    | false =>
      cases h2 : less y x with
      | true =>
        rw [mrg_gt h2]
        refine List.pairwise_cons.2 ⟨fun z hz => ?_, mrg_pw (x :: xs) ys hx b2⟩
        rcases (mem_mrg z (x :: xs) ys).1 hz with h | h
        · rcases List.mem_cons.1 h with rfl | h
          · exact h2
          · exact less_trans h2 (a1 z h)
        · exact b1 z h
      | false =>
        cases less_tri h1 h2
        rw [mrg_eq]
        refine List.pairwise_cons.2 ⟨fun z hz => ?_, mrg_pw xs ys a2 b2⟩
        rcases (mem_mrg z xs ys).1 hz with h | h
        · exact a1 z h
        · exact b1 z h
termination_by xs ys => xs.length + ys.length
theorem pw_ext : ∀ xs ys : List ByteArray, PW xs → PW ys → (∀ z, z ∈ xs ↔ z ∈ ys) → xs = ys
  | [], [], _, _, _ => rfl
  | [], y :: ys, _, _, h => absurd ((h y).2 (by simp)) (by simp)
  | x :: xs, [], _, _, h => absurd ((h x).1 (by simp)) (by simp)
  | x :: xs, y :: ys, hx, hy, h => by
    obtain ⟨a1, a2⟩ := List.pairwise_cons.1 hx
    obtain ⟨b1, b2⟩ := List.pairwise_cons.1 hy
    have e : x = y := by
      rcases List.mem_cons.1 ((h x).1 (by simp)) with h1 | h1
      · exact h1
      · rcases List.mem_cons.1 ((h y).2 (by simp)) with h2 | h2
        · exact h2.symm
        · have := less_asymm (b1 x h1); rw [a1 y h2] at this; cases this
    subst e
    rw [pw_ext xs ys a2 b2 fun z => ⟨fun hz => ?_, fun hz => ?_⟩]
    · rcases List.mem_cons.1 ((h z).1 (List.mem_cons_of_mem _ hz)) with rfl | h1
      · have := a1 z hz; rw [less_irrefl] at this; cases this
      · exact h1
    · rcases List.mem_cons.1 ((h z).2 (List.mem_cons_of_mem _ hz)) with rfl | h1
      · have := b1 z hz; rw [less_irrefl] at this; cases this
      · exact h1
theorem rise_pw {ns : List ByteArray} (h : RiseP ns) : PW ns := by
  rw [PW, List.pairwise_iff_getElem]
  intro i j hi hj hij
  exact rise_at h hij (List.getElem?_eq_getElem hi) (List.getElem?_eq_getElem hj)
theorem pw_rise {ns : List ByteArray} (h : PW ns) (hn : ∀ x ∈ ns, nameOk x = true) : RiseP ns := by
  intro i s hs
  refine ⟨hn s (List.mem_of_getElem? hs), fun s' hi hs' => ?_⟩
  rw [PW, List.pairwise_iff_getElem] at h
  have l1 := (List.getElem?_eq_some_iff.1 hs).1
  have e1 := (List.getElem?_eq_some_iff.1 hs).2
  have l2 := (List.getElem?_eq_some_iff.1 hs').1
  have e2 := (List.getElem?_eq_some_iff.1 hs').2
  have := h (i - 1) i l2 l1 (by omega)
  rwa [e1, e2] at this
theorem rise_names {ns : List ByteArray} (h : RiseP ns) : ∀ x ∈ ns, nameOk x = true := fun x hx => by
  obtain ⟨i, hi⟩ := List.mem_iff_getElem?.1 hx
  exact (h i x hi).1
theorem mrg_rise {xs ys : List ByteArray} (hx : RiseP xs) (hy : RiseP ys) : RiseP (mrg xs ys) :=
  pw_rise (mrg_pw _ _ (rise_pw hx) (rise_pw hy)) fun z hz => by
    rcases (mem_mrg z xs ys).1 hz with h | h
    · exact rise_names hx z h
    · exact rise_names hy z h
/-- How far two rows have been put together. -/
structure MR (xs ys : List ByteArray) (m i j : Nat) : Prop where
  d : (mrg xs ys).drop m = mrg (xs.drop i) (ys.drop j)
  hi : i ≤ xs.length
  hj : j ≤ ys.length
  c1 : ∀ (t : Nat) x y, t < j → ys[t]? = some y → xs[i]? = some x → less y x = true
  c2 : ∀ (t : Nat) x y, t < i → xs[t]? = some x → ys[j]? = some y → less x y = true
theorem MR.zero (xs ys : List ByteArray) : MR xs ys 0 0 0 := ⟨rfl, Nat.zero_le _, Nat.zero_le _, fun _ _ _ h => absurd h (Nat.not_lt_zero _), fun _ _ _ h => absurd h (Nat.not_lt_zero _)⟩
theorem drop_at {α : Type} {l : List α} {i : Nat} {x : α} (h : l[i]? = some x) : l.drop i = x :: l.drop (i + 1) := by
  have hl := (List.getElem?_eq_some_iff.1 h).1
  rw [List.drop_eq_getElem_cons hl, (List.getElem?_eq_some_iff.1 h).2]
theorem of_drop {α : Type} {l : List α} {i : Nat} {x : α} {t : List α} (h : l.drop i = x :: t) : l[i]? = some x ∧ l.drop (i + 1) = t := by
  constructor
  · have := List.getElem?_drop (xs := l) (i := i) (j := 0)
    rw [h] at this
    simpa using this.symm
  · have : (l.drop i).drop 1 = l.drop (i + 1) := by rw [List.drop_drop]
    rw [← this, h]; rfl
theorem drop_end {α : Type} {l : List α} {i : Nat} (h : l[i]? = none) : l.drop i = [] := List.drop_eq_nil_of_le (List.getElem?_eq_none_iff.1 h)
theorem MR.a {xs ys : List ByteArray} {m i j : Nat} (h : MR xs ys m i j) (hx : RiseP xs) (hy : RiseP ys) {x : ByteArray} (hi : xs[i]? = some x) (hl : ∀ y, ys[j]? = some y → less x y = true) :
    (mrg xs ys)[m]? = some x ∧ (∀ t : Nat, ys[t]? ≠ some x) ∧ MR xs ys (m + 1) (i + 1) j := by
  have e : (mrg xs ys).drop m = x :: mrg (xs.drop (i + 1)) (ys.drop j) := by
    rw [h.d, drop_at hi]
    cases hj : ys[j]? with
    | none => rw [drop_end hj, mrg_nil, mrg_nil]
    | some y => rw [drop_at hj, mrg_lt (hl y hj)]
  obtain ⟨e1, e2⟩ := of_drop e
  refine ⟨e1, fun t ht => ?_, ⟨e2, (List.getElem?_eq_some_iff.1 hi).1, h.hj, fun t x' y ht hyt hx' => ?_, fun t x' y ht hx' hyj => ?_⟩⟩
  · rcases Nat.lt_or_ge t j with h1 | h1
    · have := h.c1 t x x h1 ht hi; rw [less_irrefl] at this; cases this
    · obtain ⟨y, hyj⟩ : ∃ y, ys[j]? = some y := ⟨_, List.getElem?_eq_getElem (by have := (List.getElem?_eq_some_iff.1 ht).1; omega)⟩
      have h2 := hl y hyj
      rcases Nat.eq_or_lt_of_le h1 with rfl | h3
      · rw [ht] at hyj; cases hyj; rw [less_irrefl] at h2; cases h2
      · have := less_trans h2 (rise_at hy h3 hyj ht); rw [less_irrefl] at this; cases this
  · exact less_trans (h.c1 t x y ht hyt hi) (rise_at hx (Nat.lt_succ_self i) hi hx')
  · rcases Nat.eq_or_lt_of_le (Nat.lt_succ_iff.1 ht) with rfl | h3
    · rw [hi] at hx'; cases hx'; exact hl y hyj
    · exact h.c2 t x' y h3 hx' hyj
theorem MR.swap {xs ys : List ByteArray} {m i j : Nat} (h : MR xs ys m i j) : MR ys xs m j i :=
  ⟨by rw [mrg_comm ys xs, mrg_comm (ys.drop j), h.d], h.hj, h.hi, fun t x y ht h1 h2 => h.c2 t y x ht h1 h2, fun t x y ht h1 h2 => h.c1 t y x ht h1 h2⟩
theorem MR.b {xs ys : List ByteArray} {m i j : Nat} (h : MR xs ys m i j) (hx : RiseP xs) (hy : RiseP ys) {y : ByteArray} (hj : ys[j]? = some y) (hl : ∀ x, xs[i]? = some x → less y x = true) :
    (mrg xs ys)[m]? = some y ∧ (∀ t : Nat, xs[t]? ≠ some y) ∧ MR xs ys (m + 1) i (j + 1) := by
  obtain ⟨h1, h2, h3⟩ := h.swap.a hy hx hj hl
  exact ⟨by rw [mrg_comm]; exact h1, h2, h3.swap⟩
theorem MR.c {xs ys : List ByteArray} {m i j : Nat} (h : MR xs ys m i j) (hx : RiseP xs) (hy : RiseP ys) {x : ByteArray} (hi : xs[i]? = some x) (hj : ys[j]? = some x) : (mrg xs ys)[m]? = some x ∧ MR xs ys (m + 1) (i + 1) (j + 1) := by
  have e : (mrg xs ys).drop m = x :: mrg (xs.drop (i + 1)) (ys.drop (j + 1)) := by rw [h.d, drop_at hi, drop_at hj, mrg_eq]
  obtain ⟨e1, e2⟩ := of_drop e
  refine ⟨e1, ⟨e2, (List.getElem?_eq_some_iff.1 hi).1, (List.getElem?_eq_some_iff.1 hj).1, fun t x' y ht hyt hx' => ?_, fun t x' y ht hx' hyj => ?_⟩⟩
  · have g : less x x' = true := rise_at hx (Nat.lt_succ_self i) hi hx'
    rcases Nat.eq_or_lt_of_le (Nat.lt_succ_iff.1 ht) with rfl | h3
    · rw [hj] at hyt; cases hyt; exact g
    · exact less_trans (h.c1 t x y h3 hyt hi) g
  · have g : less x y = true := rise_at hy (Nat.lt_succ_self j) hj hyj
    rcases Nat.eq_or_lt_of_le (Nat.lt_succ_iff.1 ht) with rfl | h3
    · rw [hi] at hx'; cases hx'; exact g
    · exact less_trans (h.c2 t x' x h3 hx' hj) g
theorem MR.more {xs ys : List ByteArray} {m i j : Nat} (h : MR xs ys m i j) : m < (mrg xs ys).length ↔ i < xs.length ∨ j < ys.length := by
  have e := congrArg List.length h.d
  rw [List.length_drop] at e
  constructor
  · intro hm
    rcases Nat.lt_or_ge i xs.length with h1 | h1
    · exact .inl h1
    · rcases Nat.lt_or_ge j ys.length with h2 | h2
      · exact .inr h2
      · rw [List.drop_eq_nil_of_le h1, List.drop_eq_nil_of_le h2, nil_mrg] at e; simp at e; omega
  · intro hm
    have hne : mrg (xs.drop i) (ys.drop j) ≠ [] := by
      intro h0
      rcases hm with h1 | h1
      · have : xs[i] ∈ mrg (xs.drop i) (ys.drop j) := (mem_mrg _ _ _).2 (.inl (by rw [List.drop_eq_getElem_cons h1]; exact List.mem_cons_self))
        rw [h0] at this; cases this
      · have : ys[j] ∈ mrg (xs.drop i) (ys.drop j) := (mem_mrg _ _ _).2 (.inr (by rw [List.drop_eq_getElem_cons h1]; exact List.mem_cons_self))
        rw [h0] at this; cases this
    have : 0 < (mrg (xs.drop i) (ys.drop j)).length := List.length_pos_iff.2 hne
    omega
end Go.V
set_option linter.unusedSimpArgs false
namespace Go.V
open Go.Proofs
theorem at_len {α β : Type} {xs : List α} {ys : List β} (h : xs.length = ys.length) {i : Nat} {x : α} (hi : xs[i]? = some x) : ∃ y, ys[i]? = some y :=
  ⟨_, List.getElem?_eq_getElem (by have := (List.getElem?_eq_some_iff.1 hi).1; omega)⟩
theorem one_at {s : Int} {ns : List ByteArray} {ks : List Kd} (hS : Shape s ns ks) (h : s = 4 ∨ s = 6) : ∃ k, ks[0]? = some k := ⟨_, List.getElem?_eq_getElem (by have := hS.one h; omega)⟩
/-- A schema's sort, and a wider one's. -/
theorem Fits.up6 {a b : Kd} (h : Fits a b) (ha : a.sort = 6) : b.sort = 6 := by
  obtain ⟨s, ns, ks⟩ := a
  obtain ⟨s', ns', ks'⟩ := b
  by_cases h6 : s' = 6
  · exact h6
  · have := h.sort_eq h6
    simp only [Kd.sort] at ha ⊢
    omega
def sumN (f : Nat → Nat) : Nat → Nat
  | 0 => 0
  | n + 1 => sumN f n + f n
theorem sumN_cut (g : Nat → Nat) (i0 : Nat) : ∀ m, i0 < m → sumN g m = sumN (fun i => if i = i0 then 0 else g i) m + g i0
  | 0, h => absurd h (Nat.not_lt_zero _)
  | m + 1, h => by
    by_cases e : m = i0
    · subst e
      have : ∀ k, k ≤ m → sumN (fun i => if i = m then 0 else g i) k = sumN g k := by
        intro k
        induction k with
        | zero => intro _; rfl
        | succ k ihk => intro hk; simp only [sumN, ihk (by omega)]; rw [if_neg (by omega)]
      simp only [sumN, this m (Nat.le_refl _), if_pos]
      omega
    · have := sumN_cut g i0 m (by omega)
      simp only [sumN, if_neg e]
      omega
theorem sumN_le : ∀ (n m : Nat) (f g σ : Nat → Nat), (∀ j, j < n → σ j < m ∧ f j ≤ g (σ j)) → (∀ i j, i < n → j < n → σ i = σ j → i = j) → sumN f n ≤ sumN g m
  | 0, _, _, _, _, _, _ => Nat.zero_le _
  | n + 1, m, f, g, σ, h, hi => by
    obtain ⟨h1, h2⟩ := h n (by omega)
    rw [sumN_cut g (σ n) m h1]
    have := sumN_le n m f (fun i => if i = σ n then 0 else g i) σ (fun j hj => by
      obtain ⟨h3, h4⟩ := h j (by omega)
      have hne : σ j ≠ σ n := fun e => by have := hi j n (by omega) (by omega) e; omega
      exact ⟨h3, by simp only [if_neg hne]; exact h4⟩) fun i j a b e => hi i j (by omega) (by omega) e
    simp only [sumN]
    omega
theorem sumN_mono (f g : Nat → Nat) : ∀ n, (∀ i, i < n → f i ≤ g i) → sumN f n ≤ sumN g n := fun n h =>
  sumN_le n n f g id (fun j hj => ⟨hj, h j hj⟩) fun _ _ _ _ e => e
theorem fits_refl : ∀ (a : Kd) (d : Nat), KOk d a → Fits a a := by
  intro a
  induction a using Kd.ind with
  | _ s ns ks ih =>
    intro d hO
    obtain ⟨_, hS, hK⟩ := hO.inv
    by_cases h46 : s = 4 ∨ s = 6
    · obtain ⟨k, hk⟩ := one_at hS h46
      have hmk := List.mem_of_getElem? hk
      have := ih k hmk _ (hK k hmk)
      rcases h46 with rfl | rfl
      · exact (Fits.l_iff hk hk).2 this
      · exact (Fits.mm_iff hk hk).2 this
    · by_cases h5 : s = 5
      · subst h5
        have l := hS.form rfl
        have hkid : ∀ (i : Nat) x k, ns[i]? = some x → ks[i]? = some k → kid ns ks x = some k := fun i x k hx hk => kid_at (fun j hj e => by have := rise_inj (rise_true.1 l.2) e hx; omega) hx hk
        refine .f _ _ _ _ (fun i x hx => kid_len (by omega) hx) (fun i x k k' hx hk hk' => ?_) fun i x k' hx hk hno => ?_
        · rw [hkid i x k hx hk] at hk'; cases hk'
          exact ih k (List.mem_of_getElem? hk) _ (hK k (List.mem_of_getElem? hk))
        · rw [hkid i x k' hx hk] at hno; cases hno
      · have := hS.lo
        have := hS.hi
        exact .leaf _ _ _ _ _ (by omega)
end Go.V
set_option linter.unusedSimpArgs false
namespace Go.V
open Go.Proofs
/-- What comes of two schemas that are put together. -/
inductive Jn : Kd → Kd → Kd → Prop
  | m (a b x : Kd) (h : a.sort = 6 ∨ b.sort = 6) (hx : Jn (bare a) (bare b) x) : Jn a b (.mk 6 [] [x])
  | l (na : List ByteArray) (ka : List Kd) (nb : List ByteArray) (kb : List Kd) (p q x : Kd) (hp : ka[0]? = some p) (hq : kb[0]? = some q) (hx : Jn p q x) : Jn (.mk 4 na ka) (.mk 4 nb kb) (.mk 4 [] [x])
  | leaf (s : Int) (na : List ByteArray) (ka : List Kd) (nb : List ByteArray) (kb : List Kd) (hs : s < 4) : Jn (.mk s na ka) (.mk s nb kb) (.mk s [] [])
  | f (na : List ByteArray) (ka : List Kd) (nb : List ByteArray) (kb : List Kd) (ks : List Kd) (hna : na.length ≤ ka.length) (hnb : nb.length ≤ kb.length) (hl : ks.length = (mrg na nb).length)
      (h1 : ∀ (i : Nat) x y p q, (mrg na nb)[i]? = some x → ks[i]? = some y → kid na ka x = some p → kid nb kb x = some q → Jn p q y)
      (h2 : ∀ (i : Nat) x y p, (mrg na nb)[i]? = some x → ks[i]? = some y → kid na ka x = some p → kid nb kb x = none → y = opt p)
      (h3 : ∀ (i : Nat) x y q, (mrg na nb)[i]? = some x → ks[i]? = some y → kid na ka x = none → kid nb kb x = some q → y = opt q) : Jn (.mk 5 na ka) (.mk 5 nb kb) (.mk 5 (mrg na nb) ks)
theorem kid_mrg {na nb : List ByteArray} {ka kb : List Kd} (hna : na.length ≤ ka.length) (hnb : nb.length ≤ kb.length) {i : Nat} {x : ByteArray} (h : (mrg na nb)[i]? = some x) : (∃ p, kid na ka x = some p) ∨ ∃ q, kid nb kb x = some q := by
  rcases (mem_mrg x na nb).1 (List.mem_of_getElem? h) with h | h
  · obtain ⟨t, ht⟩ := List.mem_iff_getElem?.1 h
    exact .inl (kid_len hna ht)
  · obtain ⟨t, ht⟩ := List.mem_iff_getElem?.1 h
    exact .inr (kid_len hnb ht)
theorem jn_det {a b k : Kd} (h : Jn a b k) : ∀ k', Jn a b k' → k = k' := by
  induction h with
  | m a b x h hx ih =>
    intro k' h'
    cases h' with
    | m _ _ x' _ hx' => rw [ih x' hx']
    | l => simp [Kd.sort] at h
    | leaf s _ _ _ _ hs => simp [Kd.sort] at h; omega
    | f => simp [Kd.sort] at h
  | l na ka nb kb p q x hp hq hx ih =>
    intro k' h'
    cases h' with
    | m _ _ x' h' => simp [Kd.sort] at h'
    | l _ _ _ _ p' q' x' hp' hq' hx' =>
      rw [hp] at hp'; cases hp'
      rw [hq] at hq'; cases hq'
      rw [ih x' hx']
    | leaf s _ _ _ _ hs => omega
  | leaf s na ka nb kb hs =>
    intro k' h'
    cases h' with
    | m _ _ x' h' => simp [Kd.sort] at h'; omega
    | l => omega
    | leaf => rfl
    | f => omega
  | f na ka nb kb ks hna hnb hl h1 h2 h3 ih =>
    intro k' h'
    cases h' with
    | m _ _ x' h' => simp [Kd.sort] at h'
    | leaf s _ _ _ _ hs => omega
    | f _ _ _ _ ks' _ _ hl' h1' h2' h3' =>
      have : ks = ks' := by
        apply List.ext_getElem? 
        intro i
        by_cases hi : i < (mrg na nb).length
        · obtain ⟨x, hx⟩ : ∃ x, (mrg na nb)[i]? = some x := ⟨_, List.getElem?_eq_getElem hi⟩
          obtain ⟨y, hy⟩ : ∃ y, ks[i]? = some y := ⟨_, List.getElem?_eq_getElem (by omega)⟩
          obtain ⟨y', hy'⟩ : ∃ y, ks'[i]? = some y := ⟨_, List.getElem?_eq_getElem (by omega)⟩
          rw [hy, hy']
          congr 1
          cases hp : kid na ka x with
          | some p => cases hq : kid nb kb x with
            | some q => exact ih i x y p q hx hy hp hq y' (h1' i x y' p q hx hy' hp hq)
            | none => rw [h2 i x y p hx hy hp hq, h2' i x y' p hx hy' hp hq]
          | none => cases hq : kid nb kb x with
            | some q => rw [h3 i x y q hx hy hp hq, h3' i x y' q hx hy' hp hq]
            | none =>
              rcases kid_mrg hna hnb hx with ⟨p, h⟩ | ⟨q, h⟩
              · rw [hp] at h; cases h
              · rw [hq] at h; cases h
        · rw [List.getElem?_eq_none (by omega), List.getElem?_eq_none (by omega)]
      rw [this]
theorem jn_sym {a b k : Kd} (h : Jn a b k) : Jn b a k := by
  induction h with
  | m a b x h hx ih => exact .m b a x h.symm ih
  | l na ka nb kb p q x hp hq hx ih => exact .l nb kb na ka q p x hq hp ih
  | leaf s na ka nb kb hs => exact .leaf s nb kb na ka hs
  | f na ka nb kb ks hna hnb hl h1 h2 h3 ih =>
    rw [mrg_comm]
    rw [mrg_comm] at hl h2 h3 ih
    exact .f nb kb na ka ks hnb hna hl (fun i x y p q hx hy hp hq => ih i x y q p hx hy hq hp) (fun i x y p hx hy hp hq => h3 i x y p hx hy hq hp) fun i x y q hx hy hp hq => h2 i x y q hx hy hq hp
theorem KB.opt {n : Nat} (hn : 1 ≤ n) {k : Kd} (h : KB n k) : KB n (opt k) := by
  rw [Go.V.opt]
  by_cases hs : k.sort = 6
  · rw [if_pos hs]; exact h
  · rw [if_neg hs]
    exact .mk _ _ _ (by simp) (by simpa using hn) (fun x hx => by cases hx) fun x hx => by rw [List.mem_singleton.1 hx]; exact h
theorem KB.bare {n : Nat} {k : Kd} (h : KB n k) : KB n (bare k) := by
  obtain ⟨s, ns, ks⟩ := k
  by_cases hs : s = 6
  · subst hs
    cases ks with
    | nil => simpa [Go.V.bare] using h
    | cons x l => rw [bare_6 (x := x) rfl]; exact h.inv.2.2.2 _ (by simp)
  · rw [bare_n hs]; exact h
theorem jn_KB {a b k : Kd} (h : Jn a b k) : KB 1000 a → KB 1000 b → KB 2000 k := by
  induction h with
  | m a b x h hx ih => exact fun ha hb => .mk _ _ _ (by simp) (by simp) (fun x hx => by cases hx) fun y hy => by rw [List.mem_singleton.1 hy]; exact ih ha.bare hb.bare
  | l na ka nb kb p q x hp hq hx ih => exact fun ha hb => .mk _ _ _ (by simp) (by simp) (fun x hx => by cases hx) fun y hy => by rw [List.mem_singleton.1 hy]; exact ih (ha.inv.2.2.2 _ (List.mem_of_getElem? hp)) (hb.inv.2.2.2 _ (List.mem_of_getElem? hq))
  | leaf s na ka nb kb hs => exact fun _ _ => .mk _ _ _ (by simp) (by simp) (fun x hx => by cases hx) fun x hx => by cases hx
  | f na ka nb kb ks hna hnb hl h1 h2 h3 ih =>
    intro ha hb
    obtain ⟨a1, a2, a3, a4⟩ := ha.inv
    obtain ⟨b1, b2, b3, b4⟩ := hb.inv
    have hlen := mrg_len na nb
    refine .mk _ _ _ (by omega) (by omega) (fun x hx => ?_) fun y hy => ?_
    · rcases (mem_mrg x na nb).1 hx with h | h
      · have := a3 x h; omega
      · have := b3 x h; omega
    · obtain ⟨i, hi⟩ := List.mem_iff_getElem?.1 hy
      obtain ⟨x, hx⟩ : ∃ x, (mrg na nb)[i]? = some x := ⟨_, List.getElem?_eq_getElem (by have := (List.getElem?_eq_some_iff.1 hi).1; omega)⟩
      have kk : ∀ {ns : List ByteArray} {kk : List Kd} {p : Kd}, (∀ k ∈ kk, KB 1000 k) → kid ns kk x = some p → KB 1000 p := fun hk hp => by
        obtain ⟨t, _, ht⟩ := kid_mem hp
        exact hk _ (List.mem_of_getElem? ht)
      cases hp : kid na ka x with
      | some p => cases hq : kid nb kb x with
        | some q => exact ih i x y p q hx hi hp hq (kk a4 hp) (kk b4 hq)
        | none => rw [h2 i x y p hx hi hp hq]; exact (KB.opt (by omega) (kk a4 hp)).le (by omega)
      | none => cases hq : kid nb kb x with
        | some q => rw [h3 i x y q hx hi hp hq]; exact (KB.opt (by omega) (kk b4 hq)).le (by omega)
        | none =>
          rcases kid_mrg hna hnb hx with ⟨p, h⟩ | ⟨q, h⟩
          · rw [hp] at h; cases h
          · rw [hq] at h; cases h
theorem jn_sort {a b k : Kd} (h : Jn a b k) (ha : a.sort ≠ 6) (hb : b.sort ≠ 6) : k.sort ≠ 6 := by
  cases h with
  | m _ _ _ h => rcases h with h | h; exact absurd h ha; exact absurd h hb
  | l => simp [Kd.sort]
  | leaf s _ _ _ _ hs => simp only [Kd.sort]; omega
  | f => simp [Kd.sort]
theorem KOk.mono : ∀ {k : Kd} {d : Nat}, KOk (d + 1) k → KOk d k := by
  intro k
  induction k using Kd.ind with
  | _ s ns ks ih =>
    intro d h
    obtain ⟨h1, h2, h3⟩ := h.inv
    exact .mk _ _ _ _ (by omega) h2 fun k hk => ih k hk (h3 k hk)
theorem kid_in {ns : List ByteArray} {ks : List Kd} (hr : RiseP ns) {i : Nat} {x : ByteArray} {k : Kd} (hi : ns[i]? = some x) (hk : ks[i]? = some k) : kid ns ks x = some k :=
  kid_at (fun j hj e => by have := rise_inj hr e hi; omega) hi hk
theorem Shape.rise {ns : List ByteArray} {ks : List Kd} (h : Shape 5 ns ks) : RiseP ns := rise_true.1 (h.form rfl).2
theorem opt_sort (k : Kd) : (opt k).sort = 6 := by
  rw [opt]
  split
  · assumption
  · rfl
theorem fits_opt {k : Kd} {d : Nat} (h : KOk d k) : Fits k (opt k) := by
  obtain ⟨s, ns, ks⟩ := k
  by_cases hs : s = 6
  · subst hs; rw [opt_6]; exact fits_refl _ d h
  · rw [opt_n hs]; exact .m s ns ks [] [.mk s ns ks] _ hs rfl (fits_refl _ d h)
theorem KOk.bare {d : Nat} {k : Kd} (h : KOk d k) : ∃ e, KOk e (bare k) := by
  obtain ⟨s, ns, ks⟩ := k
  by_cases hs : s = 6
  · subst hs
    cases ks with
    | nil => exact ⟨d, by simpa [Go.V.bare] using h⟩
    | cons x l => rw [bare_6 (x := x) rfl]; exact ⟨_, h.inv.2.2 _ (by simp)⟩
  · rw [bare_n hs]; exact ⟨_, h⟩
/-- Each of two kfits into what comes of both. -/
theorem jn_up {a b k : Kd} (h : Jn a b k) : ∀ d, KOk d a → Fits a k := by
  induction h with
  | m a b x h hx ih =>
    intro d ha
    obtain ⟨e, hb⟩ := ha.bare
    have hf := ih e hb
    obtain ⟨s, ns, ks⟩ := a
    by_cases hs : s = 6
    · subst hs
      obtain ⟨p, hp⟩ := one_at ha.inv.2.1 (.inr rfl)
      rw [bare_6 hp] at hf
      exact .mm ns ks [] [x] p x hp rfl hf
    · rw [bare_n hs] at hf
      exact .m s ns ks [] [x] x hs rfl hf
  | l na ka nb kb p q x hp hq hx ih => exact fun d ha => .l _ _ _ _ p x hp rfl (ih (d + 1) (ha.inv.2.2 _ (List.mem_of_getElem? hp)))
  | leaf s na ka nb kb hs => exact fun _ _ => .leaf s _ _ _ _ hs
  | f na ka nb kb ks hna hnb hl h1 h2 h3 ih =>
    intro d ha
    obtain ⟨_, hS, hk⟩ := ha.inv
    refine .f na ka _ ks (fun i x hi => ?_) (fun i x k k' hi hki hk' => ?_) fun i x k' hi hki hn => ?_
    · obtain ⟨t, ht⟩ := List.mem_iff_getElem?.1 ((mem_mrg x na nb).2 (.inl (List.mem_of_getElem? hi)))
      exact kid_len (Nat.le_of_eq hl.symm) ht
    · obtain ⟨t, ht, htk⟩ := kid_mem hk'
      have hp := kid_in hS.rise hi hki
      have hO := hk _ (List.mem_of_getElem? hki)
      cases hq : kid nb kb x with
      | some q => exact ih t x k' k q ht htk hp hq (d + 1) hO
      | none => rw [h2 t x k' k ht htk hp hq]; exact fits_opt hO
    · cases hq : kid nb kb x with
      | some q => rw [h3 i x k' q hi hki hn hq]; exact opt_sort q
      | none =>
        rcases kid_mrg hna hnb hi with ⟨p, h⟩ | ⟨q, h⟩
        · rw [hn] at h; cases h
        · rw [hq] at h; cases h
def kpartsAt (ks : List Kd) (i : Nat) : Nat := match ks[i]? with
  | some k => parts k
  | none => 0
theorem kpartsAt_some {ks : List Kd} {i : Nat} {k : Kd} (h : ks[i]? = some k) : kpartsAt ks i = parts k := by rw [kpartsAt, h]
theorem partsL_sum (ks : List Kd) : ∀ i, i ≤ ks.length → partsL (ks.take i) = sumN (kpartsAt ks) i
  | 0, _ => by simp [partsL, sumN]
  | i + 1, h => by
    obtain ⟨k, hk⟩ : ∃ k, ks[i]? = some k := ⟨_, List.getElem?_eq_getElem (by omega)⟩
    rw [List.take_add_one, hk]
    have := partsL_snoc (ks.take i) k
    simp only [Option.toList_some, sumN, kpartsAt_some hk]
    rw [this, partsL_sum ks i (by omega)]
theorem partsL_all (ks : List Kd) : partsL ks = sumN (kpartsAt ks) ks.length := by
  have := partsL_sum ks ks.length (Nat.le_refl _)
  rwa [List.take_length] at this
theorem one_of {s : Int} {ns : List ByteArray} {ks : List Kd} (hS : Shape s ns ks) (h : s = 4 ∨ s = 6) {k y : Kd} (hk : ks[0]? = some k) (hy : y ∈ ks) : y = k := by
  have := hS.one h
  match ks, this with
  | [z], _ => simp at hk hy; rw [hy, hk]
/-- What kfits is no deeper, and has no more parts. -/
theorem fits_le : ∀ (c a : Kd) (d e : Nat), KOk e a → KOk d c → Fits a c → KOk d a ∧ parts a ≤ parts c := by
  intro c
  induction c using Kd.ind with
  | _ s nc kc ih =>
    rintro ⟨s', na, ka⟩ d e ha hc hf
    obtain ⟨a1, a2, a3⟩ := ha.inv
    obtain ⟨c1, c2, c3⟩ := hc.inv
    have single : ∀ {p c' : Kd}, (s' = 4 ∨ s' = 6) → ka[0]? = some p → kc[0]? = some c' → Fits p c' → KOk d (.mk s' na ka) ∧ parts (.mk s' na ka) ≤ parts (.mk s nc kc) := by
      intro p c' hs hp hc' hf'
      have hm := List.mem_of_getElem? hc'
      obtain ⟨i1, i2⟩ := ih c' hm p (d + 1) (e + 1) (a3 _ (List.mem_of_getElem? hp)) (c3 _ hm) hf'
      refine ⟨.mk _ _ _ _ c1 a2 fun k hk => by rw [one_of a2 hs hp hk]; exact i1, ?_⟩
      have hle := partsL_mem hm
      have hone := a2.one hs
      match ka, hone with
      | [z], _ => simp at hp; subst hp; simp only [parts, partsL]; omega
    cases hf with
    | mm _ _ _ _ p c' hp hc' hf' => exact single (.inr rfl) hp hc' hf'
    | l _ _ _ _ p c' hp hc' hf' => exact single (.inl rfl) hp hc' hf'
    | m _ _ _ _ _ c' hs hc' hf' =>
      have hm := List.mem_of_getElem? hc'
      obtain ⟨i1, i2⟩ := ih c' hm _ (d + 1) e ha (c3 _ hm) hf'
      have hle := partsL_mem hm
      exact ⟨i1.mono, by simp only [parts] at i2 ⊢; omega⟩
    | leaf _ _ _ _ _ hs =>
      have := List.length_eq_zero_iff.1 (a2.leaf hs)
      subst this
      exact ⟨.mk _ _ _ _ c1 a2 (fun k hk => (by cases hk)), (by simp only [parts, partsL]; omega)⟩
    | f _ _ _ _ h1 h2 h3 =>
      have hla := (a2.form rfl).1
      have hlc := (c2.form rfl).1
      have at' : ∀ i, i < ka.length → ∃ (x : ByteArray) (k k' : Kd) (t : Nat), na[i]? = some x ∧ ka[i]? = some k ∧ nc[t]? = some x ∧ kc[t]? = some k' ∧ KOk (d + 1) k ∧ parts k ≤ parts k' := by
        intro i hi
        obtain ⟨x, hx⟩ : ∃ x, na[i]? = some x := ⟨_, List.getElem?_eq_getElem (by omega)⟩
        obtain ⟨k, hk⟩ : ∃ k, ka[i]? = some k := ⟨_, List.getElem?_eq_getElem hi⟩
        obtain ⟨k', hk'⟩ := h1 i x hx
        obtain ⟨t, ht, htk⟩ := kid_mem hk'
        have hm := List.mem_of_getElem? htk
        obtain ⟨i1, i2⟩ := ih k' hm k (d + 1) (e + 1) (a3 _ (List.mem_of_getElem? hk)) (c3 _ hm) (h2 i x k k' hx hk hk')
        exact ⟨x, k, k', t, hx, hk, ht, htk, i1, i2⟩
      refine ⟨.mk _ _ _ _ c1 a2 fun k hk => ?_, ?_⟩
      · obtain ⟨i, hi⟩ := List.mem_iff_getElem?.1 hk
        obtain ⟨x, k2, k', t, g1, g2, g3, g4, g5, g6⟩ := at' i (List.getElem?_eq_some_iff.1 hi).1
        rw [hi] at g2; cases g2
        exact g5
      · obtain ⟨ts, hts, hat⟩ := choose_list (fun i t => ∃ (x : ByteArray) (k k' : Kd), na[i]? = some x ∧ ka[i]? = some k ∧ nc[t]? = some x ∧ kc[t]? = some k' ∧ parts k ≤ parts k') ka.length fun i hi => by
          obtain ⟨x, k2, k', t, g1, g2, g3, g4, g5, g6⟩ := at' i hi
          exact ⟨t, x, k2, k', g1, g2, g3, g4, g6⟩
        simp only [parts]
        rw [partsL_all ka, partsL_all kc]
        have := sumN_le ka.length kc.length (kpartsAt ka) (kpartsAt kc) (fun i => (ts[i]?).getD 0) (fun j hj => by
          obtain ⟨t, ht, x, k, k', g1, g2, g3, g4, g6⟩ := hat j hj
          simp only [ht, Option.getD_some]
          exact ⟨(List.getElem?_eq_some_iff.1 g4).1, by rw [kpartsAt_some g2, kpartsAt_some g4]; exact g6⟩) fun i j hi hj e => by
            obtain ⟨t, ht, x, k, k', g1, g2, g3, g4, g6⟩ := hat i hi
            obtain ⟨t', ht', x', k2, k2', g1', g2', g3', g4', g6'⟩ := hat j hj
            simp only [ht, ht', Option.getD_some] at e
            subst e
            rw [g3] at g3'; cases g3'
            exact rise_inj a2.rise g1 g1'
        omega
theorem opt_fit {p c' : Kd} {d e : Nat} (hf : Fits p c') (h6 : c'.sort = 6) (hp : KOk e p) (hc : KOk d c') : Fits (opt p) c' ∧ KOk d (opt p) := by
  obtain ⟨s, ns, ks⟩ := p
  by_cases hs : s = 6
  · subst hs
    rw [opt_6]
    exact ⟨hf, (fits_le _ _ _ _ hp hc hf).1⟩
  · rw [opt_n hs]
    obtain ⟨s', nc, kc⟩ := c'
    obtain ⟨c1, c2, c3⟩ := hc.inv
    simp only [Kd.sort] at h6
    subst h6
    cases hf with
    | mm => exact absurd rfl hs
    | leaf _ _ _ _ _ h => omega
    | m _ _ _ _ _ c'' _ hc' hf' =>
      have i1 := (fits_le _ _ _ _ hp (c3 _ (List.mem_of_getElem? hc')) hf').1
      exact ⟨.mm [] [.mk s ns ks] nc kc _ c'' rfl hc' hf', .mk _ _ _ _ c1 ⟨by omega, by omega, fun h => by omega, fun _ => rfl, fun h => by omega, fun _ => rfl⟩ fun k hk => by rw [List.mem_singleton.1 hk]; exact i1⟩
theorem fits_bare {a : Kd} {nc : List ByteArray} {kc : List Kd} {c' : Kd} (hc : kc[0]? = some c') (h : Fits a (.mk 6 nc kc)) : Fits (bare a) c' := by
  cases h with
  | mm na ka _ _ p c2 hp hc2 hf => rw [hc] at hc2; cases hc2; rw [bare_6 hp]; exact hf
  | m s na ka _ _ c2 hs hc2 hf => rw [hc] at hc2; cases hc2; rw [bare_n hs]; exact hf
  | leaf _ _ _ _ _ h => omega
/-- Two schemas that fit into one have one that comes of both, and it kfits into that. -/
theorem jn_least : ∀ (c a b : Kd) (d da db : Nat), KOk da a → KOk db b → KOk d c → Fits a c → Fits b c → ∃ k, Jn a b k ∧ Fits k c ∧ KOk d k := by
  intro c
  induction c using Kd.ind with
  | _ s nc kc ih =>
    intro a b d da db ha hb hc fa fb
    obtain ⟨c1, c2, c3⟩ := hc.inv
    by_cases h6 : s = 6
    · subst h6
      obtain ⟨c', hc'⟩ := one_at c2 (.inr rfl)
      have hm := List.mem_of_getElem? hc'
      by_cases hab : a.sort = 6 ∨ b.sort = 6
      · obtain ⟨ea, hea⟩ := ha.bare
        obtain ⟨eb, heb⟩ := hb.bare
        obtain ⟨x, x1, x2, x3⟩ := ih c' hm (bare a) (bare b) (d + 1) ea eb hea heb (c3 _ hm) (fits_bare hc' fa) (fits_bare hc' fb)
        exact ⟨.mk 6 [] [x], .m a b x hab x1, .mm [] [x] nc kc x c' rfl hc' x2, .mk _ _ _ _ c1 ⟨by omega, by omega, fun h => by omega, fun _ => rfl, fun h => by omega, fun _ => rfl⟩ fun k hk => by rw [List.mem_singleton.1 hk]; exact x3⟩
      · have na6 : a.sort ≠ 6 := fun h => hab (.inl h)
        have nb6 : b.sort ≠ 6 := fun h => hab (.inr h)
        have un : ∀ {a : Kd}, a.sort ≠ 6 → Fits a (.mk 6 nc kc) → Fits a c' := fun {a} h hf => by
          have := fits_bare hc' hf
          obtain ⟨s, ns, ks⟩ := a
          rwa [bare_n (show s ≠ 6 from h)] at this
        obtain ⟨x, x1, x2, x3⟩ := ih c' hm a b (d + 1) da db ha hb (c3 _ hm) (un na6 fa) (un nb6 fb)
        refine ⟨x, x1, ?_, x3.mono⟩
        have := jn_sort x1 na6 nb6
        obtain ⟨s, ns, ks⟩ := x
        exact .m s ns ks nc kc c' this hc' x2
    · obtain ⟨sa, na, ka⟩ := a
      obtain ⟨sb, nb, kb⟩ := b
      have e1 := fa.sort_eq h6
      have e2 := fb.sort_eq h6
      subst e1
      subst e2
      obtain ⟨a1, a2, a3⟩ := ha.inv
      obtain ⟨b1, b2, b3⟩ := hb.inv
      cases fa with
      | mm => exact absurd rfl h6
      | m => exact absurd rfl h6
      | leaf _ _ _ _ _ hs => exact ⟨_, .leaf _ na ka nb kb hs, .leaf _ _ _ _ _ hs, .mk _ _ _ _ c1 ⟨a2.lo, a2.hi, fun h => by omega, fun _ => rfl, fun _ => rfl, fun h => by omega⟩ (fun k hk => by cases hk)⟩
      | l _ _ _ _ p c' hp hc' hf =>
        obtain ⟨q, hq⟩ := one_at b2 (.inl rfl)
        have hm := List.mem_of_getElem? hc'
        obtain ⟨x, x1, x2, x3⟩ := ih c' hm p q (d + 1) (da + 1) (db + 1) (a3 _ (List.mem_of_getElem? hp)) (b3 _ (List.mem_of_getElem? hq)) (c3 _ hm) hf ((Fits.l_iff hq hc').1 fb)
        exact ⟨.mk 4 [] [x], .l na ka nb kb p q x hp hq x1, .l [] [x] nc kc x c' rfl hc' x2, .mk _ _ _ _ c1 ⟨by omega, by omega, fun h => by omega, fun _ => rfl, fun h => by omega, fun _ => rfl⟩ fun k hk => by rw [List.mem_singleton.1 hk]; exact x3⟩
      | f _ _ _ _ ha1 ha2 ha3 =>
        cases fb with
        | leaf _ _ _ _ _ hs => omega
        | f _ _ _ _ hb1 hb2 hb3 =>
          have hla := (a2.form rfl).1
          have hlb := (b2.form rfl).1
          have hlc := (c2.form rfl).1
          obtain ⟨ks, hl, hks⟩ := choose_list (fun i y => ∃ x c', (mrg na nb)[i]? = some x ∧ kid nc kc x = some c' ∧ Fits y c' ∧ KOk (d + 1) y ∧ (∀ p q, kid na ka x = some p → kid nb kb x = some q → Jn p q y) ∧
              (∀ p, kid na ka x = some p → kid nb kb x = none → y = opt p) ∧ ∀ q, kid na ka x = none → kid nb kb x = some q → y = opt q) (mrg na nb).length fun i hi => by
            obtain ⟨x, hx⟩ : ∃ x, (mrg na nb)[i]? = some x := ⟨_, List.getElem?_eq_getElem hi⟩
            have inn : ∀ {c' : Kd}, kid nc kc x = some c' → KOk (d + 1) c' := fun h => by obtain ⟨t, _, ht⟩ := kid_mem h; exact c3 _ (List.mem_of_getElem? ht)
            cases hp : kid na ka x with
            | some p =>
              obtain ⟨t, t1, t2⟩ := kid_mem hp
              obtain ⟨c', hc'⟩ := ha1 t x t1
              have hO := a3 _ (List.mem_of_getElem? t2)
              have fp := ha2 t x p c' t1 t2 hc'
              cases hq : kid nb kb x with
              | some q =>
                obtain ⟨u, u1, u2⟩ := kid_mem hq
                obtain ⟨v, _, v2⟩ := kid_mem hc'
                obtain ⟨y, y1, y2, y3⟩ := ih c' (List.mem_of_getElem? v2) p q (d + 1) (da + 1) (db + 1) hO (b3 _ (List.mem_of_getElem? u2)) (inn hc') fp (hb2 u x q c' u1 u2 hc')
                exact ⟨y, x, c', hx, hc', y2, y3, (fun p' q' e1 e2 => by rw [hp] at e1; rw [hq] at e2; cases e1; cases e2; exact y1), (fun p' _ e => by rw [hq] at e; cases e), (fun q' e => by rw [hp] at e; cases e)⟩
              | none =>
                obtain ⟨v, v1, v2⟩ := kid_mem hc'
                have g6 := hb3 v x c' v1 v2 hq
                obtain ⟨y2, y3⟩ := opt_fit fp g6 hO (inn hc')
                exact ⟨opt p, x, c', hx, hc', y2, y3, (fun p' q' _ e => by rw [hq] at e; cases e), (fun p' e _ => by rw [hp] at e; cases e; rfl), (fun q' e => by rw [hp] at e; cases e)⟩
            | none =>
              cases hq : kid nb kb x with
              | some q =>
                obtain ⟨u, u1, u2⟩ := kid_mem hq
                obtain ⟨c', hc'⟩ := hb1 u x u1
                obtain ⟨v, v1, v2⟩ := kid_mem hc'
                have g6 := ha3 v x c' v1 v2 hp
                obtain ⟨y2, y3⟩ := opt_fit (hb2 u x q c' u1 u2 hc') g6 (b3 _ (List.mem_of_getElem? u2)) (inn hc')
                exact ⟨opt q, x, c', hx, hc', y2, y3, (fun p' q' e => by rw [hp] at e; cases e), (fun p' e => by rw [hp] at e; cases e), (fun q' _ e => by rw [hq] at e; cases e; rfl)⟩
              | none =>
                rcases kid_mrg (Nat.le_of_eq hla) (Nat.le_of_eq hlb) hx with ⟨p, h⟩ | ⟨q, h⟩
                · rw [hp] at h; cases h
                · rw [hq] at h; cases h
          have at' : ∀ (i : Nat) x y, (mrg na nb)[i]? = some x → ks[i]? = some y → ∃ c', kid nc kc x = some c' ∧ Fits y c' ∧ KOk (d + 1) y ∧ (∀ p q, kid na ka x = some p → kid nb kb x = some q → Jn p q y) ∧
              (∀ p, kid na ka x = some p → kid nb kb x = none → y = opt p) ∧ ∀ q, kid na ka x = none → kid nb kb x = some q → y = opt q := fun i x y hx hy => by
            obtain ⟨y', e1, x', c', g1, g2, g3, g4, g5, g6, g7⟩ := hks i (List.getElem?_eq_some_iff.1 hx).1
            rw [hx] at g1; cases g1
            rw [hy] at e1; cases e1
            exact ⟨c', g2, g3, g4, g5, g6, g7⟩
          refine ⟨.mk 5 (mrg na nb) ks, .f na ka nb kb ks (Nat.le_of_eq hla) (Nat.le_of_eq hlb) hl (fun i x y p q hx hy => (at' i x y hx hy).elim fun _ h => h.2.2.2.1 p q) (fun i x y p hx hy => (at' i x y hx hy).elim fun _ h => h.2.2.2.2.1 p) (fun i x y q hx hy => (at' i x y hx hy).elim fun _ h => h.2.2.2.2.2 q),
            .f _ ks nc kc (fun i x hx => ?_) (fun i x y c' hx hy hc' => ?_) (fun i x k' hx hk hn => ?_), .mk _ _ _ _ c1 ⟨by omega, by omega, fun _ => ⟨hl.symm, rise_true.2 (mrg_rise a2.rise b2.rise)⟩, fun h => absurd rfl h, fun h => by omega, fun h => by omega⟩ fun y hy => ?_⟩
          · obtain ⟨y, hy⟩ : ∃ y, ks[i]? = some y := ⟨_, List.getElem?_eq_getElem (by have := (List.getElem?_eq_some_iff.1 hx).1; omega)⟩
            obtain ⟨c', g, _⟩ := at' i x y hx hy
            exact ⟨c', g⟩
          · obtain ⟨c2', g1, g2, _⟩ := at' i x y hx hy
            rw [hc'] at g1; cases g1
            exact g2
          · refine ha3 i x k' hx hk ?_
            cases hp : kid na ka x with
            | none => rfl
            | some p =>
              obtain ⟨t, t1, _⟩ := kid_mem hp
              obtain ⟨u, hu⟩ := List.mem_iff_getElem?.1 ((mem_mrg x na nb).2 (.inl (List.mem_of_getElem? t1)))
              obtain ⟨y, hy⟩ := kid_len (Nat.le_of_eq hl.symm) hu
              rw [hn] at hy; cases hy
          · obtain ⟨i, hi⟩ := List.mem_iff_getElem?.1 hy
            obtain ⟨x, hx⟩ : ∃ x, (mrg na nb)[i]? = some x := ⟨_, List.getElem?_eq_getElem (by have := (List.getElem?_eq_some_iff.1 hi).1; omega)⟩
            obtain ⟨_, _, _, g, _⟩ := at' i x y hx hi
            exact g
end Go.V
set_option linter.unusedSimpArgs false
set_option maxRecDepth 20000
namespace Go.V
open Go.Proofs
def JR (a b k : Kd) (ok : Bool) : Prop := (ok = true ∧ Jn a b k) ∨ (ok = false ∧ ∀ k', ¬ Jn a b k')
abbrev JC (f : FuncId) (a b : Kd) : Prop := ∃ k ok, JR a b k ok ∧ KB 2000000 k ∧ ACallsF Try.prog f [tK a, tK b] [] (tKB (k, ok))
theorem bare_parts {d : Nat} {a : Kd} (h : KOk d a) : parts (bare a) ≤ parts a ∧ (a.sort = 6 → parts (bare a) < parts a) ∧ (∃ e, KOk e (bare a)) ∧ ∀ n, KB n a → KB n (bare a) := by
  refine ⟨?_, ?_, h.bare, fun n hn => hn.bare⟩
  all_goals
    obtain ⟨s, ns, ks⟩ := a
    by_cases hs : s = 6
    · subst hs
      obtain ⟨p, hp⟩ := one_at h.inv.2.1 (.inr rfl)
      have := partsL_mem (List.mem_of_getElem? hp)
      rw [bare_6 hp]
      simp only [parts]
      omega
    · rw [bare_n hs]
      simp [Kd.sort, hs]
theorem JR.bare {a b k : Kd} {ok : Bool} (h : a.sort = 6 ∨ b.sort = 6) (hj : JR (bare a) (bare b) k ok) : JR a b (.mk 6 [] [k]) ok := by
  rcases hj with ⟨h1, h2⟩ | ⟨h1, h2⟩
  · exact .inl ⟨h1, .m a b k h h2⟩
  · refine .inr ⟨h1, fun k' hk => ?_⟩
    cases hk with
    | m _ _ x _ hx => exact h2 x hx
    | l => simp [Kd.sort] at h
    | leaf s _ _ _ _ hs => simp [Kd.sort] at h; omega
    | f => simp [Kd.sort] at h
theorem KB.may {n : Nat} (hn : 1 ≤ n) (s : Int) {k : Kd} (h : KB n k) : KB n (.mk s [] [k]) :=
  .mk _ _ _ (by simp) (by simpa using hn) (fun x hx => by cases hx) fun x hx => by rw [List.mem_singleton.1 hx]; exact h
def ok42 := okF.gu (P := Try.prog) tab Try.func42 Try.ntmps42 (by conv => lhs; cbv) (by kernel_rfl)
theorem joinS_maybe (a b : Kd) (da db : Nat) (ha : KOk da a) (hb : KOk db b) (h6 : a.sort = 6 ∨ b.sort = 6) (ih : JC 42 (bare a) (bare b)) : JC 42 a b := by
  obtain ⟨k, ok, hj, hB, hC⟩ := ih
  refine ⟨.mk 6 [] [k], ok, hj.bare h6, hB.may (by omega) 6, ?_⟩
  obtain ⟨sa, na, ka⟩ := a
  obtain ⟨sb, nb, kb⟩ := b
  have hwa := bareS_ok sa na ka fun h => by subst h; exact one_at ha.inv.2.1 (.inr rfl)
  have hwb := bareS_ok sb nb kb fun h => by subst h; exact one_at hb.inv.2.1 (.inr rfl)
  have hw : encK (.mk 6 [] [k]) = [.s (.int .i64 6), .sl [], .sl [encK k]] := by simp [encK, encS, encKs]
  refine ACallsF.intro ok42 follows fun X c0 => ?_
  have e0 : (sa == 6) = true ∨ ((sa == 6) = false ∧ (sb == 6) = true) := by
    simp only [Kd.sort] at h6
    rcases h6 with h | h
    · exact .inl (by simpa using h)
    · by_cases h' : sa = 6
      · exact .inl (by simpa using h')
      · exact .inr ⟨by simpa using h', by simpa using h⟩
  rcases e0 with e0 | ⟨e0, e1⟩
  · simp only [go_sem, encK_mk, e0]
    refine callC (argsC := [tK (.mk sa na ka)]) hwa rfl (by simp only [go_sem, tK, encK_mk]) (by simp [closedA, closedP, closedC]) (by simp [closedT, closedP, closedC]) ?_
    simp only [go_sem, encK_mk, e0]
    refine callC (argsC := [tK (.mk sb nb kb)]) hwb rfl (by simp only [go_sem, tK, encK_mk]) (by simp [closedA, closedP, closedC]) (by simp [closedT, closedP, closedC]) ?_
    simp only [go_sem]
    refine callC hC rfl rfl (by simp [closedA, closedP, closedC]) (by simp [closedT, closedP, closedC]) ?_
    simp only [go_sem, List.length_map, encK_len, takeK, Nat.le_refl, hw, List.length_cons, List.length_nil]
  · simp only [go_sem, encK_mk, e0, e1]
    refine callC (argsC := [tK (.mk sa na ka)]) hwa rfl (by simp only [go_sem, tK, encK_mk]) (by simp [closedA, closedP, closedC]) (by simp [closedT, closedP, closedC]) ?_
    simp only [go_sem, encK_mk, e0, e1]
    refine callC (argsC := [tK (.mk sb nb kb)]) hwb rfl (by simp only [go_sem, tK, encK_mk]) (by simp [closedA, closedP, closedC]) (by simp [closedT, closedP, closedC]) ?_
    simp only [go_sem]
    refine callC hC rfl rfl (by simp [closedA, closedP, closedC]) (by simp [closedT, closedP, closedC]) ?_
    simp only [go_sem, List.length_map, encK_len, takeK, Nat.le_refl, hw, List.length_cons, List.length_nil]
theorem JR.diff {sa sb : Int} {na nb : List ByteArray} {ka kb : List Kd} (k : Kd) (h1 : sa ≠ 6) (h2 : sb ≠ 6) (h : sa ≠ sb) : JR (.mk sa na ka) (.mk sb nb kb) k false := by
  refine .inr ⟨rfl, fun k' hk => ?_⟩
  cases hk with
  | m _ _ _ h => simp [Kd.sort] at h; omega
  | l => exact h rfl
  | leaf => exact h rfl
  | f => exact h rfl
theorem k0_KB : KB 2000000 (.mk 0 [] []) := .mk _ _ _ (by simp) (by simp) (fun x hx => by cases hx) fun x hx => by cases hx
theorem encK_0 (s : Int) : encK (.mk s [] []) = [.s (.int .i64 s), .sl [], .sl []] := by simp [encK, encS, encKs]
theorem joinS_diff (sa sb : Int) (na nb : List ByteArray) (ka kb : List Kd) (h1 : sa ≠ 6) (h2 : sb ≠ 6) (h : sa ≠ sb) : JC 42 (.mk sa na ka) (.mk sb nb kb) := by
  refine ⟨.mk 0 [] [], false, JR.diff _ h1 h2 h, k0_KB, ?_⟩
  have e0 : (sa == 6) = false := by simpa using h1
  have e1 : (sb == 6) = false := by simpa using h2
  have e2 : (sa != sb) = true := by simpa using h
  refine ACallsF.intro ok42 follows fun X c0 => ?_
  simp only [go_sem, encK_mk, e0, e1, e2, encK_0]
def inv42z (s : Int) (_ : Nat) (σ : St) : Prop :=
  (∃ u, σ.t 2 = .c (.ptr 2 u 0) ∧ σ.H 2 = some (.var u 38 [.v (.s (.int .i64 s)), .v (.sl (encS [])), .v (.sl (encKs []))])) ∧ (∃ u, σ.t 3 = .c (.ptr 3 u 0) ∧ σ.H 3 = some (.var u 38 [.v (.s (.int .i64 s)), .v (.sl (encS [])), .v (.sl (encKs []))])) ∧
  (∃ u, σ.t 4 = .c (.ptr 4 u 0) ∧ σ.H 4 = some (.var u 38 [.v (.s (.int .i64 0)), .nil0, .nil0])) ∧ (∃ u, σ.t 8 = .c (.ptr 8 u 0) ∧ σ.H 8 = some (.var u 38 [.v (.s (.int .i64 s)), .nil0, .nil0])) ∧ σ.t 11 = .i 0 ∧ σ.t 12 = .i 0
theorem joinS_leaf (s : Int) (hs : s < 4) : JC 42 (.mk s [] []) (.mk s [] []) := by
  refine ⟨.mk s [] [], true, .inl ⟨rfl, .leaf s [] [] [] [] hs⟩, .mk _ _ _ (by simp) (by simp) (fun x hx => by cases hx) (fun x hx => by cases hx), ?_⟩
  have e0 : (s == 6) = false := by simp; omega
  have e2 : (s != s) = false := by simp
  have e4 : (s == 4) = false := by simp; omega
  have k0 : ¬ ((0 : Nat) : Int) < 0 := by omega
  refine ACallsF.intro ok42 follows fun X c0 => ?_
  simp only [go_sem, encK_mk, e0, e2, e4]
  refine AW.upto 0 (inv42z s) ⟨⟨_, rfl, rfl⟩, ⟨_, rfl, rfl⟩, ⟨_, rfl, rfl⟩, ⟨_, rfl, rfl⟩, rfl, rfl⟩ fun i t H c hi h => ?_
  obtain ⟨⟨u2, e2, eH2⟩, ⟨u3, e3, eH3⟩, ⟨u4, e4, eH4⟩, ⟨u8, e8, eH8⟩, e11, e12⟩ := h
  simp only [T.c, T.i] at e2 eH2 e3 eH3 e4 eH4 e8 eH8 e11 e12
  have q1 : (encS []).length = 0 := rfl
  simp only [go_sem, e2, eH2, e3, eH3, e4, eH4, e8, eH8, e11, e12, q1, Int.lt_irrefl, encK_0, Int.ofNat_zero, Int.natCast_zero]
theorem JR.list {na nb : List ByteArray} {ka kb : List Kd} {p q k : Kd} {ok : Bool} (hp : ka[0]? = some p) (hq : kb[0]? = some q) (hj : JR p q k ok) : JR (.mk 4 na ka) (.mk 4 nb kb) (.mk 4 [] [k]) ok := by
  rcases hj with ⟨h1, h2⟩ | ⟨h1, h2⟩
  · exact .inl ⟨h1, .l na ka nb kb p q k hp hq h2⟩
  · refine .inr ⟨h1, fun k' hk => ?_⟩
    cases hk with
    | m _ _ x h => simp [Kd.sort] at h
    | l _ _ _ _ p' q' x hp' hq' hx => rw [hp] at hp'; cases hp'; rw [hq] at hq'; cases hq'; exact h2 x hx
    | leaf s _ _ _ _ hs => omega
theorem joinS_list (na nb : List ByteArray) (ka kb : List Kd) (p q : Kd) (hp : ka[0]? = some p) (hq : kb[0]? = some q) (ih : JC 42 p q) : JC 42 (.mk 4 na ka) (.mk 4 nb kb) := by
  obtain ⟨k, ok, hj, hB, hC⟩ := ih
  refine ⟨.mk 4 [] [k], ok, hj.list hp hq, hB.may (by omega) 4, ?_⟩
  have hw : encK (.mk 4 [] [k]) = [.s (.int .i64 4), .sl [], .sl [encK k]] := by simp [encK, encS, encKs]
  have ep := encKs_at hp
  have eq := encKs_at hq
  have e2 : ((4 : Int) != 4) = false := rfl
  have e0 : ((4 : Int) == 6) = false := rfl
  refine ACallsF.intro ok42 follows fun X c0 => ?_
  simp only [go_sem, encK_mk, e0, e2, ep, eq, Int.toNat_zero, Int.le_refl, List.length_map, encK_len, takeK, Nat.le_refl]
  refine callC hC rfl rfl (by simp [closedA, closedP, closedC]) (by simp [closedT, closedP, closedC]) ?_
  simp only [go_sem, List.length_map, encK_len, takeK, Nat.le_refl, hw, List.length_cons, List.length_nil]
end Go.V
set_option linter.unusedSimpArgs false
namespace Go.V
open Go.Proofs
def JP (na : List ByteArray) (ka : List Kd) (nb : List ByteArray) (kb : List Kd) (i : Nat) (y : Kd) : Prop :=
  ∃ x, (mrg na nb)[i]? = some x ∧ (∀ p q, kid na ka x = some p → kid nb kb x = some q → Jn p q y) ∧ (∀ p, kid na ka x = some p → kid nb kb x = none → y = opt p) ∧ ∀ q, kid na ka x = none → kid nb kb x = some q → y = opt q
def Bad (na : List ByteArray) (ka : List Kd) (nb : List ByteArray) (kb : List Kd) (i : Nat) : Prop := ∃ x p q, (mrg na nb)[i]? = some x ∧ kid na ka x = some p ∧ kid nb kb x = some q ∧ ∀ y, ¬ Jn p q y
theorem least' {P : Nat → Prop} (n : Nat) : (∀ i, i < n → ¬ P i) ∨ ∃ i, i < n ∧ P i ∧ ∀ j, j < i → ¬ P j := by
  induction n with
  | zero => exact .inl fun i hi => absurd hi (Nat.not_lt_zero i)
  | succ n ih =>
    rcases ih with h | ⟨i, h1, h2, h3⟩
    · by_cases hn : P n
      · exact .inr ⟨n, by omega, hn, h⟩
      · refine .inl fun i hi => ?_
        by_cases e : i = n
        · rw [e]; exact hn
        · exact h i (by omega)
    · exact .inr ⟨i, by omega, h2, h3⟩
/-- How far the two are put together. -/
theorem join_plan (na nb : List ByteArray) (ka kb : List Kd) (hna : na.length ≤ ka.length) (hnb : nb.length ≤ kb.length) :
    ∃ ks : List Kd, (∀ i, i < ks.length → ∃ y, ks[i]? = some y ∧ JP na ka nb kb i y) ∧ ((ks.length = (mrg na nb).length ∧ Jn (.mk 5 na ka) (.mk 5 nb kb) (.mk 5 (mrg na nb) ks)) ∨ (ks.length < (mrg na nb).length ∧ Bad na ka nb kb ks.length ∧ ∀ k, ¬ Jn (.mk 5 na ka) (.mk 5 nb kb) k)) := by
  have one : ∀ i, i < (mrg na nb).length → ¬ Bad na ka nb kb i → ∃ y, JP na ka nb kb i y := fun i hi hB => by
    obtain ⟨x, hx⟩ : ∃ x, (mrg na nb)[i]? = some x := ⟨_, List.getElem?_eq_getElem hi⟩
    cases hp : kid na ka x with
    | some p => cases hq : kid nb kb x with
      | some q =>
        by_cases h : ∃ y, Jn p q y
        · obtain ⟨y, hy⟩ := h
          exact ⟨y, x, hx, (fun p' q' e1 e2 => by rw [hp] at e1; rw [hq] at e2; cases e1; cases e2; exact hy), (fun p' _ e => by rw [hq] at e; cases e), (fun q' e => by rw [hp] at e; cases e)⟩
        · exact absurd ⟨x, p, q, hx, hp, hq, fun y hy => h ⟨y, hy⟩⟩ hB
      | none => exact ⟨opt p, x, hx, (fun p' q' _ e => by rw [hq] at e; cases e), (fun p' e _ => by rw [hp] at e; cases e; rfl), (fun q' e => by rw [hp] at e; cases e)⟩
    | none => cases hq : kid nb kb x with
      | some q => exact ⟨opt q, x, hx, (fun p' q' e => by rw [hp] at e; cases e), (fun p' e => by rw [hp] at e; cases e), (fun q' _ e => by rw [hq] at e; cases e; rfl)⟩
      | none =>
        rcases kid_mrg hna hnb hx with ⟨p, h⟩ | ⟨q, h⟩
        · rw [hp] at h; cases h
        · rw [hq] at h; cases h
  have sp : ∀ {ks : List Kd} {i : Nat} {x : ByteArray} {y : Kd}, (∀ i, i < ks.length → ∃ y, ks[i]? = some y ∧ JP na ka nb kb i y) → (mrg na nb)[i]? = some x → ks[i]? = some y → (∀ p q, kid na ka x = some p → kid nb kb x = some q → Jn p q y) ∧ (∀ p, kid na ka x = some p → kid nb kb x = none → y = opt p) ∧ ∀ q, kid na ka x = none → kid nb kb x = some q → y = opt q := fun h hx hy => by
    obtain ⟨y', e, x', g1, g2⟩ := h _ (List.getElem?_eq_some_iff.1 hy).1
    rw [hy] at e; cases e
    rw [hx] at g1; cases g1
    exact g2
  rcases least' (P := Bad na ka nb kb) (mrg na nb).length with h | ⟨M, h1, h2, h3⟩
  · obtain ⟨ks, hl, hks⟩ := choose_list (JP na ka nb kb) (mrg na nb).length fun i hi => one i hi (h i hi)
    have hks' : ∀ i, i < ks.length → ∃ y, ks[i]? = some y ∧ JP na ka nb kb i y := fun i hi => hks i (by omega)
    exact ⟨ks, hks', .inl ⟨hl, .f na ka nb kb ks hna hnb hl (fun i x y p q hx hy => (sp hks' hx hy).1 p q) (fun i x y p hx hy => (sp hks' hx hy).2.1 p) fun i x y q hx hy => (sp hks' hx hy).2.2 q⟩⟩
  · obtain ⟨ks, hl, hks⟩ := choose_list (JP na ka nb kb) M fun i hi => one i (by omega) (h3 i hi)
    refine ⟨ks, fun i hi => hks i (by omega), .inr ⟨by omega, by rw [hl]; exact h2, fun k hk => ?_⟩⟩
    cases hk with
    | m _ _ x h => simp [Kd.sort] at h
    | leaf s _ _ _ _ hs => omega
    | f _ _ _ _ ks' _ _ hl' g1 g2 g3 =>
      obtain ⟨x, p, q, hx, hp, hq, hn⟩ := h2
      obtain ⟨y, hy⟩ : ∃ y, ks'[M]? = some y := ⟨_, List.getElem?_eq_getElem (by omega)⟩
      exact hn y (g1 M x y p q hx hy hp hq)
def S66 (na : List ByteArray) (ka : List Kd) (nb : List ByteArray) (kb : List Kd) (ks : List Kd) (m i j : Nat) (σ : St) : Prop :=
  (∃ u, σ.t 2 = .c (.ptr 2 u 0) ∧ σ.H 2 = some (.var u 38 [.v (.s (.int .i64 5)), .v (.sl (encS na)), .v (.sl (encKs ka))])) ∧ (∃ u, σ.t 3 = .c (.ptr 3 u 0) ∧ σ.H 3 = some (.var u 38 [.v (.s (.int .i64 5)), .v (.sl (encS nb)), .v (.sl (encKs kb))])) ∧
  (∃ u, σ.t 4 = .c (.ptr 4 u 0) ∧ σ.H 4 = some (.var u 38 [.v (.s (.int .i64 0)), .nil0, .nil0])) ∧
  (∃ u a b, σ.t 8 = .c (.ptr 8 u 0) ∧ σ.H 8 = some (.var u 38 [.v (.s (.int .i64 5)), .own 2005 a m, .own 2004 b m]) ∧ σ.H 2005 = some (.arr a true 1 9 (encS ((mrg na nb).take m))) ∧ σ.H 2004 = some (.arr b true 3 38 (encKs (ks.take m)))) ∧
  σ.t 11 = .i i ∧ σ.t 12 = .i j
theorem take_at {α : Type} {l : List α} {m : Nat} {x : α} (h : l[m]? = some x) : l.take (m + 1) = l.take m ++ [x] := by rw [List.take_add_one, h]; rfl
theorem j66_a {na nb : List ByteArray} {ka kb ks : List Kd} {m i j : Nat} {x : ByteArray} {k : Kd} (hn : na.length ≤ 2000000) (hb : nb.length ≤ 2000000) (hm : m < ks.length) (hmn : m < (mrg na nb).length) (hi : na[i]? = some x) (hk : ka[i]? = some k) (hB : KB 2000000 k)
    (hj : nb.length ≤ j ∨ ∃ y, nb[j]? = some y ∧ less x y = true) (hmx : (mrg na nb)[m]? = some x) (hks : ks[m]? = some (opt k)) {X : Ctx} {Q : Exit → St → Prop} {t : Nat → T} {H : HMap} {c : Nat} (hS : S66 na ka nb kb ks m i j ⟨t, H, c⟩) {A : St → Prop} (hA : ∀ σ, S66 na ka nb kb ks (m + 1) (i + 1) j σ → A σ) :
    wpa Try.prog X (ok42.sub [1, 1, 1, 1, 1, 1, 1, 0, 0, 0]) (thenA A Q) ⟨t, H, c⟩ := by
  dsimp only [okF.sub, ACode.sub]
  obtain ⟨⟨u2, e2, eH2⟩, ⟨u3, e3, eH3⟩, ⟨u4, e4, eH4⟩, ⟨u8, a, b, e8, eH8, eHa, eHb⟩, e11, e12⟩ := hS
  simp only [T.c, T.i] at e2 eH2 e3 eH3 e4 eH4 e8 eH8 eHa eHb e11 e12
  have hlen := mrg_len na nb
  have l1 : (encS ((mrg na nb).take m)).length = m := by rw [encS_len, List.length_take]; omega
  have l2 : (encKs (ks.take m)).length = m := by rw [encKs_len, List.length_take]; omega
  have t1 : List.take m (encS ((mrg na nb).take m)) = encS ((mrg na nb).take m) := List.take_of_length_le (by omega)
  have t2 : List.take m (encKs (ks.take m)) = encKs (ks.take m) := List.take_of_length_le (by omega)
  have hil := (List.getElem?_eq_some_iff.1 hi).1
  have g1 : (i : Int) < na.length := by omega
  have g1' : ¬ (i : Int) ≥ na.length := by omega
  have gz : (0 : Int) ≤ i := by omega
  have gw : IntKind.i64.wrap ((i : Int) + 1) = ((i + 1 : Nat) : Int) := wrap64 (x := (i : Int) + 1) ⟨by omega, by omega⟩
  have q1 : (m + 1) * 16 ≤ 140737488355328 := by omega
  have q3 : (m + 1) * 56 ≤ 140737488355328 := by omega
  have q4 : m + 1 ≤ 9223372036854775807 := by omega
  have ei := encS_at hi
  have ek := encKs_at hk
  have n1 : encS ((mrg na nb).take (m + 1)) = encS ((mrg na nb).take m) ++ [[.s (.string x)]] := by rw [take_at hmx]; exact encS_snoc _ _
  have n2 : encKs (ks.take (m + 1)) = encKs (ks.take m) ++ [encK (opt k)] := by rw [take_at hks]; exact encKs_snoc _ _
  rcases hj with hj | ⟨y, hy, hxy⟩
  · have g2 : (j : Int) ≥ nb.length := by omega
    simp only [go_sem, e2, eH2, e3, eH3, e8, eH8, eHa, eHb, e11, e12, encS_len, g1, g2, gz, Int.toNat_natCast, ei, ek, l1, t1, q1, q4, List.length_cons, List.length_nil, List.length_map, encK_len, encKs_len, takeK, Nat.le_refl]
    refine callC (optS_ok k hB) rfl rfl (by simp [closedA, closedP, closedC]) (by simp [closedT, closedP, closedC]) ?_
    simp only [go_sem, e8, e11, eHb, l2, t2, q3, q4, gw, encK_len, encKs_len, List.length_cons, List.length_nil]
    refine hA _ ?_
    unfold S66
    rw [n1, n2]
    exact ⟨⟨u2, e2, eH2⟩, ⟨u3, e3, eH3⟩, ⟨u4, e4, eH4⟩, ⟨u8, _, _, e8, rfl, rfl, rfl⟩, rfl, e12⟩
  · have hjl := (List.getElem?_eq_some_iff.1 hy).1
    have g2 : ¬ (j : Int) ≥ nb.length := by omega
    have gj : (j : Int) < nb.length := by omega
    have gy : (0 : Int) ≤ j := by omega
    have ey := encS_at hy
    have hxy' : Op.bytesLess x.toList y.toList = true := hxy
    simp only [go_sem, e2, eH2, e3, eH3, e8, eH8, eHa, eHb, e11, e12, encS_len, g1, g2, gz, gy, Int.toNat_natCast, ei, ek, ey, sStr, hxy', l1, t1, q1, q4, List.length_cons, List.length_nil, List.length_map, encK_len, encKs_len, takeK, Nat.le_refl]
    refine callC (optS_ok k hB) rfl rfl (by simp [closedA, closedP, closedC]) (by simp [closedT, closedP, closedC]) ?_
    simp only [go_sem, e8, e11, eHb, l2, t2, q3, q4, gw, encK_len, encKs_len, List.length_cons, List.length_nil]
    refine hA _ ?_
    unfold S66
    rw [n1, n2]
    exact ⟨⟨u2, e2, eH2⟩, ⟨u3, e3, eH3⟩, ⟨u4, e4, eH4⟩, ⟨u8, _, _, e8, rfl, rfl, rfl⟩, rfl, e12⟩
set_option maxRecDepth 10000 in
theorem j66_b {na nb : List ByteArray} {ka kb ks : List Kd} {m i j : Nat} {y : ByteArray} {k : Kd} (hn : na.length ≤ 2000000) (hb : nb.length ≤ 2000000) (hm : m < ks.length) (hmn : m < (mrg na nb).length) (hj : nb[j]? = some y) (hk : kb[j]? = some k) (hB : KB 2000000 k)
    (hi : na.length ≤ i ∨ ∃ x, na[i]? = some x ∧ less y x = true) (hmx : (mrg na nb)[m]? = some y) (hks : ks[m]? = some (opt k)) {X : Ctx} {Q : Exit → St → Prop} {t : Nat → T} {H : HMap} {c : Nat} (hS : S66 na ka nb kb ks m i j ⟨t, H, c⟩) {A : St → Prop} (hA : ∀ σ, S66 na ka nb kb ks (m + 1) i (j + 1) σ → A σ) :
    wpa Try.prog X (ok42.sub [1, 1, 1, 1, 1, 1, 1, 0, 0, 0]) (thenA A Q) ⟨t, H, c⟩ := by
  dsimp only [okF.sub, ACode.sub]
  obtain ⟨⟨u2, e2, eH2⟩, ⟨u3, e3, eH3⟩, ⟨u4, e4, eH4⟩, ⟨u8, a, b, e8, eH8, eHa, eHb⟩, e11, e12⟩ := hS
  simp only [T.c, T.i] at e2 eH2 e3 eH3 e4 eH4 e8 eH8 eHa eHb e11 e12
  have hlen := mrg_len na nb
  have l1 : (encS ((mrg na nb).take m)).length = m := by rw [encS_len, List.length_take]; omega
  have l2 : (encKs (ks.take m)).length = m := by rw [encKs_len, List.length_take]; omega
  have t1 : List.take m (encS ((mrg na nb).take m)) = encS ((mrg na nb).take m) := List.take_of_length_le (by omega)
  have t2 : List.take m (encKs (ks.take m)) = encKs (ks.take m) := List.take_of_length_le (by omega)
  have hjl := (List.getElem?_eq_some_iff.1 hj).1
  have gj : (j : Int) < nb.length := by omega
  have g2 : ¬ (j : Int) ≥ nb.length := by omega
  have gy : (0 : Int) ≤ j := by omega
  have gw : IntKind.i64.wrap ((j : Int) + 1) = ((j + 1 : Nat) : Int) := wrap64 (x := (j : Int) + 1) ⟨by omega, by omega⟩
  have q1 : (m + 1) * 16 ≤ 140737488355328 := by omega
  have q3 : (m + 1) * 56 ≤ 140737488355328 := by omega
  have q4 : m + 1 ≤ 9223372036854775807 := by omega
  have ey := encS_at hj
  have ek := encKs_at hk
  have n1 : encS ((mrg na nb).take (m + 1)) = encS ((mrg na nb).take m) ++ [[.s (.string y)]] := by rw [take_at hmx]; exact encS_snoc _ _
  have n2 : encKs (ks.take (m + 1)) = encKs (ks.take m) ++ [encK (opt k)] := by rw [take_at hks]; exact encKs_snoc _ _
  rcases hi with hi | ⟨x, hi, hxy⟩
  · have g1 : ¬ (i : Int) < na.length := by omega
    have g1' : (i : Int) ≥ na.length := by omega
    simp only [go_sem, e2, eH2, e3, eH3, e8, eH8, eHa, eHb, e11, e12, encS_len, g1, g1', gj, g2, gy, Int.toNat_natCast, ek, ey, l1, t1, q1, q4, List.length_cons, List.length_nil, List.length_map, encK_len, encKs_len, takeK, Nat.le_refl]
    refine callC (optS_ok k hB) rfl rfl (by simp [closedA, closedP, closedC]) (by simp [closedT, closedP, closedC]) ?_
    simp only [go_sem, e8, e12, eHb, l2, t2, q3, q4, gw, encK_len, encKs_len, List.length_cons, List.length_nil]
    refine hA _ ?_
    unfold S66
    rw [n1, n2]
    exact ⟨⟨u2, e2, eH2⟩, ⟨u3, e3, eH3⟩, ⟨u4, e4, eH4⟩, ⟨u8, _, _, e8, rfl, rfl, rfl⟩, e11, rfl⟩
  · have hil := (List.getElem?_eq_some_iff.1 hi).1
    have g1 : (i : Int) < na.length := by omega
    have g1' : ¬ (i : Int) ≥ na.length := by omega
    have gz : (0 : Int) ≤ i := by omega
    have ei := encS_at hi
    have hxy1 : Op.bytesLess x.toList y.toList = false := less_asymm hxy
    have hxy2 : (x.toList == y.toList) = false := by
      rw [str_beq]
      refine decide_eq_false fun e => ?_
      rw [e, less_irrefl] at hxy; cases hxy
    simp only [go_sem, e2, eH2, e3, eH3, e8, eH8, eHa, eHb, e11, e12, encS_len, g1, g1', gj, g2, gz, gy, Int.toNat_natCast, ei, ek, ey, sStr, hxy1, hxy2, l1, t1, q1, q4, List.length_cons, List.length_nil, List.length_map, encK_len, encKs_len, takeK, Nat.le_refl]
    refine callC (optS_ok k hB) rfl rfl (by simp [closedA, closedP, closedC]) (by simp [closedT, closedP, closedC]) ?_
    simp only [go_sem, e8, e12, eHb, l2, t2, q3, q4, gw, encK_len, encKs_len, List.length_cons, List.length_nil]
    refine hA _ ?_
    unfold S66
    rw [n1, n2]
    exact ⟨⟨u2, e2, eH2⟩, ⟨u3, e3, eH3⟩, ⟨u4, e4, eH4⟩, ⟨u8, _, _, e8, rfl, rfl, rfl⟩, e11, rfl⟩
theorem j66_c {na nb : List ByteArray} {ka kb ks : List Kd} {m i j : Nat} {x : ByteArray} {p q k : Kd} (hn : na.length ≤ 2000000) (hb : nb.length ≤ 2000000) (hm : m < ks.length) (hmn : m < (mrg na nb).length) (hi : na[i]? = some x) (hj : nb[j]? = some x) (hp : ka[i]? = some p) (hq : kb[j]? = some q)
    (hC : ACallsF Try.prog 42 [tK p, tK q] [] (tKB (k, true))) (hmx : (mrg na nb)[m]? = some x) (hks : ks[m]? = some k) {X : Ctx} {Q : Exit → St → Prop} {t : Nat → T} {H : HMap} {c : Nat} (hS : S66 na ka nb kb ks m i j ⟨t, H, c⟩) {A : St → Prop} (hA : ∀ σ, S66 na ka nb kb ks (m + 1) (i + 1) (j + 1) σ → A σ) :
    wpa Try.prog X (ok42.sub [1, 1, 1, 1, 1, 1, 1, 0, 0, 0]) (thenA A Q) ⟨t, H, c⟩ := by
  dsimp only [okF.sub, ACode.sub]
  obtain ⟨⟨u2, e2, eH2⟩, ⟨u3, e3, eH3⟩, ⟨u4, e4, eH4⟩, ⟨u8, a, b, e8, eH8, eHa, eHb⟩, e11, e12⟩ := hS
  simp only [T.c, T.i] at e2 eH2 e3 eH3 e4 eH4 e8 eH8 eHa eHb e11 e12
  have hlen := mrg_len na nb
  have l1 : (encS ((mrg na nb).take m)).length = m := by rw [encS_len, List.length_take]; omega
  have l2 : (encKs (ks.take m)).length = m := by rw [encKs_len, List.length_take]; omega
  have t1 : List.take m (encS ((mrg na nb).take m)) = encS ((mrg na nb).take m) := List.take_of_length_le (by omega)
  have t2 : List.take m (encKs (ks.take m)) = encKs (ks.take m) := List.take_of_length_le (by omega)
  have hil := (List.getElem?_eq_some_iff.1 hi).1
  have hjl := (List.getElem?_eq_some_iff.1 hj).1
  have g1 : (i : Int) < na.length := by omega
  have g1' : ¬ (i : Int) ≥ na.length := by omega
  have gz : (0 : Int) ≤ i := by omega
  have gj : (j : Int) < nb.length := by omega
  have g2 : ¬ (j : Int) ≥ nb.length := by omega
  have gy : (0 : Int) ≤ j := by omega
  have gw : IntKind.i64.wrap ((i : Int) + 1) = ((i + 1 : Nat) : Int) := wrap64 (x := (i : Int) + 1) ⟨by omega, by omega⟩
  have gw2 : IntKind.i64.wrap ((j : Int) + 1) = ((j + 1 : Nat) : Int) := wrap64 (x := (j : Int) + 1) ⟨by omega, by omega⟩
  have q1 : (m + 1) * 16 ≤ 140737488355328 := by omega
  have q3 : (m + 1) * 56 ≤ 140737488355328 := by omega
  have q4 : m + 1 ≤ 9223372036854775807 := by omega
  have ei := encS_at hi
  have ey := encS_at hj
  have ep := encKs_at hp
  have eq := encKs_at hq
  have hxx1 : Op.bytesLess x.toList x.toList = false := bl_irrefl _
  have hxx2 : (x.toList == x.toList) = true := by rw [str_beq]; simp
  have n1 : encS ((mrg na nb).take (m + 1)) = encS ((mrg na nb).take m) ++ [[.s (.string x)]] := by rw [take_at hmx]; exact encS_snoc _ _
  have n2 : encKs (ks.take (m + 1)) = encKs (ks.take m) ++ [encK k] := by rw [take_at hks]; exact encKs_snoc _ _
  simp only [go_sem, e2, eH2, e3, eH3, e8, eH8, e11, e12, encS_len, g1, g1', gj, g2, gz, gy, Int.toNat_natCast, ei, ey, ep, eq, sStr, hxx1, hxx2, List.length_map, encK_len, encKs_len, takeK, Nat.le_refl]
  refine callC hC rfl rfl (by simp [closedA, closedP, closedC]) (by simp [closedT, closedP, closedC]) ?_
  simp only [go_sem, e2, eH2, e8, eH8, e11, e12, eHa, eHb, gz, ei, Int.toNat_natCast, l1, t1, l2, t2, q1, q3, q4, gw, gw2, encK_len, encKs_len, encS_len, List.length_cons, List.length_nil, List.length_map, takeK, Nat.le_refl]
  refine hA _ ?_
  unfold S66
  rw [n1, n2]
  exact ⟨⟨u2, e2, eH2⟩, ⟨u3, e3, eH3⟩, ⟨u4, e4, eH4⟩, ⟨u8, _, _, e8, rfl, rfl, rfl⟩, rfl, rfl⟩
end Go.V
set_option linter.unusedSimpArgs false
namespace Go.V
open Go.Proofs
def I66 (na : List ByteArray) (ka : List Kd) (nb : List ByteArray) (kb : List Kd) (ks : List Kd) (m : Nat) (σ : St) : Prop := ∃ i j, MR na nb m i j ∧ S66 na ka nb kb ks m i j σ
theorem JP.at {na nb : List ByteArray} {ka kb ks : List Kd} {i : Nat} {x : ByteArray} (h : ∀ i, i < ks.length → ∃ y, ks[i]? = some y ∧ JP na ka nb kb i y) (hi : i < ks.length) (hx : (mrg na nb)[i]? = some x) :
    ∃ y, ks[i]? = some y ∧ (∀ p q, kid na ka x = some p → kid nb kb x = some q → Jn p q y) ∧ (∀ p, kid na ka x = some p → kid nb kb x = none → y = opt p) ∧ ∀ q, kid na ka x = none → kid nb kb x = some q → y = opt q := by
  obtain ⟨y, hy, x', g1, g2⟩ := h i hi
  rw [hx] at g1; cases g1
  exact ⟨y, hy, g2⟩
set_option maxRecDepth 10000 in
theorem joinS_form (na nb : List ByteArray) (ka kb : List Kd) (hla : na.length = ka.length) (hlb : nb.length = kb.length) (hra : RiseP na) (hrb : RiseP nb) (hBa : KB 1000 (.mk 5 na ka)) (hBb : KB 1000 (.mk 5 nb kb)) (ih : ∀ p ∈ ka, ∀ q ∈ kb, JC 42 p q) :
    JC 42 (.mk 5 na ka) (.mk 5 nb kb) := by
  obtain ⟨a1, a2, a3, a4⟩ := hBa.inv
  obtain ⟨b1, b2, b3, b4⟩ := hBb.inv
  obtain ⟨ks, hks, hend⟩ := join_plan na nb ka kb (Nat.le_of_eq hla) (Nat.le_of_eq hlb)
  have hlen := mrg_len na nb
  let R : Kd × Bool := if ks.length = (mrg na nb).length then (.mk 5 (mrg na nb) ks, true) else (.mk 0 [] [], false)
  have hR : JR (.mk 5 na ka) (.mk 5 nb kb) R.1 R.2 ∧ KB 2000000 R.1 := by
    rcases hend with ⟨h1, h2⟩ | ⟨h1, -, h2⟩
    · simp only [R, if_pos h1]
      exact ⟨.inl ⟨rfl, h2⟩, (jn_KB h2 hBa hBb).le (by omega)⟩
    · simp only [R, if_neg (Nat.ne_of_lt h1)]
      exact ⟨.inr ⟨rfl, h2⟩, k0_KB⟩
  refine ⟨R.1, R.2, hR.1, hR.2, ?_⟩
  have e0 : ((5 : Int) == 6) = false := rfl
  have e2 : ((5 : Int) != 5) = false := rfl
  have e4 : ((5 : Int) == 4) = false := rfl
  have hle : ks.length ≤ (mrg na nb).length := by rcases hend with h | h <;> omega
  refine ACallsF.intro ok42 follows fun X c0 => ?_
  simp only [go_sem, encK_mk, e0, e2, e4]
  refine AW.reify 8 1 2005 1 9 rfl rfl rfl (by decide) ?_
  refine AW.reify 8 2 2004 3 38 rfl rfl rfl (by decide) ?_
  refine AW.upto ks.length (I66 na ka nb kb ks) ⟨0, 0, MR.zero na nb, ⟨_, rfl, rfl⟩, ⟨_, rfl, rfl⟩, ⟨_, rfl, rfl⟩, ⟨_, _, _, rfl, rfl, rfl, rfl⟩, rfl, rfl⟩ fun m t H c hm h => ?_
  obtain ⟨i, j, hM, hS⟩ := h
  have hmore := hM.more
  by_cases hlt : m < (mrg na nb).length
  · obtain ⟨x, hx⟩ : ∃ x, (mrg na nb)[m]? = some x := ⟨_, List.getElem?_eq_getElem hlt⟩
    have stop : m = ks.length → ∃ p q, kid na ka x = some p ∧ kid nb kb x = some q ∧ (∀ y, ¬ Jn p q y) := fun e => by
      rcases hend with ⟨h1, h2⟩ | ⟨h1, ⟨x', p, q, g1, g2, g3, g4⟩, -⟩
      · omega
      · subst e
        rw [hx] at g1; cases g1
        exact ⟨p, q, g2, g3, g4⟩
    have kida : ∀ {i : Nat} {k : Kd}, na[i]? = some x → ka[i]? = some k → kid na ka x = some k := fun h1 h2 => kid_in hra h1 h2
    have kidb : ∀ {i : Nat} {k : Kd}, nb[i]? = some x → kb[i]? = some k → kid nb kb x = some k := fun h1 h2 => kid_in hrb h1 h2
    have noa : (∀ t : Nat, na[t]? ≠ some x) → kid na ka x = none := fun h => kid_none h
    have nob : (∀ t : Nat, nb[t]? ≠ some x) → kid nb kb x = none := fun h => kid_none h
    have caseA : ∀ (Q : Exit → St → Prop) (x' : ByteArray), na[i]? = some x' → (∀ y, nb[j]? = some y → less x' y = true) → wpa Try.prog X (ok42.sub [1, 1, 1, 1, 1, 1, 1, 0, 0, 0]) (thenA (fun σ => m < ks.length ∧ I66 na ka nb kb ks (m + 1) σ) Q) ⟨t, H, c⟩ := fun Q x' hi hl => by
      obtain ⟨g1, g2, g3⟩ := hM.a hra hrb hi hl
      rw [hx] at g1; cases g1
      obtain ⟨k, hk⟩ := at_len hla hi
      have hmk : m < ks.length := by
        rcases Nat.lt_or_ge m ks.length with h | h
        · exact h
        · obtain ⟨p, q, _, h2, _⟩ := stop (by omega)
          rw [nob g2] at h2; cases h2
      obtain ⟨y, hy, _, y2, _⟩ := JP.at hks hmk hx
      have := y2 k (kida hi hk) (nob g2)
      subst this
      exact j66_a (by omega) (by omega) hmk hlt hi hk ((a4 _ (List.mem_of_getElem? hk)).le (by omega)) (by
        rcases Nat.lt_or_ge j nb.length with h | h
        · exact .inr ⟨_, List.getElem?_eq_getElem h, hl _ (List.getElem?_eq_getElem h)⟩
        · exact .inl h) hx hy hS fun σ hσ => ⟨hmk, _, _, g3, hσ⟩
    have caseB : ∀ (Q : Exit → St → Prop) (x' : ByteArray), nb[j]? = some x' → (∀ y, na[i]? = some y → less x' y = true) → wpa Try.prog X (ok42.sub [1, 1, 1, 1, 1, 1, 1, 0, 0, 0]) (thenA (fun σ => m < ks.length ∧ I66 na ka nb kb ks (m + 1) σ) Q) ⟨t, H, c⟩ := fun Q x' hj hl => by
      obtain ⟨g1, g2, g3⟩ := hM.b hra hrb hj hl
      rw [hx] at g1; cases g1
      obtain ⟨k, hk⟩ := at_len hlb hj
      have hmk : m < ks.length := by
        rcases Nat.lt_or_ge m ks.length with h | h
        · exact h
        · obtain ⟨p, q, h2, _, _⟩ := stop (by omega)
          rw [noa g2] at h2; cases h2
      obtain ⟨y, hy, _, _, y2⟩ := JP.at hks hmk hx
      have := y2 k (noa g2) (kidb hj hk)
      subst this
      exact j66_b (by omega) (by omega) hmk hlt hj hk ((b4 _ (List.mem_of_getElem? hk)).le (by omega)) (by
        rcases Nat.lt_or_ge i na.length with h | h
        · exact .inr ⟨_, List.getElem?_eq_getElem h, hl _ (List.getElem?_eq_getElem h)⟩
        · exact .inl h) hx hy hS fun σ hσ => ⟨hmk, _, _, g3, hσ⟩
    cases hi : na[i]? with
    | none =>
      have hil := List.getElem?_eq_none_iff.1 hi
      have hjl : j < nb.length := by rcases hmore.1 hlt with h | h; omega; exact h
      exact caseB _ _ (List.getElem?_eq_getElem hjl) fun y hy => by rw [hi] at hy; cases hy
    | some u =>
      cases hj : nb[j]? with
      | none => exact caseA _ u hi fun y hy => by rw [hj] at hy; cases hy
      | some v =>
        cases h1 : less u v with
        | true => exact caseA _ u hi fun y hy => by rw [hj] at hy; cases hy; exact h1
        | false =>
          cases h2 : less v u with
          | true => exact caseB _ v hj fun y hy => by rw [hi] at hy; cases hy; exact h2
          | false =>
            cases less_tri h1 h2
            obtain ⟨g1, g3⟩ := hM.c hra hrb hi hj
            rw [hx] at g1; cases g1
            obtain ⟨p, hp⟩ := at_len hla hi
            obtain ⟨q, hq⟩ := at_len hlb hj
            obtain ⟨k, ok, hJ, hKB, hC⟩ := ih p (List.mem_of_getElem? hp) q (List.mem_of_getElem? hq)
            rcases Nat.lt_or_ge m ks.length with hmk | hmk
            · obtain ⟨y, hy, y2, _⟩ := JP.at hks hmk hx
              have hJy := y2 p q (kida hi hp) (kidb hj hq)
              rcases hJ with ⟨rfl, hJ⟩ | ⟨_, hJ⟩
              · cases jn_det hJ y hJy
                exact j66_c (by omega) (by omega) hmk hlt hi hj hp hq hC hx hy hS fun σ hσ => ⟨hmk, _, _, g3, hσ⟩
              · exact absurd hJy (hJ y)
            · obtain ⟨p', q', z1, z2, z3⟩ := stop (by omega)
              rw [kida hi hp] at z1; cases z1
              rw [kidb hj hq] at z2; cases z2
              rcases hJ with ⟨rfl, hJ⟩ | ⟨rfl, hJ⟩
              · exact absurd hJ (z3 k)
              have hne : ¬ ks.length = (mrg na nb).length := by omega
              have hR2 : R = (.mk 0 [] [], false) := by simp only [R, if_neg hne]
              rw [hR2]
              obtain ⟨⟨u2, e2, eH2⟩, ⟨u3, e3, eH3⟩, ⟨u4, e4, eH4⟩, ⟨u8, a, b, e8, eH8, eHa, eHb⟩, e11, e12⟩ := hS
              simp only [T.c, T.i] at e2 eH2 e3 eH3 e4 eH4 e8 eH8 eHa eHb e11 e12
              have hil := (List.getElem?_eq_some_iff.1 hi).1
              have hjl := (List.getElem?_eq_some_iff.1 hj).1
              have g1 : (i : Int) < na.length := by omega
              have g1' : ¬ (i : Int) ≥ na.length := by omega
              have gz : (0 : Int) ≤ i := by omega
              have gj : (j : Int) < nb.length := by omega
              have g2 : ¬ (j : Int) ≥ nb.length := by omega
              have gy : (0 : Int) ≤ j := by omega
              have ei := encS_at hi
              have ey := encS_at hj
              have ep := encKs_at hp
              have eq := encKs_at hq
              have hxx1 : Op.bytesLess x.toList x.toList = false := bl_irrefl _
              have hxx2 : (x.toList == x.toList) = true := by rw [str_beq]; simp
              simp only [go_sem, e2, eH2, e3, eH3, e8, eH8, e11, e12, encS_len, g1, g1', gj, g2, gz, gy, Int.toNat_natCast, ei, ey, ep, eq, sStr, hxx1, hxx2, List.length_map, encK_len, encKs_len, takeK, Nat.le_refl]
              refine callC hC rfl rfl (by simp [closedA, closedP, closedC]) (by simp [closedT, closedP, closedC]) ?_
              simp only [go_sem, e4, eH4, List.length_map, encK_len, takeK, Nat.le_refl, encK_0]
  · have hmE : m = (mrg na nb).length := by omega
    have hkE : ks.length = (mrg na nb).length := by omega
    have hno := _root_.mt hmore.2 hlt
    have hR2 : R = (.mk 5 (mrg na nb) ks, true) := by simp only [R, if_pos hkE]
    rw [hR2]
    obtain ⟨⟨u2, e2, eH2⟩, ⟨u3, e3, eH3⟩, ⟨u4, e4, eH4⟩, ⟨u8, a, b, e8, eH8, eHa, eHb⟩, e11, e12⟩ := hS
    simp only [T.c, T.i] at e2 eH2 e3 eH3 e4 eH4 e8 eH8 eHa eHb e11 e12
    have g1 : ¬ (i : Int) < na.length := fun h => hno (.inl (by omega))
    have g2 : ¬ (j : Int) < nb.length := fun h => hno (.inr (by omega))
    have r1 : (mrg na nb).take m = mrg na nb := List.take_of_length_le (by omega)
    have r2 : ks.take m = ks := List.take_of_length_le (by omega)
    rw [r1] at eHa
    rw [r2] at eHb
    have w1 : List.take m (encS (mrg na nb)) = encS (mrg na nb) := List.take_of_length_le (by rw [encS_len]; omega)
    have w2 : List.take m (encKs ks) = encKs ks := List.take_of_length_le (by rw [encKs_len]; omega)
    have w3 : m ≤ (mrg na nb).length := by omega
    have w4 : m ≤ ks.length := by omega
    simp only [go_sem, e2, eH2, e3, eH3, e4, eH4, e8, eH8, eHa, eHb, e11, e12, encS_len, encKs_len, g1, g2, w1, w2, w3, w4, encK_mk, List.length_map, encK_len, takeK, Nat.le_refl]
end Go.V
set_option linter.unusedSimpArgs false
set_option maxRecDepth 20000
namespace Go.V
open Go.Proofs
theorem join_rec (R : Kd → Kd → Prop)
    (hm : ∀ (a b : Kd) (da db : Nat), KOk da a → KOk db b → (a.sort = 6 ∨ b.sort = 6) → R (bare a) (bare b) → R a b)
    (hd : ∀ (sa sb : Int) (na nb : List ByteArray) (ka kb : List Kd), sa ≠ 6 → sb ≠ 6 → sa ≠ sb → R (.mk sa na ka) (.mk sb nb kb))
    (hf : ∀ s : Int, s < 4 → R (.mk s [] []) (.mk s [] []))
    (hl : ∀ (na nb : List ByteArray) (ka kb : List Kd) (p q : Kd), ka[0]? = some p → kb[0]? = some q → R p q → R (.mk 4 na ka) (.mk 4 nb kb))
    (hF : ∀ (na nb : List ByteArray) (ka kb : List Kd), na.length = ka.length → nb.length = kb.length → RiseP na → RiseP nb → KB 1000 (.mk 5 na ka) → KB 1000 (.mk 5 nb kb) → (∀ p ∈ ka, ∀ q ∈ kb, R p q) → R (.mk 5 na ka) (.mk 5 nb kb)) :
    ∀ (N : Nat) (a b : Kd), parts a + parts b ≤ N → ∀ da db : Nat, KOk da a → KOk db b → KB 1000 a → KB 1000 b → R a b := by
  intro N
  induction N with
  | zero => intro a b h; have := parts_pos a; omega
  | succ N ih =>
    intro a b hN da db ha hb hBa hBb
    by_cases h6 : a.sort = 6 ∨ b.sort = 6
    · obtain ⟨a1, a2, ⟨ea, a3⟩, a4⟩ := bare_parts ha
      obtain ⟨b1, b2, ⟨eb, b3⟩, b4⟩ := bare_parts hb
      refine hm a b da db ha hb h6 (ih _ _ ?_ ea eb a3 b3 (a4 _ hBa) (b4 _ hBb))
      rcases h6 with h | h
      · have := a2 h; omega
      · have := b2 h; omega
    · have n1 : a.sort ≠ 6 := fun h => h6 (.inl h)
      have n2 : b.sort ≠ 6 := fun h => h6 (.inr h)
      obtain ⟨sa, na, ka⟩ := a
      obtain ⟨sb, nb, kb⟩ := b
      simp only [Kd.sort] at n1 n2
      by_cases hs : sa = sb
      · subst hs
        obtain ⟨_, a2, a3⟩ := ha.inv
        obtain ⟨_, b2, b3⟩ := hb.inv
        have kids : ∀ p ∈ ka, ∀ q ∈ kb, R p q := fun p hp q hq => by
          have l1 := partsL_mem hp
          have l2 := partsL_mem hq
          simp only [parts] at hN
          exact ih p q (by omega) (da + 1) (db + 1) (a3 p hp) (b3 q hq) (hBa.inv.2.2.2 p hp) (hBb.inv.2.2.2 q hq)
        rcases (by have := a2.hi; omega : sa < 4 ∨ sa = 4 ∨ sa = 5) with h | h | h
        · have e1 := List.length_eq_zero_iff.1 (a2.leaf h)
          have e2 := List.length_eq_zero_iff.1 (b2.leaf h)
          have e3 := List.length_eq_zero_iff.1 (a2.other (by omega))
          have e4 := List.length_eq_zero_iff.1 (b2.other (by omega))
          subst e1 e2 e3 e4
          exact hf sa h
        · subst h
          obtain ⟨p, hp⟩ := one_at a2 (.inl rfl)
          obtain ⟨q, hq⟩ := one_at b2 (.inl rfl)
          exact hl na nb ka kb p q hp hq (kids p (List.mem_of_getElem? hp) q (List.mem_of_getElem? hq))
        · subst h
          exact hF na nb ka kb (a2.form rfl).1 (b2.form rfl).1 a2.rise b2.rise hBa hBb kids
      · exact hd sa sb na nb ka kb n1 n2 hs
theorem joinS_ok (a b : Kd) (da db : Nat) (ha : KOk da a) (hb : KOk db b) (hBa : KB 1000 a) (hBb : KB 1000 b) : JC 42 a b :=
  join_rec (JC 42) joinS_maybe joinS_diff joinS_leaf joinS_list joinS_form _ a b (Nat.le_refl _) da db ha hb hBa hBb
abbrev oKdB (c1 v1 c2 v2 : Nat) (k : Kd) (b : Bool) : T := .tup [oKd c1 v1 c2 v2 k, .one (.v (.s (.bool b)))]
abbrev JO (a b : Kd) : Prop := ∃ k ok, JR a b k ok ∧ KB 2000000 k ∧ ∀ m1 m2, ACallsF Try.prog 44 [tK a, tK b] (kdH 2001 2002 m1 m2 k) (oKdB 2001 0 2002 0 k ok)
/-- A schema of nil slices and a truth value. -/
theorem ownZK {P : Program} {f : FuncId} {args : List T} {m1 m2 : Nat} {b : Bool} (h : ACallsF P f args [] (.tup [.agg [.v (.s (.int .i64 0)), .nil0, .nil0], .one (.v (.s (.bool b)))])) :
    ACallsF P f args (kdH 2001 2002 m1 m2 (.mk 0 [] [])) (oKdB 2001 0 2002 0 (.mk 0 [] []) b) :=
  own0 (r := .tup [.agg [.v (.s (.int .i64 0)), .nil0, .tr 2002 0 0], .one (.v (.s (.bool b)))]) (hs := [newT 2002 m2 3 38 []]) false 0 1 2001 m1 1 9 (by decide) rfl rfl (fun ν ν' h => by simp [verT, verP, verC, h]) (fun ν ν' h x hx v => by simp at hx; subst hx; rfl)
    (own0 (r := .tup [.agg [.v (.s (.int .i64 0)), .nil0, .nil0], .one (.v (.s (.bool b)))]) (hs := []) true 0 2 2002 m2 3 38 (by decide) rfl rfl (fun ν ν' h => by simp [verT, verP, verC]) (fun ν ν' h x hx v => by cases hx) h)
def ok44 := okF.gu (P := Try.prog) tab Try.func44 Try.ntmps44 (by conv => lhs; cbv) (by kernel_rfl)
theorem joinO_maybe (a b : Kd) (da db : Nat) (ha : KOk da a) (hb : KOk db b) (h6 : a.sort = 6 ∨ b.sort = 6) (ih : JO (bare a) (bare b)) : JO a b := by
  obtain ⟨k, ok, hj, hB, hC⟩ := ih
  refine ⟨.mk 6 [] [k], ok, hj.bare h6, hB.may (by omega) 6, fun m1 m2 => ?_⟩
  obtain ⟨sa, na, ka⟩ := a
  obtain ⟨sb, nb, kb⟩ := b
  have hwa := bareI_ok sa na ka fun h => by subst h; exact one_at ha.inv.2.1 (.inr rfl)
  have hwb := bareI_ok sb nb kb fun h => by subst h; exact one_at hb.inv.2.1 (.inr rfl)
  refine ACallsF.intro ok44 follows fun X c0 => ?_
  have e0 : (sa == 6) = true ∨ ((sa == 6) = false ∧ (sb == 6) = true) := by
    simp only [Kd.sort] at h6
    rcases h6 with h | h
    · exact .inl (by simpa using h)
    · by_cases h' : sa = 6
      · exact .inl (by simpa using h')
      · exact .inr ⟨by simpa using h', by simpa using h⟩
  rcases e0 with e0 | ⟨e0, e1⟩
  · simp only [go_sem, encK_mk, e0]
    refine callC (argsC := [tK (.mk sa na ka)]) hwa rfl (by simp only [go_sem, tK, encK_mk]) (by simp [closedA, closedP, closedC]) (by simp [closedT, closedP, closedC]) ?_
    simp only [go_sem, encK_mk, e0]
    refine callC (argsC := [tK (.mk sb nb kb)]) hwb rfl (by simp only [go_sem, tK, encK_mk]) (by simp [closedA, closedP, closedC]) (by simp [closedT, closedP, closedC]) ?_
    simp only [go_sem]
    refine callKdb (m1 := 3003) (m2 := 3004) (ws := []) (ns := []) (hC 3003 3004) (by decide) (by decide) rfl (lendC2 (clKd _) (clKd _)) (by simp [clKd]) ⟨?_, ?_⟩
    · simp only [go_sem]
    simp only [go_sem]
    refine callKd (m1 := 2001) (m2 := 2002) (ws := kdL 3003 _ 3004 _ k) (ns := [3003, 3004]) (maybeOfO_ok k hB 2001 2002) (by decide) (by decide) rfl (lendKd1 rfl rfl rfl rfl) (by simp [clKd]) ⟨?_, ?_⟩
    · simp only [go_sem]
    simp only [go_sem, imp_self]
  · simp only [go_sem, encK_mk, e0, e1]
    refine callC (argsC := [tK (.mk sa na ka)]) hwa rfl (by simp only [go_sem, tK, encK_mk]) (by simp [closedA, closedP, closedC]) (by simp [closedT, closedP, closedC]) ?_
    simp only [go_sem, encK_mk, e0, e1]
    refine callC (argsC := [tK (.mk sb nb kb)]) hwb rfl (by simp only [go_sem, tK, encK_mk]) (by simp [closedA, closedP, closedC]) (by simp [closedT, closedP, closedC]) ?_
    simp only [go_sem]
    refine callKdb (m1 := 3003) (m2 := 3004) (ws := []) (ns := []) (hC 3003 3004) (by decide) (by decide) rfl (lendC2 (clKd _) (clKd _)) (by simp [clKd]) ⟨?_, ?_⟩
    · simp only [go_sem]
    simp only [go_sem]
    refine callKd (m1 := 2001) (m2 := 2002) (ws := kdL 3003 _ 3004 _ k) (ns := [3003, 3004]) (maybeOfO_ok k hB 2001 2002) (by decide) (by decide) rfl (lendKd1 rfl rfl rfl rfl) (by simp [clKd]) ⟨?_, ?_⟩
    · simp only [go_sem]
    simp only [go_sem, imp_self]
theorem joinO_diff (sa sb : Int) (na nb : List ByteArray) (ka kb : List Kd) (h1 : sa ≠ 6) (h2 : sb ≠ 6) (h : sa ≠ sb) : JO (.mk sa na ka) (.mk sb nb kb) := by
  refine ⟨.mk 0 [] [], false, JR.diff _ h1 h2 h, k0_KB, fun m1 m2 => ownZK ?_⟩
  have e0 : (sa == 6) = false := by simpa using h1
  have e1 : (sb == 6) = false := by simpa using h2
  have e2 : (sa != sb) = true := by simpa using h
  refine ACallsF.intro ok44 follows fun X c0 => ?_
  simp only [go_sem, encK_mk, e0, e1, e2]
theorem joinO_leaf (s : Int) (hs : s < 4) : JO (.mk s [] []) (.mk s [] []) := by
  have hB : KB 2000000 (.mk s [] []) := .mk _ _ _ (by simp) (by simp) (fun x hx => by cases hx) (fun x hx => by cases hx)
  refine ⟨.mk s [] [], true, .inl ⟨rfl, .leaf s [] [] [] [] hs⟩, hB, fun m1 m2 => ?_⟩
  have e0 : (s == 6) = false := by simp; omega
  have e2 : (s != s) = false := by simp
  have e4 : (s == 4) = false := by simp; omega
  have e5 : (s != 5) = true := by simp; omega
  have hC := cloneKd_ok (.mk s [] []) hB 2001 2002
  have hcl := clKd (.mk s [] [])
  simp only [tK, encK_mk, List.map_cons, List.map_nil] at hC hcl
  refine ACallsF.intro ok44 follows fun X c0 => ?_
  simp only [go_sem, encK_mk, e0, e2, e4, e5]
  refine callKd (m1 := 2001) (m2 := 2002) (ws := []) (ns := []) hC (by decide) (by decide) rfl (lendC1 hcl) (by simp [hcl]) ⟨?_, ?_⟩
  · simp only [go_sem]
  simp only [go_sem, imp_self]
theorem joinO_list (na nb : List ByteArray) (ka kb : List Kd) (p q : Kd) (hp : ka[0]? = some p) (hq : kb[0]? = some q) (ih : JO p q) : JO (.mk 4 na ka) (.mk 4 nb kb) := by
  obtain ⟨k, ok, hj, hB, hC⟩ := ih
  refine ⟨.mk 4 [] [k], ok, hj.list hp hq, hB.may (by omega) 4, fun m1 m2 => ?_⟩
  have ep := encKs_at hp
  have eq := encKs_at hq
  have e2 : ((4 : Int) != 4) = false := rfl
  have e0 : ((4 : Int) == 6) = false := rfl
  refine ACallsF.intro ok44 follows fun X c0 => ?_
  simp only [go_sem, encK_mk, e0, e2, ep, eq, Int.toNat_zero, Int.le_refl, List.length_map, encK_len, takeK, Nat.le_refl]
  refine callKdb (m1 := 3003) (m2 := 3004) (ws := []) (ns := []) (hC 3003 3004) (by decide) (by decide) rfl (lendC2 (clKd _) (clKd _)) (by simp [clKd]) ⟨?_, ?_⟩
  · simp only [go_sem]
  simp only [go_sem]
  refine callKd (m1 := 2001) (m2 := 2002) (ws := kdL 3003 _ 3004 _ k) (ns := [3003, 3004]) (listOfO_ok k hB 2001 2002) (by decide) (by decide) rfl (lendKd1 rfl rfl rfl rfl) (by simp [clKd]) ⟨?_, ?_⟩
  · simp only [go_sem]
  simp only [go_sem, imp_self]
end Go.V
set_option linter.unusedSimpArgs false
namespace Go.V
open Go.Proofs
theorem lt_of_le_ne {x y : List UInt8} (h : x ≤ y) (hn : x ≠ y) : x < y := by
  rcases List.le_iff_lt_or_eq.1 h with h | h
  · exact h
  · exact absurd h hn
theorem compactUp_at (d : Array (List UInt8)) (hs : ∀ i j, i ≤ j → j < d.size → d[i]! ≤ d[j]!) : ∀ m, m ≤ d.size → (∀ z, z ∈ Lib.compactUpTo d m ↔ ∃ j, j < m ∧ d[j]! = z) ∧ (Lib.compactUpTo d m).Pairwise fun x y => x < y
  | 0, _ => by simp [Lib.compactUpTo]
  | m + 1, hm => by
    obtain ⟨h1, h2⟩ := compactUp_at d hs m (by omega)
    rw [Lib.compactUpTo_succ]
    cases hk : Lib.keeps d m with
    | true =>
      simp only [if_true]
      refine ⟨fun z => ?_, List.pairwise_append.2 ⟨h2, List.pairwise_singleton _ _, fun z hz y hy => ?_⟩⟩
      · rw [List.mem_append, h1, List.mem_singleton]
        constructor
        · rintro (⟨j, hj, rfl⟩ | rfl)
          · exact ⟨j, by omega, rfl⟩
          · exact ⟨m, by omega, rfl⟩
        · rintro ⟨j, hj, rfl⟩
          rcases Nat.lt_or_ge j m with h | h
          · exact .inl ⟨j, h, rfl⟩
          · have : j = m := by omega
            rw [this]; exact .inr rfl
      · obtain ⟨j, hj, rfl⟩ := (h1 z).1 hz
        rw [List.mem_singleton.1 hy]
        simp only [Lib.keeps, decide_eq_true_eq] at hk
        rcases hk with h | h
        · omega
        · exact List.lt_of_le_of_lt (hs j (m - 1) (by omega) (by omega)) (lt_of_le_ne (hs (m - 1) m (by omega) (by omega)) fun e => h e.symm)
    | false =>
      simp only [Bool.false_eq_true, if_false, List.append_nil]
      refine ⟨fun z => ?_, h2⟩
      simp only [Lib.keeps, decide_eq_false_iff_not, not_or, Decidable.not_not] at hk
      rw [h1]
      constructor
      · rintro ⟨j, hj, rfl⟩; exact ⟨j, by omega, rfl⟩
      · rintro ⟨j, hj, rfl⟩
        rcases Nat.lt_or_ge j m with h | h
        · exact ⟨j, h, rfl⟩
        · have : j = m := by omega
          rw [this, hk.2]; exact ⟨m - 1, by omega, rfl⟩
theorem srt_pw (zs : List (List UInt8)) : (srt zs).Pairwise fun x y => x ≤ y := by
  have := List.pairwise_mergeSort (le := fun x y : List UInt8 => decide (x ≤ y)) (fun a b c h1 h2 => by simp only [decide_eq_true_eq] at h1 h2 ⊢; exact List.le_trans h1 h2) (fun a b => by simp only [Bool.or_eq_true, decide_eq_true_eq]; exact List.le_total a b) zs
  exact this.imp fun h => by simpa using h
theorem cmp_srt_at (zs : List (List UInt8)) : (∀ z, z ∈ cmp (srt zs) ↔ z ∈ zs) ∧ (cmp (srt zs)).Pairwise fun x y => x < y := by
  have hs : ∀ i j, i ≤ j → j < (srt zs).toArray.size → (srt zs).toArray[i]! ≤ (srt zs).toArray[j]! := fun i j hij hj => by
    rw [getElem!_pos _ i (by omega), getElem!_pos _ j hj]
    rcases Nat.eq_or_lt_of_le hij with rfl | h
    · exact List.le_refl _
    · have := List.pairwise_iff_getElem.1 (srt_pw zs) i j (by simpa using Nat.lt_trans h hj) (by simpa using hj) h
      simpa using this
  obtain ⟨h1, h2⟩ := compactUp_at (srt zs).toArray hs (srt zs).length (by simp)
  refine ⟨fun z => (h1 z).trans ?_, h2⟩
  rw [← List.mem_mergeSort (a := z) (l := zs) (le := fun x y => decide (x ≤ y))]
  constructor
  · rintro ⟨j, hj, rfl⟩
    rw [getElem!_pos _ j (by simpa using hj)]
    simp
  · intro h
    obtain ⟨j, hj⟩ := List.mem_iff_getElem?.1 h
    obtain ⟨hj1, hj2⟩ := List.getElem?_eq_some_iff.1 hj
    exact ⟨j, hj1, by rw [getElem!_pos _ j (by simpa using hj1)]; simpa using hj2⟩
theorem ofL_toList (l : List UInt8) : (ofL l).toList = l := by rw [ByteArray.toList_eq]; rfl
theorem cmp_srt (na nb : List ByteArray) (ha : RiseP na) (hb : RiseP nb) : (cmp (srt (rowL (na ++ nb)))).map ofL = mrg na nb := by
  obtain ⟨h1, h2⟩ := cmp_srt_at (rowL (na ++ nb))
  refine pw_ext _ _ ?_ (mrg_pw _ _ (rise_pw ha) (rise_pw hb)) fun z => ?_
  · rw [PW, List.pairwise_map]
    refine h2.imp fun h => ?_
    rw [less, ofL_toList, ofL_toList, bytesLess_eq]
    exact decide_eq_true h
  · rw [mem_mrg, ← List.mem_append, List.mem_map]
    constructor
    · rintro ⟨l, hl, rfl⟩
      obtain ⟨s, hs, rfl⟩ := List.mem_map.1 ((h1 l).1 hl)
      rw [ofL_data]; exact hs
    · intro hz
      exact ⟨z.data.toList, (h1 _).2 (List.mem_map.2 ⟨z, hz, rfl⟩), ofL_data z⟩
/-- A call that works in place on an own array of strings. -/
theorem callRow {P : Program} {t : Nat → T} {H : HMap} {c : Nat} {f : Opd} {args : List Opd} {fid : FuncId} {m v N : Nat} {ty : TypeId} {ss ss' : List ByteArray} {r : T} {k : Nat} {d : Option Nat} {un : List Nat} {l : List AOper} {prev : List (Nat × List Nat × List Nat)} {K : St → Prop}
    (hC : ACallsF P fid [.c (.own m v N)] (rowH m m v ty ss ss') r) (hf : ev t f = .pt (.one (.fn fid []))) (hl : args.map (ev t) = [.c (.own m v N)]) (hH : H m = some (.arr v true 1 ty (rowS ss))) (hr : r = .tup [] ∨ ∃ n, r = .c (.own m v n))
    (hk : chk prev un ⟨r, [(m, .arr v true 1 ty (rowS ss'))], [m], [m]⟩ = true ∧ DRun P l ((k, [m], [m]) :: prev) K ⟨updD t d r, upd H m (some (.arr v true 1 ty (rowS ss'))), c⟩) :
    step P k d un (.call f args) l prev K t H c := by
  have hN : renN (rowH m m v ty ss ss') m = some ⟨m, m, some (.arr v true 1 ty (rowS ss)), .arr v true 1 ty (rowS ss'), true⟩ := by simp [renN]
  refine callW (caps := []) («as» := [.c (.own m v N)]) (ws := []) (ns := []) (r' := r) (ob := [(m, .arr v true 1 ty (rowS ss'))]) (rowH m m v ty ss ss') hC hf (by rw [hl]; rfl) ?_ ⟨?_, trivial⟩ (by simp) (by simp) ?_ ?_ ?_
  · simp only [T.c, renITs, renIT, renI, inN, hN, Option.bind_some, Option.map_some]
  · show (match renIB (rowH m m v ty ss ss') (.arr v true 1 ty (rowS ss)) with | some B => (updH H []) m = some B | none => False)
    simp only [renIB, updH]
    exact hH
  · rcases hr with rfl | ⟨n, rfl⟩
    · simp only [renOT, renOPs, Option.map_some]
    · simp only [T.c, renOT, renOP, renO, hN, Option.map_some, verOf, if_true, Blk.ver]
  · simp only [renOBs, renOB, verOf, if_true, Blk.ver]
  · have hq : quiet r (rowH m m v ty ss ss') = false := by simp [quiet]
    simpa [hq, updH] using hk
end Go.V
set_option linter.unusedSimpArgs false
namespace Go.V
open Go.Proofs
def I67 (na : List ByteArray) (ka : List Kd) (nb : List ByteArray) (kb : List Kd) (ks : List Kd) (v : Nat) (rest : List ByteArray) (m : Nat) (σ : St) : Prop :=
  (∃ u, σ.t 2 = .c (.ptr 2 u 0) ∧ σ.H 2 = some (.var u 38 [.v (.s (.int .i64 5)), .v (.sl (encS na)), .v (.sl (encKs ka))])) ∧ (∃ u, σ.t 3 = .c (.ptr 3 u 0) ∧ σ.H 3 = some (.var u 38 [.v (.s (.int .i64 5)), .v (.sl (encS nb)), .v (.sl (encKs kb))])) ∧
  (∃ u, σ.t 4 = .c (.ptr 4 u 0) ∧ σ.H 4 = some (.var u 38 [.v (.s (.int .i64 0)), .nil0, .nil0])) ∧
  (∃ u a b, σ.t 10 = .c (.ptr 10 u 0) ∧ σ.H 10 = some (.var u 38 [.v (.s (.int .i64 5)), .own 2001 a m, .tr 2002 b m]) ∧ σ.H 2001 = some (.arr a true 1 9 (encS ((mrg na nb).take m))) ∧ σ.H 2002 = some (.tree b true 3 38 (encKs (ks.take m)) none)) ∧
  (σ.t 82 = .c (.own 3108 v (mrg na nb).length) ∧ σ.H 3108 = some (.arr v true 1 9 (encS (mrg na nb ++ rest)))) ∧ σ.t 83 = .i (mrg na nb).length ∧ σ.t 84 = .i m
theorem moveKd {H : HMap} {m1 v1 m2 v2 : Nat} {k : Kd} (h1 : H m1 = some (.arr v1 true 1 9 (encS k.n))) (h2 : H m2 = some (.tree v2 true 3 38 (encKs k.k) none)) :
    moveCs H 38 0 [.v (.s (.int .i64 k.s)), .own m1 v1 k.n.length, .tr m2 v2 k.k.length] = some (encK k, [m1, m2]) := by
  simp only [go_sem, h1, h2, take_encS, take_encKs, encK_eta]
set_option maxHeartbeats 4000000 in
theorem join_loop (na nb : List ByteArray) (ka kb : List Kd) (hla : na.length = ka.length) (hlb : nb.length = kb.length) (hra : RiseP na) (hrb : RiseP nb) (hBa : KB 1000 (.mk 5 na ka)) (hBb : KB 1000 (.mk 5 nb kb)) (ih : ∀ p ∈ ka, ∀ q ∈ kb, JO p q)
    (ks : List Kd) (hks : ∀ i, i < ks.length → ∃ y, ks[i]? = some y ∧ JP na ka nb kb i y) (hle : ks.length ≤ (mrg na nb).length) (hend : (ks.length = (mrg na nb).length ∧ Jn (.mk 5 na ka) (.mk 5 nb kb) (.mk 5 (mrg na nb) ks)) ∨ (ks.length < (mrg na nb).length ∧ Bad na ka nb kb ks.length ∧ ∀ k, ¬ Jn (.mk 5 na ka) (.mk 5 nb kb) k)) (v : Nat) (rest : List ByteArray)
    {X : Ctx} {Q : Exit → St → Prop} {t : Nat → T} {H : HMap} {c : Nat} (h0 : I67 na ka nb kb ks v rest 0 ⟨t, H, c⟩) (hQ : ks.length = (mrg na nb).length → ∀ t H c, I67 na ka nb kb ks v rest (mrg na nb).length ⟨t, H, c⟩ → Q (.exit 1) ⟨t, H, c⟩)
    (hR : ks.length < (mrg na nb).length → ∀ t H c u4, t 4 = .c (.ptr 4 u4 0) → H 4 = some (.var u4 38 [.v (.s (.int .i64 0)), .nil0, .nil0]) → t 5 = .b false → Q .ret ⟨t, H, c⟩) : oneW Try.prog X (ok44.sub [1, 1, 1, 1, 0, 1, 0]) Q ⟨t, H, c⟩ := by
  obtain ⟨a1, a2, a3, a4⟩ := hBa.inv
  obtain ⟨b1, b2, b3, b4⟩ := hBb.inv
  have hlen := mrg_len na nb
  dsimp only [okF.sub, ACode.sub]
  refine AW.uptoA ks.length (I67 na ka nb kb ks v rest) h0 fun m t H c hm h => ?_
  have hKI := h
  obtain ⟨⟨u2, e2, eH2⟩, ⟨u3, e3, eH3⟩, ⟨u4, e4, eH4⟩, ⟨u10, a, b, e10, eH10, eHa, eHb⟩, ⟨e82, eH82⟩, e83, e84⟩ := h
  simp only [T.c, T.i] at e2 eH2 e3 eH3 e4 eH4 e10 eH10 eHa eHb e82 eH82 e83 e84
  by_cases hlt : m < (mrg na nb).length
  · obtain ⟨x, hx⟩ : ∃ x, (mrg na nb)[m]? = some x := ⟨_, List.getElem?_eq_getElem hlt⟩
    have stop : m = ks.length → ∃ p q, kid na ka x = some p ∧ kid nb kb x = some q ∧ (∀ y, ¬ Jn p q y) := fun e => by
      rcases hend with ⟨h1, h2⟩ | ⟨h1, ⟨x', p, q, g1, g2, g3, g4⟩, -⟩
      · omega
      · subst e
        rw [hx] at g1; cases g1
        exact ⟨p, q, g2, g3, g4⟩
    have hxr : (mrg na nb ++ rest)[m]? = some x := by rw [List.getElem?_append_left hlt]; exact hx
    have ex := encS_at hxr
    have hg1 : (m : Int) < (mrg na nb).length := by omega
    have gz : (0 : Int) ≤ m := by omega
    have l1 : (encS ((mrg na nb).take m)).length = m := by rw [encS_len, List.length_take]; omega
    have l2 : (encKs (ks.take m)).length = m := by rw [encKs_len, List.length_take]; omega
    have t1 : List.take m (encS ((mrg na nb).take m)) = encS ((mrg na nb).take m) := List.take_of_length_le (by omega)
    have t2 : List.take m (encKs (ks.take m)) = encKs (ks.take m) := List.take_of_length_le (by omega)
    have gw : IntKind.i64.wrap ((m : Int) + 1) = ((m + 1 : Nat) : Int) := wrap64 (x := (m : Int) + 1) ⟨by omega, by omega⟩
    have q1 : (m + 1) * 16 ≤ 140737488355328 := by omega
    have q3 : (m + 1) * 56 ≤ 140737488355328 := by omega
    have q4 : m + 1 ≤ 9223372036854775807 := by omega
    obtain ⟨ja, ba, ha1, ha2, hCa⟩ := search_ok na x (rise_true.2 hra) (by omega)
    obtain ⟨jb, bb, hb1, hb2, hCb⟩ := search_ok nb x (rise_true.2 hrb) (by omega)
    have hge : (mrg na nb).length ≤ (encS (mrg na nb ++ rest)).length := by rw [encS_len, List.length_append]; omega
    have gza : (0 : Int) ≤ ja := by omega
    have gzb : (0 : Int) ≤ jb := by omega
    have nd : (([4003, 4004] : List Nat).Nodup ∧ ¬ 147 ∈ ([4003, 4004] : List Nat)) = True := eq_true (by decide)
    refine oneW.run ?_
    simp only [go_sem, e83, e84, hg1]
    refine oneW.run ?_
    simp only [go_sem]
    refine oneW.runS (oneW.blk (oneW.run ?_))
    simp only [go_sem, e2, eH2, e3, eH3, e82, eH82, e83, e84, hg1, gz, ex, Nat.le_add_right, Int.toNat_natCast]
    refine oneW.run ?_
    simp only [go_sem, e2, eH2, e3, eH3, e82, eH82, e83, e84, hg1, gz, ex, Nat.le_add_right, Int.toNat_natCast]
    refine callC hCa rfl rfl (by simp [closedA, closedP, closedC]) rfl ?_
    simp only [go_sem, e2, eH2, e3, eH3, e82, eH82, e83, e84, hg1, gz, ex, Nat.le_add_right, Int.toNat_natCast]
    refine oneW.run ?_
    simp only [go_sem, e2, eH2, e3, eH3, e82, eH82, e83, e84, hg1, gz, ex, Nat.le_add_right, Int.toNat_natCast]
    refine callC hCb rfl rfl (by simp [closedA, closedP, closedC]) rfl ?_
    simp only [go_sem, e2, eH2, e3, eH3, e82, eH82, e83, e84, hg1, gz, ex, Nat.le_add_right, Int.toNat_natCast]
    refine oneW.run ?_
    simp only [go_sem]
    refine oneW.runS (oneW.blk (oneW.of ?_))
    have kida : ∀ {k : Kd}, ba = true → ka[ja]? = some k → kid na ka x = some k := fun h1 h2 => kid_in hra (ha1 h1) h2
    have kidb : ∀ {k : Kd}, bb = true → kb[jb]? = some k → kid nb kb x = some k := fun h1 h2 => kid_in hrb (hb1 h1) h2
    have fin : ∀ (k : Kd) (t' : Nat → T) (H' : HMap) (c' w w1 w2 : Nat), m < ks.length → ks[m]? = some k → t' 18 = .c (.ptr 18 w 0) → H' 18 = some (.var w 38 [.v (.s (.int .i64 k.s)), .own 4003 w1 k.n.length, .tr 4004 w2 k.k.length]) → H' 4003 = some (.arr w1 true 1 9 (encS k.n)) → H' 4004 = some (.tree w2 true 3 38 (encKs k.k) none) →
        t' 19 = .b true → t' 13 = .s (.string x) → (t' 2 = t 2 ∧ t' 3 = t 3 ∧ t' 4 = t 4 ∧ t' 10 = t 10 ∧ t' 82 = t 82 ∧ t' 83 = t 83 ∧ t' 84 = t 84) → (H' 2 = H 2 ∧ H' 3 = H 3 ∧ H' 4 = H 4 ∧ H' 10 = H 10 ∧ H' 2001 = H 2001 ∧ H' 2002 = H 2002 ∧ H' 3108 = H 3108) →
        oneW Try.prog X (ok44.sub [1, 1, 1, 1, 0, 1, 0, 0, 1, 1, 0, 0, 1, 1, 1, 1, 1]) (inW 2 (thenO Try.prog X (ok44.sub [1, 1, 1, 1, 0, 1, 0, 0, 1, 1, 1]) (thenA (fun σ => m < ks.length ∧ I67 na ka nb kb ks v rest (m + 1) σ) Q))) ⟨t', H', c'⟩ := by
      intro k t' H' c' w w1 w2 hmk hk g18 gH18 gH1 gH2' g19 g13 ⟨g2, g3, g4, g10, g82, g83, g84⟩ ⟨gH2, gH3, gH4, gH10, gHa, gHb, gH82⟩
      dsimp only [okF.sub, ACode.sub]
      simp only [T.c, T.i, T.b, T.s] at g18 gH18 g19 g13
      rw [e2] at g2
      rw [e3] at g3
      rw [e4] at g4
      rw [e10] at g10
      rw [e82] at g82
      rw [e83] at g83
      rw [e84] at g84
      rw [eH2] at gH2
      rw [eH3] at gH3
      rw [eH4] at gH4
      rw [eH10] at gH10
      rw [eHa] at gHa
      rw [eHb] at gHb
      rw [eH82] at gH82
      have n1 : encS ((mrg na nb).take (m + 1)) = encS ((mrg na nb).take m) ++ [[.s (.string x)]] := by rw [take_at hx]; exact encS_snoc _ _
      have n2 : encKs (ks.take (m + 1)) = encKs (ks.take m) ++ [encK k] := by rw [take_at hk]; exact encKs_snoc _ _
      rw [encK_eta] at n2
      refine oneW.of ?_
      simp only [go_sem, g18, gH18, gH1, gH2', g19, g13, g10, gH10, gHa, gHb, g84, l1, t1, l2, t2, q1, q3, q4, gw, nd]
      refine oneW.of ?_
      simp only [go_sem, g84, gw]
      unfold I67
      rw [n1, n2]
      exact ⟨hmk, ⟨u2, g2, gH2⟩, ⟨u3, g3, gH3⟩, ⟨u4, g4, gH4⟩, ⟨u10, _, _, g10, rfl, rfl, rfl⟩, ⟨g82, gH82⟩, g83, rfl⟩
    have hmk1 : ¬ (ba = true ∧ bb = true) → m < ks.length := fun hn => by
      rcases Nat.lt_or_ge m ks.length with h | h
      · exact h
      · obtain ⟨p, q, z1, z2, _⟩ := stop (by omega)
        refine absurd ⟨?_, ?_⟩ hn
        · cases ba with
          | true => rfl
          | false => rw [kid_none (ha2 rfl)] at z1; cases z1
        · cases bb with
          | true => rfl
          | false => rw [kid_none (hb2 rfl)] at z2; cases z2
    cases hba : ba with
    | true =>
      have hxa := ha1 hba
      obtain ⟨p, hp⟩ := at_len hla hxa
      have hkp := kida hba hp
      have ep := encKs_at hp
      have gja : (ja : Int) < ka.length := by have := (List.getElem?_eq_some_iff.1 hp).1; omega
      cases hbb : bb with
      | true =>
        have hxb := hb1 hbb
        obtain ⟨q, hq⟩ := at_len hlb hxb
        have hkq := kidb hbb hq
        have eq := encKs_at hq
        have gjb : (jb : Int) < kb.length := by have := (List.getElem?_eq_some_iff.1 hq).1; omega
        obtain ⟨k, ok, hJ, hKB, hC⟩ := ih p (List.mem_of_getElem? hp) q (List.mem_of_getElem? hq)
        simp only [go_sem, e2, eH2, e3, eH3, gza, gzb, gja, gjb, ep, eq, Int.toNat_natCast, List.length_map, encK_len, takeK, Nat.le_refl]
        refine callKdb (m1 := 4003) (m2 := 4004) (ws := []) (ns := []) (hC 4003 4004) (by decide) (by decide) rfl (lendC2 (clKd p) (clKd q)) (by simp [clKd]) ⟨?_, ?_⟩
        · simp only [go_sem]
        rcases Nat.lt_or_ge m ks.length with hmk | hmk
        · obtain ⟨y, hy, y2, _⟩ := JP.at hks hmk hx
          have hJy := y2 p q hkp hkq
          rcases hJ with ⟨rfl, hJ⟩ | ⟨_, hJ⟩
          · cases jn_det hJ y hJy
            simp only [go_sem]
            exact fin k _ _ _ _ _ _ hmk hy rfl rfl rfl rfl rfl rfl ⟨rfl, rfl, rfl, rfl, rfl, rfl, rfl⟩ ⟨rfl, rfl, rfl, rfl, rfl, rfl, rfl⟩
          · exact absurd hJy (hJ y)
        · obtain ⟨p', q', z1, z2, z3⟩ := stop (by omega)
          rw [hkp] at z1; cases z1
          rw [hkq] at z2; cases z2
          rcases hJ with ⟨rfl, hJ⟩ | ⟨rfl, hJ⟩
          · exact absurd hJ (z3 k)
          simp only [go_sem]
          refine oneW.of ?_
          simp only [go_sem, e4, eH4]
          exact hR (by omega) _ _ _ _ e4 rfl rfl
      | false =>
        have hmk := hmk1 (by rw [hbb]; simp)
        obtain ⟨y, hy, _, y2, _⟩ := JP.at hks hmk hx
        have := y2 p hkp (kid_none (hb2 hbb))
        subst this
        simp only [go_sem, e2, eH2, e3, eH3, gza, gja, ep, Int.toNat_natCast, List.length_map, encK_len, takeK, Nat.le_refl]
        refine callKd (m1 := 4003) (m2 := 4004) (ws := []) (ns := []) (optO_ok p ((a4 _ (List.mem_of_getElem? hp)).le (by omega)) 4003 4004) (by decide) (by decide) rfl (lendC1 (clKd p)) (by simp [clKd]) ⟨?_, ?_⟩
        · simp only [go_sem]
        simp only [go_sem]
        exact fin _ _ _ _ _ _ _ hmk hy rfl rfl rfl rfl rfl rfl ⟨rfl, rfl, rfl, rfl, rfl, rfl, rfl⟩ ⟨rfl, rfl, rfl, rfl, rfl, rfl, rfl⟩
    | false =>
      have hna := kid_none (ks := ka) (ha2 hba)
      have hmk := hmk1 (by rw [hba]; simp)
      cases hbb : bb with
      | true =>
        have hxb := hb1 hbb
        obtain ⟨q, hq⟩ := at_len hlb hxb
        have hkq := kidb hbb hq
        have eq := encKs_at hq
        have gjb : (jb : Int) < kb.length := by have := (List.getElem?_eq_some_iff.1 hq).1; omega
        obtain ⟨y, hy, _, _, y2⟩ := JP.at hks hmk hx
        have := y2 q hna hkq
        subst this
        simp only [go_sem, e2, eH2, e3, eH3, gzb, gjb, eq, Int.toNat_natCast, List.length_map, encK_len, takeK, Nat.le_refl]
        refine callKd (m1 := 4003) (m2 := 4004) (ws := []) (ns := []) (optO_ok q ((b4 _ (List.mem_of_getElem? hq)).le (by omega)) 4003 4004) (by decide) (by decide) rfl (lendC1 (clKd q)) (by simp [clKd]) ⟨?_, ?_⟩
        · simp only [go_sem]
        simp only [go_sem]
        exact fin _ _ _ _ _ _ _ hmk hy rfl rfl rfl rfl rfl rfl ⟨rfl, rfl, rfl, rfl, rfl, rfl, rfl⟩ ⟨rfl, rfl, rfl, rfl, rfl, rfl, rfl⟩
      | false =>
        rcases kid_mrg (Nat.le_of_eq hla) (Nat.le_of_eq hlb) hx with ⟨p, h⟩ | ⟨q, h⟩
        · rw [hna] at h; cases h
        · rw [kid_none (hb2 hbb)] at h; cases h
  · have hmE : m = (mrg na nb).length := by omega
    have hkE : ks.length = (mrg na nb).length := by omega
    have g1 : ¬ (m : Int) < (mrg na nb).length := by omega
    refine oneW.of ?_
    simp only [go_sem, e83, e84, g1]
    exact hQ hkE _ _ _ (hmE ▸ hKI)

theorem join_walk (na nb : List ByteArray) (ka kb : List Kd) (hla : na.length = ka.length) (hlb : nb.length = kb.length) (hra : RiseP na) (hrb : RiseP nb) (hBa : KB 1000 (.mk 5 na ka)) (hBb : KB 1000 (.mk 5 nb kb)) (ks : List Kd) {r : T} {hs : List Hand}
    (hL : ∀ (X : Ctx) (v : Nat) (rest : List ByteArray) (t : Nat → T) (H : HMap) (c : Nat), I67 na ka nb kb ks v rest 0 ⟨t, H, c⟩ → oneW Try.prog X (ok44.sub [1, 1, 1, 1, 0, 1, 0]) (inW 1 (thenW Try.prog X (ok44.sub [1, 1, 1, 1, 1]) (endA (FinC ok44.res r hs)))) ⟨t, H, c⟩) :
    ACallsF Try.prog 44 [tK (.mk 5 na ka), tK (.mk 5 nb kb)] hs r := by
  obtain ⟨a1, a2, a3, a4⟩ := hBa.inv
  obtain ⟨b1, b2, b3, b4⟩ := hBb.inv
  have hlen := mrg_len na nb
  have e0 : ((5 : Int) == 6) = false := rfl
  have e2 : ((5 : Int) != 5) = false := rfl
  have e4 : ((5 : Int) == 4) = false := rfl
  obtain ⟨ss, rest, hssl, hSort, hComp⟩ : ∃ ss rest, ss.length = na.length + nb.length ∧ (∀ v, ACallsF Try.prog 65 [.c (.own 3108 v (na ++ nb).length)] (rowH 3108 3108 v 9 (na ++ nb) ss) (.tup [])) ∧ ∀ v, ACallsF Try.prog 66 [.c (.own 3108 v ss.length)] (rowH 3108 3108 v 9 ss (mrg na nb ++ rest)) (.c (.own 3108 v (mrg na nb).length)) := by
    have hl : ((srt (rowL (na ++ nb))).map ofL).length = na.length + nb.length := by simp [srt, rowL]
    have hm := cmp_srt na nb hra hrb
    have hr : rowL ((srt (rowL (na ++ nb))).map ofL) = srt (rowL (na ++ nb)) := rowL_ofL _
    have hml : (cmp (srt (rowL (na ++ nb)))).length = (mrg na nb).length := by rw [← hm, List.length_map]
    refine ⟨_, List.replicate ((na ++ nb).length - (mrg na nb).length) (ofL []), hl, fun v => sort_ok (na ++ nb) (by rw [List.length_append]; omega) 3108 3108 v, fun v => ?_⟩
    obtain ⟨rest, h1, h2⟩ := compact_ok ((srt (rowL (na ++ nb))).map ofL) (by omega) 3108 3108 v
    rw [hr, hm, hml] at h2
    rw [hr, hml, hl] at h1
    have : rest = (na ++ nb).length - (mrg na nb).length := by rw [List.length_append]; omega
    subst this
    exact h2
  refine ACallsF.intro ok44 follows fun X c0 => ?_
  simp only [go_sem, encK_mk, e0, e2, e4]
  refine callA1 (m := 3108) (ws := [(77, .arr (c0 + 4 + 9 + 6 + 4 + 4 + 5) false 1 22 [[.sl (encS na)], [.sl (encS nb)]])]) (ns := [77]) (concat_ok na nb (by omega) (by omega) 3108) rfl ?_ (by simp [closedA, closedP, closedC]) (encS_flat _) ?_
  · simp only [go_sem, lendTs, lendT, lendC]
  simp only [go_sem]
  refine callRow (m := 3108) (ss' := ss) (hSort (c0 + 4 + 9 + 6 + 4 + 4 + 6)) rfl ?_ ?_ (.inl rfl) ⟨?_, ?_⟩
  · simp only [go_sem, List.length_append, List.map_cons, List.map_nil]
  · simp only [go_sem]
    rfl
  · simp only [go_sem]
  simp only [go_sem]
  refine callRow (m := 3108) (ss' := mrg na nb ++ rest) (hComp (c0 + 4 + 9 + 6 + 4 + 4 + 6)) rfl ?_ ?_ (.inr ⟨_, rfl⟩) ⟨?_, ?_⟩
  · simp only [go_sem, hssl, List.map_cons, List.map_nil]
  · simp only [go_sem]
  · simp only [go_sem]
  simp only [go_sem]
  refine Gh.one (gh_reify2 (n := 10) (j := 1) (id := 2001) (st := 1) (aty := 9) rfl rfl (by decide) (by decide)) ?_
  refine Gh.one (gh_reify2 (n := 10) (j := 2) (id := 2002) (st := 3) (aty := 38) rfl rfl (by decide) (by decide)) ?_
  refine Gh.one (gh_plant (n := 10) (j := 2) (id := 2002) rfl rfl rfl (by simp)) ?_
  exact hL X _ _ _ _ _ ⟨⟨_, rfl, rfl⟩, ⟨_, rfl, rfl⟩, ⟨_, rfl, rfl⟩, ⟨_, _, _, rfl, rfl, rfl, rfl⟩, ⟨rfl, rfl⟩, rfl, rfl⟩
theorem joinO_form (na nb : List ByteArray) (ka kb : List Kd) (hla : na.length = ka.length) (hlb : nb.length = kb.length) (hra : RiseP na) (hrb : RiseP nb) (hBa : KB 1000 (.mk 5 na ka)) (hBb : KB 1000 (.mk 5 nb kb)) (ih : ∀ p ∈ ka, ∀ q ∈ kb, JO p q) : JO (.mk 5 na ka) (.mk 5 nb kb) := by
  obtain ⟨ks, hks, hend⟩ := join_plan na nb ka kb (Nat.le_of_eq hla) (Nat.le_of_eq hlb)
  have hle : ks.length ≤ (mrg na nb).length := by rcases hend with h | h <;> omega
  have hlen := mrg_len na nb
  rcases id hend with ⟨h1, h2⟩ | ⟨h1, -, h2⟩
  · refine ⟨.mk 5 (mrg na nb) ks, true, .inl ⟨rfl, h2⟩, (jn_KB h2 hBa hBb).le (by omega), fun m1 m2 => join_walk na nb ka kb hla hlb hra hrb hBa hBb ks fun X v rest t H c h0 => ?_⟩
    refine join_loop na nb ka kb hla hlb hra hrb hBa hBb ih ks hks hle hend v rest h0 (fun _ t H c h => ?_) fun h => absurd h1 (by omega)
    obtain ⟨⟨u2, e2, eH2⟩, ⟨u3, e3, eH3⟩, ⟨u4, e4, eH4⟩, ⟨u10, a, b, e10, eH10, eHa, eHb⟩, ⟨e82, eH82⟩, e83, e84⟩ := h
    simp only [T.c, T.i] at e2 eH2 e3 eH3 e4 eH4 e10 eH10 eHa eHb e82 eH82 e83 e84
    rw [List.take_of_length_le (Nat.le_refl _)] at eHa
    rw [List.take_of_length_le hle] at eHb
    dsimp only [okF.sub, ACode.sub, okF.res]
    simp only [go_sem, e4, eH4, e10, eH10, eHa, eHb, h1, imp_self]
  · refine ⟨.mk 0 [] [], false, .inr ⟨rfl, h2⟩, k0_KB, fun m1 m2 => ownZK (join_walk na nb ka kb hla hlb hra hrb hBa hBb ks fun X v rest t H c h0 => ?_)⟩
    refine join_loop na nb ka kb hla hlb hra hrb hBa hBb ih ks hks hle hend v rest h0 (fun h => absurd h1 (by omega)) fun _ t H c u4 e4 eH4 e5 => ?_
    simp only [T.c, T.b] at e4 eH4 e5
    dsimp only [okF.res]
    simp only [go_sem, e4, eH4, e5, imp_self]
end Go.V
set_option linter.unusedSimpArgs false
set_option maxRecDepth 20000
namespace Go.V
open Go.Proofs
theorem joinO_ok (a b : Kd) (da db : Nat) (ha : KOk da a) (hb : KOk db b) (hBa : KB 1000 a) (hBb : KB 1000 b) : JO a b :=
  join_rec JO joinO_maybe joinO_diff joinO_leaf joinO_list joinO_form _ a b (Nat.le_refl _) da db ha hb hBa hBb
/-- What KindJoin tells. -/
abbrev KJ (a b r : Kd) (ok : Bool) : Prop := (ok = true ∧ okK a = true ∧ okK b = true ∧ Jn a b r ∧ okK r = true) ∨ (ok = false ∧ r = .mk 0 [] [] ∧ (okK a = true → okK b = true → ∀ k, Jn a b k → okK k = false))
theorem kj_det {a b r r' : Kd} {ok ok' : Bool} (h : KJ a b r ok) (h' : KJ a b r' ok') : r = r' ∧ ok = ok' := by
  rcases h with ⟨rfl, h1, h2, h3, h4⟩ | ⟨rfl, rfl, h3⟩ <;> rcases h' with ⟨rfl, g1, g2, g3, g4⟩ | ⟨rfl, rfl, g3⟩
  · exact ⟨jn_det h3 _ g3, rfl⟩
  · rw [g3 h1 h2 r h3] at h4; cases h4
  · rw [h3 g1 g2 r' g3] at g4; cases g4
  · exact ⟨rfl, rfl⟩
theorem kj_sym {a b r : Kd} {ok : Bool} (h : KJ a b r ok) : KJ b a r ok := by
  rcases h with ⟨h0, h1, h2, h3, h4⟩ | ⟨h0, h1, h2⟩
  · exact .inl ⟨h0, h2, h1, jn_sym h3, h4⟩
  · exact .inr ⟨h0, h1, fun g1 g2 k hk => h2 g2 g1 k (jn_sym hk)⟩
theorem kj_KB {a b r : Kd} {ok : Bool} (h : KJ a b r ok) : KB 2000 r := by
  rcases h with ⟨_, h1, h2, h3, _⟩ | ⟨_, rfl, _⟩
  · exact jn_KB h3 (okK_KB h1) (okK_KB h2)
  · exact .mk _ _ _ (by simp) (by simp) (fun x hx => by cases hx) fun x hx => by cases hx
def ok16 := okF.gu (P := Try.prog) tab Try.func16 Try.ntmps16 (by conv => lhs; cbv) (by kernel_rfl)
theorem kjS_ok (a b : Kd) (ha : KB 2000000 a) (hb : KB 2000000 b) : ∃ r ok, KJ a b r ok ∧ ACallsF Try.prog 16 [tK a, tK b] [] (tKB (r, ok)) := by
  have e0 := encK_0 0
  have hCa := kindOkS_ok a (ha.le (by omega))
  have hCb := kindOkS_ok b (hb.le (by omega))
  cases h1 : okK a with
  | false =>
    refine ⟨.mk 0 [] [], false, .inr ⟨rfl, rfl, fun g => by rw [h1] at g; cases g⟩, ACallsF.intro ok16 follows fun X c0 => ?_⟩
    rw [h1] at hCa
    simp only [go_sem, List.length_map, encK_len, takeK, Nat.le_refl]
    refine callC hCa rfl rfl (by simp [closedA, closedP, closedC]) rfl ?_
    simp only [go_sem, e0]
  | true =>
    rw [h1] at hCa
    cases h2 : okK b with
    | false =>
      refine ⟨.mk 0 [] [], false, .inr ⟨rfl, rfl, fun _ g => by rw [h2] at g; cases g⟩, ACallsF.intro ok16 follows fun X c0 => ?_⟩
      rw [h2] at hCb
      simp only [go_sem, List.length_map, encK_len, takeK, Nat.le_refl]
      refine callC hCa rfl rfl (by simp [closedA, closedP, closedC]) rfl ?_
      simp only [go_sem, List.length_map, encK_len, takeK, Nat.le_refl]
      refine callC hCb rfl rfl (by simp [closedA, closedP, closedC]) rfl ?_
      simp only [go_sem, e0]
    | true =>
      rw [h2] at hCb
      obtain ⟨k, ok, hJ, hB, hC⟩ := joinS_ok a b 1 1 (okK_true.1 h1).1 (okK_true.1 h2).1 (okK_KB h1) (okK_KB h2)
      have hCk := kindOkS_ok k hB
      have pre : ∀ (r : Kd) (o : Bool), (ok = false → r = .mk 0 [] [] ∧ o = false) → (ok = true → okK k = false → r = .mk 0 [] [] ∧ o = false) → (ok = true → okK k = true → r = k ∧ o = true) → ACallsF Try.prog 16 [tK a, tK b] [] (tKB (r, o)) := by
        intro r o hr1 hr2 hr3
        refine ACallsF.intro ok16 follows fun X c0 => ?_
        simp only [go_sem, List.length_map, encK_len, takeK, Nat.le_refl]
        refine callC hCa rfl rfl (by simp [closedA, closedP, closedC]) rfl ?_
        simp only [go_sem, List.length_map, encK_len, takeK, Nat.le_refl]
        refine callC hCb rfl rfl (by simp [closedA, closedP, closedC]) rfl ?_
        simp only [go_sem, List.length_map, encK_len, takeK, Nat.le_refl]
        refine callC hC rfl rfl (by simp [closedA, closedP, closedC]) (by simp [closedT, closedP, closedC]) ?_
        cases ok with
        | false =>
          obtain ⟨rfl, rfl⟩ := hr1 rfl
          simp only [go_sem, List.length_map, encK_len, takeK, Nat.le_refl, e0]
        | true =>
          simp only [go_sem, List.length_map, encK_len, takeK, Nat.le_refl]
          refine callC hCk rfl rfl (by simp [closedA, closedP, closedC]) rfl ?_
          cases hk : okK k with
          | false =>
            obtain ⟨rfl, rfl⟩ := hr2 rfl hk
            simp only [go_sem, List.length_map, encK_len, takeK, Nat.le_refl, e0]
          | true =>
            obtain ⟨rfl, rfl⟩ := hr3 rfl hk
            simp only [go_sem, List.length_map, encK_len, takeK, Nat.le_refl]
      rcases hJ with ⟨rfl, hJ⟩ | ⟨rfl, hJ⟩
      · cases hk : okK k with
        | true => exact ⟨k, true, .inl ⟨rfl, h1, h2, hJ, hk⟩, pre _ _ (fun h => by cases h) (fun _ h => by rw [hk] at h; cases h) fun _ _ => ⟨rfl, rfl⟩⟩
        | false => exact ⟨.mk 0 [] [], false, .inr ⟨rfl, rfl, fun _ _ k' hk' => by cases jn_det hJ k' hk'; exact hk⟩, pre _ _ (fun h => by cases h) (fun _ _ => ⟨rfl, rfl⟩) fun _ h => by rw [hk] at h; cases h⟩
      · exact ⟨.mk 0 [] [], false, .inr ⟨rfl, rfl, fun _ _ k' hk' => absurd hk' (hJ k')⟩, pre _ _ (fun _ => ⟨rfl, rfl⟩) (fun h => by cases h) fun h => by cases h⟩
theorem kj_same {a b r r' : Kd} {ok ok' : Bool} (h : KJ a b r ok) (h' : KJ a b r' ok') : r = r' ∧ ok = ok' := kj_det h h'
theorem mK_parts : ∀ y : Kd, KB 1000 y → mK y ≤ 1003 * parts y := by
  intro y
  induction y using Kd.ind with
  | _ s ns ks ih =>
    intro h
    obtain ⟨b1, _, _, b4⟩ := h.inv
    have key : ∀ zs : List Kd, (∀ z ∈ zs, z ∈ ks) → mKs zs ≤ 1003 * partsL zs := by
      intro zs
      induction zs with
      | nil => intro _; simp [mKs]
      | cons z zs ih2 =>
        intro hz
        have h1 := ih z (hz z (by simp)) (b4 z (hz z (by simp)))
        have h2 := ih2 fun w hw => hz w (by simp [hw])
        simp only [mKs, partsL]
        omega
    have := key ks fun _ h => h
    simp only [mK, parts]
    omega
theorem topNK_mK (y : Kd) : topNK 1 y ≤ 1 + mK y := by cases y; simp only [topNK, mK]; show 1 + 1 * _ + _ ≤ _; simp only [Kd.mk_n, Kd.mk_k]; omega
theorem kj_small {a b r : Kd} {ok : Bool} (h : KJ a b r ok) : topNK 1 r ≤ 1000000 := by
  rcases h with ⟨_, _, _, _, h⟩ | ⟨_, rfl, _⟩
  · have h1 := mK_parts r (okK_KB h)
    have h2 := (okK_true.1 h).2
    have h3 := topNK_mK r
    omega
  · decide
def ok17 := okF.gu (P := Try.prog) tab Try.func17 Try.ntmps17 (by conv => lhs; cbv) (by kernel_rfl)
theorem kjO_ok (a b : Kd) (ha : KB 2000000 a) (hb : KB 2000000 b) : ∃ r ok, KJ a b r ok ∧ ∀ m1 m2, ACallsF Try.prog 17 [tK a, tK b] (kdH 2001 2002 m1 m2 r) (oKdB 2001 0 2002 0 r ok) := by
  have hCa := kindOkI_ok a (ha.le (by omega))
  have hCb := kindOkI_ok b (hb.le (by omega))
  cases h1 : okK a with
  | false =>
    refine ⟨.mk 0 [] [], false, .inr ⟨rfl, rfl, fun g => by rw [h1] at g; cases g⟩, fun m1 m2 => ownZK (ACallsF.intro ok17 follows fun X c0 => ?_)⟩
    rw [h1] at hCa
    simp only [go_sem, List.length_map, encK_len, takeK, Nat.le_refl]
    refine callC hCa rfl rfl (by simp [closedA, closedP, closedC]) rfl ?_
    simp only [go_sem]
  | true =>
    rw [h1] at hCa
    cases h2 : okK b with
    | false =>
      refine ⟨.mk 0 [] [], false, .inr ⟨rfl, rfl, fun _ g => by rw [h2] at g; cases g⟩, fun m1 m2 => ownZK (ACallsF.intro ok17 follows fun X c0 => ?_)⟩
      rw [h2] at hCb
      simp only [go_sem, List.length_map, encK_len, takeK, Nat.le_refl]
      refine callC hCa rfl rfl (by simp [closedA, closedP, closedC]) rfl ?_
      simp only [go_sem, List.length_map, encK_len, takeK, Nat.le_refl]
      refine callC hCb rfl rfl (by simp [closedA, closedP, closedC]) rfl ?_
      simp only [go_sem]
    | true =>
      rw [h2] at hCb
      obtain ⟨k, ok, hJ, hB, hC⟩ := joinO_ok a b 1 1 (okK_true.1 h1).1 (okK_true.1 h2).1 (okK_KB h1) (okK_KB h2)
      have hCk := kindOkI_ok k hB
      have no : ok = false ∨ okK k = false → ∀ m1 m2, ACallsF Try.prog 17 [tK a, tK b] (kdH 2001 2002 m1 m2 (.mk 0 [] [])) (oKdB 2001 0 2002 0 (.mk 0 [] []) false) := by
        intro hn m1 m2
        refine ownZK (ACallsF.intro ok17 follows fun X c0 => ?_)
        simp only [go_sem, List.length_map, encK_len, takeK, Nat.le_refl]
        refine callC hCa rfl rfl (by simp [closedA, closedP, closedC]) rfl ?_
        simp only [go_sem, List.length_map, encK_len, takeK, Nat.le_refl]
        refine callC hCb rfl rfl (by simp [closedA, closedP, closedC]) rfl ?_
        simp only [go_sem, List.length_map, encK_len, takeK, Nat.le_refl]
        refine callKdb (m1 := 3003) (m2 := 3004) (ws := []) (ns := []) (hC 3003 3004) (by decide) (by decide) rfl (lendC2 (clKd a) (clKd b)) (by simp [clKd]) ⟨?_, ?_⟩
        · simp only [go_sem]
        cases ok with
        | false => simp only [go_sem, imp_self]
        | true =>
          have hk := hn.resolve_left (by simp)
          simp only [go_sem, List.length_map, encK_len, takeK, Nat.le_refl]
          refine callL (ws := kdL 3003 _ 3004 _ k) (ns := [3003, 3004]) hCk rfl (lendKd1 rfl rfl rfl rfl) (by simp [clKd]) rfl ⟨?_, ?_⟩
          · simp only [go_sem]
          simp only [go_sem, hk, scalarT, scalarP, scalarC, imp_self]
      rcases hJ with ⟨rfl, hJ⟩ | ⟨rfl, hJ⟩
      · cases hk : okK k with
        | true =>
          refine ⟨k, true, .inl ⟨rfl, h1, h2, hJ, hk⟩, fun m1 m2 => ACallsF.intro ok17 follows fun X c0 => ?_⟩
          simp only [go_sem, List.length_map, encK_len, takeK, Nat.le_refl]
          refine callC hCa rfl rfl (by simp [closedA, closedP, closedC]) rfl ?_
          simp only [go_sem, List.length_map, encK_len, takeK, Nat.le_refl]
          refine callC hCb rfl rfl (by simp [closedA, closedP, closedC]) rfl ?_
          simp only [go_sem, List.length_map, encK_len, takeK, Nat.le_refl]
          refine callKdb (m1 := 2001) (m2 := 2002) (ws := []) (ns := []) (hC 2001 2002) (by decide) (by decide) rfl (lendC2 (clKd a) (clKd b)) (by simp [clKd]) ⟨?_, ?_⟩
          · simp only [go_sem]
          simp only [go_sem, List.length_map, encK_len, takeK, Nat.le_refl]
          refine callL (ws := kdL 2001 _ 2002 _ k) (ns := [2001, 2002]) hCk rfl (lendKd1 rfl rfl rfl rfl) (by simp [clKd]) rfl ⟨?_, ?_⟩
          · simp only [go_sem]
          simp only [go_sem, hk, scalarT, scalarP, scalarC, imp_self]
        | false => exact ⟨.mk 0 [] [], false, .inr ⟨rfl, rfl, fun _ _ k' hk' => by cases jn_det hJ k' hk'; exact hk⟩, no (.inr hk)⟩
      · exact ⟨.mk 0 [] [], false, .inr ⟨rfl, rfl, fun _ _ k' hk' => absurd hk' (hJ k')⟩, no (.inl rfl)⟩
end Go.V
set_option linter.unusedSimpArgs false
set_option maxRecDepth 20000
namespace Go.V
open Go.Proofs
/-- KindJoin of the program and of the reference: the law, walked. -/
def ok4 := okF.gu (P := Try.prog) tab Try.func4 Try.ntmps4 (by conv => lhs; cbv) (by kernel_rfl)
set_option maxRecDepth 20000 in
set_option maxHeartbeats 8000000 in
theorem lawKJ_ok (a : Kd) (ha : KB 9223372036854775807 a) (b : Kd) (hb : KB 9223372036854775807 b) : ACallsF Try.prog 4 [tK a, tK b] [] (.b true) := by
  have hS0 := szK_ok a ha (1048576) ⟨by omega, by omega⟩
  by_cases hB0 : ((wK a : Nat) : Int) ≤ 1048576
  rotate_left
  · have e3 : sub1 (1048576) (wK a) = -1 := by rw [sub1, if_neg hB0]
    rw [e3] at hS0
    refine ACallsF.intro ok4 follows fun X c0 => ?_
    simp only [go_sem, List.length_map, encK_len, takeK, encT_len, takeT, Nat.le_refl]
    refine callC hS0 rfl rfl (by simp [closedA, closedP, closedC]) rfl ?_
    simp only [go_sem, Int.reduceLT]
  rw [show sub1 (1048576) (wK a) = 1048576 - ((wK a : Nat) : Int) by rw [sub1, if_pos hB0]] at hS0
  have nq0 : ¬ 1048576 - ((wK a : Nat) : Int) < 0 := by omega
  have hS1 := szK_ok b hb (1048576 - ((wK a : Nat) : Int)) ⟨by omega, by omega⟩
  by_cases hB1 : ((wK b : Nat) : Int) ≤ 1048576 - ((wK a : Nat) : Int)
  rotate_left
  · have e3 : sub1 (1048576 - ((wK a : Nat) : Int)) (wK b) = -1 := by rw [sub1, if_neg hB1]
    rw [e3] at hS1
    refine ACallsF.intro ok4 follows fun X c0 => ?_
    simp only [go_sem, List.length_map, encK_len, takeK, encT_len, takeT, Nat.le_refl]
    refine callC hS0 rfl rfl (by simp [closedA, closedP, closedC]) rfl ?_
    simp only [go_sem, List.length_map, encK_len, takeK, encT_len, takeT, Nat.le_refl, nq0]
    refine callC hS1 rfl rfl (by simp [closedA, closedP, closedC]) rfl ?_
    simp only [go_sem, Int.reduceLT]
  rw [show sub1 (1048576 - ((wK a : Nat) : Int)) (wK b) = 1048576 - ((wK a : Nat) : Int) - ((wK b : Nat) : Int) by rw [sub1, if_pos hB1]] at hS1
  have nq1 : ¬ 1048576 - ((wK a : Nat) : Int) - ((wK b : Nat) : Int) < 0 := by omega
  have sa : KB 1048576 a := KB_of a 1048576 (by omega)
  have sb : KB 1048576 b := KB_of b 1048576 (by omega)
  have ta := toK_ok a sa
  have qa := eqK_ok a (sa.le (by omega))
  have tb := toK_ok b sb
  have qb := eqK_ok b (sb.le (by omega))
  obtain ⟨w, ok, hKJ, hS⟩ := kjS_ok a b (sa.le (by omega)) (sb.le (by omega))
  obtain ⟨w', ok', hKJ', hI⟩ := kjO_ok a b (sa.le (by omega)) (sb.le (by omega))
  obtain ⟨rfl, rfl⟩ := kj_same hKJ' hKJ
  have qw := eqK_ok w' ((kj_KB hKJ).le (by omega))
  have hwN := kj_small hKJ
  generalize w' = w at *
  generalize ok' = ok at *
  have l0 := topNK_le (1) a
  have m0 := topNK_ge (1) a
  have l1 := topNK_le (topNK (1) a) b
  have m1 := topNK_ge (topNK (1) a) b
  have nk : ¬ ((topNK (topNK (1) a) b : Nat) : Int) < 0 := by omega
  have ng : ¬ ((topNK 1 w : Nat) : Int) < 0 := by omega
  have nm : (((topNK 1 w : Nat) : Int) != ((topNK 1 w : Nat) : Int)) = false := by simp
  have hw1 := topNK_ge 1 w
  have nb : (!(ok == ok)) = false := by simp
  refine ACallsF.intro ok4 follows fun X c0 => ?_
  simp only [go_sem, List.length_map, encK_len, takeK, encT_len, takeT, Nat.le_refl]
  refine callC hS0 rfl rfl (by simp [closedA, closedP, closedC]) rfl ?_
  simp only [go_sem, nq0, List.length_map, encK_len, takeK, encT_len, takeT, Nat.le_refl]
  refine callC hS1 rfl rfl (by simp [closedA, closedP, closedC]) rfl ?_
  simp only [go_sem, nq1, List.length_map, encK_len, takeK, encT_len, takeT, Nat.le_refl]
  refine callKd (m1 := 3001) (m2 := 3002) (ws := []) (ns := []) (ta 3001 3002) (by decide) (by decide) rfl (lendC1 (clKd a)) (by simp [clKd]) ⟨?_, ?_⟩
  · simp only [go_sem]
  simp only [go_sem, List.length_map, encK_len, takeK, encT_len, takeT, Nat.le_refl]
  refine callKd (m1 := 3003) (m2 := 3004) (ws := []) (ns := []) (tb 3003 3004) (by decide) (by decide) rfl (lendC1 (clKd b)) (by simp [clKd]) ⟨?_, ?_⟩
  · simp only [go_sem]
  simp only [go_sem, List.length_map, encK_len, takeK, encT_len, takeT, Nat.le_refl]
  refine callL (ws := kdL 3001 _ 3002 _ a ++ kdL 3003 _ 3004 _ b) (ns := [3001, 3002, 3003, 3004]) hS rfl (lendAll2_KK rfl rfl rfl rfl rfl rfl rfl rfl) (by simp [clKd]) (by simp [closedT, closedP, closedC]) ⟨?_, ?_⟩
  · simp only [go_sem]
  simp only [go_sem, scalarT, scalarP, scalarC, List.all_cons, Bool.false_and, List.length_map, encK_len, takeK, encT_len, takeT, Nat.le_refl]
  refine callKd (m1 := 3101) (m2 := 3102) (ws := []) (ns := []) (ta 3101 3102) (by decide) (by decide) rfl (lendC1 (clKd a)) (by simp [clKd]) ⟨?_, ?_⟩
  · simp only [go_sem]
  simp only [go_sem, List.length_map, encK_len, takeK, encT_len, takeT, Nat.le_refl]
  refine callKd (m1 := 3103) (m2 := 3104) (ws := []) (ns := []) (tb 3103 3104) (by decide) (by decide) rfl (lendC1 (clKd b)) (by simp [clKd]) ⟨?_, ?_⟩
  · simp only [go_sem]
  simp only [go_sem, List.length_map, encK_len, takeK, encT_len, takeT, Nat.le_refl]
  refine callKdb (m1 := 3201) (m2 := 3202) (ws := kdL 3101 _ 3102 _ a ++ kdL 3103 _ 3104 _ b) (ns := [3101, 3102, 3103, 3104]) (hI 3201 3202) (by decide) (by decide) rfl (lendAll2_KK rfl rfl rfl rfl rfl rfl rfl rfl) (by simp [clKd]) ⟨?_, ?_⟩
  · simp only [go_sem]
  simp only [go_sem, List.length_map, encK_len, takeK, encT_len, takeT, Nat.le_refl]
  refine callL (ws := kdL 3201 _ 3202 _ w) (ns := [3201, 3202]) qw rfl (lendKdC rfl rfl rfl rfl) (by simp [clKd]) rfl ⟨?_, ?_⟩
  · simp only [go_sem, scalarT, scalarP, scalarC]
  simp only [go_sem, scalarT, scalarP, scalarC, nb, List.length_map, encK_len, takeK, encT_len, takeT, Nat.le_refl]
  refine callKd (m1 := 3301) (m2 := 3302) (ws := []) (ns := []) (ta 3301 3302) (by decide) (by decide) rfl (lendC1 (clKd a)) (by simp [clKd]) ⟨?_, ?_⟩
  · simp only [go_sem]
  simp only [go_sem, List.length_map, encK_len, takeK, encT_len, takeT, Nat.le_refl]
  refine callL (ws := kdL 3101 _ 3102 _ a ++ kdL 3301 _ 3302 _ a) (ns := [3101, 3102, 3301, 3302]) qa rfl (lendKd2 rfl rfl rfl rfl rfl rfl rfl rfl) (by simp [clKd]) rfl ⟨?_, ?_⟩
  · simp only [go_sem, scalarT, scalarP, scalarC]
  simp only [go_sem, scalarT, scalarP, scalarC, List.length_map, encK_len, takeK, encT_len, takeT, Nat.le_refl]
  refine callKd (m1 := 3303) (m2 := 3304) (ws := []) (ns := []) (tb 3303 3304) (by decide) (by decide) rfl (lendC1 (clKd b)) (by simp [clKd]) ⟨?_, ?_⟩
  · simp only [go_sem]
  simp only [go_sem, List.length_map, encK_len, takeK, encT_len, takeT, Nat.le_refl]
  refine callL (ws := kdL 3103 _ 3104 _ b ++ kdL 3303 _ 3304 _ b) (ns := [3103, 3104, 3303, 3304]) qb rfl (lendKd2 rfl rfl rfl rfl rfl rfl rfl rfl) (by simp [clKd]) rfl ⟨?_, ?_⟩
  · simp only [go_sem, scalarT, scalarP, scalarC]
  simp only [go_sem, scalarT, scalarP, scalarC, List.length_map, encK_len, takeK, encT_len, takeT, Nat.le_refl]
  refine callMkK (m1 := 3101) (m2 := 3102) (markK_ok a (1) (by omega) (by omega) 3101 3102 _ _) rfl rfl rfl rfl (by decide) rfl rfl ⟨rfl, ?_⟩
  simp only [go_sem, nk, List.length_map, encK_len, takeK, encT_len, takeT, Nat.le_refl]
  refine callMkK (m1 := 3103) (m2 := 3104) (markK_ok b (topNK (1) a) (by omega) (by omega) 3103 3104 _ _) rfl rfl rfl rfl (by decide) rfl rfl ⟨rfl, ?_⟩
  simp only [go_sem, nk, List.length_map, encK_len, takeK, encT_len, takeT, Nat.le_refl]
  refine callL (ws := kdL 3201 _ 3202 _ w) (ns := [3201, 3202]) qw rfl (lendKdC rfl rfl rfl rfl) (by simp [clKd]) rfl ⟨?_, ?_⟩
  · simp only [go_sem, scalarT, scalarP, scalarC]
  simp only [go_sem, scalarT, scalarP, scalarC, nb, List.length_map, encK_len, takeK, encT_len, takeT, Nat.le_refl]
  refine callMkK (m1 := 3201) (m2 := 3202) (markK_ok w 1 (by omega) (by omega) 3201 3202 _ _) rfl rfl rfl rfl (by decide) rfl rfl ⟨rfl, ?_⟩
  simp only [go_sem]
  refine callL (ws := kdL 3201 _ 3202 _ (topK 1 w)) (ns := [3201, 3202]) (heldK_ok w 1 (by omega) (by omega)) rfl (lendKdT rfl rfl) (by simp [closedA, closedP, closedC]) rfl ⟨?_, ?_⟩
  · simp only [go_sem, scalarT, scalarP, scalarC]
  simp only [go_sem, scalarT, scalarP, scalarC, ng, nm, List.length_map, encK_len, takeK, encT_len, takeT, Nat.le_refl]
  refine callKd (m1 := 3401) (m2 := 3402) (ws := []) (ns := []) (ta 3401 3402) (by decide) (by decide) rfl (lendC1 (clKd a)) (by simp [clKd]) ⟨?_, ?_⟩
  · simp only [go_sem]
  simp only [go_sem, List.length_map, encK_len, takeK, encT_len, takeT, Nat.le_refl]
  refine callKd (m1 := 3403) (m2 := 3404) (ws := []) (ns := []) (tb 3403 3404) (by decide) (by decide) rfl (lendC1 (clKd b)) (by simp [clKd]) ⟨?_, ?_⟩
  · simp only [go_sem]
  simp only [go_sem, List.length_map, encK_len, takeK, encT_len, takeT, Nat.le_refl]
  refine callKdb (m1 := 3501) (m2 := 3502) (ws := kdL 3401 _ 3402 _ a ++ kdL 3403 _ 3404 _ b) (ns := [3401, 3402, 3403, 3404]) (hI 3501 3502) (by decide) (by decide) rfl (lendAll2_KK rfl rfl rfl rfl rfl rfl rfl rfl) (by simp [clKd]) ⟨?_, ?_⟩
  · simp only [go_sem]
  simp only [go_sem, List.length_map, encK_len, takeK, encT_len, takeT, Nat.le_refl]
  refine callL (ws := kdL 3501 _ 3502 _ w) (ns := [3501, 3502]) qw rfl (lendKdC rfl rfl rfl rfl) (by simp [clKd]) rfl ⟨?_, ?_⟩
  · simp only [go_sem, scalarT, scalarP, scalarC]
  simp only [go_sem, scalarT, scalarP, scalarC, nb, List.length_map, encK_len, takeK, encT_len, takeT, Nat.le_refl]
  refine callL (ws := kdL 3201 _ 3202 _ (topK 1 w)) (ns := [3201, 3202]) (heldK_ok w 1 (by omega) (by omega)) rfl (lendKdT rfl rfl) (by simp [closedA, closedP, closedC]) rfl ⟨?_, ?_⟩
  · simp only [go_sem, scalarT, scalarP, scalarC]
  simp only [go_sem, scalarT, scalarP, scalarC, ng, nm, List.length_map, encK_len, takeK, encT_len, takeT, Nat.le_refl]
end Go.V

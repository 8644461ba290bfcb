/- It is proved that the law FnKindJoin returns true for every input and leaves its input as it was; no condition. -/
import Derived.Test.YtejcaodogbmpdaaJK3
import Derived.Shelf.Sort.Plain
import Derived.Shelf.Slices.In.SortNone
import Derived.Shelf.Slices.CompactS
import Derived.Shelf.SlGeneric
import Derived.Shelf.Spec.SlicesGrow
import Derived.Lib.RowBridge
import Derived.Sort.Walk0
set_option linter.unusedSimpArgs false
namespace Go.Proofs
open Go.Shelf
def Try.laysSort_ren : Go.Shelf.Ren := ⟨fun | 190 => 95 | 125 => 110 | 258 => 109 | 128 => 122 | 129 => 123 | 302 => 114 | 303 => 115 | 304 => 116 | 305 => 117 | 306 => 118 | 307 => 119 | 308 => 99 | 309 => 120 | 310 => 121 | 333 => 124 | 329 => 125 | 330 => 126 | 334 => 127 | 335 => 128 | 336 => 111 | 344 => 129 | n => n, fun | 31 => 23 | 9 => 9 | 3 => 3 | 46 => 105 | 0 => 0 | 51 => 121 | 53 => 123 | 4 => 4 | 183 => 115 | 182 => 114 | 131 => 95 | 5 => 5 | 218 => 124 | 222 => 82 | 228 => 129 | 229 => 130 | n => n, fun | n => n⟩
theorem Try.laysSort : Go.Proofs.Lays.n190 Try.prog Try.laysSort_ren := {
  mixed := by kernel_rfl
  f125 := Try.func110.trans (congrArg some (by kernel_rfl))
  f128 := Try.func122.trans (congrArg some (by kernel_rfl))
  f129 := Try.func123.trans (congrArg some (by kernel_rfl))
  f190 := Try.func95.trans (congrArg some (by kernel_rfl))
  f258 := Try.func109.trans (congrArg some (by kernel_rfl))
  f302 := Try.func114.trans (congrArg some (by kernel_rfl))
  f303 := Try.func115.trans (congrArg some (by kernel_rfl))
  f304 := Try.func116.trans (congrArg some (by kernel_rfl))
  f305 := Try.func117.trans (congrArg some (by kernel_rfl))
  f306 := Try.func118.trans (congrArg some (by kernel_rfl))
  f307 := Try.func119.trans (congrArg some (by kernel_rfl))
  f308 := Try.func99.trans (congrArg some (by kernel_rfl))
  f309 := Try.func120.trans (congrArg some (by kernel_rfl))
  f310 := Try.func121.trans (congrArg some (by kernel_rfl))
  f329 := Try.func125.trans (congrArg some (by kernel_rfl))
  f330 := Try.func126.trans (congrArg some (by kernel_rfl))
  f333 := Try.func124.trans (congrArg some (by kernel_rfl))
  f334 := Try.func127.trans (congrArg some (by kernel_rfl))
  f335 := Try.func128.trans (congrArg some (by kernel_rfl))
  f336 := Try.func111.trans (congrArg some (by kernel_rfl))
  f344 := Try.func129.trans (congrArg some (by kernel_rfl))
  t0 := Try.underlying0
  a0 := Try.isAgg0
  z0 := Try.sizeOf0
  v0 := Try.zeroValue0
  t3 := Try.underlying3
  a3 := Try.isAgg3
  z3 := Try.sizeOf3
  v3 := Try.zeroValue3
  t4 := Try.underlying4
  a4 := Try.isAgg4
  z4 := Try.sizeOf4
  v4 := Try.zeroValue4
  t5 := Try.underlying5
  a5 := Try.isAgg5
  z5 := Try.sizeOf5
  v5 := Try.zeroValue5
  t9 := Try.underlying9
  a9 := Try.isAgg9
  z9 := Try.sizeOf9
  v9 := Try.zeroValue9
  t31 := Try.underlying23
  a31 := Try.isAgg23
  z31 := Try.sizeOf23
  v31 := Try.zeroValue23
  t46 := Try.underlying105
  a46 := Try.isAgg105
  z46 := Try.sizeOf105
  v46 := Try.zeroValue105
  t51 := Try.underlying121
  a51 := Try.isAgg121
  z51 := Try.sizeOf121
  v51 := Try.zeroValue121
  t53 := Try.underlying123
  a53 := Try.isAgg123
  z53 := Try.sizeOf123
  v53 := Try.zeroValue123
  t131 := Try.underlying95
  a131 := Try.isAgg95
  z131 := Try.sizeOf95
  v131 := Try.zeroValue95
  t182 := Try.underlying114
  a182 := Try.isAgg114
  z182 := Try.sizeOf114
  v182 := Try.zeroValue114
  t183 := Try.underlying115
  a183 := Try.isAgg115
  z183 := Try.sizeOf115
  v183 := Try.zeroValue115
  t218 := Try.underlying124
  a218 := Try.isAgg124
  z218 := Try.sizeOf124
  v218 := Try.zeroValue124
  t222 := Try.underlying82
  a222 := Try.isAgg82
  z222 := Try.sizeOf82
  v222 := Try.zeroValue82
  t228 := Try.underlying129
  a228 := Try.isAgg129
  z228 := Try.sizeOf129
  v228 := Try.zeroValue129
  t229 := Try.underlying130
  a229 := Try.isAgg130
  z229 := Try.sizeOf130
  v229 := Try.zeroValue130 }
def Try.laysCompact_ren : Go.Shelf.Ren := ⟨fun | 194 => 96 | n => n, fun | 31 => 23 | 9 => 9 | 3 => 3 | 4 => 4 | 0 => 0 | n => n, fun | n => n⟩
theorem Try.laysCompact : Go.Proofs.Lays.n194 Try.prog Try.laysCompact_ren := {
  mixed := by kernel_rfl
  f194 := Try.func96.trans (congrArg some (by kernel_rfl))
  t0 := Try.underlying0
  a0 := Try.isAgg0
  z0 := Try.sizeOf0
  v0 := Try.zeroValue0
  t3 := Try.underlying3
  a3 := Try.isAgg3
  z3 := Try.sizeOf3
  v3 := Try.zeroValue3
  t4 := Try.underlying4
  a4 := Try.isAgg4
  z4 := Try.sizeOf4
  v4 := Try.zeroValue4
  t9 := Try.underlying9
  a9 := Try.isAgg9
  z9 := Try.sizeOf9
  v9 := Try.zeroValue9
  t31 := Try.underlying23
  a31 := Try.isAgg23
  z31 := Try.sizeOf23
  v31 := Try.zeroValue23 }
def Try.laysGrow_ren : Go.Shelf.Ren := ⟨fun | 4 => 108 | n => n, fun | 22 => 23 | 25 => 9 | 3 => 3 | 4 => 4 | 9 => 9 | 20 => 20 | 0 => 0 | n => n, fun | n => n⟩
theorem Try.laysGrow : Go.Proofs.Lays8.n4 Try.prog Try.laysGrow_ren := {
  mixed := by kernel_rfl
  f4 := ⟨Try.f108.name, by kernel_rfl, Try.func108.trans (congrArg some (by kernel_rfl))⟩
  t0 := Try.underlying0
  a0 := Try.isAgg0
  z0 := Try.sizeOf0
  v0 := Try.zeroValue0
  t3 := Try.underlying3
  a3 := Try.isAgg3
  z3 := Try.sizeOf3
  v3 := Try.zeroValue3
  t4 := Try.underlying4
  a4 := Try.isAgg4
  z4 := Try.sizeOf4
  v4 := Try.zeroValue4
  t9 := Try.underlying9
  a9 := Try.isAgg9
  z9 := Try.sizeOf9
  v9 := Try.zeroValue9
  t20 := Try.underlying20
  a20 := Try.isAgg20
  z20 := Try.sizeOf20
  v20 := Try.zeroValue20
  t22 := Try.underlying23
  a22 := Try.isAgg23
  z22 := Try.sizeOf23
  v22 := Try.zeroValue23 }
end Go.Proofs
namespace Go.V
open Go.Proofs Go.Sort
def ofL (l : List UInt8) : ByteArray := ⟨l.toArray⟩
theorem rowL_ofL (zs : List (List UInt8)) : rowL (zs.map ofL) = zs := by
  simp [rowL, ofL, Function.comp_def]
theorem ofL_data (b : ByteArray) : ofL b.data.toList = b := by simp [ofL]
theorem ofL_rowL (ss : List ByteArray) : (rowL ss).map ofL = ss := by
  simp [rowL, ofL_data, Function.comp_def]
theorem isFn95 : isFn Try.prog 95 = true := by kernel_rfl
theorem isFn96 : isFn Try.prog 96 = true := by kernel_rfl
theorem isFn108 : isFn Try.prog 108 = true := by kernel_rfl
abbrev srt (zs : List (List UInt8)) : List (List UInt8) := zs.mergeSort fun x y => decide (x ≤ y)
theorem sort_ok (ss : List ByteArray) (hs : ss.length < 4611686018427387904) (n m v : Nat) : ACallsF Try.prog 95 [.c (.own n v ss.length)] (rowH n m v 9 ss ((srt (rowL ss)).map ofL)) (.tup []) := by
  refine row_sort isFn95 (by simp [srt, rowL]) (fun a cap w => Any.slices_Sort_string_none Try.laysSort a cap w) fun g cap w hH hg _ => ?_
  have h := Any.slices_Sort_string Try.laysSort g 0 cap (rowL ss) w hH hg (by rw [rowL_len]; exact hs)
  rw [rowL_len] at h
  refine h.mono ?_
  rintro e w' ⟨h1, q, os, h2⟩
  exact ⟨h1, q, os, by rw [rowL_ofL]; exact h2⟩
abbrev cmp (zs : List (List UInt8)) : List (List UInt8) := Lib.compact zs
theorem cmp_le (zs : List (List UInt8)) : (cmp zs).length ≤ zs.length := Lib.compact_length_le zs
theorem compact_ok (ss : List ByteArray) (hs : ss.length ≤ 9223372036854775807) (n m v : Nat) : ∃ rest, (cmp (rowL ss)).length + rest = ss.length ∧
    ACallsF Try.prog 96 [.c (.own n v ss.length)] (rowH n m v 9 ss ((cmp (rowL ss)).map ofL ++ List.replicate rest (ofL []))) (.c (.own n v (cmp (rowL ss)).length)) := by
  have hle := cmp_le (rowL ss)
  rw [rowL_len] at hle
  refine ⟨ss.length - (cmp (rowL ss)).length, by omega, row_comp isFn96 (by simp; omega) hle (fun a cap w => Any.slices_Compact_string_empty Try.laysCompact a cap w) fun g cap w hH hg hcap => ?_⟩
  have h := Any.slices_Compact_string Try.laysCompact g 0 cap (rowL ss) w hH (by rw [rowL_len]; exact hs) (by rw [rowL_len]; exact hcap)
  rw [rowL_len] at h
  refine h.mono ?_
  rintro e w' ⟨h1, q, h2⟩
  have e1 : (cmp (rowL ss)).map ofL ++ List.replicate (ss.length - (cmp (rowL ss)).length) (ofL []) = ((cmp (rowL ss)) ++ List.replicate (ss.length - (cmp (rowL ss)).length) []).map ofL := by simp
  exact ⟨h1, q, #[], by rw [e1, rowL_ofL, grow_empty]; exact h2⟩
end Go.V
set_option linter.unusedSimpArgs false
namespace Go.V
open Go.Proofs
theorem freshHand {w w' : World} {imm : Imm} {L : Locs} {c N m : Nat} {ty : TypeId} {x : Value} (hH : HOk w imm (hinOf [⟨N, m, none, .arr 0 true 1 ty [], false⟩]) L (· < c))
    (hw : (w' = w ∧ ∃ a, x = .slice a 0 0) ∨ ∃ (cells : Array Value) (cap : Nat), x = .slice (some ⟨w.heap.size, 0, none⟩) 0 cap ∧ w' = w.drew.alloc (.cells cells ty) ∧ cells.size = cap ∧ cap ≤ maxLen) :
    ∃ (x' : Value) (r : T) (h : HMap) (imm' : Imm) (L' : Locs) (c' : Nat), Ending.returned x = .returned x' ∧ (∃ ν : Nat → Nat, r = verT ν (.c (.own N 0 0)) ∧ ∀ c h0, renN [⟨N, m, none, .arr 0 true 1 ty [], false⟩] c = some h0 → h c = some (verB ν (ν c) h0.b') ∧ (h0.keep = true → ∃ b, h0.b = some b ∧ ν c = b.ver)) ∧
      TRep w' imm' h L' (· < c') x' r ∧ HOk w' imm' h L' (· < c') ∧ Step w imm (foot (hinOf [⟨N, m, none, .arr 0 true 1 ty [], false⟩]) L) w' imm' ∧ Near w (foot (hinOf [⟨N, m, none, .arr 0 true 1 ty [], false⟩]) L) h L' ∧
      Ext w (hinOf [⟨N, m, none, .arr 0 true 1 ty [], false⟩]) L (· < c) w' h L' (· < c') := by
  have hnone : ∀ k, hinOf [⟨N, m, none, .arr 0 true 1 ty [], false⟩] k = none := by
    intro k
    by_cases h : (N == k) = true
    · simp [hinOf, renN, h]
    · simp only [Bool.not_eq_true] at h; simp [hinOf, renN, h]
  let H' : HMap := fun k => if k = N then some (.arr c true 1 ty []) else none
  have hn : ∀ k, H' k ≠ none → k = N := fun k hk => by
    by_cases h : k = N
    · exact h
    · simp [H', h] at hk
  have hN : H' N = some (.arr c true 1 ty []) := by simp [H']
  have left : ∃ ν : Nat → Nat, T.c (.own N c 0) = verT ν (.c (.own N 0 0)) ∧ ∀ k h0, renN [⟨N, m, none, .arr 0 true 1 ty [], false⟩] k = some h0 → H' k = some (verB ν (ν k) h0.b') ∧ (h0.keep = true → ∃ b, h0.b = some b ∧ ν k = b.ver) := by
    refine ⟨fun _ => c, rfl, fun k h0 hk => ?_⟩
    by_cases h : (N == k) = true
    · simp only [renN, List.find?_cons, h, Option.some.injEq] at hk
      subst hk
      have hk : k = N := (by simpa using h : N = k).symm
      subst hk
      exact ⟨hN, fun h => by cases h⟩
    · simp only [Bool.not_eq_true] at h
      simp [renN, h] at hk
  rcases hw with ⟨rfl, a, rfl⟩ | ⟨cells, cap, rfl, rfl, hsz, hcap⟩
  · refine ⟨_, _, H', imm, fun k => if k = N then none else L k, c + 1, rfl, left, ?_, ⟨fun k B hk => ?_, fun a b g ha hb _ _ => (hn a ha).trans (hn b hb).symm, hH.imm⟩, ⟨rfl, rfl, rfl, Nat.le_refl _, fun _ _ _ => rfl, fun _ _ h => ⟨h, rfl⟩, fun _ _ h => .inl h⟩, fun k g hk hg => ?_, ⟨fun x hx => Nat.lt_succ_of_lt hx, fun k ver ty' cs hu hk => ?_, fun k ver wr st ty' es hu hk => ?_, fun k ver wr st ty' es g cur hu hk => ?_⟩⟩
    · refine ⟨Nat.lt_succ_self c, ⟨_, _, rfl, Nat.le_refl _⟩, fun wr st ty' es hes => ⟨Nat.zero_le _, .inl ⟨_, rfl, rfl⟩⟩⟩
    · have := hn k (by rw [hk]; simp)
      subst this
      rw [hN] at hk
      cases hk
      exact ⟨Nat.lt_succ_self c, Nat.one_pos, by simp, .inl ⟨by simp, rfl⟩⟩
    · have := hn k hk
      subst this
      simp at hg
    · have := hn k (by rw [hk]; simp)
      subst this
      rw [hN] at hk
      cases hk
    · have := hn k (by rw [hk]; simp)
      subst this
      rw [hN] at hk
      cases hk
      exact absurd hu (Nat.lt_irrefl c)
    · have := hn k (by rw [hk]; simp)
      subst this
      rw [hN] at hk
      cases hk
      exact absurd hu (Nat.lt_irrefl c)
  · have e0 : (w.drew.alloc (.cells cells ty)).heap = w.heap.push (.cells cells ty) := rfl
    have hnew : (w.drew.alloc (.cells cells ty)).heap[w.heap.size]? = some (.cells cells ty (0, 0)) := by rw [e0, Array.getElem?_push_size]
    have hold : ∀ b, b < w.heap.size → (w.drew.alloc (.cells cells ty)).heap[b]? = w.heap[b]? := fun b hb => by
      rw [e0, Array.getElem?_push_lt hb, Array.getElem?_eq_getElem hb]
    have hsz2 : w.heap.size ≤ (w.drew.alloc (.cells cells ty)).heap.size := by rw [e0]; simp
    refine ⟨_, _, H', imm, fun k => if k = N then some w.heap.size else L k, c + 1, rfl, left, ?_, ⟨fun k B hk => ?_, fun a b g ha hb _ _ => (hn a ha).trans (hn b hb).symm, fun b o hb => Nat.lt_of_lt_of_le (hH.imm b o hb) hsz2⟩, ⟨rfl, rfl, rfl, hsz2, fun b hb _ => hold b hb, fun b o h => ⟨h, by simp only [World.cell?, hold b (hH.imm b o h)]⟩, fun _ _ h => .inl h⟩, fun k g hk hg => ?_, ⟨fun x hx => Nat.lt_succ_of_lt hx, fun k ver ty' cs hu hk => ?_, fun k ver wr st ty' es hu hk => ?_, fun k ver wr st ty' es g cur hu hk => ?_⟩⟩
    · refine ⟨Nat.lt_succ_self c, ⟨_, _, rfl, Nat.zero_le _⟩, fun wr st ty' es hes => ?_⟩
      rw [hN] at hes
      cases hes
      exact ⟨Nat.zero_le _, .inr ⟨w.heap.size, cap, cells, by simp, rfl, hnew, Nat.zero_le _, hcap, by omega⟩⟩
    · have := hn k (by rw [hk]; simp)
      subst this
      rw [hN] at hk
      cases hk
      exact ⟨Nat.lt_succ_self c, Nat.one_pos, by simp, .inr ⟨w.heap.size, cells, by simp, hnew, by simp, by simp, fun o ho => absurd (hH.imm _ o ho) (Nat.lt_irrefl _)⟩⟩
    · have := hn k hk
      subst this
      simp at hg
      exact .inr (by omega)
    · have := hn k (by rw [hk]; simp)
      subst this
      rw [hN] at hk
      cases hk
    · have := hn k (by rw [hk]; simp)
      subst this
      rw [hN] at hk
      cases hk
      exact absurd hu (Nat.lt_irrefl c)
    · have := hn k (by rw [hk]; simp)
      subst this
      rw [hN] at hk
      cases hk
      exact absurd hu (Nat.lt_irrefl c)

theorem info9 : ∃ i, Try.prog.info? 9 = some i ∧ i.zero = some (.string ⟨#[]⟩) ∧ i.size = 1 ∧ i.bytes = 16 := ⟨Try.t9, by kernel_rfl, rfl, rfl, rfl⟩
theorem grow_ok (N m n : Nat) (hn : n ≤ 2000000) : ACallsF Try.prog 108 [.c .nil0, .i n] [⟨N, m, none, .arr 0 true 1 9 [], false⟩] (.c (.own N 0 0)) := by
  refine ⟨isFn108, fun w imm L c vs hH hT => ?_⟩
  obtain ⟨x, y, rfl⟩ : ∃ x y, vs = [x, y] := by
    have := hT.1
    match vs, this with
    | [x, y], _ => exact ⟨x, y, rfl⟩
  obtain ⟨a, rfl⟩ : ∃ a, x = .slice a 0 0 := hT.2 0 x _ rfl rfl
  have hy : y = .int .i64 n := by
    have : VRep w imm y (.s (.int .i64 n)) := hT.2 1 y _ rfl rfl
    cases this; rfl
  subst hy
  obtain ⟨i, i1, i2, i3, i4⟩ := info9
  by_cases h0 : n = 0
  · subst h0
    refine (Any8.slices_Grow_room Try.laysGrow a 0 0 0 w (by omega) (by omega) (by omega) (by omega)).mono ?_
    rintro e w' ⟨rfl, rfl⟩
    exact freshHand hH (.inl ⟨rfl, a, rfl⟩)
  · refine (Any8.slices_Grow_grow Try.laysGrow i _ i1 i2 (by rw [i3]; omega) a 0 0 n [] w (by omega) (by omega) (by rw [i4]; omega) (by omega) (by simp) (fun _ => rfl) (fun _ _ j v h => by simp at h)).mono ?_
    rintro e w' ⟨rfl, rfl⟩
    have hge := grownCap_ge w (0 + n) 0 9
    refine freshHand hH (.inr ⟨_, _, rfl, rfl, ?_, grownCap_le_maxLen w (0 + n) 0 9 (by simp [maxLen]; omega)⟩)
    have hz : ∀ k, (Builtin.zeroCells (Value.cells (.string ⟨#[]⟩)) k).size = k := fun k => by simp [Builtin.zeroCells, Value.cells]
    simp only [Array.size_append, hz]
    simp
    have hq : (Try.laysGrow_ren.t 25) = 9 := rfl
    rw [hq]
    simp at hge ⊢
    omega
end Go.V
set_option linter.unusedSimpArgs false
namespace Go.V
open Go.Proofs
/-- A call that gives back a new array of its own. -/
theorem callA {P : Program} {t : Nat → T} {H : HMap} {c : Nat} {f : Opd} {args : List Opd} {fid : FuncId} {n m N st : Nat} {ty : TypeId} {es : List (List V)} {argsC : List T} {k : Nat} {d : Option Nat} {un : List Nat} {l : List AOper} {prev : List (Nat × List Nat × List Nat)} {K : St → Prop}
    (hC : ACallsF P fid argsC [⟨n, m, none, .arr 0 true st ty es, false⟩] (.c (.own n 0 N))) (hf : ev t f = .pt (.one (.fn fid []))) (hl : args.map (ev t) = argsC)
    (h1 : lendTs H argsC argsC = some (argsC, [], [])) (h2 : renITs [⟨n, m, none, .arr 0 true st ty es, false⟩] argsC = some argsC)
    (hk : chk prev un ⟨.c (.own m (c + k) N), [(m, .arr (c + k) true st ty es)], [m], [m]⟩ = true ∧ DRun P l ((k, [m], [m]) :: prev) K ⟨updD t d (.c (.own m (c + k) N)), upd H m (some (.arr (c + k) true st ty es)), c⟩) :
    step P k d un (.call f args) l prev K t H c := by
  let hs : List Hand := [⟨n, m, none, .arr 0 true st ty es, false⟩]
  have hN : renN hs n = some ⟨n, m, none, .arr 0 true st ty es, false⟩ := by simp [hs, renN]
  refine callW (caps := []) (ws := []) (ns := []) (r' := .c (.own m (c + k) N)) (ob := [(m, .arr (c + k) true st ty es)]) hs hC hf (by rw [hl]; simpa using h1) h2 ⟨trivial, trivial⟩ (by simp [hs]) (by simp [hs]) ?_ ?_ ?_
  · simp only [T.c, renOT, renOP, renO, hN, Option.map_some, verOf]; rfl
  · simp only [hs, renOBs, renOB, verOf]; rfl
  · have hq : quiet (.c (.own n 0 N)) hs = false := by simp [quiet, hs]
    simpa [hq, hs, updH] using hk
theorem rowS_encS (ss : List ByteArray) : rowS ss = encS ss := rfl
def sum2 (xs ys : List ByteArray) : Nat → Nat
  | 0 => 0
  | 1 => xs.length
  | _ => xs.length + ys.length
def app2 (xs ys : List ByteArray) : Nat → List ByteArray
  | 0 => []
  | 1 => xs
  | _ => xs ++ ys
/- slices.Concat[[]string,string] -/
def r94_0 : List AOper := [ao 0 2 (.mv (.k (.c .nil0)))]
def r94_1 : List AOper := [ao 0 3 (.mv (.k (.i 0)))]
def r94_2 : List AOper := [ao 0 9 (.mv (.t 0)),
  ao 1 10 (.len (.t 9)),
  ao 2 11 (.mv (.k (.i 0)))]
def r94_3 : List AOper := [ao 0 12 (.bin .lss (.t 11) (.t 10))]
def c94_4 : ACode := .cond (.t 12) .skip (.exit 0)
def r94_5 : List AOper := [ao 0 13 (.ia 1 (.t 9) (.t 11)),
  ao 1 14 (.ld 1 false (.t 13)),
  ao 2 5 (.mv (.t 14))]
def r94_6 : List AOper := [ao 0 15 (.mv (.t 3)),
  ao 1 16 (.mv (.t 5)),
  ao 2 17 (.len (.t 16)),
  ao 3 18 (.bin .add (.t 15) (.t 17)),
  ao 4 3 (.mv (.t 18))]
def r94_7 : List AOper := [ao 0 19 (.mv (.t 3)),
  ao 1 20 (.bin .lss (.t 19) (.k (.i 0)))]
def r94_8 : List AOper := [ao 0 21 (.bad),
  an 1 (.bad)]
def c94_9 : ACode := .cond (.t 20) (.reg r94_8) .skip
def c94_10 : ACode := .seq (.reg r94_5) (.seq (.reg r94_6) (.seq (.reg r94_7) c94_9))
def c94_11 : ACode := .block 1 c94_10
def r94_12 : List AOper := [ao 0 22 (.bin .add (.t 11) (.k (.i 1))),
  ao 1 11 (.mv (.t 22))]
def c94_13 : ACode := .seq (.reg r94_3) (.seq c94_4 (.seq c94_11 (.reg r94_12)))
def c94_14 : ACode := .loop c94_13
def c94_15 : ACode := .block 0 c94_14
def c94_16 : ACode := .seq (.reg r94_2) c94_15
def r94_17 : List AOper := [ao 0 23 (.mv (.t 3)),
  ao 1 24 (.call (.k (.c (.fn 108 []))) [(.k (.c .nil0)), (.t 23)]),
  ao 2 6 (.mv (.t 24))]
def r94_18 : List AOper := [ao 0 25 (.mv (.t 0)),
  ao 1 26 (.len (.t 25)),
  ao 2 27 (.mv (.k (.i 0)))]
def r94_19 : List AOper := [ao 0 28 (.bin .lss (.t 27) (.t 26))]
def c94_20 : ACode := .cond (.t 28) .skip (.exit 2)
def r94_21 : List AOper := [ao 0 29 (.ia 1 (.t 25) (.t 27)),
  ao 1 30 (.ld 1 false (.t 29)),
  ao 2 8 (.mv (.t 30))]
def r94_22 : List AOper := [ao 0 31 (.mv (.t 6)),
  ao 1 32 (.mv (.t 8)),
  ao 2 33 (.app 1 9 16 (.t 31) (.t 32)),
  ao 3 6 (.mv (.t 33))]
def c94_23 : ACode := .seq (.reg r94_21) (.reg r94_22)
def c94_24 : ACode := .block 3 c94_23
def r94_25 : List AOper := [ao 0 34 (.bin .add (.t 27) (.k (.i 1))),
  ao 1 27 (.mv (.t 34))]
def c94_26 : ACode := .seq (.reg r94_19) (.seq c94_20 (.seq c94_24 (.reg r94_25)))
def c94_27 : ACode := .loop c94_26
def c94_28 : ACode := .block 2 c94_27
def c94_29 : ACode := .seq (.reg r94_18) c94_28
def r94_30 : List AOper := [ao 0 35 (.mv (.t 6)),
  ao 1 2 (.mv (.t 35))]
def c94 : ACode := .seq (.reg r94_0) (.seq (.reg r94_1) (.seq c94_16 (.seq (.reg r94_17) (.seq c94_29 (.seq (.reg r94_30) .ret)))))
def s94 : List ARes := [.tmp 2]
theorem ok94 : okF Try.prog 94 36 c94 s94 := ⟨Try.f94, Try.func94, Try.ntmps94, by kernel_rfl, by kernel_rfl, by kernel_rfl⟩
def inv94a (xs ys : List ByteArray) (i : Nat) (σ : St) : Prop := σ.t 0 = .c (.v (.sl [[.sl (encS xs)], [.sl (encS ys)]])) ∧ σ.t 3 = .i (sum2 xs ys i) ∧ σ.t 9 = .c (.v (.sl [[.sl (encS xs)], [.sl (encS ys)]])) ∧ σ.t 10 = .i 2 ∧ σ.t 11 = .i i
def inv94b (xs ys : List ByteArray) (i : Nat) (σ : St) : Prop := σ.t 25 = .c (.v (.sl [[.sl (encS xs)], [.sl (encS ys)]])) ∧ σ.t 26 = .i 2 ∧ σ.t 27 = .i i ∧ ∃ v, σ.t 6 = .c (.own 3108 v (app2 xs ys i).length) ∧ σ.H 3108 = some (.arr v true 1 9 (encS (app2 xs ys i)))
abbrev catH (m : Nat) (ss : List ByteArray) : Hand := ⟨3108, m, none, .arr 0 true 1 9 (encS ss), false⟩
theorem UMk_1 : (type_of% (uA c94.eq_1)) ∧ (type_of% (uR r94_0.eq_1)) ∧ (type_of% (uR r94_1.eq_1)) ∧ (type_of% (uA c94_16.eq_1)) ∧ (type_of% (uR r94_2.eq_1)) ∧ (type_of% (uA c94_15.eq_1)) ∧ (type_of% (uA c94_14.eq_1)) ∧ (type_of% (uR r94_17.eq_1)) ∧ (type_of% (uA c94_29.eq_1)) ∧ (type_of% (uR r94_18.eq_1)) ∧ (type_of% (uA c94_28.eq_1)) ∧ (type_of% (uA c94_27.eq_1)) ∧ (type_of% (uR r94_30.eq_1)) ∧ (type_of% s94.eq_1) :=
  ⟨uA c94.eq_1, uR r94_0.eq_1, uR r94_1.eq_1, uA c94_16.eq_1, uR r94_2.eq_1, uA c94_15.eq_1, uA c94_14.eq_1, uR r94_17.eq_1, uA c94_29.eq_1, uR r94_18.eq_1, uA c94_28.eq_1, uA c94_27.eq_1, uR r94_30.eq_1, s94.eq_1⟩
theorem UMk_2 : (type_of% (uA c94_13.eq_1)) ∧ (type_of% (uR r94_3.eq_1)) ∧ (type_of% (uA c94_4.eq_1)) ∧ (type_of% (uA c94_11.eq_1)) ∧ (type_of% (uA c94_10.eq_1)) ∧ (type_of% (uR r94_5.eq_1)) ∧ (type_of% (uR r94_6.eq_1)) ∧ (type_of% (uR r94_7.eq_1)) ∧ (type_of% (uA c94_9.eq_1)) ∧ (type_of% (uR r94_8.eq_1)) ∧ (type_of% (uR r94_12.eq_1)) ∧ (type_of% (uA c94.eq_1)) ∧ (type_of% (uR r94_0.eq_1)) ∧ (type_of% (uR r94_1.eq_1)) ∧ (type_of% (uA c94_16.eq_1)) ∧ (type_of% (uR r94_2.eq_1)) ∧ (type_of% (uA c94_15.eq_1)) ∧ (type_of% (uA c94_14.eq_1)) ∧ (type_of% (uR r94_17.eq_1)) ∧ (type_of% (uA c94_29.eq_1)) ∧ (type_of% (uR r94_18.eq_1)) ∧ (type_of% (uA c94_28.eq_1)) ∧ (type_of% (uA c94_27.eq_1)) ∧ (type_of% (uR r94_30.eq_1)) ∧ (type_of% s94.eq_1) :=
  ⟨uA c94_13.eq_1, uR r94_3.eq_1, uA c94_4.eq_1, uA c94_11.eq_1, uA c94_10.eq_1, uR r94_5.eq_1, uR r94_6.eq_1, uR r94_7.eq_1, uA c94_9.eq_1, uR r94_8.eq_1, uR r94_12.eq_1, uA c94.eq_1, uR r94_0.eq_1, uR r94_1.eq_1, uA c94_16.eq_1, uR r94_2.eq_1, uA c94_15.eq_1, uA c94_14.eq_1, uR r94_17.eq_1, uA c94_29.eq_1, uR r94_18.eq_1, uA c94_28.eq_1, uA c94_27.eq_1, uR r94_30.eq_1, s94.eq_1⟩
theorem UMk_3 : (type_of% (uA c94_26.eq_1)) ∧ (type_of% (uR r94_19.eq_1)) ∧ (type_of% (uA c94_20.eq_1)) ∧ (type_of% (uA c94_24.eq_1)) ∧ (type_of% (uA c94_23.eq_1)) ∧ (type_of% (uR r94_21.eq_1)) ∧ (type_of% (uR r94_22.eq_1)) ∧ (type_of% (uR r94_25.eq_1)) ∧ (type_of% (uA c94.eq_1)) ∧ (type_of% (uR r94_0.eq_1)) ∧ (type_of% (uR r94_1.eq_1)) ∧ (type_of% (uA c94_16.eq_1)) ∧ (type_of% (uR r94_2.eq_1)) ∧ (type_of% (uA c94_15.eq_1)) ∧ (type_of% (uA c94_14.eq_1)) ∧ (type_of% (uR r94_17.eq_1)) ∧ (type_of% (uA c94_29.eq_1)) ∧ (type_of% (uR r94_18.eq_1)) ∧ (type_of% (uA c94_28.eq_1)) ∧ (type_of% (uA c94_27.eq_1)) ∧ (type_of% (uR r94_30.eq_1)) ∧ (type_of% s94.eq_1) :=
  ⟨uA c94_26.eq_1, uR r94_19.eq_1, uA c94_20.eq_1, uA c94_24.eq_1, uA c94_23.eq_1, uR r94_21.eq_1, uR r94_22.eq_1, uR r94_25.eq_1, uA c94.eq_1, uR r94_0.eq_1, uR r94_1.eq_1, uA c94_16.eq_1, uR r94_2.eq_1, uA c94_15.eq_1, uA c94_14.eq_1, uR r94_17.eq_1, uA c94_29.eq_1, uR r94_18.eq_1, uA c94_28.eq_1, uA c94_27.eq_1, uR r94_30.eq_1, s94.eq_1⟩
theorem concat_ok (xs ys : List ByteArray) (ha : xs.length ≤ 1000000) (hb : ys.length ≤ 1000000) (m : Nat) : ACallsF Try.prog 94 [.c (.v (.sl [[.sl (encS xs)], [.sl (encS ys)]]))] [catH m (xs ++ ys)] (.c (.own 3108 0 (xs ++ ys).length)) := by
  refine ACallsF.intro ok94 follows fun X c0 => ?_
  simp only [RUN, core, T.c, T.s, T.b, T.i, sBin, sInt, sUn, isShift, asInt, P1.cells, loadT, ptrC, storeT, putC, fillP, Nat.reduceAdd, reduceIte, Nat.reduceEqDiff, Nat.reduceLT, Nat.reduceLeDiff, reduceCtorEq, eq_self, FIT, lendCs_map, verC_map, FinC, resPs, resP, lendPl, lendCs, lendC, sealC, partsT, finHs, tupT, verT, verP, verC, verB, verAt, Blk.ver, handsAre, forall_const, UMk_1]
  refine AW.upto 2 (inv94a xs ys) ⟨rfl, rfl, rfl, rfl, rfl⟩ fun i t H c hi h => ?_
  obtain ⟨e0, e3, e9, e10, e11⟩ := h
  simp only [T.c, T.i, T.s] at e0 e3 e9 e10 e11
  have hxa : (∀ (e : List V), e ∈ encS xs → e.length = 1) = True := eq_true (rowS_one xs)
  have hya : (∀ (e : List V), e ∈ encS ys → e.length = 1) = True := eq_true (rowS_one ys)
  have hx0 : sum2 xs ys 1 = xs.length := rfl
  have hx2 : sum2 xs ys 2 = xs.length + ys.length := rfl
  rcases (by omega : i = 0 ∨ i = 1 ∨ i = 2) with rfl | rfl | rfl
  · have w0 : IntKind.i64.wrap ((sum2 xs ys 0 : Int) + xs.length) = (sum2 xs ys 1 : Nat) := by rw [wrap64 ⟨by simp [sum2], by simp [sum2]; omega⟩]; simp [sum2]
    have w1 : IntKind.i64.wrap (((0 : Nat) : Int) + 1) = ((0 + 1 : Nat) : Int) := wrap64 (x := ((0 : Nat) : Int) + 1) ⟨by omega, by omega⟩
    have k0 : ((0 : Nat) : Int) < 2 := by omega
    have kz : (0 : Int) ≤ ((0 : Nat) : Int) := by omega
    have k1 : ¬ ((sum2 xs ys 1 : Nat) : Int) < 0 := by omega
    simp only [RUN, core, T.c, T.s, T.b, T.i, sBin, sInt, sUn, isShift, asInt, P1.cells, loadT, ptrC, storeT, putC, fillP, Nat.reduceAdd, reduceIte, Nat.reduceEqDiff, Nat.reduceLT, Nat.reduceLeDiff, reduceCtorEq, eq_self, FIT, lendCs_map, verC_map, FinC, resPs, resP, lendPl, lendCs, lendC, sealC, partsT, finHs, tupT, verT, verP, verC, verB, verAt, Blk.ver, handsAre, forall_const, CHT, disj, Nat.reduceBEq, beq_self_eq_true, APT, srcOf, sealPs, sealCs, sealC, List.mem_singleton, forall_eq, UMk_2, e0, e3, e9, e10, e11, encS_len, w0, k1, k0, kz, w1, Int.toNat_natCast, List.getElem?_cons_zero, List.length_cons, List.length_nil]
    exact ⟨e0, rfl, e9, e10, rfl⟩
  · have w0 : IntKind.i64.wrap ((sum2 xs ys 1 : Int) + ys.length) = (sum2 xs ys 2 : Nat) := by rw [wrap64 ⟨by omega, by omega⟩, hx2, hx0]; omega
    have w1 : IntKind.i64.wrap (((1 : Nat) : Int) + 1) = ((1 + 1 : Nat) : Int) := wrap64 (x := ((1 : Nat) : Int) + 1) ⟨by omega, by omega⟩
    have k0 : ((1 : Nat) : Int) < 2 := by omega
    have kz : (0 : Int) ≤ ((1 : Nat) : Int) := by omega
    have k1 : ¬ ((sum2 xs ys 2 : Nat) : Int) < 0 := by omega
    simp only [RUN, core, T.c, T.s, T.b, T.i, sBin, sInt, sUn, isShift, asInt, P1.cells, loadT, ptrC, storeT, putC, fillP, Nat.reduceAdd, reduceIte, Nat.reduceEqDiff, Nat.reduceLT, Nat.reduceLeDiff, reduceCtorEq, eq_self, FIT, lendCs_map, verC_map, FinC, resPs, resP, lendPl, lendCs, lendC, sealC, partsT, finHs, tupT, verT, verP, verC, verB, verAt, Blk.ver, handsAre, forall_const, CHT, disj, Nat.reduceBEq, beq_self_eq_true, APT, srcOf, sealPs, sealCs, sealC, List.mem_singleton, forall_eq, UMk_2, e0, e3, e9, e10, e11, encS_len, w0, k1, k0, kz, w1, Int.toNat_natCast, List.getElem?_cons_succ, List.getElem?_cons_zero, List.length_cons, List.length_nil]
    exact ⟨e0, rfl, e9, e10, rfl⟩
  · have k0 : ¬ ((2 : Nat) : Int) < 2 := by omega
    simp only [RUN, core, T.c, T.s, T.b, T.i, sBin, sInt, sUn, isShift, asInt, P1.cells, loadT, ptrC, storeT, putC, fillP, Nat.reduceAdd, reduceIte, Nat.reduceEqDiff, Nat.reduceLT, Nat.reduceLeDiff, reduceCtorEq, eq_self, FIT, lendCs_map, verC_map, FinC, resPs, resP, lendPl, lendCs, lendC, sealC, partsT, finHs, tupT, verT, verP, verC, verB, verAt, Blk.ver, handsAre, forall_const, CHT, disj, Nat.reduceBEq, beq_self_eq_true, APT, srcOf, sealPs, sealCs, sealC, List.mem_singleton, forall_eq, UMk_2, UMk_1, e0, e3, e9, e10, e11, k0]
    refine callA (m := 3108) (grow_ok 3108 3108 (sum2 xs ys 2) (by omega)) rfl rfl rfl rfl ?_
    simp only [RUN, core, T.c, T.s, T.b, T.i, sBin, sInt, sUn, isShift, asInt, P1.cells, loadT, ptrC, storeT, putC, fillP, Nat.reduceAdd, reduceIte, Nat.reduceEqDiff, Nat.reduceLT, Nat.reduceLeDiff, reduceCtorEq, eq_self, FIT, lendCs_map, verC_map, FinC, resPs, resP, lendPl, lendCs, lendC, sealC, partsT, finHs, tupT, verT, verP, verC, verB, verAt, Blk.ver, handsAre, forall_const, CHT, disj, Nat.reduceBEq, beq_self_eq_true, APT, srcOf, sealPs, sealCs, sealC, List.mem_singleton, forall_eq, UMk_1, e0, List.length_cons, List.length_nil]
    refine AW.upto 2 (inv94b xs ys) ⟨rfl, rfl, rfl, _, rfl, rfl⟩ fun i t H c hi h => ?_
    obtain ⟨e25, e26, e27, v, e6, eH⟩ := h
    simp only [T.c, T.i, T.s] at e25 e26 e27 e6 eH
    rcases (by omega : i = 0 ∨ i = 1 ∨ i = 2) with rfl | rfl | rfl
    · have w1 : IntKind.i64.wrap (((0 : Nat) : Int) + 1) = ((0 + 1 : Nat) : Int) := wrap64 (x := ((0 : Nat) : Int) + 1) ⟨by omega, by omega⟩
      have k0 : ((0 : Nat) : Int) < 2 := by omega
      have kz : (0 : Int) ≤ ((0 : Nat) : Int) := by omega
      have q1 : (xs.length) * 16 ≤ 140737488355328 := by omega
      have q2 : xs.length ≤ 9223372036854775807 := by omega
      simp only [RUN, core, T.c, T.s, T.b, T.i, sBin, sInt, sUn, isShift, asInt, P1.cells, loadT, ptrC, storeT, putC, fillP, Nat.reduceAdd, reduceIte, Nat.reduceEqDiff, Nat.reduceLT, Nat.reduceLeDiff, reduceCtorEq, eq_self, FIT, lendCs_map, verC_map, FinC, resPs, resP, lendPl, lendCs, lendC, sealC, partsT, finHs, tupT, verT, verP, verC, verB, verAt, Blk.ver, handsAre, forall_const, CHT, disj, Nat.reduceBEq, beq_self_eq_true, APT, srcOf, sealPs, sealCs, sealC, List.mem_singleton, forall_eq, UMk_3, e25, e26, e27, e6, eH, app2, List.length_nil, Nat.zero_add, encS_len, hxa, q1, q2, k0, kz, w1, Int.toNat_natCast, List.getElem?_cons_zero, List.length_cons]
      exact ⟨e25, e26, rfl, _, rfl, rfl⟩
    · have w1 : IntKind.i64.wrap (((1 : Nat) : Int) + 1) = ((1 + 1 : Nat) : Int) := wrap64 (x := ((1 : Nat) : Int) + 1) ⟨by omega, by omega⟩
      have k0 : ((1 : Nat) : Int) < 2 := by omega
      have kz : (0 : Int) ≤ ((1 : Nat) : Int) := by omega
      have q1 : (xs.length + ys.length) * 16 ≤ 140737488355328 := by omega
      have q2 : xs.length + ys.length ≤ 9223372036854775807 := by omega
      have htk : List.take xs.length (encS xs) = encS xs := take_encS xs
      simp only [RUN, core, T.c, T.s, T.b, T.i, sBin, sInt, sUn, isShift, asInt, P1.cells, loadT, ptrC, storeT, putC, fillP, Nat.reduceAdd, reduceIte, Nat.reduceEqDiff, Nat.reduceLT, Nat.reduceLeDiff, reduceCtorEq, eq_self, FIT, lendCs_map, verC_map, FinC, resPs, resP, lendPl, lendCs, lendC, sealC, partsT, finHs, tupT, verT, verP, verC, verB, verAt, Blk.ver, handsAre, forall_const, CHT, disj, Nat.reduceBEq, beq_self_eq_true, APT, srcOf, sealPs, sealCs, sealC, List.mem_singleton, forall_eq, UMk_3, e25, e26, e27, e6, eH, app2, encS_len, q1, q2, k0, kz, w1, hya, htk, Int.toNat_natCast, List.getElem?_cons_succ, List.getElem?_cons_zero, List.length_cons, Nat.le_refl]
      have hl2 : (app2 xs ys (1 + 1)).length = xs.length + ys.length := List.length_append
      have he2 : encS (app2 xs ys (1 + 1)) = encS xs ++ encS ys := by simp [encS, app2]
      exact ⟨e25, e26, rfl, _, by rw [hl2]; rfl, by rw [he2]; rfl⟩
    · have k0 : ¬ ((2 : Nat) : Int) < 2 := by omega
      have hq : encS (xs ++ ys) = encS xs ++ encS ys := by simp [encS]
      simp only [RUN, core, T.c, T.s, T.b, T.i, sBin, sInt, sUn, isShift, asInt, P1.cells, loadT, ptrC, storeT, putC, fillP, Nat.reduceAdd, reduceIte, Nat.reduceEqDiff, Nat.reduceLT, Nat.reduceLeDiff, reduceCtorEq, eq_self, FIT, lendCs_map, verC_map, FinC, resPs, resP, lendPl, lendCs, lendC, sealC, partsT, finHs, tupT, verT, verP, verC, verB, verAt, Blk.ver, handsAre, forall_const, CHT, disj, Nat.reduceBEq, beq_self_eq_true, APT, srcOf, sealPs, sealCs, sealC, List.mem_singleton, forall_eq, UMk_3, UMk_1, e25, e26, e27, e6, eH, app2, k0, List.length_append, imp_self]
end Go.V
set_option linter.unusedSimpArgs false
namespace Go.V
open Go.Proofs
def bare : Kd → Kd
  | .mk s ns ks => if s = 6 then (match ks with | x :: _ => x | [] => .mk s ns ks) else .mk s ns ks
def opt (k : Kd) : Kd := if k.sort = 6 then k else .mk 6 [] [k]
theorem bare_6 {ns : List ByteArray} {ks : List Kd} {x : Kd} (h : ks[0]? = some x) : bare (.mk 6 ns ks) = x := by
  cases ks with
  | nil => simp at h
  | cons y l => simp at h; subst h; simp [bare]
theorem bare_n {s : Int} {ns : List ByteArray} {ks : List Kd} (h : s ≠ 6) : bare (.mk s ns ks) = .mk s ns ks := by simp [bare, h]
theorem opt_6 (ns : List ByteArray) (ks : List Kd) : opt (.mk 6 ns ks) = .mk 6 ns ks := by simp [opt, Kd.sort]
theorem opt_n {s : Int} {ns : List ByteArray} {ks : List Kd} (h : s ≠ 6) : opt (.mk s ns ks) = .mk 6 [] [.mk s ns ks] := by simp [opt, Kd.sort, h]
/- loop.example/teagle/spec.l3Bare -/
def r88_0 : List AOper := [ao 0 1 (.box 26 (.t 0)),
  ao 1 2 (.alloc 26 [(.v (.s (.int .i64 0))), .nil0, .nil0])]
def r88_1 : List AOper := [ao 0 3 (.fa 0 (.t 1)),
  ao 1 4 (.ld 1 false (.t 3)),
  ao 2 5 (.bin .eql (.t 4) (.k (.i 6)))]
def r88_2 : List AOper := [ao 0 6 (.fa 2 (.t 1)),
  ao 1 7 (.ld 1 false (.t 6)),
  ao 2 8 (.ia 3 (.t 7) (.k (.i 0))),
  ao 3 9 (.ld 3 true (.t 8)),
  an 4 (.st 3 (.t 2) (.t 9))]
def c88_3 : ACode := .seq (.reg r88_2) .ret
def c88_4 : ACode := .cond (.t 5) c88_3 .skip
def c88_5 : ACode := .seq (.reg r88_1) c88_4
def r88_6 : List AOper := [ao 0 10 (.ld 3 true (.t 1)),
  an 1 (.st 3 (.t 2) (.t 10))]
def c88 : ACode := .seq (.reg r88_0) (.seq c88_5 (.seq (.reg r88_6) .ret))
def s88 : List ARes := [.cell 2 3 true]
theorem ok88 : okF Try.prog 88 11 c88 s88 := ⟨Try.f88, Try.func88, Try.ntmps88, by kernel_rfl, by kernel_rfl, by kernel_rfl⟩
theorem UMl_1 : (type_of% (uA c88.eq_1)) ∧ (type_of% (uR r88_0.eq_1)) ∧ (type_of% (uA c88_5.eq_1)) ∧ (type_of% (uR r88_1.eq_1)) ∧ (type_of% (uA c88_4.eq_1)) ∧ (type_of% (uA c88_3.eq_1)) ∧ (type_of% (uR r88_2.eq_1)) ∧ (type_of% (uR r88_6.eq_1)) ∧ (type_of% s88.eq_1) :=
  ⟨uA c88.eq_1, uR r88_0.eq_1, uA c88_5.eq_1, uR r88_1.eq_1, uA c88_4.eq_1, uA c88_3.eq_1, uR r88_2.eq_1, uR r88_6.eq_1, s88.eq_1⟩
theorem bareS_ok (s : Int) (ns : List ByteArray) (ks : List Kd) (h : s = 6 → ∃ x, ks[0]? = some x) : ACallsF Try.prog 88 [tK (.mk s ns ks)] [] (tK (bare (.mk s ns ks))) := by
  refine ACallsF.intro ok88 follows fun X c0 => ?_
  by_cases hs : s = 6
  · subst hs
    obtain ⟨x, hx⟩ := h rfl
    have ex := encKs_at hx
    rw [bare_6 hx]
    simp only [RUN, core, T.c, T.s, T.b, T.i, sBin, sInt, sUn, isShift, asInt, P1.cells, loadT, ptrC, storeT, putC, fillP, Nat.reduceAdd, reduceIte, Nat.reduceEqDiff, Nat.reduceLT, Nat.reduceLeDiff, reduceCtorEq, eq_self, FIT, lendCs_map, verC_map, FinC, resPs, resP, lendPl, lendCs, lendC, sealC, partsT, finHs, tupT, verT, verP, verC, verB, verAt, Blk.ver, handsAre, forall_const, CHT, disj, Nat.reduceBEq, beq_self_eq_true, APT, srcOf, sealPs, sealCs, sealC, List.mem_singleton, forall_eq, ALT, UMl_1, encK_mk, ex, Int.toNat_zero, List.length_map, encK_len, takeK, Nat.le_refl, Int.le_refl]
  · rw [bare_n hs]
    have e0 : (s == 6) = false := by simpa using hs
    simp only [RUN, core, T.c, T.s, T.b, T.i, sBin, sInt, sUn, isShift, asInt, P1.cells, loadT, ptrC, storeT, putC, fillP, Nat.reduceAdd, reduceIte, Nat.reduceEqDiff, Nat.reduceLT, Nat.reduceLeDiff, reduceCtorEq, eq_self, FIT, lendCs_map, verC_map, FinC, resPs, resP, lendPl, lendCs, lendC, sealC, partsT, finHs, tupT, verT, verP, verC, verB, verAt, Blk.ver, handsAre, forall_const, CHT, disj, Nat.reduceBEq, beq_self_eq_true, APT, srcOf, sealPs, sealCs, sealC, List.mem_singleton, forall_eq, ALT, UMl_1, encK_mk, e0]
/- loop.example/teagle/impl.within -/
def r90_0 : List AOper := [ao 0 1 (.box 26 (.t 0)),
  ao 1 2 (.alloc 26 [(.v (.s (.int .i64 0))), .nil0, .nil0])]
def r90_1 : List AOper := [ao 0 3 (.fa 0 (.t 1)),
  ao 1 4 (.ld 1 false (.t 3)),
  ao 2 5 (.bin .eql (.t 4) (.k (.i 6)))]
def r90_2 : List AOper := [ao 0 6 (.fa 2 (.t 1)),
  ao 1 7 (.ld 1 false (.t 6)),
  ao 2 8 (.ia 3 (.t 7) (.k (.i 0))),
  ao 3 9 (.ld 3 true (.t 8)),
  an 4 (.st 3 (.t 2) (.t 9))]
def c90_3 : ACode := .seq (.reg r90_2) .ret
def c90_4 : ACode := .cond (.t 5) c90_3 .skip
def c90_5 : ACode := .seq (.reg r90_1) c90_4
def r90_6 : List AOper := [ao 0 10 (.ld 3 true (.t 1)),
  an 1 (.st 3 (.t 2) (.t 10))]
def c90 : ACode := .seq (.reg r90_0) (.seq c90_5 (.seq (.reg r90_6) .ret))
def s90 : List ARes := [.cell 2 3 true]
theorem ok90 : okF Try.prog 90 11 c90 s90 := ⟨Try.f90, Try.func90, Try.ntmps90, by kernel_rfl, by kernel_rfl, by kernel_rfl⟩
theorem UMl_2 : (type_of% (uA c90.eq_1)) ∧ (type_of% (uR r90_0.eq_1)) ∧ (type_of% (uA c90_5.eq_1)) ∧ (type_of% (uR r90_1.eq_1)) ∧ (type_of% (uA c90_4.eq_1)) ∧ (type_of% (uA c90_3.eq_1)) ∧ (type_of% (uR r90_2.eq_1)) ∧ (type_of% (uR r90_6.eq_1)) ∧ (type_of% s90.eq_1) :=
  ⟨uA c90.eq_1, uR r90_0.eq_1, uA c90_5.eq_1, uR r90_1.eq_1, uA c90_4.eq_1, uA c90_3.eq_1, uR r90_2.eq_1, uR r90_6.eq_1, s90.eq_1⟩
theorem bareI_ok (s : Int) (ns : List ByteArray) (ks : List Kd) (h : s = 6 → ∃ x, ks[0]? = some x) : ACallsF Try.prog 90 [tK (.mk s ns ks)] [] (tK (bare (.mk s ns ks))) := by
  refine ACallsF.intro ok90 follows fun X c0 => ?_
  by_cases hs : s = 6
  · subst hs
    obtain ⟨x, hx⟩ := h rfl
    have ex := encKs_at hx
    rw [bare_6 hx]
    simp only [RUN, core, T.c, T.s, T.b, T.i, sBin, sInt, sUn, isShift, asInt, P1.cells, loadT, ptrC, storeT, putC, fillP, Nat.reduceAdd, reduceIte, Nat.reduceEqDiff, Nat.reduceLT, Nat.reduceLeDiff, reduceCtorEq, eq_self, FIT, lendCs_map, verC_map, FinC, resPs, resP, lendPl, lendCs, lendC, sealC, partsT, finHs, tupT, verT, verP, verC, verB, verAt, Blk.ver, handsAre, forall_const, CHT, disj, Nat.reduceBEq, beq_self_eq_true, APT, srcOf, sealPs, sealCs, sealC, List.mem_singleton, forall_eq, ALT, UMl_2, encK_mk, ex, Int.toNat_zero, List.length_map, encK_len, takeK, Nat.le_refl, Int.le_refl]
  · rw [bare_n hs]
    have e0 : (s == 6) = false := by simpa using hs
    simp only [RUN, core, T.c, T.s, T.b, T.i, sBin, sInt, sUn, isShift, asInt, P1.cells, loadT, ptrC, storeT, putC, fillP, Nat.reduceAdd, reduceIte, Nat.reduceEqDiff, Nat.reduceLT, Nat.reduceLeDiff, reduceCtorEq, eq_self, FIT, lendCs_map, verC_map, FinC, resPs, resP, lendPl, lendCs, lendC, sealC, partsT, finHs, tupT, verT, verP, verC, verB, verAt, Blk.ver, handsAre, forall_const, CHT, disj, Nat.reduceBEq, beq_self_eq_true, APT, srcOf, sealPs, sealCs, sealC, List.mem_singleton, forall_eq, ALT, UMl_2, encK_mk, e0]
/- (loop.example/teagle/impl.Kind).clone -/
def r93_0 : List AOper := [ao 0 1 (.box 26 (.t 0)),
  ao 1 2 (.alloc 26 [(.v (.s (.int .i64 0))), .nil0, .nil0])]
def r93_1 : List AOper := [ao 0 6 (.fa 0 (.t 1)),
  ao 1 7 (.ld 1 false (.t 6)),
  au 2 8 [0, 1] (.fa 1 (.t 1)),
  au 3 9 [0, 1] (.ld 1 false (.t 8)),
  au 4 10 [0, 1] (.call (.k (.c (.fn 80 []))) [(.t 9)]),
  ao 5 11 (.build [(.v (.s (.int .i64 0))), .nil0, .nil0] [(0, 1, (.t 7)), (1, 1, (.t 10))]),
  au 6 3 (ru 6) (.alloc 26 [(.v (.s (.int .i64 0))), .nil0, .nil0]),
  an 7 (.st 3 (.t 3) (.t 11))]
def r93_2 : List AOper := [ao 0 12 (.fa 2 (.t 1)),
  ao 1 13 (.ld 1 false (.t 12)),
  ao 2 14 (.len (.t 13)),
  ao 3 15 (.mv (.k (.i 0)))]
def r93_3 : List AOper := [ao 0 16 (.bin .lss (.t 15) (.t 14))]
def c93_4 : ACode := .cond (.t 16) .skip (.exit 0)
def r93_5 : List AOper := [ao 0 17 (.ia 3 (.t 13) (.t 15)),
  ao 1 18 (.ld 3 true (.t 17)),
  ao 2 5 (.alloc 26 [(.v (.s (.int .i64 0))), .nil0, .nil0]),
  an 3 (.st 3 (.t 5) (.t 18))]
def r93_6 : List AOper := [ao 0 19 (.fa 2 (.t 3)),
  ao 1 20 (.ld 1 false (.t 19)),
  au 2 21 [0, 1] (.ld 3 true (.t 5)),
  au 3 22 [0, 1] (.call (.k (.c (.fn 93 []))) [(.t 21)]),
  au 4 23 [0, 1] (.bsl 3 26 [(.t 22)]),
  ao 5 24 (.app 3 26 56 (.t 20) (.t 23)),
  ao 6 25 (.fa 2 (.t 3)),
  an 7 (.st 1 (.t 25) (.t 24))]
def c93_7 : ACode := .seq (.reg r93_5) (.reg r93_6)
def c93_8 : ACode := .block 1 c93_7
def r93_9 : List AOper := [ao 0 26 (.bin .add (.t 15) (.k (.i 1))),
  ao 1 15 (.mv (.t 26))]
def c93_10 : ACode := .seq (.reg r93_3) (.seq c93_4 (.seq c93_8 (.reg r93_9)))
def c93_11 : ACode := .loop c93_10
def c93_12 : ACode := .block 0 c93_11
def c93_13 : ACode := .seq (.reg r93_2) c93_12
def r93_14 : List AOper := [ao 0 27 (.ld 3 true (.t 3)),
  an 1 (.st 3 (.t 2) (.t 27))]
def c93 : ACode := .seq (.reg r93_0) (.seq (.reg r93_1) (.seq c93_13 (.seq (.reg r93_14) .ret)))
def s93 : List ARes := [.cell 2 3 true]
theorem ok93 : okF Try.prog 93 28 c93 s93 := ⟨Try.f93, Try.func93, Try.ntmps93, by kernel_rfl, by kernel_rfl, by kernel_rfl⟩
def inv93 (s : Int) (ns : List ByteArray) (ks : List Kd) (i : Nat) (σ : St) : Prop :=
  (∃ u, σ.t 2 = .c (.ptr 2 u 0) ∧ σ.H 2 = some (.var u 26 [.v (.s (.int .i64 0)), .nil0, .nil0])) ∧
  (∃ u b, σ.t 3 = .c (.ptr 3 u 0) ∧ σ.H 3 = some (.var u 26 [.v (.s (.int .i64 s)), .v (.sl (encS ns)), .own 2004 b i]) ∧ σ.H 2004 = some (.arr b true 3 26 (encKs (ks.take i)))) ∧
  σ.t 13 = .c (.v (.sl (encKs ks))) ∧ σ.t 14 = .i ks.length ∧ σ.t 15 = .i i
theorem UMl_3 : (type_of% (uA c93.eq_1)) ∧ (type_of% (uR r93_0.eq_1)) ∧ (type_of% (uR r93_1.eq_1)) ∧ (type_of% (uA c93_13.eq_1)) ∧ (type_of% (uR r93_2.eq_1)) ∧ (type_of% (uA c93_12.eq_1)) ∧ (type_of% (uA c93_11.eq_1)) ∧ (type_of% (uR r93_14.eq_1)) ∧ (type_of% s93.eq_1) :=
  ⟨uA c93.eq_1, uR r93_0.eq_1, uR r93_1.eq_1, uA c93_13.eq_1, uR r93_2.eq_1, uA c93_12.eq_1, uA c93_11.eq_1, uR r93_14.eq_1, s93.eq_1⟩
theorem UMl_9 : (type_of% (uA c93_10.eq_1)) ∧ (type_of% (uR r93_3.eq_1)) ∧ (type_of% (uA c93_4.eq_1)) ∧ (type_of% (uA c93_8.eq_1)) ∧ (type_of% (uA c93_7.eq_1)) ∧ (type_of% (uR r93_5.eq_1)) ∧ (type_of% (uR r93_6.eq_1)) ∧ (type_of% (uR r93_9.eq_1)) ∧ (type_of% (uA c93.eq_1)) ∧ (type_of% (uR r93_0.eq_1)) ∧ (type_of% (uR r93_1.eq_1)) ∧ (type_of% (uA c93_13.eq_1)) ∧ (type_of% (uR r93_2.eq_1)) ∧ (type_of% (uA c93_12.eq_1)) ∧ (type_of% (uA c93_11.eq_1)) ∧ (type_of% (uR r93_14.eq_1)) ∧ (type_of% s93.eq_1) :=
  ⟨uA c93_10.eq_1, uR r93_3.eq_1, uA c93_4.eq_1, uA c93_8.eq_1, uA c93_7.eq_1, uR r93_5.eq_1, uR r93_6.eq_1, uR r93_9.eq_1, uA c93.eq_1, uR r93_0.eq_1, uR r93_1.eq_1, uA c93_13.eq_1, uR r93_2.eq_1, uA c93_12.eq_1, uA c93_11.eq_1, uR r93_14.eq_1, s93.eq_1⟩
theorem cloneK_ok : ∀ (k : Kd), KB 1000000 k → ACallsF Try.prog 93 [tK k] [] (tK k) := by
  intro k
  induction k using Kd.ind with
  | _ s ns ks ih =>
    intro hB
    obtain ⟨b1, b2, b3, b4⟩ := hB.inv
    refine ACallsF.intro ok93 follows fun X c0 => ?_
    simp only [RUN, core, T.c, T.s, T.b, T.i, sBin, sInt, sUn, isShift, asInt, P1.cells, loadT, ptrC, storeT, putC, fillP, Nat.reduceAdd, reduceIte, Nat.reduceEqDiff, Nat.reduceLT, Nat.reduceLeDiff, reduceCtorEq, eq_self, FIT, lendCs_map, verC_map, FinC, resPs, resP, lendPl, lendCs, lendC, sealC, partsT, finHs, tupT, verT, verP, verC, verB, verAt, Blk.ver, handsAre, forall_const, CHT, disj, Nat.reduceBEq, beq_self_eq_true, APT, srcOf, sealPs, sealCs, sealC, List.mem_singleton, forall_eq, ALT, UMl_3, encK_mk]
    refine callC (clone_ok ns b1) rfl rfl rfl rfl ?_
    simp only [RUN, core, T.c, T.s, T.b, T.i, sBin, sInt, sUn, isShift, asInt, P1.cells, loadT, ptrC, storeT, putC, fillP, Nat.reduceAdd, reduceIte, Nat.reduceEqDiff, Nat.reduceLT, Nat.reduceLeDiff, reduceCtorEq, eq_self, FIT, lendCs_map, verC_map, FinC, resPs, resP, lendPl, lendCs, lendC, sealC, partsT, finHs, tupT, verT, verP, verC, verB, verAt, Blk.ver, handsAre, forall_const, CHT, disj, Nat.reduceBEq, beq_self_eq_true, APT, srcOf, sealPs, sealCs, sealC, List.mem_singleton, forall_eq, ALT, UMl_3, encKs_len]
    refine AW.reify 3 2 2004 3 26 rfl rfl rfl (by decide) ?_
    refine AW.upto ks.length (inv93 s ns ks) ⟨⟨_, rfl, rfl⟩, ⟨_, _, rfl, rfl, rfl⟩, rfl, rfl, rfl⟩ fun i t H c hi h => ?_
    obtain ⟨⟨u2, e2, eH2⟩, ⟨u3, b, e3, eH3, eHb⟩, e17, e18, e19⟩ := h
    simp only [T.c, T.i] at e2 eH2 e3 eH3 eHb e17 e18 e19
    have hlr : (encKs (ks.take i)).length = i := by rw [encKs_len, List.length_take]; omega
    have htk : List.take i (encKs (ks.take i)) = encKs (ks.take i) := List.take_of_length_le (by omega)
    by_cases hlt : i < ks.length
    · have g1 : (i : Int) < ks.length := by omega
      have gz : (0 : Int) ≤ i := by omega
      have gw : IntKind.i64.wrap ((i : Int) + 1) = ((i + 1 : Nat) : Int) := wrap64 (x := (i : Int) + 1) ⟨by omega, by omega⟩
      have q3 : (i + 1) * 56 ≤ 140737488355328 := by omega
      have q4 : i + 1 ≤ 9223372036854775807 := by omega
      obtain ⟨u, hu⟩ : ∃ u, ks[i]? = some u := ⟨_, List.getElem?_eq_getElem hlt⟩
      have hmu := List.mem_of_getElem? hu
      have eu := encKs_at hu
      have hC := ih _ hmu (b4 _ hmu)
      simp only [RUN, core, T.c, T.s, T.b, T.i, sBin, sInt, sUn, isShift, asInt, P1.cells, loadT, ptrC, storeT, putC, fillP, Nat.reduceAdd, reduceIte, Nat.reduceEqDiff, Nat.reduceLT, Nat.reduceLeDiff, reduceCtorEq, eq_self, FIT, lendCs_map, verC_map, FinC, resPs, resP, lendPl, lendCs, lendC, sealC, partsT, finHs, tupT, verT, verP, verC, verB, verAt, Blk.ver, handsAre, forall_const, CHT, disj, Nat.reduceBEq, beq_self_eq_true, APT, srcOf, sealPs, sealCs, sealC, List.mem_singleton, forall_eq, ALT, UMl_9, e17, e18, e19, e3, eH3, g1, gz, eu, Int.toNat_natCast, List.length_map, encK_len, takeK, Nat.le_refl]
      refine callC hC rfl rfl (by simp [closedA, closedP, closedC]) (by simp [closedT, closedP, closedC]) ?_
      simp only [RUN, core, T.c, T.s, T.b, T.i, sBin, sInt, sUn, isShift, asInt, P1.cells, loadT, ptrC, storeT, putC, fillP, Nat.reduceAdd, reduceIte, Nat.reduceEqDiff, Nat.reduceLT, Nat.reduceLeDiff, reduceCtorEq, eq_self, FIT, lendCs_map, verC_map, FinC, resPs, resP, lendPl, lendCs, lendC, sealC, partsT, finHs, tupT, verT, verP, verC, verB, verAt, Blk.ver, handsAre, forall_const, CHT, disj, Nat.reduceBEq, beq_self_eq_true, APT, srcOf, sealPs, sealCs, sealC, List.mem_singleton, forall_eq, ALT, UMl_9, e19, e3, eH3, eHb, hlr, htk, gw, q3, q4, encKs_len, encK_len]
      have hnew : encKs (ks.take (i + 1)) = encKs (ks.take i) ++ [encK u] := by rw [List.take_add_one, hu]; exact encKs_snoc _ _
      unfold inv93
      rw [hnew]
      exact ⟨hlt, ⟨u2, e2, eH2⟩, ⟨u3, _, e3, rfl, rfl⟩, e17, e18, rfl⟩
    · have hin : i = ks.length := by omega
      subst hin
      have g1 : ¬ ((ks.length : Nat) : Int) < ks.length := by omega
      rw [List.take_length] at eHb htk hlr
      simp only [RUN, core, T.c, T.s, T.b, T.i, sBin, sInt, sUn, isShift, asInt, P1.cells, loadT, ptrC, storeT, putC, fillP, Nat.reduceAdd, reduceIte, Nat.reduceEqDiff, Nat.reduceLT, Nat.reduceLeDiff, reduceCtorEq, eq_self, FIT, lendCs_map, verC_map, FinC, resPs, resP, lendPl, lendCs, lendC, sealC, partsT, finHs, tupT, verT, verP, verC, verB, verAt, Blk.ver, handsAre, forall_const, CHT, disj, Nat.reduceBEq, beq_self_eq_true, APT, srcOf, sealPs, sealCs, sealC, List.mem_singleton, forall_eq, ALT, UMl_9, UMl_3, e2, eH2, e3, eH3, eHb, e18, e19, g1, hlr, htk, Nat.le_refl, encK_mk]
/- loop.example/teagle/spec.l3Copy -/
def r107_0 : List AOper := [ao 0 1 (.box 26 (.t 0)),
  ao 1 2 (.alloc 26 [(.v (.s (.int .i64 0))), .nil0, .nil0])]
def r107_1 : List AOper := [ao 0 5 (.fa 0 (.t 1)),
  ao 1 6 (.ld 1 false (.t 5)),
  au 2 7 [0, 1] (.bsl 1 9 []),
  au 3 8 (ru 3) (.fa 1 (.t 1)),
  au 4 9 (ru 3) (.ld 1 false (.t 8)),
  au 5 10 [0, 1] (.app 1 9 16 (.t 7) (.t 9)),
  ao 6 11 (.build [(.v (.s (.int .i64 0))), .nil0, .nil0] [(0, 1, (.t 6)), (1, 1, (.t 10))]),
  au 7 3 (ru 7) (.alloc 26 [(.v (.s (.int .i64 0))), .nil0, .nil0]),
  an 8 (.st 3 (.t 3) (.t 11))]
def r107_2 : List AOper := [ao 0 4 (.mv (.k (.i 0)))]
def r107_3 : List AOper := [ao 0 12 (.mv (.t 4)),
  ao 1 13 (.fa 2 (.t 1)),
  ao 2 14 (.ld 1 false (.t 13)),
  ao 3 15 (.len (.t 14)),
  ao 4 16 (.bin .lss (.t 12) (.t 15))]
def c107_4 : ACode := .cond (.t 16) .skip (.exit 0)
def c107_5 : ACode := .seq (.reg r107_3) c107_4
def r107_6 : List AOper := [ao 0 19 (.fa 2 (.t 3)),
  ao 1 20 (.ld 1 false (.t 19)),
  au 2 21 [0, 1] (.fa 2 (.t 1)),
  au 3 22 [0, 1] (.ld 1 false (.t 21)),
  au 4 23 (ru 4) (.mv (.t 4)),
  au 5 24 [0, 1] (.ia 3 (.t 22) (.t 23)),
  au 6 25 [0, 1] (.ld 3 true (.t 24)),
  au 7 26 [0, 1] (.call (.k (.c (.fn 107 []))) [(.t 25)]),
  au 8 27 [0, 1] (.bsl 3 26 [(.t 26)]),
  ao 9 28 (.app 3 26 56 (.t 20) (.t 27)),
  ao 10 29 (.fa 2 (.t 3)),
  an 11 (.st 1 (.t 29) (.t 28))]
def c107_7 : ACode := .block 1 (.reg r107_6)
def r107_8 : List AOper := [ao 0 17 (.mv (.t 4)),
  ao 1 18 (.bin .add (.t 17) (.k (.i 1))),
  ao 2 4 (.mv (.t 18))]
def c107_9 : ACode := .seq c107_5 (.seq c107_7 (.reg r107_8))
def c107_10 : ACode := .loop c107_9
def c107_11 : ACode := .block 0 c107_10
def c107_12 : ACode := .seq (.reg r107_2) c107_11
def r107_13 : List AOper := [ao 0 30 (.ld 3 true (.t 3)),
  an 1 (.st 3 (.t 2) (.t 30))]
def c107 : ACode := .seq (.reg r107_0) (.seq (.reg r107_1) (.seq c107_12 (.seq (.reg r107_13) .ret)))
def s107 : List ARes := [.cell 2 3 true]
theorem ok107 : okF Try.prog 107 31 c107 s107 := ⟨Try.f107, Try.func107, Try.ntmps107, by kernel_rfl, by kernel_rfl, by kernel_rfl⟩
def inv107 (s : Int) (ns : List ByteArray) (ks : List Kd) (i : Nat) (σ : St) : Prop :=
  (∃ u, σ.t 1 = .c (.ptr 1 u 0) ∧ σ.H 1 = some (.var u 26 [.v (.s (.int .i64 s)), .v (.sl (encS ns)), .v (.sl (encKs ks))])) ∧
  (∃ u, σ.t 2 = .c (.ptr 2 u 0) ∧ σ.H 2 = some (.var u 26 [.v (.s (.int .i64 0)), .nil0, .nil0])) ∧
  (∃ u a b, σ.t 3 = .c (.ptr 3 u 0) ∧ σ.H 3 = some (.var u 26 [.v (.s (.int .i64 s)), .own 7 a ns.length, .own 2004 b i]) ∧ σ.H 7 = some (.arr a true 1 9 (encS ns)) ∧ σ.H 2004 = some (.arr b true 3 26 (encKs (ks.take i)))) ∧
  σ.t 4 = .i i
theorem UMl_4 : (type_of% (uA c107.eq_1)) ∧ (type_of% (uR r107_0.eq_1)) ∧ (type_of% (uR r107_1.eq_1)) ∧ (type_of% (uA c107_12.eq_1)) ∧ (type_of% (uR r107_2.eq_1)) ∧ (type_of% (uA c107_11.eq_1)) ∧ (type_of% (uA c107_10.eq_1)) ∧ (type_of% (uR r107_13.eq_1)) ∧ (type_of% s107.eq_1) :=
  ⟨uA c107.eq_1, uR r107_0.eq_1, uR r107_1.eq_1, uA c107_12.eq_1, uR r107_2.eq_1, uA c107_11.eq_1, uA c107_10.eq_1, uR r107_13.eq_1, s107.eq_1⟩
theorem UMl_10 : (type_of% (uA c107_9.eq_1)) ∧ (type_of% (uA c107_5.eq_1)) ∧ (type_of% (uR r107_3.eq_1)) ∧ (type_of% (uA c107_4.eq_1)) ∧ (type_of% (uA c107_7.eq_1)) ∧ (type_of% (uR r107_6.eq_1)) ∧ (type_of% (uR r107_8.eq_1)) ∧ (type_of% (uA c107.eq_1)) ∧ (type_of% (uR r107_0.eq_1)) ∧ (type_of% (uR r107_1.eq_1)) ∧ (type_of% (uA c107_12.eq_1)) ∧ (type_of% (uR r107_2.eq_1)) ∧ (type_of% (uA c107_11.eq_1)) ∧ (type_of% (uA c107_10.eq_1)) ∧ (type_of% (uR r107_13.eq_1)) ∧ (type_of% s107.eq_1) :=
  ⟨uA c107_9.eq_1, uA c107_5.eq_1, uR r107_3.eq_1, uA c107_4.eq_1, uA c107_7.eq_1, uR r107_6.eq_1, uR r107_8.eq_1, uA c107.eq_1, uR r107_0.eq_1, uR r107_1.eq_1, uA c107_12.eq_1, uR r107_2.eq_1, uA c107_11.eq_1, uA c107_10.eq_1, uR r107_13.eq_1, s107.eq_1⟩
theorem copyK_ok : ∀ (k : Kd), KB 1000000 k → ACallsF Try.prog 107 [tK k] [] (tK k) := by
  intro k
  induction k using Kd.ind with
  | _ s ns ks ih =>
    intro hB
    obtain ⟨b1, b2, b3, b4⟩ := hB.inv
    have hxa : (∀ (e : List V), e ∈ encS ns → e.length = 1) = True := eq_true (rowS_one ns)
    have q1 : ns.length * 16 ≤ 140737488355328 := by omega
    have q2 : ns.length ≤ 9223372036854775807 := by omega
    refine ACallsF.intro ok107 follows fun X c0 => ?_
    simp only [RUN, core, T.c, T.s, T.b, T.i, sBin, sInt, sUn, isShift, asInt, P1.cells, loadT, ptrC, storeT, putC, fillP, Nat.reduceAdd, reduceIte, Nat.reduceEqDiff, Nat.reduceLT, Nat.reduceLeDiff, reduceCtorEq, eq_self, FIT, lendCs_map, verC_map, FinC, resPs, resP, lendPl, lendCs, lendC, sealC, partsT, finHs, tupT, verT, verP, verC, verB, verAt, Blk.ver, handsAre, forall_const, CHT, disj, Nat.reduceBEq, beq_self_eq_true, APT, srcOf, sealPs, sealCs, sealC, List.mem_singleton, forall_eq, ALT, UMl_4, encK_mk, encS_len, hxa, q1, q2, Nat.zero_add, List.length_nil]
    refine AW.reify 3 2 2004 3 26 rfl rfl rfl (by decide) ?_
    refine AW.upto ks.length (inv107 s ns ks) ⟨⟨_, rfl, rfl⟩, ⟨_, rfl, rfl⟩, ⟨_, _, _, rfl, rfl, rfl, rfl⟩, rfl⟩ fun i t H c hi h => ?_
    obtain ⟨⟨u1, e1, eH1⟩, ⟨u2, e2, eH2⟩, ⟨u3, a, b, e3, eH3, eHa, eHb⟩, e4⟩ := h
    simp only [T.c, T.i] at e1 eH1 e2 eH2 e3 eH3 eHa eHb e4
    have hlr : (encKs (ks.take i)).length = i := by rw [encKs_len, List.length_take]; omega
    have htk : List.take i (encKs (ks.take i)) = encKs (ks.take i) := List.take_of_length_le (by omega)
    by_cases hlt : i < ks.length
    · have g1 : (i : Int) < ks.length := by omega
      have gz : (0 : Int) ≤ i := by omega
      have gw : IntKind.i64.wrap ((i : Int) + 1) = ((i + 1 : Nat) : Int) := wrap64 (x := (i : Int) + 1) ⟨by omega, by omega⟩
      have q3 : (i + 1) * 56 ≤ 140737488355328 := by omega
      have q4 : i + 1 ≤ 9223372036854775807 := by omega
      obtain ⟨u, hu⟩ : ∃ u, ks[i]? = some u := ⟨_, List.getElem?_eq_getElem hlt⟩
      have hmu := List.mem_of_getElem? hu
      have eu := encKs_at hu
      have hC := ih _ hmu (b4 _ hmu)
      simp only [RUN, core, T.c, T.s, T.b, T.i, sBin, sInt, sUn, isShift, asInt, P1.cells, loadT, ptrC, storeT, putC, fillP, Nat.reduceAdd, reduceIte, Nat.reduceEqDiff, Nat.reduceLT, Nat.reduceLeDiff, reduceCtorEq, eq_self, FIT, lendCs_map, verC_map, FinC, resPs, resP, lendPl, lendCs, lendC, sealC, partsT, finHs, tupT, verT, verP, verC, verB, verAt, Blk.ver, handsAre, forall_const, CHT, disj, Nat.reduceBEq, beq_self_eq_true, APT, srcOf, sealPs, sealCs, sealC, List.mem_singleton, forall_eq, ALT, UMl_10, e1, eH1, e3, eH3, e4, g1, gz, eu, Int.toNat_natCast, List.length_map, encK_len, encKs_len, takeK, Nat.le_refl]
      refine callC hC rfl rfl (by simp [closedA, closedP, closedC]) (by simp [closedT, closedP, closedC]) ?_
      simp only [RUN, core, T.c, T.s, T.b, T.i, sBin, sInt, sUn, isShift, asInt, P1.cells, loadT, ptrC, storeT, putC, fillP, Nat.reduceAdd, reduceIte, Nat.reduceEqDiff, Nat.reduceLT, Nat.reduceLeDiff, reduceCtorEq, eq_self, FIT, lendCs_map, verC_map, FinC, resPs, resP, lendPl, lendCs, lendC, sealC, partsT, finHs, tupT, verT, verP, verC, verB, verAt, Blk.ver, handsAre, forall_const, CHT, disj, Nat.reduceBEq, beq_self_eq_true, APT, srcOf, sealPs, sealCs, sealC, List.mem_singleton, forall_eq, ALT, UMl_10, e4, e3, eH3, eHb, hlr, htk, gw, q3, q4, encKs_len, encK_len]
      have hnew : encKs (ks.take (i + 1)) = encKs (ks.take i) ++ [encK u] := by rw [List.take_add_one, hu]; exact encKs_snoc _ _
      unfold inv107
      rw [hnew]
      exact ⟨hlt, ⟨u1, e1, eH1⟩, ⟨u2, e2, eH2⟩, ⟨u3, _, _, e3, rfl, eHa, rfl⟩, rfl⟩
    · have hin : i = ks.length := by omega
      subst hin
      have g1 : ¬ ((ks.length : Nat) : Int) < ks.length := by omega
      rw [List.take_length] at eHb htk hlr
      simp only [RUN, core, T.c, T.s, T.b, T.i, sBin, sInt, sUn, isShift, asInt, P1.cells, loadT, ptrC, storeT, putC, fillP, Nat.reduceAdd, reduceIte, Nat.reduceEqDiff, Nat.reduceLT, Nat.reduceLeDiff, reduceCtorEq, eq_self, FIT, lendCs_map, verC_map, FinC, resPs, resP, lendPl, lendCs, lendC, sealC, partsT, finHs, tupT, verT, verP, verC, verB, verAt, Blk.ver, handsAre, forall_const, CHT, disj, Nat.reduceBEq, beq_self_eq_true, APT, srcOf, sealPs, sealCs, sealC, List.mem_singleton, forall_eq, ALT, UMl_10, UMl_4, e1, eH1, e2, eH2, e3, eH3, eHa, eHb, e4, g1, hlr, htk, Nat.le_refl, encK_mk, encS_len, encKs_len, take_encS]
/- loop.example/teagle/impl.maybeOf -/
def r91_0 : List AOper := [ao 0 1 (.box 26 (.t 0)),
  ao 1 2 (.alloc 26 [(.v (.s (.int .i64 0))), .nil0, .nil0])]
def r91_1 : List AOper := [ao 0 3 (.ld 3 true (.t 1)),
  ao 1 4 (.call (.k (.c (.fn 93 []))) [(.t 3)]),
  ao 2 5 (.bsl 3 26 [(.t 4)]),
  ao 3 6 (.build [(.v (.s (.int .i64 0))), .nil0, .nil0] [(0, 1, (.k (.i 6))), (2, 1, (.t 5))]),
  an 4 (.st 3 (.t 2) (.t 6))]
def c91 : ACode := .seq (.reg r91_0) (.seq (.reg r91_1) .ret)
def s91 : List ARes := [.cell 2 3 true]
theorem ok91 : okF Try.prog 91 7 c91 s91 := ⟨Try.f91, Try.func91, Try.ntmps91, by kernel_rfl, by kernel_rfl, by kernel_rfl⟩
theorem UMl_5 : (type_of% (uA c91.eq_1)) ∧ (type_of% (uR r91_0.eq_1)) ∧ (type_of% (uR r91_1.eq_1)) ∧ (type_of% s91.eq_1) :=
  ⟨uA c91.eq_1, uR r91_0.eq_1, uR r91_1.eq_1, s91.eq_1⟩
theorem maybeOf_ok (k : Kd) (hB : KB 1000000 k) : ACallsF Try.prog 91 [tK k] [] (tK (.mk 6 [] [k])) := by
  refine ACallsF.intro ok91 follows fun X c0 => ?_
  simp only [RUN, core, T.c, T.s, T.b, T.i, sBin, sInt, sUn, isShift, asInt, P1.cells, loadT, ptrC, storeT, putC, fillP, Nat.reduceAdd, reduceIte, Nat.reduceEqDiff, Nat.reduceLT, Nat.reduceLeDiff, reduceCtorEq, eq_self, FIT, lendCs_map, verC_map, FinC, resPs, resP, lendPl, lendCs, lendC, sealC, partsT, finHs, tupT, verT, verP, verC, verB, verAt, Blk.ver, handsAre, forall_const, CHT, disj, Nat.reduceBEq, beq_self_eq_true, APT, srcOf, sealPs, sealCs, sealC, List.mem_singleton, forall_eq, ALT, UMl_5, List.length_map, encK_len, takeK, Nat.le_refl]
  refine callC (cloneK_ok k hB) rfl rfl (by simp [closedA, closedP, closedC]) (by simp [closedT, closedP, closedC]) ?_
  have hw : encK (.mk 6 [] [k]) = [.s (.int .i64 6), .sl [], .sl [encK k]] := by simp [encK, encS, encKs]
  simp only [RUN, core, T.c, T.s, T.b, T.i, sBin, sInt, sUn, isShift, asInt, P1.cells, loadT, ptrC, storeT, putC, fillP, Nat.reduceAdd, reduceIte, Nat.reduceEqDiff, Nat.reduceLT, Nat.reduceLeDiff, reduceCtorEq, eq_self, FIT, lendCs_map, verC_map, FinC, resPs, resP, lendPl, lendCs, lendC, sealC, partsT, finHs, tupT, verT, verP, verC, verB, verAt, Blk.ver, handsAre, forall_const, CHT, disj, Nat.reduceBEq, beq_self_eq_true, APT, srcOf, sealPs, sealCs, sealC, List.mem_singleton, forall_eq, ALT, UMl_5, encK_len, hw, List.length_cons, List.length_nil]
/- loop.example/teagle/impl.listOf -/
def r92_0 : List AOper := [ao 0 1 (.box 26 (.t 0)),
  ao 1 2 (.alloc 26 [(.v (.s (.int .i64 0))), .nil0, .nil0])]
def r92_1 : List AOper := [ao 0 3 (.ld 3 true (.t 1)),
  ao 1 4 (.call (.k (.c (.fn 93 []))) [(.t 3)]),
  ao 2 5 (.bsl 3 26 [(.t 4)]),
  ao 3 6 (.build [(.v (.s (.int .i64 0))), .nil0, .nil0] [(0, 1, (.k (.i 4))), (2, 1, (.t 5))]),
  an 4 (.st 3 (.t 2) (.t 6))]
def c92 : ACode := .seq (.reg r92_0) (.seq (.reg r92_1) .ret)
def s92 : List ARes := [.cell 2 3 true]
theorem ok92 : okF Try.prog 92 7 c92 s92 := ⟨Try.f92, Try.func92, Try.ntmps92, by kernel_rfl, by kernel_rfl, by kernel_rfl⟩
theorem UMl_6 : (type_of% (uA c92.eq_1)) ∧ (type_of% (uR r92_0.eq_1)) ∧ (type_of% (uR r92_1.eq_1)) ∧ (type_of% s92.eq_1) :=
  ⟨uA c92.eq_1, uR r92_0.eq_1, uR r92_1.eq_1, s92.eq_1⟩
theorem listOf_ok (k : Kd) (hB : KB 1000000 k) : ACallsF Try.prog 92 [tK k] [] (tK (.mk 4 [] [k])) := by
  refine ACallsF.intro ok92 follows fun X c0 => ?_
  simp only [RUN, core, T.c, T.s, T.b, T.i, sBin, sInt, sUn, isShift, asInt, P1.cells, loadT, ptrC, storeT, putC, fillP, Nat.reduceAdd, reduceIte, Nat.reduceEqDiff, Nat.reduceLT, Nat.reduceLeDiff, reduceCtorEq, eq_self, FIT, lendCs_map, verC_map, FinC, resPs, resP, lendPl, lendCs, lendC, sealC, partsT, finHs, tupT, verT, verP, verC, verB, verAt, Blk.ver, handsAre, forall_const, CHT, disj, Nat.reduceBEq, beq_self_eq_true, APT, srcOf, sealPs, sealCs, sealC, List.mem_singleton, forall_eq, ALT, UMl_6, List.length_map, encK_len, takeK, Nat.le_refl]
  refine callC (cloneK_ok k hB) rfl rfl (by simp [closedA, closedP, closedC]) (by simp [closedT, closedP, closedC]) ?_
  have hw : encK (.mk 4 [] [k]) = [.s (.int .i64 4), .sl [], .sl [encK k]] := by simp [encK, encS, encKs]
  simp only [RUN, core, T.c, T.s, T.b, T.i, sBin, sInt, sUn, isShift, asInt, P1.cells, loadT, ptrC, storeT, putC, fillP, Nat.reduceAdd, reduceIte, Nat.reduceEqDiff, Nat.reduceLT, Nat.reduceLeDiff, reduceCtorEq, eq_self, FIT, lendCs_map, verC_map, FinC, resPs, resP, lendPl, lendCs, lendC, sealC, partsT, finHs, tupT, verT, verP, verC, verB, verAt, Blk.ver, handsAre, forall_const, CHT, disj, Nat.reduceBEq, beq_self_eq_true, APT, srcOf, sealPs, sealCs, sealC, List.mem_singleton, forall_eq, ALT, UMl_6, encK_len, hw, List.length_cons, List.length_nil]
/- loop.example/teagle/impl.optional -/
def r97_0 : List AOper := [ao 0 1 (.box 26 (.t 0)),
  ao 1 2 (.alloc 26 [(.v (.s (.int .i64 0))), .nil0, .nil0])]
def r97_1 : List AOper := [ao 0 3 (.fa 0 (.t 1)),
  ao 1 4 (.ld 1 false (.t 3)),
  ao 2 5 (.bin .eql (.t 4) (.k (.i 6)))]
def r97_2 : List AOper := [ao 0 6 (.ld 3 true (.t 1)),
  ao 1 7 (.call (.k (.c (.fn 93 []))) [(.t 6)]),
  an 2 (.st 3 (.t 2) (.t 7))]
def c97_3 : ACode := .seq (.reg r97_2) .ret
def c97_4 : ACode := .cond (.t 5) c97_3 .skip
def c97_5 : ACode := .seq (.reg r97_1) c97_4
def r97_6 : List AOper := [ao 0 8 (.ld 3 true (.t 1)),
  ao 1 9 (.call (.k (.c (.fn 91 []))) [(.t 8)]),
  an 2 (.st 3 (.t 2) (.t 9))]
def c97 : ACode := .seq (.reg r97_0) (.seq c97_5 (.seq (.reg r97_6) .ret))
def s97 : List ARes := [.cell 2 3 true]
theorem ok97 : okF Try.prog 97 10 c97 s97 := ⟨Try.f97, Try.func97, Try.ntmps97, by kernel_rfl, by kernel_rfl, by kernel_rfl⟩
theorem UMl_7 : (type_of% (uA c97.eq_1)) ∧ (type_of% (uR r97_0.eq_1)) ∧ (type_of% (uA c97_5.eq_1)) ∧ (type_of% (uR r97_1.eq_1)) ∧ (type_of% (uA c97_4.eq_1)) ∧ (type_of% (uA c97_3.eq_1)) ∧ (type_of% (uR r97_2.eq_1)) ∧ (type_of% (uR r97_6.eq_1)) ∧ (type_of% s97.eq_1) :=
  ⟨uA c97.eq_1, uR r97_0.eq_1, uA c97_5.eq_1, uR r97_1.eq_1, uA c97_4.eq_1, uA c97_3.eq_1, uR r97_2.eq_1, uR r97_6.eq_1, s97.eq_1⟩
theorem optI_ok (k : Kd) (hB : KB 1000000 k) : ACallsF Try.prog 97 [tK k] [] (tK (opt k)) := by
  obtain ⟨s, ns, ks⟩ := k
  refine ACallsF.intro ok97 follows fun X c0 => ?_
  by_cases hs : s = 6
  · subst hs
    rw [opt_6]
    simp only [RUN, core, T.c, T.s, T.b, T.i, sBin, sInt, sUn, isShift, asInt, P1.cells, loadT, ptrC, storeT, putC, fillP, Nat.reduceAdd, reduceIte, Nat.reduceEqDiff, Nat.reduceLT, Nat.reduceLeDiff, reduceCtorEq, eq_self, FIT, lendCs_map, verC_map, FinC, resPs, resP, lendPl, lendCs, lendC, sealC, partsT, finHs, tupT, verT, verP, verC, verB, verAt, Blk.ver, handsAre, forall_const, CHT, disj, Nat.reduceBEq, beq_self_eq_true, APT, srcOf, sealPs, sealCs, sealC, List.mem_singleton, forall_eq, ALT, UMl_7, encK_mk]
    refine callC (argsC := [tK (.mk 6 ns ks)]) (cloneK_ok _ hB) rfl (by simp only [RUN, core, T.c, T.s, T.b, T.i, sBin, sInt, sUn, isShift, asInt, P1.cells, loadT, ptrC, storeT, putC, fillP, Nat.reduceAdd, reduceIte, Nat.reduceEqDiff, Nat.reduceLT, Nat.reduceLeDiff, reduceCtorEq, eq_self, FIT, lendCs_map, verC_map, FinC, resPs, resP, lendPl, lendCs, lendC, sealC, partsT, finHs, tupT, verT, verP, verC, verB, verAt, Blk.ver, handsAre, forall_const, CHT, disj, Nat.reduceBEq, beq_self_eq_true, APT, srcOf, sealPs, sealCs, sealC, List.mem_singleton, forall_eq, ALT, tK, encK_mk]) (by simp [closedA, closedP, closedC]) (by simp [closedT, closedP, closedC]) ?_
    simp only [RUN, core, T.c, T.s, T.b, T.i, sBin, sInt, sUn, isShift, asInt, P1.cells, loadT, ptrC, storeT, putC, fillP, Nat.reduceAdd, reduceIte, Nat.reduceEqDiff, Nat.reduceLT, Nat.reduceLeDiff, reduceCtorEq, eq_self, FIT, lendCs_map, verC_map, FinC, resPs, resP, lendPl, lendCs, lendC, sealC, partsT, finHs, tupT, verT, verP, verC, verB, verAt, Blk.ver, handsAre, forall_const, CHT, disj, Nat.reduceBEq, beq_self_eq_true, APT, srcOf, sealPs, sealCs, sealC, List.mem_singleton, forall_eq, ALT, UMl_7, encK_mk]
  · have e0 : (s == 6) = false := by simpa using hs
    rw [opt_n hs]
    simp only [RUN, core, T.c, T.s, T.b, T.i, sBin, sInt, sUn, isShift, asInt, P1.cells, loadT, ptrC, storeT, putC, fillP, Nat.reduceAdd, reduceIte, Nat.reduceEqDiff, Nat.reduceLT, Nat.reduceLeDiff, reduceCtorEq, eq_self, FIT, lendCs_map, verC_map, FinC, resPs, resP, lendPl, lendCs, lendC, sealC, partsT, finHs, tupT, verT, verP, verC, verB, verAt, Blk.ver, handsAre, forall_const, CHT, disj, Nat.reduceBEq, beq_self_eq_true, APT, srcOf, sealPs, sealCs, sealC, List.mem_singleton, forall_eq, ALT, UMl_7, encK_mk, e0]
    refine callC (argsC := [tK (.mk s ns ks)]) (maybeOf_ok _ hB) rfl (by simp only [RUN, core, T.c, T.s, T.b, T.i, sBin, sInt, sUn, isShift, asInt, P1.cells, loadT, ptrC, storeT, putC, fillP, Nat.reduceAdd, reduceIte, Nat.reduceEqDiff, Nat.reduceLT, Nat.reduceLeDiff, reduceCtorEq, eq_self, FIT, lendCs_map, verC_map, FinC, resPs, resP, lendPl, lendCs, lendC, sealC, partsT, finHs, tupT, verT, verP, verC, verB, verAt, Blk.ver, handsAre, forall_const, CHT, disj, Nat.reduceBEq, beq_self_eq_true, APT, srcOf, sealPs, sealCs, sealC, List.mem_singleton, forall_eq, ALT, tK, encK_mk]) (by simp [closedA, closedP, closedC]) (by simp [closedT, closedP, closedC]) ?_
    simp only [RUN, core, T.c, T.s, T.b, T.i, sBin, sInt, sUn, isShift, asInt, P1.cells, loadT, ptrC, storeT, putC, fillP, Nat.reduceAdd, reduceIte, Nat.reduceEqDiff, Nat.reduceLT, Nat.reduceLeDiff, reduceCtorEq, eq_self, FIT, lendCs_map, verC_map, FinC, resPs, resP, lendPl, lendCs, lendC, sealC, partsT, finHs, tupT, verT, verP, verC, verB, verAt, Blk.ver, handsAre, forall_const, CHT, disj, Nat.reduceBEq, beq_self_eq_true, APT, srcOf, sealPs, sealCs, sealC, List.mem_singleton, forall_eq, ALT, UMl_7, List.length_map, encK_len, takeK]
/- loop.example/teagle/spec.l3Maybe -/
def r89_0 : List AOper := [ao 0 1 (.box 26 (.t 0)),
  ao 1 2 (.alloc 26 [(.v (.s (.int .i64 0))), .nil0, .nil0])]
def r89_1 : List AOper := [ao 0 3 (.fa 0 (.t 1)),
  ao 1 4 (.ld 1 false (.t 3)),
  ao 2 5 (.bin .eql (.t 4) (.k (.i 6)))]
def r89_2 : List AOper := [ao 0 6 (.ld 3 true (.t 1)),
  ao 1 7 (.call (.k (.c (.fn 107 []))) [(.t 6)]),
  an 2 (.st 3 (.t 2) (.t 7))]
def c89_3 : ACode := .seq (.reg r89_2) .ret
def c89_4 : ACode := .cond (.t 5) c89_3 .skip
def c89_5 : ACode := .seq (.reg r89_1) c89_4
def r89_6 : List AOper := [ao 0 8 (.ld 3 true (.t 1)),
  ao 1 9 (.call (.k (.c (.fn 107 []))) [(.t 8)]),
  ao 2 10 (.bsl 3 26 [(.t 9)]),
  ao 3 11 (.build [(.v (.s (.int .i64 0))), .nil0, .nil0] [(0, 1, (.k (.i 6))), (2, 1, (.t 10))]),
  an 4 (.st 3 (.t 2) (.t 11))]
def c89 : ACode := .seq (.reg r89_0) (.seq c89_5 (.seq (.reg r89_6) .ret))
def s89 : List ARes := [.cell 2 3 true]
theorem ok89 : okF Try.prog 89 12 c89 s89 := ⟨Try.f89, Try.func89, Try.ntmps89, by kernel_rfl, by kernel_rfl, by kernel_rfl⟩
theorem UMl_8 : (type_of% (uA c89.eq_1)) ∧ (type_of% (uR r89_0.eq_1)) ∧ (type_of% (uA c89_5.eq_1)) ∧ (type_of% (uR r89_1.eq_1)) ∧ (type_of% (uA c89_4.eq_1)) ∧ (type_of% (uA c89_3.eq_1)) ∧ (type_of% (uR r89_2.eq_1)) ∧ (type_of% (uR r89_6.eq_1)) ∧ (type_of% s89.eq_1) :=
  ⟨uA c89.eq_1, uR r89_0.eq_1, uA c89_5.eq_1, uR r89_1.eq_1, uA c89_4.eq_1, uA c89_3.eq_1, uR r89_2.eq_1, uR r89_6.eq_1, s89.eq_1⟩
theorem optS_ok (k : Kd) (hB : KB 1000000 k) : ACallsF Try.prog 89 [tK k] [] (tK (opt k)) := by
  obtain ⟨s, ns, ks⟩ := k
  refine ACallsF.intro ok89 follows fun X c0 => ?_
  by_cases hs : s = 6
  · subst hs
    rw [opt_6]
    simp only [RUN, core, T.c, T.s, T.b, T.i, sBin, sInt, sUn, isShift, asInt, P1.cells, loadT, ptrC, storeT, putC, fillP, Nat.reduceAdd, reduceIte, Nat.reduceEqDiff, Nat.reduceLT, Nat.reduceLeDiff, reduceCtorEq, eq_self, FIT, lendCs_map, verC_map, FinC, resPs, resP, lendPl, lendCs, lendC, sealC, partsT, finHs, tupT, verT, verP, verC, verB, verAt, Blk.ver, handsAre, forall_const, CHT, disj, Nat.reduceBEq, beq_self_eq_true, APT, srcOf, sealPs, sealCs, sealC, List.mem_singleton, forall_eq, ALT, UMl_8, encK_mk]
    refine callC (argsC := [tK (.mk 6 ns ks)]) (copyK_ok _ hB) rfl (by simp only [RUN, core, T.c, T.s, T.b, T.i, sBin, sInt, sUn, isShift, asInt, P1.cells, loadT, ptrC, storeT, putC, fillP, Nat.reduceAdd, reduceIte, Nat.reduceEqDiff, Nat.reduceLT, Nat.reduceLeDiff, reduceCtorEq, eq_self, FIT, lendCs_map, verC_map, FinC, resPs, resP, lendPl, lendCs, lendC, sealC, partsT, finHs, tupT, verT, verP, verC, verB, verAt, Blk.ver, handsAre, forall_const, CHT, disj, Nat.reduceBEq, beq_self_eq_true, APT, srcOf, sealPs, sealCs, sealC, List.mem_singleton, forall_eq, ALT, tK, encK_mk]) (by simp [closedA, closedP, closedC]) (by simp [closedT, closedP, closedC]) ?_
    simp only [RUN, core, T.c, T.s, T.b, T.i, sBin, sInt, sUn, isShift, asInt, P1.cells, loadT, ptrC, storeT, putC, fillP, Nat.reduceAdd, reduceIte, Nat.reduceEqDiff, Nat.reduceLT, Nat.reduceLeDiff, reduceCtorEq, eq_self, FIT, lendCs_map, verC_map, FinC, resPs, resP, lendPl, lendCs, lendC, sealC, partsT, finHs, tupT, verT, verP, verC, verB, verAt, Blk.ver, handsAre, forall_const, CHT, disj, Nat.reduceBEq, beq_self_eq_true, APT, srcOf, sealPs, sealCs, sealC, List.mem_singleton, forall_eq, ALT, UMl_8, encK_mk]
  · have e0 : (s == 6) = false := by simpa using hs
    rw [opt_n hs]
    simp only [RUN, core, T.c, T.s, T.b, T.i, sBin, sInt, sUn, isShift, asInt, P1.cells, loadT, ptrC, storeT, putC, fillP, Nat.reduceAdd, reduceIte, Nat.reduceEqDiff, Nat.reduceLT, Nat.reduceLeDiff, reduceCtorEq, eq_self, FIT, lendCs_map, verC_map, FinC, resPs, resP, lendPl, lendCs, lendC, sealC, partsT, finHs, tupT, verT, verP, verC, verB, verAt, Blk.ver, handsAre, forall_const, CHT, disj, Nat.reduceBEq, beq_self_eq_true, APT, srcOf, sealPs, sealCs, sealC, List.mem_singleton, forall_eq, ALT, UMl_8, encK_mk, e0]
    refine callC (argsC := [tK (.mk s ns ks)]) (copyK_ok _ hB) rfl (by simp only [RUN, core, T.c, T.s, T.b, T.i, sBin, sInt, sUn, isShift, asInt, P1.cells, loadT, ptrC, storeT, putC, fillP, Nat.reduceAdd, reduceIte, Nat.reduceEqDiff, Nat.reduceLT, Nat.reduceLeDiff, reduceCtorEq, eq_self, FIT, lendCs_map, verC_map, FinC, resPs, resP, lendPl, lendCs, lendC, sealC, partsT, finHs, tupT, verT, verP, verC, verB, verAt, Blk.ver, handsAre, forall_const, CHT, disj, Nat.reduceBEq, beq_self_eq_true, APT, srcOf, sealPs, sealCs, sealC, List.mem_singleton, forall_eq, ALT, tK, encK_mk]) (by simp [closedA, closedP, closedC]) (by simp [closedT, closedP, closedC]) ?_
    have hw : encK (.mk 6 [] [.mk s ns ks]) = [.s (.int .i64 6), .sl [], .sl [encK (.mk s ns ks)]] := by simp [encK, encS, encKs]
    simp only [RUN, core, T.c, T.s, T.b, T.i, sBin, sInt, sUn, isShift, asInt, P1.cells, loadT, ptrC, storeT, putC, fillP, Nat.reduceAdd, reduceIte, Nat.reduceEqDiff, Nat.reduceLT, Nat.reduceLeDiff, reduceCtorEq, eq_self, FIT, lendCs_map, verC_map, FinC, resPs, resP, lendPl, lendCs, lendC, sealC, partsT, finHs, tupT, verT, verP, verC, verB, verAt, Blk.ver, handsAre, forall_const, CHT, disj, Nat.reduceBEq, beq_self_eq_true, APT, srcOf, sealPs, sealCs, sealC, List.mem_singleton, forall_eq, ALT, UMl_8, encK_len, hw, List.length_cons, List.length_nil]
end Go.V
set_option linter.unusedSimpArgs false
namespace Go.V
open Go.Proofs
theorem bl_asymm : ∀ {x y : List UInt8}, Op.bytesLess x y = true → Op.bytesLess y x = false := by
  intro x y h
  cases h2 : Op.bytesLess y x with
  | false => rfl
  | true => have := bl_trans h h2; rw [bl_irrefl] at this; cases this
theorem less_asymm {a b : ByteArray} (h : less a b = true) : less b a = false := bl_asymm h
theorem bl_tri : ∀ {x y : List UInt8}, Op.bytesLess x y = false → Op.bytesLess y x = false → x = y
  | [], [], _, _ => rfl
  | [], _ :: _, h, _ => by simp [Op.bytesLess] at h
  | _ :: _, [], _, h => by simp [Op.bytesLess] at h
  | a :: x, b :: y, h1, h2 => by
    simp only [Op.bytesLess, Bool.or_eq_false_iff, decide_eq_false_iff_not, Bool.and_eq_false_iff, beq_eq_false_iff_ne] at h1 h2
    have e : a = b := UInt8.le_antisymm (UInt8.not_lt.1 h2.1) (UInt8.not_lt.1 h1.1)
    subst e
    have g1 : Op.bytesLess x y = false := by rcases h1.2 with h | h; exact absurd rfl h; exact h
    have g2 : Op.bytesLess y x = false := by rcases h2.2 with h | h; exact absurd rfl h; exact h
    rw [bl_tri g1 g2]
theorem less_tri {a b : ByteArray} (h1 : less a b = false) (h2 : less b a = false) : a = b := by
  have := bl_tri h1 h2
  rwa [ByteArray.toList_eq, ByteArray.toList_eq, Array.toList_inj, ← ByteArray.ext_iff] at this
/-- Two rows of names, put together. -/
def mrg : List ByteArray → List ByteArray → List ByteArray
  | [], ys => ys
  | x :: xs, [] => x :: xs
  | x :: xs, y :: ys => if less x y = true then x :: mrg xs (y :: ys) else if less y x = true then y :: mrg (x :: xs) ys else x :: mrg xs ys
termination_by xs ys => xs.length + ys.length
theorem mrg_nil (xs : List ByteArray) : mrg xs [] = xs := by cases xs <;> simp [mrg]
theorem nil_mrg (ys : List ByteArray) : mrg [] ys = ys := by simp [mrg]
theorem mrg_lt {x y : ByteArray} {xs ys : List ByteArray} (h : less x y = true) : mrg (x :: xs) (y :: ys) = x :: mrg xs (y :: ys) := by rw [mrg, if_pos h]
theorem mrg_gt {x y : ByteArray} {xs ys : List ByteArray} (h : less y x = true) : mrg (x :: xs) (y :: ys) = y :: mrg (x :: xs) ys := by rw [mrg, if_neg (by rw [less_asymm h]; simp), if_pos h]
theorem mrg_eq (x : ByteArray) (xs ys : List ByteArray) : mrg (x :: xs) (x :: ys) = x :: mrg xs ys := by rw [mrg, if_neg (by rw [less_irrefl]; simp), if_neg (by rw [less_irrefl]; simp)]
theorem mem_mrg (z : ByteArray) : ∀ xs ys : List ByteArray, z ∈ mrg xs ys ↔ z ∈ xs ∨ z ∈ ys
  | [], ys => by simp [nil_mrg]
  | x :: xs, [] => by simp [mrg_nil]
  | x :: xs, y :: ys => by
    cases h1 : less x y with
    | true => rw [mrg_lt h1, List.mem_cons, mem_mrg z xs (y :: ys), List.mem_cons]; simp [or_assoc]
    | false =>
      cases h2 : less y x with
      | true => rw [mrg_gt h2, List.mem_cons, mem_mrg z (x :: xs) ys, List.mem_cons, List.mem_cons]; constructor <;> rintro (h | (h | h)) <;> simp_all
      | false =>
        cases less_tri h1 h2
        rw [mrg_eq, List.mem_cons, mem_mrg z xs ys, List.mem_cons, List.mem_cons]
        constructor
        · rintro (h | (h | h)) <;> simp [h]
        · rintro ((h | h) | (h | h)) <;> simp [h]
termination_by xs ys => xs.length + ys.length
theorem mrg_comm : ∀ xs ys : List ByteArray, mrg xs ys = mrg ys xs
  | [], ys => by rw [nil_mrg, mrg_nil]
  | x :: xs, [] => by rw [nil_mrg, mrg_nil]
  | x :: xs, y :: ys => by
    cases h1 : less x y with
    | true => rw [mrg_lt h1, mrg_gt h1, mrg_comm xs (y :: ys)]
    | false =>
      cases h2 : less y x with
      | true => rw [mrg_gt h2, mrg_lt h2, mrg_comm (x :: xs) ys]
      | false =>
        cases less_tri h1 h2
        rw [mrg_eq, mrg_eq, mrg_comm xs ys]
termination_by xs ys => xs.length + ys.length
theorem mrg_len : ∀ xs ys : List ByteArray, (mrg xs ys).length ≤ xs.length + ys.length
  | [], ys => by simp [nil_mrg]
  | x :: xs, [] => by simp [mrg_nil]
  | x :: xs, y :: ys => by
    cases h1 : less x y with
    | true => rw [mrg_lt h1]; have := mrg_len xs (y :: ys); simp only [List.length_cons] at this ⊢; omega
    | false =>
      cases h2 : less y x with
      | true => rw [mrg_gt h2]; have := mrg_len (x :: xs) ys; simp only [List.length_cons] at this ⊢; omega
      | false =>
        cases less_tri h1 h2
        rw [mrg_eq]; have := mrg_len xs ys; simp only [List.length_cons] at this ⊢; omega
termination_by xs ys => xs.length + ys.length
abbrev PW (xs : List ByteArray) : Prop := xs.Pairwise fun a b => less a b = true
theorem mrg_pw : ∀ xs ys : List ByteArray, PW xs → PW ys → PW (mrg xs ys)
  | [], ys, _, h => by rwa [nil_mrg]
  | x :: xs, [], h, _ => by rwa [mrg_nil]
  | x :: xs, y :: ys, hx, hy => by
    obtain ⟨a1, a2⟩ := List.pairwise_cons.1 hx
    obtain ⟨b1, b2⟩ := List.pairwise_cons.1 hy
    cases h1 : less x y with
    | true =>
      rw [mrg_lt h1]
      refine List.pairwise_cons.2 ⟨fun z hz => ?_, mrg_pw xs (y :: ys) a2 hy⟩
      rcases (mem_mrg z xs (y :: ys)).1 hz with h | h
      · exact a1 z h
      · rcases List.mem_cons.1 h with rfl | h
        · exact h1
        · exact less_trans h1 (b1 z h)
    | false =>
      cases h2 : less y x with
      | true =>
        rw [mrg_gt h2]
        refine List.pairwise_cons.2 ⟨fun z hz => ?_, mrg_pw (x :: xs) ys hx b2⟩
        rcases (mem_mrg z (x :: xs) ys).1 hz with h | h
        · rcases List.mem_cons.1 h with rfl | h
          · exact h2
          · exact less_trans h2 (a1 z h)
        · exact b1 z h
      | false =>
        cases less_tri h1 h2
        rw [mrg_eq]
        refine List.pairwise_cons.2 ⟨fun z hz => ?_, mrg_pw xs ys a2 b2⟩
        rcases (mem_mrg z xs ys).1 hz with h | h
        · exact a1 z h
        · exact b1 z h
termination_by xs ys => xs.length + ys.length
theorem pw_ext : ∀ xs ys : List ByteArray, PW xs → PW ys → (∀ z, z ∈ xs ↔ z ∈ ys) → xs = ys
  | [], [], _, _, _ => rfl
  | [], y :: ys, _, _, h => absurd ((h y).2 (by simp)) (by simp)
  | x :: xs, [], _, _, h => absurd ((h x).1 (by simp)) (by simp)
  | x :: xs, y :: ys, hx, hy, h => by
    obtain ⟨a1, a2⟩ := List.pairwise_cons.1 hx
    obtain ⟨b1, b2⟩ := List.pairwise_cons.1 hy
    have e : x = y := by
      rcases List.mem_cons.1 ((h x).1 (by simp)) with h1 | h1
      · exact h1
      · rcases List.mem_cons.1 ((h y).2 (by simp)) with h2 | h2
        · exact h2.symm
        · have := less_asymm (b1 x h1); rw [a1 y h2] at this; cases this
    subst e
    rw [pw_ext xs ys a2 b2 fun z => ⟨fun hz => ?_, fun hz => ?_⟩]
    · rcases List.mem_cons.1 ((h z).1 (List.mem_cons_of_mem _ hz)) with rfl | h1
      · have := a1 z hz; rw [less_irrefl] at this; cases this
      · exact h1
    · rcases List.mem_cons.1 ((h z).2 (List.mem_cons_of_mem _ hz)) with rfl | h1
      · have := b1 z hz; rw [less_irrefl] at this; cases this
      · exact h1
theorem rise_pw {ns : List ByteArray} (h : RiseP ns) : PW ns := by
  rw [PW, List.pairwise_iff_getElem]
  intro i j hi hj hij
  exact rise_at h hij (List.getElem?_eq_getElem hi) (List.getElem?_eq_getElem hj)
theorem pw_rise {ns : List ByteArray} (h : PW ns) (hn : ∀ x ∈ ns, nameOk x = true) : RiseP ns := by
  intro i s hs
  refine ⟨hn s (List.mem_of_getElem? hs), fun s' hi hs' => ?_⟩
  rw [PW, List.pairwise_iff_getElem] at h
  have l1 := (List.getElem?_eq_some_iff.1 hs).1
  have e1 := (List.getElem?_eq_some_iff.1 hs).2
  have l2 := (List.getElem?_eq_some_iff.1 hs').1
  have e2 := (List.getElem?_eq_some_iff.1 hs').2
  have := h (i - 1) i l2 l1 (by omega)
  rwa [e1, e2] at this
theorem rise_names {ns : List ByteArray} (h : RiseP ns) : ∀ x ∈ ns, nameOk x = true := fun x hx => by
  obtain ⟨i, hi⟩ := List.mem_iff_getElem?.1 hx
  exact (h i x hi).1
theorem mrg_rise {xs ys : List ByteArray} (hx : RiseP xs) (hy : RiseP ys) : RiseP (mrg xs ys) :=
  pw_rise (mrg_pw _ _ (rise_pw hx) (rise_pw hy)) fun z hz => by
    rcases (mem_mrg z xs ys).1 hz with h | h
    · exact rise_names hx z h
    · exact rise_names hy z h
/-- How far two rows have been put together. -/
structure MR (xs ys : List ByteArray) (m i j : Nat) : Prop where
  d : (mrg xs ys).drop m = mrg (xs.drop i) (ys.drop j)
  hi : i ≤ xs.length
  hj : j ≤ ys.length
  c1 : ∀ (t : Nat) x y, t < j → ys[t]? = some y → xs[i]? = some x → less y x = true
  c2 : ∀ (t : Nat) x y, t < i → xs[t]? = some x → ys[j]? = some y → less x y = true
theorem MR.zero (xs ys : List ByteArray) : MR xs ys 0 0 0 := ⟨rfl, Nat.zero_le _, Nat.zero_le _, fun _ _ _ h => absurd h (Nat.not_lt_zero _), fun _ _ _ h => absurd h (Nat.not_lt_zero _)⟩
theorem drop_at {α : Type} {l : List α} {i : Nat} {x : α} (h : l[i]? = some x) : l.drop i = x :: l.drop (i + 1) := by
  have hl := (List.getElem?_eq_some_iff.1 h).1
  rw [List.drop_eq_getElem_cons hl, (List.getElem?_eq_some_iff.1 h).2]
theorem of_drop {α : Type} {l : List α} {i : Nat} {x : α} {t : List α} (h : l.drop i = x :: t) : l[i]? = some x ∧ l.drop (i + 1) = t := by
  constructor
  · have := List.getElem?_drop (xs := l) (i := i) (j := 0)
    rw [h] at this
    simpa using this.symm
  · have : (l.drop i).drop 1 = l.drop (i + 1) := by rw [List.drop_drop]
    rw [← this, h]; rfl
theorem drop_end {α : Type} {l : List α} {i : Nat} (h : l[i]? = none) : l.drop i = [] := List.drop_eq_nil_of_le (List.getElem?_eq_none_iff.1 h)
theorem MR.a {xs ys : List ByteArray} {m i j : Nat} (h : MR xs ys m i j) (hx : RiseP xs) (hy : RiseP ys) {x : ByteArray} (hi : xs[i]? = some x) (hl : ∀ y, ys[j]? = some y → less x y = true) :
    (mrg xs ys)[m]? = some x ∧ (∀ t : Nat, ys[t]? ≠ some x) ∧ MR xs ys (m + 1) (i + 1) j := by
  have e : (mrg xs ys).drop m = x :: mrg (xs.drop (i + 1)) (ys.drop j) := by
    rw [h.d, drop_at hi]
    cases hj : ys[j]? with
    | none => rw [drop_end hj, mrg_nil, mrg_nil]
    | some y => rw [drop_at hj, mrg_lt (hl y hj)]
  obtain ⟨e1, e2⟩ := of_drop e
  refine ⟨e1, fun t ht => ?_, ⟨e2, (List.getElem?_eq_some_iff.1 hi).1, h.hj, fun t x' y ht hyt hx' => ?_, fun t x' y ht hx' hyj => ?_⟩⟩
  · rcases Nat.lt_or_ge t j with h1 | h1
    · have := h.c1 t x x h1 ht hi; rw [less_irrefl] at this; cases this
    · obtain ⟨y, hyj⟩ : ∃ y, ys[j]? = some y := ⟨_, List.getElem?_eq_getElem (by have := (List.getElem?_eq_some_iff.1 ht).1; omega)⟩
      have h2 := hl y hyj
      rcases Nat.eq_or_lt_of_le h1 with rfl | h3
      · rw [ht] at hyj; cases hyj; rw [less_irrefl] at h2; cases h2
      · have := less_trans h2 (rise_at hy h3 hyj ht); rw [less_irrefl] at this; cases this
  · exact less_trans (h.c1 t x y ht hyt hi) (rise_at hx (Nat.lt_succ_self i) hi hx')
  · rcases Nat.eq_or_lt_of_le (Nat.lt_succ_iff.1 ht) with rfl | h3
    · rw [hi] at hx'; cases hx'; exact hl y hyj
    · exact h.c2 t x' y h3 hx' hyj
theorem MR.swap {xs ys : List ByteArray} {m i j : Nat} (h : MR xs ys m i j) : MR ys xs m j i :=
  ⟨by rw [mrg_comm ys xs, mrg_comm (ys.drop j), h.d], h.hj, h.hi, fun t x y ht h1 h2 => h.c2 t y x ht h1 h2, fun t x y ht h1 h2 => h.c1 t y x ht h1 h2⟩
theorem MR.b {xs ys : List ByteArray} {m i j : Nat} (h : MR xs ys m i j) (hx : RiseP xs) (hy : RiseP ys) {y : ByteArray} (hj : ys[j]? = some y) (hl : ∀ x, xs[i]? = some x → less y x = true) :
    (mrg xs ys)[m]? = some y ∧ (∀ t : Nat, xs[t]? ≠ some y) ∧ MR xs ys (m + 1) i (j + 1) := by
  obtain ⟨h1, h2, h3⟩ := h.swap.a hy hx hj hl
  exact ⟨by rw [mrg_comm]; exact h1, h2, h3.swap⟩
theorem MR.c {xs ys : List ByteArray} {m i j : Nat} (h : MR xs ys m i j) (hx : RiseP xs) (hy : RiseP ys) {x : ByteArray} (hi : xs[i]? = some x) (hj : ys[j]? = some x) : (mrg xs ys)[m]? = some x ∧ MR xs ys (m + 1) (i + 1) (j + 1) := by
  have e : (mrg xs ys).drop m = x :: mrg (xs.drop (i + 1)) (ys.drop (j + 1)) := by rw [h.d, drop_at hi, drop_at hj, mrg_eq]
  obtain ⟨e1, e2⟩ := of_drop e
  refine ⟨e1, ⟨e2, (List.getElem?_eq_some_iff.1 hi).1, (List.getElem?_eq_some_iff.1 hj).1, fun t x' y ht hyt hx' => ?_, fun t x' y ht hx' hyj => ?_⟩⟩
  · have g : less x x' = true := rise_at hx (Nat.lt_succ_self i) hi hx'
    rcases Nat.eq_or_lt_of_le (Nat.lt_succ_iff.1 ht) with rfl | h3
    · rw [hj] at hyt; cases hyt; exact g
    · exact less_trans (h.c1 t x y h3 hyt hi) g
  · have g : less x y = true := rise_at hy (Nat.lt_succ_self j) hj hyj
    rcases Nat.eq_or_lt_of_le (Nat.lt_succ_iff.1 ht) with rfl | h3
    · rw [hi] at hx'; cases hx'; exact g
    · exact less_trans (h.c2 t x' x h3 hx' hj) g
theorem MR.more {xs ys : List ByteArray} {m i j : Nat} (h : MR xs ys m i j) : m < (mrg xs ys).length ↔ i < xs.length ∨ j < ys.length := by
  have e := congrArg List.length h.d
  rw [List.length_drop] at e
  constructor
  · intro hm
    rcases Nat.lt_or_ge i xs.length with h1 | h1
    · exact .inl h1
    · rcases Nat.lt_or_ge j ys.length with h2 | h2
      · exact .inr h2
      · rw [List.drop_eq_nil_of_le h1, List.drop_eq_nil_of_le h2, nil_mrg] at e; simp at e; omega
  · intro hm
    have hne : mrg (xs.drop i) (ys.drop j) ≠ [] := by
      intro h0
      rcases hm with h1 | h1
      · have : xs[i] ∈ mrg (xs.drop i) (ys.drop j) := (mem_mrg _ _ _).2 (.inl (by rw [List.drop_eq_getElem_cons h1]; exact List.mem_cons_self))
        rw [h0] at this; cases this
      · have : ys[j] ∈ mrg (xs.drop i) (ys.drop j) := (mem_mrg _ _ _).2 (.inr (by rw [List.drop_eq_getElem_cons h1]; exact List.mem_cons_self))
        rw [h0] at this; cases this
    have : 0 < (mrg (xs.drop i) (ys.drop j)).length := List.length_pos_iff.2 hne
    omega
end Go.V
set_option linter.unusedSimpArgs false
namespace Go.V
open Go.Proofs
/-- What comes of two schemas that are put together. -/
inductive Jn : Kd → Kd → Kd → Prop
  | m (a b x : Kd) (h : a.sort = 6 ∨ b.sort = 6) (hx : Jn (bare a) (bare b) x) : Jn a b (.mk 6 [] [x])
  | l (na : List ByteArray) (ka : List Kd) (nb : List ByteArray) (kb : List Kd) (p q x : Kd) (hp : ka[0]? = some p) (hq : kb[0]? = some q) (hx : Jn p q x) : Jn (.mk 4 na ka) (.mk 4 nb kb) (.mk 4 [] [x])
  | leaf (s : Int) (na : List ByteArray) (ka : List Kd) (nb : List ByteArray) (kb : List Kd) (hs : s < 4) : Jn (.mk s na ka) (.mk s nb kb) (.mk s [] [])
  | f (na : List ByteArray) (ka : List Kd) (nb : List ByteArray) (kb : List Kd) (ks : List Kd) (hna : na.length ≤ ka.length) (hnb : nb.length ≤ kb.length) (hl : ks.length = (mrg na nb).length)
      (h1 : ∀ (i : Nat) x y p q, (mrg na nb)[i]? = some x → ks[i]? = some y → kid na ka x = some p → kid nb kb x = some q → Jn p q y)
      (h2 : ∀ (i : Nat) x y p, (mrg na nb)[i]? = some x → ks[i]? = some y → kid na ka x = some p → kid nb kb x = none → y = opt p)
      (h3 : ∀ (i : Nat) x y q, (mrg na nb)[i]? = some x → ks[i]? = some y → kid na ka x = none → kid nb kb x = some q → y = opt q) : Jn (.mk 5 na ka) (.mk 5 nb kb) (.mk 5 (mrg na nb) ks)
theorem kid_mrg {na nb : List ByteArray} {ka kb : List Kd} (hna : na.length ≤ ka.length) (hnb : nb.length ≤ kb.length) {i : Nat} {x : ByteArray} (h : (mrg na nb)[i]? = some x) : (∃ p, kid na ka x = some p) ∨ ∃ q, kid nb kb x = some q := by
  rcases (mem_mrg x na nb).1 (List.mem_of_getElem? h) with h | h
  · obtain ⟨t, ht⟩ := List.mem_iff_getElem?.1 h
    exact .inl (kid_len hna ht)
  · obtain ⟨t, ht⟩ := List.mem_iff_getElem?.1 h
    exact .inr (kid_len hnb ht)
theorem jn_det {a b k : Kd} (h : Jn a b k) : ∀ k', Jn a b k' → k = k' := by
  induction h with
  | m a b x h hx ih =>
    intro k' h'
    cases h' with
    | m _ _ x' _ hx' => rw [ih x' hx']
    | l => simp [Kd.sort] at h
    | leaf s _ _ _ _ hs => simp [Kd.sort] at h; omega
    | f => simp [Kd.sort] at h
  | l na ka nb kb p q x hp hq hx ih =>
    intro k' h'
    cases h' with
    | m _ _ x' h' => simp [Kd.sort] at h'
    | l _ _ _ _ p' q' x' hp' hq' hx' =>
      rw [hp] at hp'; cases hp'
      rw [hq] at hq'; cases hq'
      rw [ih x' hx']
    | leaf s _ _ _ _ hs => omega
  | leaf s na ka nb kb hs =>
    intro k' h'
    cases h' with
    | m _ _ x' h' => simp [Kd.sort] at h'; omega
    | l => omega
    | leaf => rfl
    | f => omega
  | f na ka nb kb ks hna hnb hl h1 h2 h3 ih =>
    intro k' h'
    cases h' with
    | m _ _ x' h' => simp [Kd.sort] at h'
    | leaf s _ _ _ _ hs => omega
    | f _ _ _ _ ks' _ _ hl' h1' h2' h3' =>
      have : ks = ks' := by
        apply List.ext_getElem? 
        intro i
        by_cases hi : i < (mrg na nb).length
        · obtain ⟨x, hx⟩ : ∃ x, (mrg na nb)[i]? = some x := ⟨_, List.getElem?_eq_getElem hi⟩
          obtain ⟨y, hy⟩ : ∃ y, ks[i]? = some y := ⟨_, List.getElem?_eq_getElem (by omega)⟩
          obtain ⟨y', hy'⟩ : ∃ y, ks'[i]? = some y := ⟨_, List.getElem?_eq_getElem (by omega)⟩
          rw [hy, hy']
          congr 1
          cases hp : kid na ka x with
          | some p => cases hq : kid nb kb x with
            | some q => exact ih i x y p q hx hy hp hq y' (h1' i x y' p q hx hy' hp hq)
            | none => rw [h2 i x y p hx hy hp hq, h2' i x y' p hx hy' hp hq]
          | none => cases hq : kid nb kb x with
            | some q => rw [h3 i x y q hx hy hp hq, h3' i x y' q hx hy' hp hq]
            | none =>
              rcases kid_mrg hna hnb hx with ⟨p, h⟩ | ⟨q, h⟩
              · rw [hp] at h; cases h
              · rw [hq] at h; cases h
        · rw [List.getElem?_eq_none (by omega), List.getElem?_eq_none (by omega)]
      rw [this]
theorem jn_sym {a b k : Kd} (h : Jn a b k) : Jn b a k := by
  induction h with
  | m a b x h hx ih => exact .m b a x h.symm ih
  | l na ka nb kb p q x hp hq hx ih => exact .l nb kb na ka q p x hq hp ih
  | leaf s na ka nb kb hs => exact .leaf s nb kb na ka hs
  | f na ka nb kb ks hna hnb hl h1 h2 h3 ih =>
    rw [mrg_comm]
    rw [mrg_comm] at hl h2 h3 ih
    exact .f nb kb na ka ks hnb hna hl (fun i x y p q hx hy hp hq => ih i x y q p hx hy hq hp) (fun i x y p hx hy hp hq => h3 i x y p hx hy hq hp) fun i x y q hx hy hp hq => h2 i x y q hx hy hq hp
theorem KB.opt {n : Nat} (hn : 1 ≤ n) {k : Kd} (h : KB n k) : KB n (opt k) := by
  rw [Go.V.opt]
  by_cases hs : k.sort = 6
  · rw [if_pos hs]; exact h
  · rw [if_neg hs]
    exact .mk _ _ _ (by simp) (by simpa using hn) (fun x hx => by cases hx) fun x hx => by rw [List.mem_singleton.1 hx]; exact h
theorem KB.bare {n : Nat} {k : Kd} (h : KB n k) : KB n (bare k) := by
  obtain ⟨s, ns, ks⟩ := k
  by_cases hs : s = 6
  · subst hs
    cases ks with
    | nil => simpa [Go.V.bare] using h
    | cons x l => rw [bare_6 (x := x) rfl]; exact h.inv.2.2.2 _ (by simp)
  · rw [bare_n hs]; exact h
theorem jn_KB {a b k : Kd} (h : Jn a b k) : KB 1000 a → KB 1000 b → KB 2000 k := by
  induction h with
  | m a b x h hx ih => exact fun ha hb => .mk _ _ _ (by simp) (by simp) (fun x hx => by cases hx) fun y hy => by rw [List.mem_singleton.1 hy]; exact ih ha.bare hb.bare
  | l na ka nb kb p q x hp hq hx ih => exact fun ha hb => .mk _ _ _ (by simp) (by simp) (fun x hx => by cases hx) fun y hy => by rw [List.mem_singleton.1 hy]; exact ih (ha.inv.2.2.2 _ (List.mem_of_getElem? hp)) (hb.inv.2.2.2 _ (List.mem_of_getElem? hq))
  | leaf s na ka nb kb hs => exact fun _ _ => .mk _ _ _ (by simp) (by simp) (fun x hx => by cases hx) fun x hx => by cases hx
  | f na ka nb kb ks hna hnb hl h1 h2 h3 ih =>
    intro ha hb
    obtain ⟨a1, a2, a3, a4⟩ := ha.inv
    obtain ⟨b1, b2, b3, b4⟩ := hb.inv
    have hlen := mrg_len na nb
    refine .mk _ _ _ (by omega) (by omega) (fun x hx => ?_) fun y hy => ?_
    · rcases (mem_mrg x na nb).1 hx with h | h
      · have := a3 x h; omega
      · have := b3 x h; omega
    · obtain ⟨i, hi⟩ := List.mem_iff_getElem?.1 hy
      obtain ⟨x, hx⟩ : ∃ x, (mrg na nb)[i]? = some x := ⟨_, List.getElem?_eq_getElem (by have := (List.getElem?_eq_some_iff.1 hi).1; omega)⟩
      have kk : ∀ {ns : List ByteArray} {kk : List Kd} {p : Kd}, (∀ k ∈ kk, KB 1000 k) → kid ns kk x = some p → KB 1000 p := fun hk hp => by
        obtain ⟨t, _, ht⟩ := kid_mem hp
        exact hk _ (List.mem_of_getElem? ht)
      cases hp : kid na ka x with
      | some p => cases hq : kid nb kb x with
        | some q => exact ih i x y p q hx hi hp hq (kk a4 hp) (kk b4 hq)
        | none => rw [h2 i x y p hx hi hp hq]; exact (KB.opt (by omega) (kk a4 hp)).le (by omega)
      | none => cases hq : kid nb kb x with
        | some q => rw [h3 i x y q hx hi hp hq]; exact (KB.opt (by omega) (kk b4 hq)).le (by omega)
        | none =>
          rcases kid_mrg hna hnb hx with ⟨p, h⟩ | ⟨q, h⟩
          · rw [hp] at h; cases h
          · rw [hq] at h; cases h
theorem jn_sort {a b k : Kd} (h : Jn a b k) (ha : a.sort ≠ 6) (hb : b.sort ≠ 6) : k.sort ≠ 6 := by
  cases h with
  | m _ _ _ h => rcases h with h | h; exact absurd h ha; exact absurd h hb
  | l => simp [Kd.sort]
  | leaf s _ _ _ _ hs => simp only [Kd.sort]; omega
  | f => simp [Kd.sort]
theorem KOk.mono : ∀ {k : Kd} {d : Nat}, KOk (d + 1) k → KOk d k := by
  intro k
  induction k using Kd.ind with
  | _ s ns ks ih =>
    intro d h
    obtain ⟨h1, h2, h3⟩ := h.inv
    exact .mk _ _ _ _ (by omega) h2 fun k hk => ih k hk (h3 k hk)
theorem kid_in {ns : List ByteArray} {ks : List Kd} (hr : RiseP ns) {i : Nat} {x : ByteArray} {k : Kd} (hi : ns[i]? = some x) (hk : ks[i]? = some k) : kid ns ks x = some k :=
  kid_at (fun j hj e => by have := rise_inj hr e hi; omega) hi hk
theorem Shape.rise {ns : List ByteArray} {ks : List Kd} (h : Shape 5 ns ks) : RiseP ns := rise_true.1 (h.form rfl).2
theorem opt_sort (k : Kd) : (opt k).sort = 6 := by
  rw [opt]
  split
  · assumption
  · rfl
theorem fits_opt {k : Kd} {d : Nat} (h : KOk d k) : Fits k (opt k) := by
  obtain ⟨s, ns, ks⟩ := k
  by_cases hs : s = 6
  · subst hs; rw [opt_6]; exact fits_refl _ d h
  · rw [opt_n hs]; exact .m s ns ks [] [.mk s ns ks] _ hs rfl (fits_refl _ d h)
theorem KOk.bare {d : Nat} {k : Kd} (h : KOk d k) : ∃ e, KOk e (bare k) := by
  obtain ⟨s, ns, ks⟩ := k
  by_cases hs : s = 6
  · subst hs
    cases ks with
    | nil => exact ⟨d, by simpa [Go.V.bare] using h⟩
    | cons x l => rw [bare_6 (x := x) rfl]; exact ⟨_, h.inv.2.2 _ (by simp)⟩
  · rw [bare_n hs]; exact ⟨_, h⟩
/-- Each of two fits into what comes of both. -/
theorem jn_up {a b k : Kd} (h : Jn a b k) : ∀ d, KOk d a → Fits a k := by
  induction h with
  | m a b x h hx ih =>
    intro d ha
    obtain ⟨e, hb⟩ := ha.bare
    have hf := ih e hb
    obtain ⟨s, ns, ks⟩ := a
    by_cases hs : s = 6
    · subst hs
      obtain ⟨p, hp⟩ := one_at ha.inv.2.1 (.inr rfl)
      rw [bare_6 hp] at hf
      exact .mm ns ks [] [x] p x hp rfl hf
    · rw [bare_n hs] at hf
      exact .m s ns ks [] [x] x hs rfl hf
  | l na ka nb kb p q x hp hq hx ih => exact fun d ha => .l _ _ _ _ p x hp rfl (ih (d + 1) (ha.inv.2.2 _ (List.mem_of_getElem? hp)))
  | leaf s na ka nb kb hs => exact fun _ _ => .leaf s _ _ _ _ hs
  | f na ka nb kb ks hna hnb hl h1 h2 h3 ih =>
    intro d ha
    obtain ⟨_, hS, hk⟩ := ha.inv
    refine .f na ka _ ks (fun i x hi => ?_) (fun i x k k' hi hki hk' => ?_) fun i x k' hi hki hn => ?_
    · obtain ⟨t, ht⟩ := List.mem_iff_getElem?.1 ((mem_mrg x na nb).2 (.inl (List.mem_of_getElem? hi)))
      exact kid_len (Nat.le_of_eq hl.symm) ht
    · obtain ⟨t, ht, htk⟩ := kid_mem hk'
      have hp := kid_in hS.rise hi hki
      have hO := hk _ (List.mem_of_getElem? hki)
      cases hq : kid nb kb x with
      | some q => exact ih t x k' k q ht htk hp hq (d + 1) hO
      | none => rw [h2 t x k' k ht htk hp hq]; exact fits_opt hO
    · cases hq : kid nb kb x with
      | some q => rw [h3 i x k' q hi hki hn hq]; exact opt_sort q
      | none =>
        rcases kid_mrg hna hnb hi with ⟨p, h⟩ | ⟨q, h⟩
        · rw [hn] at h; cases h
        · rw [hq] at h; cases h
def kpartsAt (ks : List Kd) (i : Nat) : Nat := match ks[i]? with
  | some k => parts k
  | none => 0
theorem kpartsAt_some {ks : List Kd} {i : Nat} {k : Kd} (h : ks[i]? = some k) : kpartsAt ks i = parts k := by rw [kpartsAt, h]
theorem partsL_sum (ks : List Kd) : ∀ i, i ≤ ks.length → partsL (ks.take i) = sumN (kpartsAt ks) i
  | 0, _ => by simp [partsL, sumN]
  | i + 1, h => by
    obtain ⟨k, hk⟩ : ∃ k, ks[i]? = some k := ⟨_, List.getElem?_eq_getElem (by omega)⟩
    rw [List.take_add_one, hk]
    have := partsL_snoc (ks.take i) k
    simp only [Option.toList_some, sumN, kpartsAt_some hk]
    rw [this, partsL_sum ks i (by omega)]
theorem partsL_all (ks : List Kd) : partsL ks = sumN (kpartsAt ks) ks.length := by
  have := partsL_sum ks ks.length (Nat.le_refl _)
  rwa [List.take_length] at this
theorem one_of {s : Int} {ns : List ByteArray} {ks : List Kd} (hS : Shape s ns ks) (h : s = 4 ∨ s = 6) {k y : Kd} (hk : ks[0]? = some k) (hy : y ∈ ks) : y = k := by
  have := hS.one h
  match ks, this with
  | [z], _ => simp at hk hy; rw [hy, hk]
/-- What fits is no deeper, and has no more parts. -/
theorem fits_le : ∀ (c a : Kd) (d e : Nat), KOk e a → KOk d c → Fits a c → KOk d a ∧ parts a ≤ parts c := by
  intro c
  induction c using Kd.ind with
  | _ s nc kc ih =>
    rintro ⟨s', na, ka⟩ d e ha hc hf
    obtain ⟨a1, a2, a3⟩ := ha.inv
    obtain ⟨c1, c2, c3⟩ := hc.inv
    have single : ∀ {p c' : Kd}, (s' = 4 ∨ s' = 6) → ka[0]? = some p → kc[0]? = some c' → Fits p c' → KOk d (.mk s' na ka) ∧ parts (.mk s' na ka) ≤ parts (.mk s nc kc) := by
      intro p c' hs hp hc' hf'
      have hm := List.mem_of_getElem? hc'
      obtain ⟨i1, i2⟩ := ih c' hm p (d + 1) (e + 1) (a3 _ (List.mem_of_getElem? hp)) (c3 _ hm) hf'
      refine ⟨.mk _ _ _ _ c1 a2 fun k hk => by rw [one_of a2 hs hp hk]; exact i1, ?_⟩
      have hle := partsL_mem hm
      have hone := a2.one hs
      match ka, hone with
      | [z], _ => simp at hp; subst hp; simp only [parts, partsL]; omega
    cases hf with
    | mm _ _ _ _ p c' hp hc' hf' => exact single (.inr rfl) hp hc' hf'
    | l _ _ _ _ p c' hp hc' hf' => exact single (.inl rfl) hp hc' hf'
    | m _ _ _ _ _ c' hs hc' hf' =>
      have hm := List.mem_of_getElem? hc'
      obtain ⟨i1, i2⟩ := ih c' hm _ (d + 1) e ha (c3 _ hm) hf'
      have hle := partsL_mem hm
      exact ⟨i1.mono, by simp only [parts] at i2 ⊢; omega⟩
    | leaf _ _ _ _ _ hs =>
      have := List.length_eq_zero_iff.1 (a2.leaf hs)
      subst this
      exact ⟨.mk _ _ _ _ c1 a2 (fun k hk => (by cases hk)), (by simp only [parts, partsL]; omega)⟩
    | f _ _ _ _ h1 h2 h3 =>
      have hla := (a2.form rfl).1
      have hlc := (c2.form rfl).1
      have at' : ∀ i, i < ka.length → ∃ (x : ByteArray) (k k' : Kd) (t : Nat), na[i]? = some x ∧ ka[i]? = some k ∧ nc[t]? = some x ∧ kc[t]? = some k' ∧ KOk (d + 1) k ∧ parts k ≤ parts k' := by
        intro i hi
        obtain ⟨x, hx⟩ : ∃ x, na[i]? = some x := ⟨_, List.getElem?_eq_getElem (by omega)⟩
        obtain ⟨k, hk⟩ : ∃ k, ka[i]? = some k := ⟨_, List.getElem?_eq_getElem hi⟩
        obtain ⟨k', hk'⟩ := h1 i x hx
        obtain ⟨t, ht, htk⟩ := kid_mem hk'
        have hm := List.mem_of_getElem? htk
        obtain ⟨i1, i2⟩ := ih k' hm k (d + 1) (e + 1) (a3 _ (List.mem_of_getElem? hk)) (c3 _ hm) (h2 i x k k' hx hk hk')
        exact ⟨x, k, k', t, hx, hk, ht, htk, i1, i2⟩
      refine ⟨.mk _ _ _ _ c1 a2 fun k hk => ?_, ?_⟩
      · obtain ⟨i, hi⟩ := List.mem_iff_getElem?.1 hk
        obtain ⟨x, k2, k', t, g1, g2, g3, g4, g5, g6⟩ := at' i (List.getElem?_eq_some_iff.1 hi).1
        rw [hi] at g2; cases g2
        exact g5
      · obtain ⟨ts, hts, hat⟩ := choose_list (fun i t => ∃ (x : ByteArray) (k k' : Kd), na[i]? = some x ∧ ka[i]? = some k ∧ nc[t]? = some x ∧ kc[t]? = some k' ∧ parts k ≤ parts k') ka.length fun i hi => by
          obtain ⟨x, k2, k', t, g1, g2, g3, g4, g5, g6⟩ := at' i hi
          exact ⟨t, x, k2, k', g1, g2, g3, g4, g6⟩
        simp only [parts]
        rw [partsL_all ka, partsL_all kc]
        have := sumN_le ka.length kc.length (kpartsAt ka) (kpartsAt kc) (fun i => (ts[i]?).getD 0) (fun j hj => by
          obtain ⟨t, ht, x, k, k', g1, g2, g3, g4, g6⟩ := hat j hj
          simp only [ht, Option.getD_some]
          exact ⟨(List.getElem?_eq_some_iff.1 g4).1, by rw [kpartsAt_some g2, kpartsAt_some g4]; exact g6⟩) fun i j hi hj e => by
            obtain ⟨t, ht, x, k, k', g1, g2, g3, g4, g6⟩ := hat i hi
            obtain ⟨t', ht', x', k2, k2', g1', g2', g3', g4', g6'⟩ := hat j hj
            simp only [ht, ht', Option.getD_some] at e
            subst e
            rw [g3] at g3'; cases g3'
            exact rise_inj a2.rise g1 g1'
        omega
theorem opt_fit {p c' : Kd} {d e : Nat} (hf : Fits p c') (h6 : c'.sort = 6) (hp : KOk e p) (hc : KOk d c') : Fits (opt p) c' ∧ KOk d (opt p) := by
  obtain ⟨s, ns, ks⟩ := p
  by_cases hs : s = 6
  · subst hs
    rw [opt_6]
    exact ⟨hf, (fits_le _ _ _ _ hp hc hf).1⟩
  · rw [opt_n hs]
    obtain ⟨s', nc, kc⟩ := c'
    obtain ⟨c1, c2, c3⟩ := hc.inv
    simp only [Kd.sort] at h6
    subst h6
    cases hf with
    | mm => exact absurd rfl hs
    | leaf _ _ _ _ _ h => omega
    | m _ _ _ _ _ c'' _ hc' hf' =>
      have i1 := (fits_le _ _ _ _ hp (c3 _ (List.mem_of_getElem? hc')) hf').1
      exact ⟨.mm [] [.mk s ns ks] nc kc _ c'' rfl hc' hf', .mk _ _ _ _ c1 ⟨by omega, by omega, fun h => by omega, fun _ => rfl, fun h => by omega, fun _ => rfl⟩ fun k hk => by rw [List.mem_singleton.1 hk]; exact i1⟩
theorem fits_bare {a : Kd} {nc : List ByteArray} {kc : List Kd} {c' : Kd} (hc : kc[0]? = some c') (h : Fits a (.mk 6 nc kc)) : Fits (bare a) c' := by
  cases h with
  | mm na ka _ _ p c2 hp hc2 hf => rw [hc] at hc2; cases hc2; rw [bare_6 hp]; exact hf
  | m s na ka _ _ c2 hs hc2 hf => rw [hc] at hc2; cases hc2; rw [bare_n hs]; exact hf
  | leaf _ _ _ _ _ h => omega
/-- Two schemas that fit into one have one that comes of both, and it fits into that. -/
theorem jn_least : ∀ (c a b : Kd) (d da db : Nat), KOk da a → KOk db b → KOk d c → Fits a c → Fits b c → ∃ k, Jn a b k ∧ Fits k c ∧ KOk d k := by
  intro c
  induction c using Kd.ind with
  | _ s nc kc ih =>
    intro a b d da db ha hb hc fa fb
    obtain ⟨c1, c2, c3⟩ := hc.inv
    by_cases h6 : s = 6
    · subst h6
      obtain ⟨c', hc'⟩ := one_at c2 (.inr rfl)
      have hm := List.mem_of_getElem? hc'
      by_cases hab : a.sort = 6 ∨ b.sort = 6
      · obtain ⟨ea, hea⟩ := ha.bare
        obtain ⟨eb, heb⟩ := hb.bare
        obtain ⟨x, x1, x2, x3⟩ := ih c' hm (bare a) (bare b) (d + 1) ea eb hea heb (c3 _ hm) (fits_bare hc' fa) (fits_bare hc' fb)
        exact ⟨.mk 6 [] [x], .m a b x hab x1, .mm [] [x] nc kc x c' rfl hc' x2, .mk _ _ _ _ c1 ⟨by omega, by omega, fun h => by omega, fun _ => rfl, fun h => by omega, fun _ => rfl⟩ fun k hk => by rw [List.mem_singleton.1 hk]; exact x3⟩
      · have na6 : a.sort ≠ 6 := fun h => hab (.inl h)
        have nb6 : b.sort ≠ 6 := fun h => hab (.inr h)
        have un : ∀ {a : Kd}, a.sort ≠ 6 → Fits a (.mk 6 nc kc) → Fits a c' := fun {a} h hf => by
          have := fits_bare hc' hf
          obtain ⟨s, ns, ks⟩ := a
          rwa [bare_n (show s ≠ 6 from h)] at this
        obtain ⟨x, x1, x2, x3⟩ := ih c' hm a b (d + 1) da db ha hb (c3 _ hm) (un na6 fa) (un nb6 fb)
        refine ⟨x, x1, ?_, x3.mono⟩
        have := jn_sort x1 na6 nb6
        obtain ⟨s, ns, ks⟩ := x
        exact .m s ns ks nc kc c' this hc' x2
    · obtain ⟨sa, na, ka⟩ := a
      obtain ⟨sb, nb, kb⟩ := b
      have e1 := fa.sort_eq h6
      have e2 := fb.sort_eq h6
      subst e1
      subst e2
      obtain ⟨a1, a2, a3⟩ := ha.inv
      obtain ⟨b1, b2, b3⟩ := hb.inv
      cases fa with
      | mm => exact absurd rfl h6
      | m => exact absurd rfl h6
      | leaf _ _ _ _ _ hs => exact ⟨_, .leaf _ na ka nb kb hs, .leaf _ _ _ _ _ hs, .mk _ _ _ _ c1 ⟨a2.lo, a2.hi, fun h => by omega, fun _ => rfl, fun _ => rfl, fun h => by omega⟩ (fun k hk => by cases hk)⟩
      | l _ _ _ _ p c' hp hc' hf =>
        obtain ⟨q, hq⟩ := one_at b2 (.inl rfl)
        have hm := List.mem_of_getElem? hc'
        obtain ⟨x, x1, x2, x3⟩ := ih c' hm p q (d + 1) (da + 1) (db + 1) (a3 _ (List.mem_of_getElem? hp)) (b3 _ (List.mem_of_getElem? hq)) (c3 _ hm) hf ((Fits.l_iff hq hc').1 fb)
        exact ⟨.mk 4 [] [x], .l na ka nb kb p q x hp hq x1, .l [] [x] nc kc x c' rfl hc' x2, .mk _ _ _ _ c1 ⟨by omega, by omega, fun h => by omega, fun _ => rfl, fun h => by omega, fun _ => rfl⟩ fun k hk => by rw [List.mem_singleton.1 hk]; exact x3⟩
      | f _ _ _ _ ha1 ha2 ha3 =>
        cases fb with
        | leaf _ _ _ _ _ hs => omega
        | f _ _ _ _ hb1 hb2 hb3 =>
          have hla := (a2.form rfl).1
          have hlb := (b2.form rfl).1
          have hlc := (c2.form rfl).1
          obtain ⟨ks, hl, hks⟩ := choose_list (fun i y => ∃ x c', (mrg na nb)[i]? = some x ∧ kid nc kc x = some c' ∧ Fits y c' ∧ KOk (d + 1) y ∧ (∀ p q, kid na ka x = some p → kid nb kb x = some q → Jn p q y) ∧
              (∀ p, kid na ka x = some p → kid nb kb x = none → y = opt p) ∧ ∀ q, kid na ka x = none → kid nb kb x = some q → y = opt q) (mrg na nb).length fun i hi => by
            obtain ⟨x, hx⟩ : ∃ x, (mrg na nb)[i]? = some x := ⟨_, List.getElem?_eq_getElem hi⟩
            have inn : ∀ {c' : Kd}, kid nc kc x = some c' → KOk (d + 1) c' := fun h => by obtain ⟨t, _, ht⟩ := kid_mem h; exact c3 _ (List.mem_of_getElem? ht)
            cases hp : kid na ka x with
            | some p =>
              obtain ⟨t, t1, t2⟩ := kid_mem hp
              obtain ⟨c', hc'⟩ := ha1 t x t1
              have hO := a3 _ (List.mem_of_getElem? t2)
              have fp := ha2 t x p c' t1 t2 hc'
              cases hq : kid nb kb x with
              | some q =>
                obtain ⟨u, u1, u2⟩ := kid_mem hq
                obtain ⟨v, _, v2⟩ := kid_mem hc'
                obtain ⟨y, y1, y2, y3⟩ := ih c' (List.mem_of_getElem? v2) p q (d + 1) (da + 1) (db + 1) hO (b3 _ (List.mem_of_getElem? u2)) (inn hc') fp (hb2 u x q c' u1 u2 hc')
                exact ⟨y, x, c', hx, hc', y2, y3, (fun p' q' e1 e2 => by rw [hp] at e1; rw [hq] at e2; cases e1; cases e2; exact y1), (fun p' _ e => by rw [hq] at e; cases e), (fun q' e => by rw [hp] at e; cases e)⟩
              | none =>
                obtain ⟨v, v1, v2⟩ := kid_mem hc'
                have g6 := hb3 v x c' v1 v2 hq
                obtain ⟨y2, y3⟩ := opt_fit fp g6 hO (inn hc')
                exact ⟨opt p, x, c', hx, hc', y2, y3, (fun p' q' _ e => by rw [hq] at e; cases e), (fun p' e _ => by rw [hp] at e; cases e; rfl), (fun q' e => by rw [hp] at e; cases e)⟩
            | none =>
              cases hq : kid nb kb x with
              | some q =>
                obtain ⟨u, u1, u2⟩ := kid_mem hq
                obtain ⟨c', hc'⟩ := hb1 u x u1
                obtain ⟨v, v1, v2⟩ := kid_mem hc'
                have g6 := ha3 v x c' v1 v2 hp
                obtain ⟨y2, y3⟩ := opt_fit (hb2 u x q c' u1 u2 hc') g6 (b3 _ (List.mem_of_getElem? u2)) (inn hc')
                exact ⟨opt q, x, c', hx, hc', y2, y3, (fun p' q' e => by rw [hp] at e; cases e), (fun p' e => by rw [hp] at e; cases e), (fun q' _ e => by rw [hq] at e; cases e; rfl)⟩
              | none =>
                rcases kid_mrg (Nat.le_of_eq hla) (Nat.le_of_eq hlb) hx with ⟨p, h⟩ | ⟨q, h⟩
                · rw [hp] at h; cases h
                · rw [hq] at h; cases h
          have at' : ∀ (i : Nat) x y, (mrg na nb)[i]? = some x → ks[i]? = some y → ∃ c', kid nc kc x = some c' ∧ Fits y c' ∧ KOk (d + 1) y ∧ (∀ p q, kid na ka x = some p → kid nb kb x = some q → Jn p q y) ∧
              (∀ p, kid na ka x = some p → kid nb kb x = none → y = opt p) ∧ ∀ q, kid na ka x = none → kid nb kb x = some q → y = opt q := fun i x y hx hy => by
            obtain ⟨y', e1, x', c', g1, g2, g3, g4, g5, g6, g7⟩ := hks i (List.getElem?_eq_some_iff.1 hx).1
            rw [hx] at g1; cases g1
            rw [hy] at e1; cases e1
            exact ⟨c', g2, g3, g4, g5, g6, g7⟩
          refine ⟨.mk 5 (mrg na nb) ks, .f na ka nb kb ks (Nat.le_of_eq hla) (Nat.le_of_eq hlb) hl (fun i x y p q hx hy => (at' i x y hx hy).elim fun _ h => h.2.2.2.1 p q) (fun i x y p hx hy => (at' i x y hx hy).elim fun _ h => h.2.2.2.2.1 p) (fun i x y q hx hy => (at' i x y hx hy).elim fun _ h => h.2.2.2.2.2 q),
            .f _ ks nc kc (fun i x hx => ?_) (fun i x y c' hx hy hc' => ?_) (fun i x k' hx hk hn => ?_), .mk _ _ _ _ c1 ⟨by omega, by omega, fun _ => ⟨hl.symm, rise_true.2 (mrg_rise a2.rise b2.rise)⟩, fun h => absurd rfl h, fun h => by omega, fun h => by omega⟩ fun y hy => ?_⟩
          · obtain ⟨y, hy⟩ : ∃ y, ks[i]? = some y := ⟨_, List.getElem?_eq_getElem (by have := (List.getElem?_eq_some_iff.1 hx).1; omega)⟩
            obtain ⟨c', g, _⟩ := at' i x y hx hy
            exact ⟨c', g⟩
          · obtain ⟨c2', g1, g2, _⟩ := at' i x y hx hy
            rw [hc'] at g1; cases g1
            exact g2
          · refine ha3 i x k' hx hk ?_
            cases hp : kid na ka x with
            | none => rfl
            | some p =>
              obtain ⟨t, t1, _⟩ := kid_mem hp
              obtain ⟨u, hu⟩ := List.mem_iff_getElem?.1 ((mem_mrg x na nb).2 (.inl (List.mem_of_getElem? t1)))
              obtain ⟨y, hy⟩ := kid_len (Nat.le_of_eq hl.symm) hu
              rw [hn] at hy; cases hy
          · obtain ⟨i, hi⟩ := List.mem_iff_getElem?.1 hy
            obtain ⟨x, hx⟩ : ∃ x, (mrg na nb)[i]? = some x := ⟨_, List.getElem?_eq_getElem (by have := (List.getElem?_eq_some_iff.1 hi).1; omega)⟩
            obtain ⟨_, _, _, g, _⟩ := at' i x y hx hi
            exact g
end Go.V

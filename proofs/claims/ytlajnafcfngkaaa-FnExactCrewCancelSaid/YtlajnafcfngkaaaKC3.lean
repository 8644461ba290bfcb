/- It is proved that the law FnExactCrewCancel returns true for every input and leaves its input as it was; no condition. -/
import Derived.Test.YtlajnafcfngkaaaKC2
import Derived.Sort.Row
import Derived.Sort.Grow
import Derived.Sort.EncStr
import Derived.Shelf.Sort.Plain
import Derived.Shelf.Slices.In.SortNone
import Derived.Shelf.SlGeneric
import Derived.Shelf.Spec.SlicesGrow
import Derived.Lib.RowBridge
set_option linter.unusedSimpArgs false
namespace Go.V
open Go.Proofs Go.Sort
/-! A library's function that works in place on a row of numbers, as a contract over an own array. -/
/-- Strings as an own array's elements. -/
def rowI (ss : List Int) : List (List V) := ss.map fun s => [.s (.int .i64 s)]
theorem rowI_len (ss : List Int) : (rowI ss).length = ss.length := by simp [rowI]
theorem rowI_one (ss : List Int) : ∀ e ∈ rowI ss, e.length = 1 := by
  intro e he
  obtain ⟨s, -, rfl⟩ := List.mem_map.1 he
  rfl
/-- The kit's way to say it. -/
def rowJ (ss : List Int) : List Int := ss.map fun s => s
theorem rowJ_len (ss : List Int) : (rowJ ss).length = ss.length := by simp [rowJ]
abbrev rowIH (n m v : Nat) (ty : TypeId) (ss ss' : List Int) : List Hand := [⟨n, m, some (.arr v true 1 ty (rowI ss)), .arr v true 1 ty (rowI ss'), true⟩]
theorem rowIH_in (n m v : Nat) (ty : TypeId) (ss ss' : List Int) (k : Nat) : hinOf (rowIH n m v ty ss ss') k = if k = n then some (.arr v true 1 ty (rowI ss)) else none := by
  by_cases h : k = n
  · subst h; simp [hinOf, renN]
  · have : (n == k) = false := by simp; omega
    simp [hinOf, renN, h, this]
theorem rowIH_ren (n m v : Nat) (ty : TypeId) (ss ss' : List Int) {c : Nat} {h : Hand} (hh : renN (rowIH n m v ty ss ss') c = some h) : c = n ∧ h = ⟨n, m, some (.arr v true 1 ty (rowI ss)), .arr v true 1 ty (rowI ss'), true⟩ := by
  simp only [renN, List.find?_cons, List.find?_nil] at hh
  by_cases e : (n == c) = true
  · simp only [e] at hh
    exact ⟨(by simpa using e : n = c).symm, by simpa using hh.symm⟩
  · simp only [Bool.not_eq_true] at e
    simp [e] at hh

theorem VsRep_rowI {w : World} {imm : Imm} {cur : Array Value} {ss : List Int} (h : ∀ i e, (rowI ss)[i]? = some e → VsRep w imm cur (i * 1) e) {j : Nat} {s : Int} (hs : ss[j]? = some s) : cur[j]? = some (.int .i64 s) := by
  obtain ⟨u, h1, h2⟩ := h j [.s (.int .i64 s)] (by simp [rowI, hs]) 0 (.s (.int .i64 s)) rfl
  cases h2
  simpa using h1

theorem put_rowI {w w' : World} {imm : Imm} {L : Locs} {U : Nat → Prop} {n m v g : Nat} {ty : TypeId} {ss ss' : List Int} {cur cur' : Array Value} (hH : HOk w imm (hinOf (rowIH n m v ty ss ss')) L U) (hg : L n = some g)
    (hc : w.heap[g]? = some (.cells cur ty (0, 0))) (hos : w'.os = w.os) (htape : w'.tape = w.tape) (hout : w'.output = w.output) (hsz : w.heap.size ≤ w'.heap.size) (hf : ∀ b, b < w.heap.size → b ≠ g → w'.heap[b]? = w.heap[b]?)
    (hc' : w'.heap[g]? = some (.cells cur' ty (0, 0))) (hcs : cur'.size = cur.size) (hl : ss'.length = ss.length) (hr : ∀ (j : Nat) s, ss'[j]? = some s → cur'[j]? = some (.int .i64 s)) :
    let H' : HMap := fun k => if k = n then some (.arr v true 1 ty (rowI ss')) else none
    HOk w' imm H' L U ∧ Step w imm (foot (hinOf (rowIH n m v ty ss ss')) L) w' imm ∧ Near w (foot (hinOf (rowIH n m v ty ss ss')) L) H' L ∧ Ext w (hinOf (rowIH n m v ty ss ss')) L U w' H' L U := by
  intro H'
  have hin : hinOf (rowIH n m v ty ss ss') n = some (.arr v true 1 ty (rowI ss)) := by rw [rowIH_in]; simp
  have hB := hH.blk n _ hin
  obtain ⟨hv, _, h1, h2⟩ := hB
  have hgsz : g < w.heap.size := by
    rcases Nat.lt_or_ge g w.heap.size with h | h
    · exact h
    · rw [Array.getElem?_eq_none h] at hc; cases hc
  obtain ⟨hlen, himm⟩ : ss.length ≤ cur.size ∧ ∀ o, ¬ imm g o := by
    rcases h2 with ⟨h, he⟩ | ⟨g', cur2, h3, h4, h5, h6, h7⟩
    · rw [h] at hg; cases hg
    · rw [hg] at h3; cases h3
      rw [hc] at h4; cases h4
      exact ⟨by rw [rowI_len] at h5; omega, fun o ho => by cases (h7 o ho).1⟩
  have hn : ∀ k, H' k ≠ none → k = n := fun k hk => by
    by_cases h : k = n
    · exact h
    · simp [H', h] at hk
  have hn0 : ∀ k, hinOf (rowIH n m v ty ss ss') k ≠ none → k = n := fun k hk => by
    rw [rowIH_in] at hk
    by_cases h : k = n
    · exact h
    · simp [h] at hk
  refine ⟨⟨fun k B hk => ?_, fun a b g' ha hb _ _ => (hn a ha).trans (hn b hb).symm, fun b o hb => Nat.lt_of_lt_of_le (hH.imm b o hb) hsz⟩, ⟨hos, htape, hout, hsz, fun b hb hfp => ?_, fun b o hb => ⟨hb, ?_⟩, fun b o hb => .inl hb⟩, fun k g' hk hg' => .inl ⟨n, by rw [hin]; simp, ?_⟩, ⟨fun x hx => hx, fun k ver ty' cs hu hk => ?_, fun k ver wr st ty' es hu hk => ?_, fun k ver wr st ty' es g' cur2 hu hk hg' hc2 => ?_⟩⟩
  · have hk' := hn k (by rw [hk]; simp)
    subst hk'
    simp only [H', if_true] at hk
    cases hk
    refine ⟨hv, Nat.one_pos, rowI_one ss', .inr ⟨g, cur', hg, hc', by rw [rowI_len]; omega, fun i e he j y hy => ?_, fun o ho => (himm o ho).elim⟩⟩
    simp only [rowI, List.getElem?_map, Option.map_eq_some_iff] at he
    obtain ⟨s, hs, rfl⟩ := he
    cases j with
    | zero =>
      simp at hy
      subst hy
      exact ⟨.int .i64 s, by simpa using hr i s hs, .s _ rfl⟩
    | succ j => simp at hy
  · exact hf b hb fun e => hfp ⟨n, by rw [hin]; simp, by rw [hg, e]⟩
  · have hb' := hH.imm b o hb
    have hne : b ≠ g := fun e => himm o (e ▸ hb)
    simp only [World.cell?, hf b hb' hne]
  · rw [← hn k hk]; exact hg'
  · have := hn k (by rw [hk]; simp)
    subst this
    simp [H'] at hk
  · have := hn k (by rw [hk]; simp)
    subst this
    simp only [H', if_true, Option.some.injEq, Blk.arr.injEq] at hk
    obtain ⟨rfl, rfl, rfl, rfl, rfl⟩ := hk
    exact ⟨true, rowI ss, hin, by rw [rowI_len, rowI_len]; omega, rfl⟩
  · have := hn k (by rw [hk]; simp)
    subst this
    simp only [H', if_true, Option.some.injEq, Blk.arr.injEq] at hk
    obtain ⟨rfl, rfl, rfl, rfl, rfl⟩ := hk
    rw [hg] at hg'; cases hg'
    rw [hc] at hc2; cases hc2
    exact ⟨cur', hc', hcs⟩

theorem row_openI {w : World} {imm : Imm} {L : Locs} {U : Nat → Prop} {n m v : Nat} {ty : TypeId} {ss ss' : List Int} {vs : List Value} (hH : HOk w imm (hinOf (rowIH n m v ty ss ss')) L U) (hT : TsRep w imm (hinOf (rowIH n m v ty ss ss')) L U vs [.c (.own n v ss.length)]) :
    ∃ x, vs = [x] ∧ TRep w imm (hinOf (rowIH n m v ty ss ss')) L U x (.c (.own n v ss.length)) ∧ U v ∧
      ((ss = [] ∧ ∃ a cap, x = .slice a 0 cap) ∨ ∃ g cap cur, L n = some g ∧ x = .slice (some ⟨g, 0, none⟩) ss.length cap ∧ w.heap[g]? = some (.cells cur ty (0, 0)) ∧ g < w.heap.size ∧ ss.length ≤ cap ∧ cap ≤ maxLen ∧ cur.size = cap * 1 ∧ Holds (Value.int .i64) w g 0 (rowJ ss).toArray) := by
  obtain ⟨x, rfl⟩ : ∃ x, vs = [x] := by
    have := hT.1
    match vs, this with
    | [x], _ => exact ⟨x, rfl⟩
  have hx : TRep w imm (hinOf (rowIH n m v ty ss ss')) L U x (.c (.own n v ss.length)) := hT.2 0 x _ rfl rfl
  have hin : hinOf (rowIH n m v ty ss ss') n = some (.arr v true 1 ty (rowI ss)) := by rw [rowIH_in]; simp
  have hx' : CRep w imm (hinOf (rowIH n m v ty ss ss')) L U x (.own n v ss.length) := hx
  obtain ⟨hu, -, h3⟩ := hx'
  refine ⟨x, rfl, hx, hu, ?_⟩
  obtain ⟨-, h4⟩ := h3 _ _ _ _ hin
  rcases h4 with ⟨a, h5, h6⟩ | ⟨g, cap, cur, h5, h6, h7, h8, h9, h10⟩
  · left
    exact ⟨List.length_eq_zero_iff.1 h6, a, 0, h5⟩
  · right
    have hgsz : g < w.heap.size := by
      rcases Nat.lt_or_ge g w.heap.size with h | h
      · exact h
      · rw [Array.getElem?_eq_none h] at h7; cases h7
    refine ⟨g, cap, cur, h5, h6, h7, hgsz, h8, h9, h10, fun j hj => ?_⟩
    obtain ⟨-, -, -, hb⟩ := hH.blk n _ hin
    rcases hb with ⟨h, -⟩ | ⟨g', cur2, i1, i2, -, i4, -⟩
    · rw [h] at h5; cases h5
    · rw [h5] at i1; cases i1
      rw [h7] at i2; cases i2
      have hj' : j < ss.length := by simpa [rowJ] using hj
      have := VsRep_rowI (ss := ss) i4 (j := j) (s := ss[j]) (by simp [hj'])
      refine ⟨?_, by simp [World.frozen?, h7]⟩
      simp only [World.cell?, h7, Nat.zero_add, Option.isSome_none, Bool.false_eq_true, if_false]
      rw [this, getElem!_pos _ j hj]
      simp [rowJ]

theorem row_worldI {w : World} {g q : Nat} {ty : TypeId} {cur : Array Value} {ss' : List Int} {os : Array Obj} (hc : w.heap[g]? = some (.cells cur ty (0, 0))) (hg : g < w.heap.size) (hl : ss'.length ≤ cur.size) :
    ∃ cur', (Go.Sort.grow (putRow (Value.int .i64) (Go.Sort.ahead w q) g 0 (rowJ ss').toArray) os).heap[g]? = some (.cells cur' ty (0, 0)) ∧ cur'.size = cur.size ∧ (∀ (j : Nat) s, ss'[j]? = some s → cur'[j]? = some (.int .i64 s)) ∧
      w.heap.size ≤ (Go.Sort.grow (putRow (Value.int .i64) (Go.Sort.ahead w q) g 0 (rowJ ss').toArray) os).heap.size ∧
      ∀ b, b < w.heap.size → b ≠ g → (Go.Sort.grow (putRow (Value.int .i64) (Go.Sort.ahead w q) g 0 (rowJ ss').toArray) os).heap[b]? = w.heap[b]? := by
  refine ⟨putCells (Value.int .i64) 0 (rowJ ss').toArray cur, ?_, by simp [putCells], fun j s hs => ?_, ?_, fun b hb hne => ?_⟩
  · simp only [Go.Sort.grow, putRow, mapBlock, Go.Sort.ahead]
    rw [Array.getElem?_append_left (by simpa using hg), Array.getElem?_modify]
    simp [hc, onCells]
  · have hj : j < ss'.length := (List.getElem?_eq_some_iff.1 hs).1
    have hjc : j < cur.size := by omega
    simp only [putCells, Array.getElem?_mapIdx, Array.getElem?_eq_getElem hjc, Option.map_some]
    have e : (rowJ ss').toArray[j]! = s := by
      rw [getElem!_pos _ j (by simpa [rowJ] using hj)]
      have := (List.getElem?_eq_some_iff.1 hs).2
      simp [rowJ, this]
    have c1 : 0 ≤ j ∧ j < 0 + (rowJ ss').toArray.size := ⟨Nat.zero_le _, by simpa [rowJ] using hj⟩
    rw [if_pos c1, Nat.sub_zero, e]
  · simp [Go.Sort.grow, putRow, mapBlock, Go.Sort.ahead]
  · simp only [Go.Sort.grow, putRow, mapBlock, Go.Sort.ahead]
    rw [Array.getElem?_append_left (by simpa using hb), Array.getElem?_modify, if_neg (fun e => hne e.symm)]

theorem row_sameI {w : World} {imm : Imm} {L : Locs} {U : Nat → Prop} {n m v : Nat} {ty : TypeId} (hH : HOk w imm (hinOf (rowIH n m v ty [] [])) L U) :
    HOk w imm (hinOf (rowIH n m v ty [] [])) L U ∧ Step w imm (foot (hinOf (rowIH n m v ty [] [])) L) w imm ∧ Near w (foot (hinOf (rowIH n m v ty [] [])) L) (hinOf (rowIH n m v ty [] [])) L ∧ Ext w (hinOf (rowIH n m v ty [] [])) L U w (hinOf (rowIH n m v ty [] [])) L U :=
  ⟨hH, ⟨rfl, rfl, rfl, Nat.le_refl _, fun _ _ _ => rfl, fun _ _ h => ⟨h, rfl⟩, fun _ _ h => .inl h⟩, fun k _ hk hg => .inl ⟨k, hk, hg⟩,
    ⟨fun _ h => h, fun _ _ ty' cs _ hk => ⟨ty', cs, hk, rfl⟩, fun _ _ wr _ _ es _ hk => ⟨wr, es, hk, Nat.le_refl _, rfl⟩, fun _ _ _ _ _ _ _ cur _ _ _ hc => ⟨cur, hc, rfl⟩⟩⟩

theorem row_leftI (n m v : Nat) (ty : TypeId) (ss ss' : List Int) (r : T) (hr : verT (fun _ => v) r = r) (h' : HMap) (hh : h' n = some (.arr v true 1 ty (rowI ss'))) :
    ∃ ν : Nat → Nat, r = verT ν r ∧ ∀ c h, renN (rowIH n m v ty ss ss') c = some h → h' c = some (verB ν (ν c) h.b') ∧ (h.keep = true → ∃ b, h.b = some b ∧ ν c = b.ver) := by
  refine ⟨fun _ => v, hr.symm, fun c h hc => ?_⟩
  obtain ⟨rfl, rfl⟩ := rowIH_ren _ _ _ _ _ _ hc
  exact ⟨hh, fun _ => ⟨_, rfl, rfl⟩⟩

theorem row_sortI {P : Program} {f : FuncId} {n m v : Nat} {ty : TypeId} {ss ss' : List Int} (hfn : isFn P f = true) (hl : ss'.length = ss.length)
    (h0 : ∀ (a : Option Addr) (cap : Nat) (w : World), Calls P f #[.slice a 0 cap] w fun e w' => e = .returned (.tuple #[]) ∧ w' = w)
    (hs : ∀ (g cap : Nat) (w : World), Holds (Value.int .i64) w g 0 (rowJ ss).toArray → g < w.heap.size → ss.length ≤ cap → Calls P f #[.slice (some ⟨g, 0, none⟩) ss.length cap] w fun e w' =>
      e = .returned (.tuple #[]) ∧ ∃ q os, w' = Go.Sort.grow (putRow (Value.int .i64) (Go.Sort.ahead w q) g 0 (rowJ ss').toArray) os) :
    ACallsF P f [.c (.own n v ss.length)] (rowIH n m v ty ss ss') (.tup []) := by
  refine ⟨hfn, fun w imm L c vs hH hT => ?_⟩
  obtain ⟨x, rfl, hx, hu, h⟩ := row_openI hH hT
  rcases h with ⟨rfl, a, cap, rfl⟩ | ⟨g, cap, cur, h1, rfl, h3, h4, h5, h6, h7, h8⟩
  · have : ss' = [] := List.length_eq_zero_iff.1 hl
    subst this
    refine (h0 a cap w).mono ?_
    rintro e w' ⟨rfl, rfl⟩
    obtain ⟨p1, p2, p3, p4⟩ := row_sameI hH
    exact ⟨.tuple #[], .tup [], _, imm, L, c, rfl, row_leftI n m v ty [] [] _ rfl _ (by rw [rowIH_in]; simp), ⟨[], rfl, rfl, fun k u y hk => by simp at hk⟩, p1, p2, p3, p4⟩
  · refine (hs g cap w h8 h4 h5).mono ?_
    rintro e w' ⟨rfl, q, os, rfl⟩
    obtain ⟨cur', j1, j2, j3, j4, j5⟩ := row_worldI (q := q) (os := os) (ss' := ss') h3 h4 (by omega)
    obtain ⟨p1, p2, p3, p4⟩ := put_rowI (w' := Go.Sort.grow (putRow (Value.int .i64) (Go.Sort.ahead w q) g 0 (rowJ ss').toArray) os) hH h1 h3 rfl rfl rfl j4 j5 j1 j2 hl j3
    exact ⟨.tuple #[], .tup [], _, imm, L, c, rfl, row_leftI n m v ty ss ss' _ rfl _ (by simp), ⟨[], rfl, rfl, fun k u y hk => by simp at hk⟩, p1, p2, p3, p4⟩

end Go.V
set_option linter.unusedSimpArgs false
namespace Go.Proofs
open Go.Shelf
def Try.laysSort_ren : Go.Shelf.Ren := ⟨fun | 189 => 88 | 125 => 98 | 257 => 97 | 128 => 111 | 129 => 112 | 294 => 102 | 295 => 103 | 296 => 104 | 297 => 105 | 298 => 106 | 299 => 107 | 216 => 108 | 300 => 109 | 301 => 110 | 328 => 115 | 329 => 116 | 330 => 117 | 331 => 118 | 332 => 119 | 215 => 120 | 343 => 121 | n => n, fun | 28 => 22 | 3 => 3 | 46 => 108 | 0 => 0 | 51 => 121 | 53 => 123 | 4 => 4 | 183 => 114 | 182 => 113 | 131 => 118 | 5 => 5 | 9 => 9 | 218 => 128 | 222 => 132 | 228 => 134 | 229 => 135 | n => n, fun | n => n⟩
theorem Try.laysSort : Go.Proofs.Lays.n189 Try.prog Try.laysSort_ren := {
  mixed := by kernel_rfl
  f125 := Try.func98.trans (congrArg some (by kernel_rfl))
  f128 := Try.func111.trans (congrArg some (by kernel_rfl))
  f129 := Try.func112.trans (congrArg some (by kernel_rfl))
  f189 := Try.func88.trans (congrArg some (by kernel_rfl))
  f215 := Try.func120.trans (congrArg some (by kernel_rfl))
  f216 := Try.func108.trans (congrArg some (by kernel_rfl))
  f257 := Try.func97.trans (congrArg some (by kernel_rfl))
  f294 := Try.func102.trans (congrArg some (by kernel_rfl))
  f295 := Try.func103.trans (congrArg some (by kernel_rfl))
  f296 := Try.func104.trans (congrArg some (by kernel_rfl))
  f297 := Try.func105.trans (congrArg some (by kernel_rfl))
  f298 := Try.func106.trans (congrArg some (by kernel_rfl))
  f299 := Try.func107.trans (congrArg some (by kernel_rfl))
  f300 := Try.func109.trans (congrArg some (by kernel_rfl))
  f301 := Try.func110.trans (congrArg some (by kernel_rfl))
  f328 := Try.func115.trans (congrArg some (by kernel_rfl))
  f329 := Try.func116.trans (congrArg some (by kernel_rfl))
  f330 := Try.func117.trans (congrArg some (by kernel_rfl))
  f331 := Try.func118.trans (congrArg some (by kernel_rfl))
  f332 := Try.func119.trans (congrArg some (by kernel_rfl))
  f343 := Try.func121.trans (congrArg some (by kernel_rfl))
  t0 := Try.underlying0
  a0 := Try.isAgg0
  z0 := Try.sizeOf0
  v0 := Try.zeroValue0
  t3 := Try.underlying3
  a3 := Try.isAgg3
  z3 := Try.sizeOf3
  v3 := Try.zeroValue3
  t4 := Try.underlying4
  a4 := Try.isAgg4
  z4 := Try.sizeOf4
  v4 := Try.zeroValue4
  t5 := Try.underlying5
  a5 := Try.isAgg5
  z5 := Try.sizeOf5
  v5 := Try.zeroValue5
  t9 := Try.underlying9
  a9 := Try.isAgg9
  z9 := Try.sizeOf9
  v9 := Try.zeroValue9
  t28 := Try.underlying22
  a28 := Try.isAgg22
  z28 := Try.sizeOf22
  v28 := Try.zeroValue22
  t46 := Try.underlying108
  a46 := Try.isAgg108
  z46 := Try.sizeOf108
  v46 := Try.zeroValue108
  t51 := Try.underlying121
  a51 := Try.isAgg121
  z51 := Try.sizeOf121
  v51 := Try.zeroValue121
  t53 := Try.underlying123
  a53 := Try.isAgg123
  z53 := Try.sizeOf123
  v53 := Try.zeroValue123
  t131 := Try.underlying118
  a131 := Try.isAgg118
  z131 := Try.sizeOf118
  v131 := Try.zeroValue118
  t182 := Try.underlying113
  a182 := Try.isAgg113
  z182 := Try.sizeOf113
  v182 := Try.zeroValue113
  t183 := Try.underlying114
  a183 := Try.isAgg114
  z183 := Try.sizeOf114
  v183 := Try.zeroValue114
  t218 := Try.underlying128
  a218 := Try.isAgg128
  z218 := Try.sizeOf128
  v218 := Try.zeroValue128
  t222 := Try.underlying132
  a222 := Try.isAgg132
  z222 := Try.sizeOf132
  v222 := Try.zeroValue132
  t228 := Try.underlying134
  a228 := Try.isAgg134
  z228 := Try.sizeOf134
  v228 := Try.zeroValue134
  t229 := Try.underlying135
  a229 := Try.isAgg135
  z229 := Try.sizeOf135
  v229 := Try.zeroValue135 }
def Try.laysGrow_ren : Go.Shelf.Ren := ⟨fun | 4 => 101 | n => n, fun | 22 => 22 | 25 => 3 | 3 => 3 | 4 => 4 | 9 => 9 | 20 => 20 | 0 => 0 | n => n, fun | n => n⟩
theorem Try.laysGrow : Go.Proofs.Lays8.n4 Try.prog Try.laysGrow_ren := {
  mixed := by kernel_rfl
  f4 := ⟨"slices.Grow[[]int,int]", by decide, Try.func101.trans (congrArg some (by kernel_rfl))⟩
  t0 := Try.underlying0
  a0 := Try.isAgg0
  z0 := Try.sizeOf0
  v0 := Try.zeroValue0
  t3 := Try.underlying3
  a3 := Try.isAgg3
  z3 := Try.sizeOf3
  v3 := Try.zeroValue3
  t4 := Try.underlying4
  a4 := Try.isAgg4
  z4 := Try.sizeOf4
  v4 := Try.zeroValue4
  t9 := Try.underlying9
  a9 := Try.isAgg9
  z9 := Try.sizeOf9
  v9 := Try.zeroValue9
  t20 := Try.underlying20
  a20 := Try.isAgg20
  z20 := Try.sizeOf20
  v20 := Try.zeroValue20
  t22 := Try.underlying22
  a22 := Try.isAgg22
  z22 := Try.sizeOf22
  v22 := Try.zeroValue22 }
end Go.Proofs
namespace Go.V
open Go.Proofs Go.Sort
theorem isFnSort : isFn Try.prog 88 = true := by kernel_rfl
theorem isFnGrow : isFn Try.prog 101 = true := by kernel_rfl
abbrev srt (zs : List Int) : List Int := zs.mergeSort fun x y => decide (x ≤ y)
theorem rowJ_id (zs : List Int) : rowJ zs = zs := by simp [rowJ]
theorem rowI_en (zs : List Int) : rowI zs = en eI zs := rfl
abbrev sortH (n m v : Nat) (zs zs' : List Int) : List Hand := [⟨n, m, some (.arr v true 1 3 (en eI zs)), .arr v true 1 3 (en eI zs'), true⟩]
theorem sort_ok (zs : List Int) (hs : zs.length < 4611686018427387904) (n m v : Nat) : ACallsF Try.prog 88 [.c (.own n v zs.length)] (sortH n m v zs (srt zs)) (.tup []) := by
  refine row_sortI (ss := zs) (ss' := srt zs) isFnSort (by simp [srt]) (fun a cap w => Any.slices_Sort_int_none Try.laysSort a cap w) fun g cap w hH hg _ => ?_
  rw [rowJ_id] at hH ⊢
  exact Any.slices_Sort_int Try.laysSort g 0 cap zs w hH hg hs
/-- A call that gives back a new array of its own. -/
theorem callA {P : Program} {t : Nat → T} {H : HMap} {c : Nat} {f : Opd} {args : List Opd} {fid : FuncId} {n m N st : Nat} {ty : TypeId} {es : List (List V)} {argsC : List T} {k : Nat} {d : Option Nat} {un : List Nat} {l : List AOper} {prev : List (Nat × List Nat × List Nat)} {K : St → Prop}
    (hC : ACallsF P fid argsC [newH n m st ty es] (.c (.own n 0 N))) (hf : ev t f = .pt (.one (.fn fid []))) (hl : args.map (ev t) = argsC)
    (h1 : lendTs H argsC argsC = some (argsC, [], [])) (h2 : renITs [newH n m st ty es] argsC = some argsC)
    (hk : chk prev un ⟨.c (.own m (c + k) N), [(m, .arr (c + k) true st ty es)], [m], [m]⟩ = true ∧ DRun P l ((k, [m], [m]) :: prev) K ⟨updD t d (.c (.own m (c + k) N)), upd H m (some (.arr (c + k) true st ty es)), c⟩) :
    step P k d un (.call f args) l prev K t H c := by
  let hs : List Hand := [newH n m st ty es]
  have hN : renN hs n = some (newH n m st ty es) := by simp [hs, renN]
  refine callW (caps := []) (ws := []) (ns := []) (r' := .c (.own m (c + k) N)) (ob := [(m, .arr (c + k) true st ty es)]) hs hC hf (by rw [hl]; simpa using h1) h2 ⟨trivial, trivial⟩ (by simp [hs]) (by simp [hs]) ?_ ?_ ?_
  · simp only [T.c, renOT, renOP, renO, hN, Option.map_some, verOf]; rfl
  · simp only [hs, renOBs, renOB, verOf]; rfl
  · have e1 : (if quiet (.c (.own n 0 N)) hs = true then ([] : List (Nat × Blk)) else []) = [] := by split <;> rfl
    have e2 : (if quiet (.c (.own n 0 N)) hs = true then ([] : List Nat) else []) = [] := by split <;> rfl
    rw [e1, e2]
    exact hk
theorem freshHand {w w' : World} {imm : Imm} {L : Locs} {c N m : Nat} {ty : TypeId} {x : Value} (hH : HOk w imm (hinOf [⟨N, m, none, .arr 0 true 1 ty [], false⟩]) L (· < c))
    (hw : (w' = w ∧ ∃ a, x = .slice a 0 0) ∨ ∃ (cells : Array Value) (cap : Nat), x = .slice (some ⟨w.heap.size, 0, none⟩) 0 cap ∧ w' = w.drew.alloc (.cells cells ty) ∧ cells.size = cap ∧ cap ≤ maxLen) :
    ∃ (x' : Value) (r : T) (h : HMap) (imm' : Imm) (L' : Locs) (c' : Nat), Ending.returned x = .returned x' ∧ (∃ ν : Nat → Nat, r = verT ν (.c (.own N 0 0)) ∧ ∀ c h0, renN [⟨N, m, none, .arr 0 true 1 ty [], false⟩] c = some h0 → h c = some (verB ν (ν c) h0.b') ∧ (h0.keep = true → ∃ b, h0.b = some b ∧ ν c = b.ver)) ∧
      TRep w' imm' h L' (· < c') x' r ∧ HOk w' imm' h L' (· < c') ∧ Step w imm (foot (hinOf [⟨N, m, none, .arr 0 true 1 ty [], false⟩]) L) w' imm' ∧ Near w (foot (hinOf [⟨N, m, none, .arr 0 true 1 ty [], false⟩]) L) h L' ∧
      Ext w (hinOf [⟨N, m, none, .arr 0 true 1 ty [], false⟩]) L (· < c) w' h L' (· < c') := by
  have hnone : ∀ k, hinOf [⟨N, m, none, .arr 0 true 1 ty [], false⟩] k = none := by
    intro k
    by_cases h : (N == k) = true
    · simp [hinOf, renN, h]
    · simp only [Bool.not_eq_true] at h; simp [hinOf, renN, h]
  let H' : HMap := fun k => if k = N then some (.arr c true 1 ty []) else none
  have hn : ∀ k, H' k ≠ none → k = N := fun k hk => by
    by_cases h : k = N
    · exact h
    · simp [H', h] at hk
  have hN : H' N = some (.arr c true 1 ty []) := by simp [H']
  have left : ∃ ν : Nat → Nat, T.c (.own N c 0) = verT ν (.c (.own N 0 0)) ∧ ∀ k h0, renN [⟨N, m, none, .arr 0 true 1 ty [], false⟩] k = some h0 → H' k = some (verB ν (ν k) h0.b') ∧ (h0.keep = true → ∃ b, h0.b = some b ∧ ν k = b.ver) := by
    refine ⟨fun _ => c, rfl, fun k h0 hk => ?_⟩
    by_cases h : (N == k) = true
    · simp only [renN, List.find?_cons, h, Option.some.injEq] at hk
      subst hk
      have hk : k = N := (by simpa using h : N = k).symm
      subst hk
      exact ⟨hN, fun h => by cases h⟩
    · simp only [Bool.not_eq_true] at h
      simp [renN, h] at hk
  rcases hw with ⟨rfl, a, rfl⟩ | ⟨cells, cap, rfl, rfl, hsz, hcap⟩
  · refine ⟨_, _, H', imm, fun k => if k = N then none else L k, c + 1, rfl, left, ?_, ⟨fun k B hk => ?_, fun a b g ha hb _ _ => (hn a ha).trans (hn b hb).symm, hH.imm⟩, ⟨rfl, rfl, rfl, Nat.le_refl _, fun _ _ _ => rfl, fun _ _ h => ⟨h, rfl⟩, fun _ _ h => .inl h⟩, fun k g hk hg => ?_, ⟨fun x hx => Nat.lt_succ_of_lt hx, fun k ver ty' cs hu hk => ?_, fun k ver wr st ty' es hu hk => ?_, fun k ver wr st ty' es g cur hu hk => ?_⟩⟩
    · refine ⟨Nat.lt_succ_self c, ⟨_, _, rfl, Nat.le_refl _⟩, fun wr st ty' es hes => ⟨Nat.zero_le _, .inl ⟨_, rfl, rfl⟩⟩⟩
    · have := hn k (by rw [hk]; simp)
      subst this
      rw [hN] at hk
      cases hk
      exact ⟨Nat.lt_succ_self c, Nat.one_pos, by simp, .inl ⟨by simp, rfl⟩⟩
    · have := hn k hk
      subst this
      simp at hg
    · have := hn k (by rw [hk]; simp)
      subst this
      rw [hN] at hk
      cases hk
    · have := hn k (by rw [hk]; simp)
      subst this
      rw [hN] at hk
      cases hk
      exact absurd hu (Nat.lt_irrefl c)
    · have := hn k (by rw [hk]; simp)
      subst this
      rw [hN] at hk
      cases hk
      exact absurd hu (Nat.lt_irrefl c)
  · have e0 : (w.drew.alloc (.cells cells ty)).heap = w.heap.push (.cells cells ty) := rfl
    have hnew : (w.drew.alloc (.cells cells ty)).heap[w.heap.size]? = some (.cells cells ty (0, 0)) := by rw [e0, Array.getElem?_push_size]
    have hold : ∀ b, b < w.heap.size → (w.drew.alloc (.cells cells ty)).heap[b]? = w.heap[b]? := fun b hb => by
      rw [e0, Array.getElem?_push_lt hb, Array.getElem?_eq_getElem hb]
    have hsz2 : w.heap.size ≤ (w.drew.alloc (.cells cells ty)).heap.size := by rw [e0]; simp
    refine ⟨_, _, H', imm, fun k => if k = N then some w.heap.size else L k, c + 1, rfl, left, ?_, ⟨fun k B hk => ?_, fun a b g ha hb _ _ => (hn a ha).trans (hn b hb).symm, fun b o hb => Nat.lt_of_lt_of_le (hH.imm b o hb) hsz2⟩, ⟨rfl, rfl, rfl, hsz2, fun b hb _ => hold b hb, fun b o h => ⟨h, by simp only [World.cell?, hold b (hH.imm b o h)]⟩, fun _ _ h => .inl h⟩, fun k g hk hg => ?_, ⟨fun x hx => Nat.lt_succ_of_lt hx, fun k ver ty' cs hu hk => ?_, fun k ver wr st ty' es hu hk => ?_, fun k ver wr st ty' es g cur hu hk => ?_⟩⟩
    · refine ⟨Nat.lt_succ_self c, ⟨_, _, rfl, Nat.zero_le _⟩, fun wr st ty' es hes => ?_⟩
      rw [hN] at hes
      cases hes
      exact ⟨Nat.zero_le _, .inr ⟨w.heap.size, cap, cells, by simp, rfl, hnew, Nat.zero_le _, hcap, by omega⟩⟩
    · have := hn k (by rw [hk]; simp)
      subst this
      rw [hN] at hk
      cases hk
      exact ⟨Nat.lt_succ_self c, Nat.one_pos, by simp, .inr ⟨w.heap.size, cells, by simp, hnew, by simp, by simp, fun o ho => absurd (hH.imm _ o ho) (Nat.lt_irrefl _)⟩⟩
    · have := hn k hk
      subst this
      simp at hg
      exact .inr (by omega)
    · have := hn k (by rw [hk]; simp)
      subst this
      rw [hN] at hk
      cases hk
    · have := hn k (by rw [hk]; simp)
      subst this
      rw [hN] at hk
      cases hk
      exact absurd hu (Nat.lt_irrefl c)
    · have := hn k (by rw [hk]; simp)
      subst this
      rw [hN] at hk
      cases hk
      exact absurd hu (Nat.lt_irrefl c)

theorem infoInt : ∃ i, Try.prog.info? 3 = some i ∧ i.zero = some (.int .i64 0) ∧ i.size = 1 ∧ i.bytes = 8 := ⟨Try.t3, by kernel_rfl, rfl, rfl, rfl⟩
theorem grow_ok (N m n : Nat) (hn : n ≤ 2000000) : ACallsF Try.prog 101 [.c .nil0, .i n] [⟨N, m, none, .arr 0 true 1 3 [], false⟩] (.c (.own N 0 0)) := by
  refine ⟨isFnGrow, fun w imm L c vs hH hT => ?_⟩
  obtain ⟨x, y, rfl⟩ : ∃ x y, vs = [x, y] := by
    have := hT.1
    match vs, this with
    | [x, y], _ => exact ⟨x, y, rfl⟩
  obtain ⟨a, rfl⟩ : ∃ a, x = .slice a 0 0 := hT.2 0 x _ rfl rfl
  have hy : y = .int .i64 n := by
    have : VRep w imm y (.s (.int .i64 n)) := hT.2 1 y _ rfl rfl
    cases this; rfl
  subst hy
  obtain ⟨i, i1, i2, i3, i4⟩ := infoInt
  by_cases h0 : n = 0
  · subst h0
    refine (Any8.slices_Grow_room Try.laysGrow a 0 0 0 w (by omega) (by omega) (by omega) (by omega)).mono ?_
    rintro e w' ⟨rfl, rfl⟩
    exact freshHand hH (.inl ⟨rfl, a, rfl⟩)
  · refine (Any8.slices_Grow_grow Try.laysGrow i _ i1 i2 (by rw [i3]; omega) a 0 0 n [] w (by omega) (by omega) (by rw [i4]; omega) (by omega) (by simp) (fun _ => rfl) (fun _ _ j v h => by simp at h)).mono ?_
    rintro e w' ⟨rfl, rfl⟩
    have hge := grownCap_ge w (0 + n) 0 3
    refine freshHand hH (.inr ⟨_, _, rfl, rfl, ?_, grownCap_le_maxLen w (0 + n) 0 3 (by simp [maxLen]; omega)⟩)
    have hz : ∀ k, (Builtin.zeroCells (Value.cells (.int .i64 0)) k).size = k := fun k => by simp [Builtin.zeroCells, Value.cells]
    simp only [Array.size_append, hz]
    simp
    have hq : (Try.laysGrow_ren.t 25) = 3 := rfl
    rw [hq]
    simp at hge ⊢
    omega
def sum2 (xs ys : List Int) : Nat → Nat
  | 0 => 0
  | 1 => xs.length
  | _ => xs.length + ys.length
def app2 (xs ys : List Int) : Nat → List Int
  | 0 => []
  | 1 => xs
  | _ => xs ++ ys
/- slices.Concat[[]int,int] -/
def r96_0 : List AOper := [ao 0 2 (.mv (.k (.c .nil0)))]
def r96_1 : List AOper := [ao 0 3 (.mv (.k (.i 0)))]
def r96_2 : List AOper := [ao 0 9 (.mv (.t 0)),
  ao 1 10 (.len (.t 9)),
  ao 2 11 (.mv (.k (.i 0)))]
def r96_3 : List AOper := [ao 0 12 (.bin .lss (.t 11) (.t 10))]
def c96_4 : ACode := .cond (.t 12) .skip (.exit 0)
def r96_5 : List AOper := [ao 0 13 (.ia 1 (.t 9) (.t 11)),
  ao 1 14 (.ld 1 false (.t 13)),
  ao 2 5 (.mv (.t 14))]
def r96_6 : List AOper := [ao 0 15 (.mv (.t 3)),
  ao 1 16 (.mv (.t 5)),
  ao 2 17 (.len (.t 16)),
  ao 3 18 (.bin .add (.t 15) (.t 17)),
  ao 4 3 (.mv (.t 18))]
def r96_7 : List AOper := [ao 0 19 (.mv (.t 3)),
  ao 1 20 (.bin .lss (.t 19) (.k (.i 0)))]
def r96_8 : List AOper := [ao 0 21 (.bad),
  an 1 (.bad)]
def c96_9 : ACode := .cond (.t 20) (.reg r96_8) .skip
def c96_10 : ACode := .seq (.reg r96_5) (.seq (.reg r96_6) (.seq (.reg r96_7) c96_9))
def c96_11 : ACode := .block 1 c96_10
def r96_12 : List AOper := [ao 0 22 (.bin .add (.t 11) (.k (.i 1))),
  ao 1 11 (.mv (.t 22))]
def c96_13 : ACode := .seq (.reg r96_3) (.seq c96_4 (.seq c96_11 (.reg r96_12)))
def c96_14 : ACode := .loop c96_13
def c96_15 : ACode := .block 0 c96_14
def c96_16 : ACode := .seq (.reg r96_2) c96_15
def r96_17 : List AOper := [ao 0 23 (.mv (.t 3)),
  ao 1 24 (.call (.k (.c (.fn 101 []))) [(.k (.c .nil0)), (.t 23)]),
  ao 2 6 (.mv (.t 24))]
def r96_18 : List AOper := [ao 0 25 (.mv (.t 0)),
  ao 1 26 (.len (.t 25)),
  ao 2 27 (.mv (.k (.i 0)))]
def r96_19 : List AOper := [ao 0 28 (.bin .lss (.t 27) (.t 26))]
def c96_20 : ACode := .cond (.t 28) .skip (.exit 2)
def r96_21 : List AOper := [ao 0 29 (.ia 1 (.t 25) (.t 27)),
  ao 1 30 (.ld 1 false (.t 29)),
  ao 2 8 (.mv (.t 30))]
def r96_22 : List AOper := [ao 0 31 (.mv (.t 6)),
  ao 1 32 (.mv (.t 8)),
  ao 2 33 (.app 1 3 8 (.t 31) (.t 32)),
  ao 3 6 (.mv (.t 33))]
def c96_23 : ACode := .seq (.reg r96_21) (.reg r96_22)
def c96_24 : ACode := .block 3 c96_23
def r96_25 : List AOper := [ao 0 34 (.bin .add (.t 27) (.k (.i 1))),
  ao 1 27 (.mv (.t 34))]
def c96_26 : ACode := .seq (.reg r96_19) (.seq c96_20 (.seq c96_24 (.reg r96_25)))
def c96_27 : ACode := .loop c96_26
def c96_28 : ACode := .block 2 c96_27
def c96_29 : ACode := .seq (.reg r96_18) c96_28
def r96_30 : List AOper := [ao 0 35 (.mv (.t 6)),
  ao 1 2 (.mv (.t 35))]
def c96 : ACode := .seq (.reg r96_0) (.seq (.reg r96_1) (.seq c96_16 (.seq (.reg r96_17) (.seq c96_29 (.seq (.reg r96_30) .ret)))))
def s96 : List ARes := [.tmp 2]
theorem ok96 : okF Try.prog 96 36 c96 s96 := ⟨Try.f96, Try.func96, Try.ntmps96, by kernel_rfl, by kernel_rfl, by kernel_rfl⟩
def invCata (xs ys : List Int) (i : Nat) (σ : St) : Prop := σ.t 0 = .c (.v (.sl [[.sl (en eI xs)], [.sl (en eI ys)]])) ∧ σ.t 3 = .i (sum2 xs ys i) ∧ σ.t 9 = .c (.v (.sl [[.sl (en eI xs)], [.sl (en eI ys)]])) ∧ σ.t 10 = .i 2 ∧ σ.t 11 = .i i
def invCatb (xs ys : List Int) (i : Nat) (σ : St) : Prop := σ.t 25 = .c (.v (.sl [[.sl (en eI xs)], [.sl (en eI ys)]])) ∧ σ.t 26 = .i 2 ∧ σ.t 27 = .i i ∧ ∃ v, σ.t 6 = .c (.own 3108 v (app2 xs ys i).length) ∧ σ.H 3108 = some (.arr v true 1 3 (en eI (app2 xs ys i)))
abbrev catH (m : Nat) (ss : List Int) : Hand := newH 3108 m 1 3 (en eI ss)
def UCn_1 := Bx.mk <|
  aN (uA c96.eq_1) <| aN (uR r96_0.eq_1) <| aN (uR r96_1.eq_1) <| aN (uA c96_16.eq_1) <| aN (uR r96_2.eq_1) <| aN (uA c96_15.eq_1) <| aN (uA c96_14.eq_1) <| aN (uR r96_17.eq_1) <| aN (uA c96_29.eq_1) <| aN (uR r96_18.eq_1) <| aN (uA c96_28.eq_1) <| aN (uA c96_27.eq_1) <| aN (uR r96_30.eq_1) <| s96.eq_1
def UCn_2 := Bx.mk <|
  aN (uA c96_13.eq_1) <| aN (uR r96_3.eq_1) <| aN (uA c96_4.eq_1) <| aN (uA c96_11.eq_1) <| aN (uA c96_10.eq_1) <| aN (uR r96_5.eq_1) <| aN (uR r96_6.eq_1) <| aN (uR r96_7.eq_1) <| aN (uA c96_9.eq_1) <| aN (uR r96_8.eq_1) <| aN (uR r96_12.eq_1) <| aN (uA c96.eq_1) <| aN (uR r96_0.eq_1) <| aN (uR r96_1.eq_1) <| aN (uA c96_16.eq_1) <| aN (uR r96_2.eq_1) <| aN (uA c96_15.eq_1) <| aN (uA c96_14.eq_1) <| aN (uR r96_17.eq_1) <| aN (uA c96_29.eq_1) <| aN (uR r96_18.eq_1) <| aN (uA c96_28.eq_1) <| aN (uA c96_27.eq_1) <| aN (uR r96_30.eq_1) <| s96.eq_1
def UCn_3 := Bx.mk <|
  aN (uA c96_26.eq_1) <| aN (uR r96_19.eq_1) <| aN (uA c96_20.eq_1) <| aN (uA c96_24.eq_1) <| aN (uA c96_23.eq_1) <| aN (uR r96_21.eq_1) <| aN (uR r96_22.eq_1) <| aN (uR r96_25.eq_1) <| aN (uA c96.eq_1) <| aN (uR r96_0.eq_1) <| aN (uR r96_1.eq_1) <| aN (uA c96_16.eq_1) <| aN (uR r96_2.eq_1) <| aN (uA c96_15.eq_1) <| aN (uA c96_14.eq_1) <| aN (uR r96_17.eq_1) <| aN (uA c96_29.eq_1) <| aN (uR r96_18.eq_1) <| aN (uA c96_28.eq_1) <| aN (uA c96_27.eq_1) <| aN (uR r96_30.eq_1) <| s96.eq_1
theorem concat_ok (xs ys : List Int) (ha : xs.length ≤ 1000000) (hb : ys.length ≤ 1000000) (m : Nat) : ACallsF Try.prog 96 [.c (.v (.sl [[.sl (en eI xs)], [.sl (en eI ys)]]))] [catH m (xs ++ ys)] (.c (.own 3108 0 (xs ++ ys).length)) := by
  refine ACallsF.intro ok96 follows fun X c0 => ?_
  simp only [RUX, Nat.reduceAdd, reduceIte, Nat.reduceEqDiff, Nat.reduceLT, Nat.reduceLeDiff, reduceCtorEq, eq_self, FIX, forall_const, endE_n, endE_r, UCn_1.d]
  refine AW.upto 2 (invCata xs ys) ⟨rfl, rfl, rfl, rfl, rfl⟩ fun i t H c hi h => ?_
  obtain ⟨e0, e3, e9, e10, e11⟩ := h
  simp only [T.c, T.i, T.s] at e0 e3 e9 e10 e11
  have hxa : (∀ (e : List V), e ∈ en eI xs → e.length = 1) = True := eq_true (en_one eI eI_len xs)
  have hya : (∀ (e : List V), e ∈ en eI ys → e.length = 1) = True := eq_true (en_one eI eI_len ys)
  have hx0 : sum2 xs ys 1 = xs.length := rfl
  have hx2 : sum2 xs ys 2 = xs.length + ys.length := rfl
  rcases (by omega : i = 0 ∨ i = 1 ∨ i = 2) with rfl | rfl | rfl
  · have w0 : IntKind.i64.wrap ((sum2 xs ys 0 : Int) + xs.length) = (sum2 xs ys 1 : Nat) := by rw [wrap64 ⟨by simp [sum2], by simp [sum2]; omega⟩]; simp [sum2]
    have w1 : IntKind.i64.wrap (((0 : Nat) : Int) + 1) = ((0 + 1 : Nat) : Int) := wrap64 (x := ((0 : Nat) : Int) + 1) ⟨by omega, by omega⟩
    have k0 : ((0 : Nat) : Int) < 2 := by omega
    have kz : (0 : Int) ≤ ((0 : Nat) : Int) := by omega
    have k1 : ¬ ((sum2 xs ys 1 : Nat) : Int) < 0 := by omega
    simp only [RUX, Nat.reduceAdd, reduceIte, Nat.reduceEqDiff, Nat.reduceLT, Nat.reduceLeDiff, reduceCtorEq, eq_self, FIX, forall_const, endE_n, endE_r, CHT, disj, Nat.reduceBEq, beq_self_eq_true, APT, APX, forall_eq, ALT, KI, UCn_2.d, e0, e3, e9, e10, e11, en_len, w0, k1, k0, kz, w1, Int.toNat_natCast, List.getElem?_cons_zero, List.length_cons, List.length_nil]
    exact ⟨e0, rfl, e9, e10, rfl⟩
  · have w0 : IntKind.i64.wrap ((sum2 xs ys 1 : Int) + ys.length) = (sum2 xs ys 2 : Nat) := by rw [wrap64 ⟨by omega, by omega⟩, hx2, hx0]; omega
    have w1 : IntKind.i64.wrap (((1 : Nat) : Int) + 1) = ((1 + 1 : Nat) : Int) := wrap64 (x := ((1 : Nat) : Int) + 1) ⟨by omega, by omega⟩
    have k0 : ((1 : Nat) : Int) < 2 := by omega
    have kz : (0 : Int) ≤ ((1 : Nat) : Int) := by omega
    have k1 : ¬ ((sum2 xs ys 2 : Nat) : Int) < 0 := by omega
    simp only [RUX, Nat.reduceAdd, reduceIte, Nat.reduceEqDiff, Nat.reduceLT, Nat.reduceLeDiff, reduceCtorEq, eq_self, FIX, forall_const, endE_n, endE_r, CHT, disj, Nat.reduceBEq, beq_self_eq_true, APT, APX, forall_eq, ALT, KI, UCn_2.d, e0, e3, e9, e10, e11, en_len, w0, k1, k0, kz, w1, Int.toNat_natCast, List.getElem?_cons_succ, List.getElem?_cons_zero, List.length_cons, List.length_nil]
    exact ⟨e0, rfl, e9, e10, rfl⟩
  · have k0 : ¬ ((2 : Nat) : Int) < 2 := by omega
    simp only [RUX, Nat.reduceAdd, reduceIte, Nat.reduceEqDiff, Nat.reduceLT, Nat.reduceLeDiff, reduceCtorEq, eq_self, FIX, forall_const, endE_n, endE_r, CHT, disj, Nat.reduceBEq, beq_self_eq_true, APT, APX, forall_eq, ALT, KI, UCn_2.d, UCn_1.d, e0, e3, e9, e10, e11, k0]
    refine callA (m := 3108) (grow_ok 3108 3108 (sum2 xs ys 2) (by omega)) rfl rfl rfl rfl ⟨rfl, ?_⟩
    simp only [RUX, Nat.reduceAdd, reduceIte, Nat.reduceEqDiff, Nat.reduceLT, Nat.reduceLeDiff, reduceCtorEq, eq_self, FIX, forall_const, endE_n, endE_r, CHT, disj, Nat.reduceBEq, beq_self_eq_true, APT, APX, forall_eq, ALT, KI, UCn_1.d, e0, List.length_cons, List.length_nil]
    refine AW.upto 2 (invCatb xs ys) ⟨rfl, rfl, rfl, _, rfl, rfl⟩ fun i t H c hi h => ?_
    obtain ⟨e25, e26, e27, v, e6, eH⟩ := h
    simp only [T.c, T.i, T.s] at e25 e26 e27 e6 eH
    rcases (by omega : i = 0 ∨ i = 1 ∨ i = 2) with rfl | rfl | rfl
    · have w1 : IntKind.i64.wrap (((0 : Nat) : Int) + 1) = ((0 + 1 : Nat) : Int) := wrap64 (x := ((0 : Nat) : Int) + 1) ⟨by omega, by omega⟩
      have k0 : ((0 : Nat) : Int) < 2 := by omega
      have kz : (0 : Int) ≤ ((0 : Nat) : Int) := by omega
      have q1 : (xs.length) * 8 ≤ 140737488355328 := by omega
      have q2 : xs.length ≤ 9223372036854775807 := by omega
      simp only [RUX, Nat.reduceAdd, reduceIte, Nat.reduceEqDiff, Nat.reduceLT, Nat.reduceLeDiff, reduceCtorEq, eq_self, FIX, forall_const, endE_n, endE_r, CHT, disj, Nat.reduceBEq, beq_self_eq_true, APT, APX, forall_eq, ALT, KI, UCn_3.d, e25, e26, e27, e6, eH, app2, List.length_nil, Nat.zero_add, en_len, hxa, q1, q2, k0, kz, w1, Int.toNat_natCast, List.getElem?_cons_zero, List.length_cons]
      exact ⟨e25, e26, rfl, _, rfl, rfl⟩
    · have w1 : IntKind.i64.wrap (((1 : Nat) : Int) + 1) = ((1 + 1 : Nat) : Int) := wrap64 (x := ((1 : Nat) : Int) + 1) ⟨by omega, by omega⟩
      have k0 : ((1 : Nat) : Int) < 2 := by omega
      have kz : (0 : Int) ≤ ((1 : Nat) : Int) := by omega
      have q1 : (xs.length + ys.length) * 8 ≤ 140737488355328 := by omega
      have q2 : xs.length + ys.length ≤ 9223372036854775807 := by omega
      have htk : List.take xs.length (en eI xs) = en eI xs := en_take eI xs
      simp only [RUX, Nat.reduceAdd, reduceIte, Nat.reduceEqDiff, Nat.reduceLT, Nat.reduceLeDiff, reduceCtorEq, eq_self, FIX, forall_const, endE_n, endE_r, CHT, disj, Nat.reduceBEq, beq_self_eq_true, APT, APX, forall_eq, ALT, KI, UCn_3.d, e25, e26, e27, e6, eH, app2, en_len, q1, q2, k0, kz, w1, hya, htk, Int.toNat_natCast, List.getElem?_cons_succ, List.getElem?_cons_zero, List.length_cons, Nat.le_refl]
      have hl2 : (app2 xs ys (1 + 1)).length = xs.length + ys.length := List.length_append
      have he2 : en eI (app2 xs ys (1 + 1)) = en eI xs ++ en eI ys := by simp [en, app2]
      exact ⟨e25, e26, rfl, _, by rw [hl2]; rfl, by rw [he2]; rfl⟩
    · have k0 : ¬ ((2 : Nat) : Int) < 2 := by omega
      have hq : en eI (xs ++ ys) = en eI xs ++ en eI ys := by simp [en]
      simp only [RUX, Nat.reduceAdd, reduceIte, Nat.reduceEqDiff, Nat.reduceLT, Nat.reduceLeDiff, reduceCtorEq, eq_self, FIX, forall_const, endE_n, endE_r, CHT, disj, Nat.reduceBEq, beq_self_eq_true, APT, APX, forall_eq, ALT, KI, UCn_3.d, UCn_1.d, e25, e26, e27, e6, eH, app2, k0, List.length_append, imp_self]
end Go.V
set_option linter.unusedSimpArgs false
namespace Go.V
open Go.Proofs
/-- The jobs that are read and not given, as the program rows them. -/
def wayJobs (w : CW) : List Int := w.queue ++ w.results ++ sent w ++ hJobs w.hands ++ (w.ring.filter fun x => x != -1)
theorem way_perm {w : CW} (h : ∀ x ∈ w.ring, x ≠ -1 → 0 ≤ x) : (wayJobs w).Perm (places w) := by
  have e : (w.ring.filter fun x => x != -1) = rJobs w.ring := by
    refine List.filter_congr fun x hx => ?_
    by_cases g : x = -1
    · subst g; decide
    · rw [neqn g, decide_eq_true (h x hx g)]
  rw [wayJobs, places, e, List.perm_iff_count]
  intro a
  simp only [List.count_append]
  omega
theorem way_ring {w : CW} {x : Int} (h : x ∈ w.ring) (g : x ≠ -1) : x ∈ wayJobs w := by
  rw [wayJobs]
  exact List.mem_append_right _ (List.mem_filter.2 ⟨h, neqn g⟩)
theorem jobs_way {w : CW} (g : Jobs w) : (wayJobs w).Perm (places w) := way_perm fun x hx hn => by
  obtain ⟨i, hi⟩ := List.mem_iff_getElem?.1 hx
  have := (g.ring i x hi).1
  omega
theorem jobs_ring {w : CW} (g : Jobs w) {i : Nat} {x : Int} (hi : w.ring[i]? = some x) (hn : x ≠ -1) : x.tmod w.window = i := by
  obtain ⟨h1, h2⟩ := g.ring i x hi
  have : 0 ≤ x := by omega
  rw [Int.tmod_eq_emod_of_nonneg this]
  exact h2 this
theorem jobs_of {w : CW} (h : PForm w) (q1 : ∀ x ∈ wayJobs w, w.due ≤ x ∧ x ≤ w.next - 1) (q2 : (wayJobs w).Nodup) (q3 : sh w 3 = 0 → ((wayJobs w).length : Int) = w.next - w.due)
    (q4 : ∀ (i : Nat) (x : Int), w.ring[i]? = some x → x ≠ -1 → x.tmod w.window = i) (q5 : ∀ (i : Nat) (x : Int), w.got[i]? = some x → x = i) (q6 : w.due = w.got.length + w.out.length)
    (q7 : ∀ x : Int, w.out[0]? = some x → x = w.got.length) (q8 : w.room + w.next - w.due + (if w.keeper = 3 then 1 else 0) = w.window) : Jobs w := by
  have hd := h.due
  have hp : (wayJobs w).Perm (places w) := way_perm fun x hx hn => by
    have := (q1 x (way_ring hx hn)).1
    omega
  refine ⟨fun x hx => q1 x (hp.mem_iff.2 hx), hp.nodup_iff.1 q2, fun e => by rw [← hp.length_eq]; exact q3 e, fun i x hi => ?_, q5, q6, q7, q8⟩
  by_cases hn : x = -1
  · exact ⟨by omega, fun e => by omega⟩
  · have h0 : 0 ≤ x := by have := (q1 x (way_ring (List.mem_of_getElem? hi) hn)).1; omega
    exact ⟨by omega, fun _ => by rw [← Int.tmod_eq_emod_of_nonneg h0]; exact q4 i x hi hn⟩
/-- A row that rises, no two neighbours of which are alike, has nothing twice. -/
theorem nd_adj {xs : List Int} (hs : xs.Pairwise fun x y => x ≤ y) (h : ∀ (j : Nat) x y, xs[j]? = some x → xs[j + 1]? = some y → x ≠ y) : xs.Nodup := by
  refine List.pairwise_iff_getElem.2 fun i j hi hj hij e => ?_
  have le : ∀ a b (ha : a < xs.length) (hb : b < xs.length), a ≤ b → xs[a] ≤ xs[b] := fun a b ha hb hab => by
    rcases Nat.lt_or_eq_of_le hab with g | g
    · exact List.pairwise_iff_getElem.1 hs a b ha hb g
    · subst g; exact Int.le_refl _
  have h1 := le i (j - 1) hi (by omega) (by omega)
  have h2 := le (j - 1) j (by omega) hj (by omega)
  have h3 := h (j - 1) xs[j - 1] xs[j] (List.getElem?_eq_getElem (by omega)) (by rw [show j - 1 + 1 = j by omega]; exact List.getElem?_eq_getElem hj)
  rw [e] at h1
  omega
theorem srt_perm (zs : List Int) : (zs.mergeSort fun x y => decide (x ≤ y)).Perm zs := List.mergeSort_perm zs _
theorem srt_up (zs : List Int) : (zs.mergeSort fun x y => decide (x ≤ y)).Pairwise fun x y => x ≤ y := by
  have := List.pairwise_mergeSort (le := fun x y : Int => decide (x ≤ y)) (fun a b c h1 h2 => by simp only [decide_eq_true_eq] at *; omega) (fun a b => by simp only [Bool.or_eq_true, decide_eq_true_eq]; omega) zs
  exact this.imp fun h => of_decide_eq_true h
theorem way_len {w : CW} (h : PForm w) : (wayJobs w).length ≤ 41 := by
  have h0 := sent_len w
  have h1 := h.lq
  have h2 := h.le
  have h3 := hJobs_len w.hands
  have h4 : (w.ring.filter fun x => x != -1).length ≤ w.ring.length := List.length_filter_le _ _
  have h5 := h.lh
  have h6 := h.lr
  have h7 := h.st.k
  have h8 := h.st.n
  simp only [wayJobs, List.length_append]
  omega
end Go.V
set_option linter.unusedSimpArgs false
namespace Go.V
open Go.Proofs
section
variable {P : Program} {t : Nat → T} {H : HMap} {c : Nat} {f : Opd} {args : List Opd} {fid : FuncId} {k : Nat} {d : Option Nat} {un : List Nat} {l : List AOper} {prev : List (Nat × List Nat × List Nat)} {K : St → Prop}
/-- A call that works in place on an own array of numbers. -/
theorem callRowI {m v N : Nat} {zs zs' : List Int}
    (hC : ACallsF P fid [.c (.own m v N)] (sortH m m v zs zs') (.tup [])) (hf : ev t f = .pt (.one (.fn fid []))) (hl : args.map (ev t) = [.c (.own m v N)]) (hH : H m = some (.arr v true 1 3 (en eI zs)))
    (hk : chk prev un ⟨.tup [], [(m, .arr v true 1 3 (en eI zs'))], [m], [m]⟩ = true ∧ DRun P l ((k, [m], [m]) :: prev) K ⟨updD t d (.tup []), upd H m (some (.arr v true 1 3 (en eI zs'))), c⟩) :
    step P k d un (.call f args) l prev K t H c := by
  have hN : renN (sortH m m v zs zs') m = some ⟨m, m, some (.arr v true 1 3 (en eI zs)), .arr v true 1 3 (en eI zs'), true⟩ := by simp [renN]
  refine callW (caps := []) («as» := [.c (.own m v N)]) (ws := []) (ns := []) (r' := .tup []) (ob := [(m, .arr v true 1 3 (en eI zs'))]) (sortH m m v zs zs') hC hf (by rw [hl]; rfl) ?_ ⟨?_, trivial⟩ (by simp) (by simp) ?_ ?_ ?_
  · simp only [T.c, renITs, renIT, renI, inN, hN, Option.bind_some, Option.map_some]
  · show (match renIB (sortH m m v zs zs') (.arr v true 1 3 (en eI zs)) with | some B => (updH H []) m = some B | none => False)
    simp only [renIB, updH]
    exact hH
  · simp only [renOT, renOPs, Option.map_some]
  · simp only [renOBs, renOB, verOf, if_true, Blk.ver]
  · have hq : quiet (.tup []) (sortH m m v zs zs') = false := by simp [quiet]
    simpa [hq, updH] using hk
/-- A call of a method that looks at a world and makes an array. -/
theorem callPA {m v n m2 N st : Nat} {ty : TypeId} {w : CW} {al : List T} {es : List (List V)} (hC : ∀ m v m2, ACallsF P fid (wP 1000 v :: al) [wHd m v w, newH n m2 st ty es] (.c (.own n 0 N))) (hf : ev t f = .pt (.one (.fn fid []))) (hl : args.map (ev t) = wP m v :: al) (ha : al.all closedA = true) (hH : H m = some (cwB v w)) (hn : 1000 ≠ n) (hm : m ≠ m2)
    (hk : chk prev un ⟨.c (.own m2 (c + k) N), [(m, cwB v w), (m2, .arr (c + k) true st ty es)], [m, m2], [m, m2]⟩ = true ∧ DRun P l ((k, [m, m2], [m, m2]) :: prev) K ⟨updD t d (.c (.own m2 (c + k) N)), upd H m2 (some (.arr (c + k) true st ty es)), c⟩) :
    step P k d un (.call f args) l prev K t H c := by
  have hn' : (1000 == n) = false := beq_eq_false_iff_ne.2 hn
  have hN : renN [wHd m v w, newH n m2 st ty es] 1000 = some (wHd m v w) := by simp [renN]
  have hN2 : renN [wHd m v w, newH n m2 st ty es] n = some (newH n m2 st ty es) := by simp [renN, hn']
  have hcl : (cwC w).all closedC = true := rfl
  obtain ⟨x1, x2⟩ := closed_As [wHd m v w, newH n m2 st ty es] H al ha
  have hb : renIB [wHd m v w, newH n m2 st ty es] (cwB v w) = some (cwB v w) := by simp only [renIB, (closed_Cs _ H (cwC w) hcl).2.1, Option.map_some]
  refine callW (caps := []) («as» := wP m v :: al) (ws := []) (ns := []) (r' := .c (.own m2 (c + k) N)) (ob := [(m, cwB v w), (m2, .arr (c + k) true st ty es)]) [wHd m v w, newH n m2 st ty es] (hC m v m2) hf ?_ ?_ ⟨?_, trivial, trivial⟩ (by simpa using hm) (by simpa using hn) ?_ ?_ ?_
  · have a1 : lendT H (wP 1000 v) (wP m v) = some (wP m v, [], []) := rfl
    rw [hl]
    simp only [List.map_nil, List.append_nil, lendTs, a1, x1]
  · have a1 : renIT [wHd m v w, newH n m2 st ty es] (wP 1000 v) = some (wP m v) := by simp only [wP, T.c, renIT, renI, inN, hN, Option.bind_some, Option.map_some]
    simp only [renITs, x2, a1]
  · show (match renIB [wHd m v w, newH n m2 st ty es] (cwB v w) with | some B => (updH H []) m = some B | none => False)
    rw [hb]; exact hH
  · simp only [T.c, renOT, renOP, renO, hN2, Option.map_some, verOf]; rfl
  · simp only [renOBs, renOB, verOf, Blk.ver, if_true]
    rw [(closed_Cs _ H (cwC w) hcl).2.2]
    rfl
  · have hu : updH H ((if quiet (.c (.own n 0 N)) [wHd m v w, newH n m2 st ty es] = true then [] else []) ++ [(m, cwB v w), (m2, Blk.arr (c + k) true st ty es)]) = upd H m2 (some (.arr (c + k) true st ty es)) := by
      have : (if quiet (.c (.own n 0 N)) [wHd m v w, newH n m2 st ty es] = true then ([] : List (Nat × Blk)) else []) = [] := by split <;> rfl
      rw [this]
      show upd (upd H m (some (cwB v w))) m2 _ = _
      rw [show upd H m (some (cwB v w)) = H from updH_same hH]
    rw [hu]
    have e1 : (if quiet (.c (.own n 0 N)) [wHd m v w, newH n m2 st ty es] = true then ([] : List (Nat × Blk)) else []) = [] := by split <;> rfl
    have e2 : (if quiet (.c (.own n 0 N)) [wHd m v w, newH n m2 st ty es] = true then ([] : List Nat) else []) = [] := by split <;> rfl
    rw [e1, e2]
    exact hk
end
/- (*loop.example/teagle/impl.CrewWorld).underWay -/
def r87_0 : List AOper := [ao 0 2 (.mv (.k (.c .nil0)))]
def r87_1 : List AOper := [ao 0 8 (.mv (.t 0)),
  ao 1 9 (.nck (.t 8)),
  ao 2 10 (.fa 5 (.t 9)),
  ao 3 11 (.ld 1 false (.t 10)),
  au 4 12 (ru 4) (.mv (.t 0)),
  au 5 13 (ru 4) (.nck (.t 12)),
  au 6 14 (ru 4) (.fa 8 (.t 13)),
  au 7 15 (ru 4) (.ld 1 false (.t 14)),
  ao 8 16 (.bsl 1 22 [(.t 11), (.t 15)]),
  ao 9 17 (.call (.k (.c (.fn 96 []))) [(.t 16)]),
  ao 10 3 (.mv (.t 17))]
def r87_2 : List AOper := [ao 0 18 (.mv (.t 0)),
  ao 1 19 (.nck (.t 18)),
  ao 2 20 (.fa 4 (.t 19)),
  ao 3 21 (.ld 1 false (.t 20)),
  ao 4 22 (.bin .eql (.t 21) (.k (.i 1)))]
def r87_3 : List AOper := [ao 0 23 (.mv (.t 3)),
  ao 1 24 (.mv (.t 0)),
  ao 2 25 (.nck (.t 24)),
  ao 3 26 (.fa 3 (.t 25)),
  ao 4 27 (.ld 1 false (.t 26)),
  ao 5 28 (.bin .sub (.t 27) (.k (.i 1))),
  ao 6 29 (.bsl 1 3 [(.t 28)]),
  ao 7 30 (.app 1 3 8 (.t 23) (.t 29)),
  ao 8 3 (.mv (.t 30))]
def c87_4 : ACode := .cond (.t 22) (.reg r87_3) .skip
def c87_5 : ACode := .seq (.reg r87_2) c87_4
def r87_6 : List AOper := [ao 0 31 (.mv (.t 0)),
  ao 1 32 (.nck (.t 31)),
  ao 2 33 (.fa 6 (.t 32)),
  ao 3 34 (.ld 1 false (.t 33)),
  ao 4 35 (.len (.t 34)),
  ao 5 36 (.mv (.k (.i 0)))]
def r87_7 : List AOper := [ao 0 37 (.bin .lss (.t 36) (.t 35))]
def c87_8 : ACode := .cond (.t 37) .skip (.exit 0)
def r87_9 : List AOper := [ao 0 38 (.ia 2 (.t 34) (.t 36)),
  ao 1 39 (.ld 2 true (.t 38)),
  ao 2 5 (.alloc 70 [(.v (.s (.int .i64 0))), (.v (.s (.int .i64 0)))]),
  an 3 (.st 2 (.t 5) (.t 39))]
def r87_10 : List AOper := [ao 0 40 (.fa 0 (.t 5)),
  ao 1 41 (.ld 1 false (.t 40)),
  ao 2 42 (.bin .eql (.t 41) (.k (.i 1))),
  ao 3 43 (.mv (.t 42)),
  ag 4 44 43 false [] (.fa 0 (.t 5)),
  ag 5 45 43 false [] (.ld 1 false (.t 44)),
  ag 6 46 43 false [] (.bin .eql (.t 45) (.k (.i 2))),
  ao 7 47 (.pick (.t 43) (.k (.b true)) (.t 46))]
def r87_11 : List AOper := [ao 0 48 (.mv (.t 3)),
  ao 1 49 (.fa 1 (.t 5)),
  ao 2 50 (.ld 1 false (.t 49)),
  ao 3 51 (.bsl 1 3 [(.t 50)]),
  ao 4 52 (.app 1 3 8 (.t 48) (.t 51)),
  ao 5 3 (.mv (.t 52))]
def c87_12 : ACode := .cond (.t 47) (.reg r87_11) .skip
def c87_13 : ACode := .seq (.reg r87_9) (.seq (.reg r87_10) c87_12)
def c87_14 : ACode := .block 1 c87_13
def r87_15 : List AOper := [ao 0 53 (.bin .add (.t 36) (.k (.i 1))),
  ao 1 36 (.mv (.t 53))]
def c87_16 : ACode := .seq (.reg r87_7) (.seq c87_8 (.seq c87_14 (.reg r87_15)))
def c87_17 : ACode := .loop c87_16
def c87_18 : ACode := .block 0 c87_17
def c87_19 : ACode := .seq (.reg r87_6) c87_18
def r87_20 : List AOper := [ao 0 54 (.mv (.t 0)),
  ao 1 55 (.nck (.t 54)),
  ao 2 56 (.fa 10 (.t 55)),
  ao 3 57 (.ld 1 false (.t 56)),
  ao 4 58 (.len (.t 57)),
  ao 5 59 (.mv (.k (.i 0)))]
def r87_21 : List AOper := [ao 0 60 (.bin .lss (.t 59) (.t 58))]
def c87_22 : ACode := .cond (.t 60) .skip (.exit 2)
def r87_23 : List AOper := [ao 0 61 (.ia 1 (.t 57) (.t 59)),
  ao 1 62 (.ld 1 false (.t 61)),
  ao 2 7 (.mv (.t 62))]
def r87_24 : List AOper := [ao 0 63 (.mv (.t 7)),
  ao 1 64 (.bin .neq (.t 63) (.k (.i (-1))))]
def r87_25 : List AOper := [ao 0 65 (.mv (.t 3)),
  ao 1 66 (.mv (.t 7)),
  ao 2 67 (.bsl 1 3 [(.t 66)]),
  ao 3 68 (.app 1 3 8 (.t 65) (.t 67)),
  ao 4 3 (.mv (.t 68))]
def c87_26 : ACode := .cond (.t 64) (.reg r87_25) .skip
def c87_27 : ACode := .seq (.reg r87_23) (.seq (.reg r87_24) c87_26)
def c87_28 : ACode := .block 3 c87_27
def r87_29 : List AOper := [ao 0 69 (.bin .add (.t 59) (.k (.i 1))),
  ao 1 59 (.mv (.t 69))]
def c87_30 : ACode := .seq (.reg r87_21) (.seq c87_22 (.seq c87_28 (.reg r87_29)))
def c87_31 : ACode := .loop c87_30
def c87_32 : ACode := .block 2 c87_31
def c87_33 : ACode := .seq (.reg r87_20) c87_32
def r87_34 : List AOper := [ao 0 70 (.mv (.t 3)),
  ao 1 2 (.mv (.t 70))]
def c87 : ACode := .seq (.reg r87_0) (.seq (.reg r87_1) (.seq c87_5 (.seq c87_19 (.seq c87_33 (.seq (.reg r87_34) .ret)))))
def s87 : List ARes := [.tmp 2]
theorem ok87 : okF Try.prog 87 71 c87 s87 := ⟨Try.f87, Try.func87, Try.ntmps87, by kernel_rfl, by kernel_rfl, by kernel_rfl⟩
def inv87a (w : CW) (v : Nat) (A : List Int) (i : Nat) (σ : St) : Prop := σ.t 0 = wP 1000 v ∧ σ.H 1000 = some (cwB v w) ∧ σ.t 34 = tL (en eH w.hands) ∧ σ.t 35 = .i w.hands.length ∧ σ.t 36 = .i i ∧ (∃ u, σ.t 3 = .c (.own 3108 u (A ++ hJobs (w.hands.take i)).length) ∧ σ.H 3108 = some (.arr u true 1 3 (en eI (A ++ hJobs (w.hands.take i)))))
def inv87b (w : CW) (v : Nat) (A : List Int) (i : Nat) (σ : St) : Prop := σ.H 1000 = some (cwB v w) ∧ σ.t 57 = tL (en eI w.ring) ∧ σ.t 58 = .i w.ring.length ∧ σ.t 59 = .i i ∧ (∃ u, σ.t 3 = .c (.own 3108 u (A ++ (w.ring.take i).filter (fun x => x != -1)).length) ∧ σ.H 3108 = some (.arr u true 1 3 (en eI (A ++ (w.ring.take i).filter fun x => x != -1))))
theorem ring_take {rs : List Int} {i : Nat} {x : Int} (hx : rs[i]? = some x) : (rs.take (i + 1)).filter (fun x => x != -1) = if x = -1 then (rs.take i).filter (fun x => x != -1) else (rs.take i).filter (fun x => x != -1) ++ [x] := by
  rw [List.take_add_one, hx, List.filter_append]
  by_cases hc : x = -1
  · subst hc; simp
  · simp [hc, neqn hc]
def UCp_1 := Bx.mk <|
  aN (uA c87.eq_1) <| aN (uR r87_0.eq_1) <| aN (uR r87_1.eq_1) <| aN (uA c87_5.eq_1) <| aN (uR r87_2.eq_1) <| aN (uA c87_4.eq_1) <| aN (uR r87_3.eq_1) <| aN (uA c87_19.eq_1) <| aN (uR r87_6.eq_1) <| aN (uA c87_18.eq_1) <| aN (uA c87_17.eq_1) <| aN (uR r87_34.eq_1) <| s87.eq_1
def UCp_2 := Bx.mk <|
  aN (uA c87.eq_1) <| aN (uR r87_0.eq_1) <| aN (uR r87_1.eq_1) <| aN (uA c87_5.eq_1) <| aN (uR r87_2.eq_1) <| aN (uA c87_4.eq_1) <| aN (uR r87_3.eq_1) <| aN (uA c87_19.eq_1) <| aN (uR r87_6.eq_1) <| aN (uA c87_18.eq_1) <| aN (uA c87_17.eq_1) <| aN (uA c87_33.eq_1) <| aN (uR r87_20.eq_1) <| aN (uA c87_32.eq_1) <| aN (uA c87_31.eq_1) <| aN (uR r87_34.eq_1) <| s87.eq_1
def UCp_3 := Bx.mk <|
  aN (uA c87.eq_1) <| aN (uR r87_0.eq_1) <| aN (uR r87_1.eq_1) <| aN (uA c87_5.eq_1) <| aN (uR r87_2.eq_1) <| aN (uA c87_4.eq_1) <| aN (uR r87_3.eq_1) <| aN (uA c87_33.eq_1) <| aN (uR r87_20.eq_1) <| aN (uA c87_32.eq_1) <| aN (uA c87_31.eq_1) <| aN (uR r87_34.eq_1) <| s87.eq_1
def UCp_4 := Bx.mk <|
  aN (uA c87_16.eq_1) <| aN (uR r87_7.eq_1) <| aN (uA c87_8.eq_1) <| aN (uA c87_14.eq_1) <| aN (uA c87_13.eq_1) <| aN (uR r87_9.eq_1) <| aN (uR r87_10.eq_1) <| aN (uA c87_12.eq_1) <| aN (uR r87_11.eq_1) <| aN (uR r87_15.eq_1) <| aN (uA c87.eq_1) <| aN (uR r87_0.eq_1) <| aN (uR r87_1.eq_1) <| aN (uA c87_5.eq_1) <| aN (uR r87_2.eq_1) <| aN (uA c87_4.eq_1) <| aN (uR r87_3.eq_1) <| aN (uA c87_19.eq_1) <| aN (uR r87_6.eq_1) <| aN (uA c87_18.eq_1) <| aN (uA c87_17.eq_1) <| aN (uA c87_33.eq_1) <| aN (uR r87_20.eq_1) <| aN (uA c87_32.eq_1) <| aN (uA c87_31.eq_1) <| aN (uR r87_34.eq_1) <| s87.eq_1
def UCp_5 := Bx.mk <|
  aN (uA c87_30.eq_1) <| aN (uR r87_21.eq_1) <| aN (uA c87_22.eq_1) <| aN (uA c87_28.eq_1) <| aN (uA c87_27.eq_1) <| aN (uR r87_23.eq_1) <| aN (uR r87_24.eq_1) <| aN (uA c87_26.eq_1) <| aN (uR r87_25.eq_1) <| aN (uR r87_29.eq_1) <| aN (uA c87.eq_1) <| aN (uR r87_0.eq_1) <| aN (uR r87_1.eq_1) <| aN (uA c87_5.eq_1) <| aN (uR r87_2.eq_1) <| aN (uA c87_4.eq_1) <| aN (uR r87_3.eq_1) <| aN (uA c87_19.eq_1) <| aN (uR r87_6.eq_1) <| aN (uA c87_18.eq_1) <| aN (uA c87_17.eq_1) <| aN (uA c87_33.eq_1) <| aN (uR r87_20.eq_1) <| aN (uA c87_32.eq_1) <| aN (uA c87_31.eq_1) <| aN (uR r87_34.eq_1) <| s87.eq_1
set_option maxHeartbeats 1000000 in
theorem underWay_ok {w : CW} (h : PForm w) (m v m2 : Nat) : ACallsF Try.prog 87 [wP 1000 v] [wHd m v w, newH 3108 m2 1 3 (en eI (wayJobs w))] (.c (.own 3108 0 (wayJobs w).length)) := by
  have hq := h.lq
  have hk := h.st.k
  have hn := h.st.n
  have hh := h.lh
  have hr := h.lr
  have he := h.le
  have hnx := h.next
  have hj := h.st.j
  have gw1 : IntKind.i64.wrap (w.next - 1) = w.next - 1 := wrap64 ⟨by omega, by omega⟩
  have q1 : (w.queue.length + w.results.length + 1) * 8 ≤ 140737488355328 := by omega
  have q2 : w.queue.length + w.results.length + 1 ≤ 9223372036854775807 := by omega
  have tk : List.take (w.queue.length + w.results.length) (en eI (w.queue ++ w.results)) = en eI (w.queue ++ w.results) := by rw [← List.length_append, en_take]
  refine ACallsF.intro ok87 follows fun X c0 => ?_
  have main : ∀ (t : Nat → T) (H : HMap) (c : Nat), t 0 = wP 1000 v → H 1000 = some (cwB v w) → (∃ u, t 3 = .c (.own 3108 u (w.queue ++ w.results ++ sent w).length) ∧ H 3108 = some (.arr u true 1 3 (en eI (w.queue ++ w.results ++ sent w)))) → wpa Try.prog X c87_19 (thenW Try.prog X (.seq c87_33 (.seq (.reg r87_34) .ret)) (endA (FinC [.tmp 2] (.c (.own 3108 0 (wayJobs w).length)) [wHd m v w, newH 3108 m2 1 3 (en eI (wayJobs w))]))) ⟨t, H, c⟩ := by
    intro t H c e0 hW ⟨u, e3, eL⟩
    simp only [wP, T.c] at e0 e3
    simp only [RUX, Nat.reduceAdd, reduceIte, Nat.reduceEqDiff, Nat.reduceLT, Nat.reduceLeDiff, reduceCtorEq, eq_self, FIX, forall_const, endE_n, endE_r, CHT, disj, Nat.reduceBEq, beq_self_eq_true, APT, APX, forall_eq, ALT, KI, UCp_1.d, e0, hW, e3, eL, en_len]
    refine AW.upto w.hands.length (inv87a w v (w.queue ++ w.results ++ sent w)) ⟨e0, hW, rfl, rfl, rfl, ?_⟩ fun i t H c hi h' => ?_
    · have e : w.queue ++ w.results ++ sent w ++ hJobs (w.hands.take 0) = w.queue ++ w.results ++ sent w := by simp [hJobs]
      rw [e]
      exact ⟨u, e3, eL⟩
    clear e0 hW e3 eL
    obtain ⟨e0, hW, e34, e35, e36, ⟨u, e3, eL⟩⟩ := h'
    simp only [wP, T.c, T.i] at e0 e3 e34 e35 e36 hW eL
    have hlA : (w.queue ++ w.results ++ sent w ++ hJobs (w.hands.take i)).length ≤ 41 := by
      have h0 := sent_len w
      have h1 := hJobs_len (w.hands.take i)
      have h2 := take_le w.hands i
      simp only [List.length_append]
      omega
    obtain ⟨B, hB⟩ : ∃ B, w.queue ++ w.results ++ sent w ++ hJobs (w.hands.take i) = B := ⟨_, rfl⟩
    rw [hB] at e3 eL hlA
    by_cases k1 : (i : Int) < w.hands.length
    · obtain ⟨x, hx⟩ : ∃ x, w.hands[i]? = some x := ⟨_, List.getElem?_eq_getElem (by omega)⟩
      have ex := en_at eH hx
      have gz : (0 : Int) ≤ i := by omega
      have gw := w1_ok (i := i) (by omega)
      have ht := hJobs_take hx
      have q7 : (B.length + 1) * 8 ≤ 140737488355328 := by omega
      have q8 : B.length + 1 ≤ 9223372036854775807 := by omega
      by_cases b1 : x.state = 1 ∨ x.state = 2
      · rw [if_pos b1] at ht
        have ht2 : w.queue ++ w.results ++ sent w ++ hJobs (w.hands.take (i + 1)) = B ++ [x.job] := by rw [ht, ← hB]; simp only [List.append_assoc]
        rcases b1 with b1 | b1
        · have k2 := eqb b1
          simp only [RUX, Nat.reduceAdd, reduceIte, Nat.reduceEqDiff, Nat.reduceLT, Nat.reduceLeDiff, reduceCtorEq, eq_self, FIX, forall_const, endE_n, endE_r, CHT, disj, Nat.reduceBEq, beq_self_eq_true, APT, APX, forall_eq, ALT, KI, UCp_4.d, e0, hW, e3, eL, e34, e35, e36, en_len, k1, ex, gz, gw, eH, k2, q7, q8, APT]
          exact ⟨by omega, e0, hW, e34, e35, rfl, ⟨_, own_len (by rw [ht2, List.length_append]; rfl), arr_snoc ht2⟩⟩
        · have k2 : (x.state == 1) = false := neqb (by omega)
          have k3 := eqb b1
          simp only [RUX, Nat.reduceAdd, reduceIte, Nat.reduceEqDiff, Nat.reduceLT, Nat.reduceLeDiff, reduceCtorEq, eq_self, FIX, forall_const, endE_n, endE_r, CHT, disj, Nat.reduceBEq, beq_self_eq_true, APT, APX, forall_eq, ALT, KI, UCp_4.d, e0, hW, e3, eL, e34, e35, e36, en_len, k1, ex, gz, gw, eH, k2, k3, q7, q8, APT]
          exact ⟨by omega, e0, hW, e34, e35, rfl, ⟨_, own_len (by rw [ht2, List.length_append]; rfl), arr_snoc ht2⟩⟩
      · rw [if_neg b1] at ht
        have k2 : (x.state == 1) = false := neqb (by omega)
        have k3 : (x.state == 2) = false := neqb (by omega)
        simp only [RUX, Nat.reduceAdd, reduceIte, Nat.reduceEqDiff, Nat.reduceLT, Nat.reduceLeDiff, reduceCtorEq, eq_self, FIX, forall_const, endE_n, endE_r, CHT, disj, Nat.reduceBEq, beq_self_eq_true, APT, APX, forall_eq, ALT, KI, UCp_4.d, e0, hW, e3, eL, e34, e35, e36, en_len, k1, ex, gz, gw, eH, k2, k3, q7, q8, APT]
        refine ⟨by omega, e0, hW, e34, e35, rfl, ⟨u, ?_, ?_⟩⟩
        · show t 3 = _
          rw [ht, hB]; exact e3
        · show H 3108 = _
          rw [ht, hB]; exact eL
    have hi2 : i = w.hands.length := by omega
    subst hi2
    rw [List.take_length] at hB
    have hB2 : B = w.queue ++ w.results ++ sent w ++ hJobs w.hands := hB.symm
    simp only [RUX, Nat.reduceAdd, reduceIte, Nat.reduceEqDiff, Nat.reduceLT, Nat.reduceLeDiff, reduceCtorEq, eq_self, FIX, forall_const, endE_n, endE_r, CHT, disj, Nat.reduceBEq, beq_self_eq_true, APT, APX, forall_eq, ALT, KI, UCp_4.d, UCp_2.d, e0, hW, e3, eL, e34, e35, e36, en_len, k1]
    refine AW.upto w.ring.length (inv87b w v B) ⟨hW, rfl, rfl, rfl, ?_⟩ fun i t H c hi h' => ?_
    · rw [List.take_zero, List.filter_nil, List.append_nil]
      exact ⟨u, e3, eL⟩
    clear e0 hW e3 eL e34 e35 e36 k1
    obtain ⟨hW, e57, e58, e59, ⟨u, e3, eL⟩⟩ := h'
    simp only [T.c, T.i] at e3 e57 e58 e59 hW eL
    have hlB : (B ++ (w.ring.take i).filter fun x => x != -1).length ≤ 80 := by
      have h1 : ((w.ring.take i).filter fun x => x != -1).length ≤ (w.ring.take i).length := List.length_filter_le _ _
      have h2 := take_le w.ring i
      simp only [List.length_append]
      omega
    obtain ⟨D, hD⟩ : ∃ D, (B ++ (w.ring.take i).filter fun x => x != -1) = D := ⟨_, rfl⟩
    rw [hD] at e3 eL hlB
    by_cases k1 : (i : Int) < w.ring.length
    · obtain ⟨x, hx⟩ : ∃ x, w.ring[i]? = some x := ⟨_, List.getElem?_eq_getElem (by omega)⟩
      have ex := en_at eI hx
      have gz : (0 : Int) ≤ i := by omega
      have gw := w1_ok (i := i) (by omega)
      have ht := ring_take hx
      have q7 : (D.length + 1) * 8 ≤ 140737488355328 := by omega
      have q8 : D.length + 1 ≤ 9223372036854775807 := by omega
      by_cases b1 : x = -1
      · rw [if_pos b1] at ht
        have k2 := eqn b1
        simp only [RUX, Nat.reduceAdd, reduceIte, Nat.reduceEqDiff, Nat.reduceLT, Nat.reduceLeDiff, reduceCtorEq, eq_self, FIX, forall_const, endE_n, endE_r, CHT, disj, Nat.reduceBEq, beq_self_eq_true, APT, APX, forall_eq, ALT, KI, UCp_5.d, hW, e3, eL, e57, e58, e59, en_len, k1, ex, gz, gw, eI, k2, q7, q8, APT]
        refine ⟨by omega, hW, e57, e58, rfl, ⟨u, ?_, ?_⟩⟩
        · show t 3 = _
          rw [ht, hD]; exact e3
        · show H 3108 = _
          rw [ht, hD]; exact eL
      · rw [if_neg b1] at ht
        have ht2 : (B ++ (w.ring.take (i + 1)).filter fun x => x != -1) = D ++ [x] := by rw [ht, ← hD]; simp only [List.append_assoc]
        have k2 := neqn b1
        simp only [RUX, Nat.reduceAdd, reduceIte, Nat.reduceEqDiff, Nat.reduceLT, Nat.reduceLeDiff, reduceCtorEq, eq_self, FIX, forall_const, endE_n, endE_r, CHT, disj, Nat.reduceBEq, beq_self_eq_true, APT, APX, forall_eq, ALT, KI, UCp_5.d, hW, e3, eL, e57, e58, e59, en_len, k1, ex, gz, gw, eI, k2, q7, q8, APT]
        exact ⟨by omega, hW, e57, e58, rfl, ⟨_, own_len (by rw [ht2, List.length_append]; rfl), arr_snoc ht2⟩⟩
    have hi2 : i = w.ring.length := by omega
    subst hi2
    rw [List.take_length] at hD
    have hw : D = wayJobs w := by rw [← hD, hB2]; rfl
    rw [hw] at e3 eL
    simp only [RUX, Nat.reduceAdd, reduceIte, Nat.reduceEqDiff, Nat.reduceLT, Nat.reduceLeDiff, reduceCtorEq, eq_self, FIX, forall_const, endE_n, endE_r, CHT, disj, Nat.reduceBEq, beq_self_eq_true, APT, APX, forall_eq, ALT, KI, UCp_5.d, UCp_2.d, hW, e3, eL, e57, e58, e59, en_len, k1, imp_self]
  simp only [RUX, Nat.reduceAdd, reduceIte, Nat.reduceEqDiff, Nat.reduceLT, Nat.reduceLeDiff, reduceCtorEq, eq_self, wHd, wP, FIX, forall_const, endE_n, endE_r, CHT, disj, Nat.reduceBEq, beq_self_eq_true, APT, APX, forall_eq, ALT, KI, UCp_3.d, en_len, gw1]
  refine callA1 (m := 3108) (ws := [(16, .arr (c0 + 1 + 8) false 1 22 [[.sl (en eI w.queue)], [.sl (en eI w.results)]])]) (ns := [16]) (concat_ok w.queue w.results (by omega) (by omega) 3108) rfl ?_ rfl (en_flat eI eI_flat _) ⟨rfl, ?_⟩
  · simp only [RUX, Nat.reduceAdd, reduceIte, Nat.reduceEqDiff, Nat.reduceLT, Nat.reduceLeDiff, reduceCtorEq, eq_self, FIX, forall_const, endE_n, endE_r, CHT, disj, Nat.reduceBEq, beq_self_eq_true, APT, APX, forall_eq, ALT, KI, lendTs, lendT]
  by_cases hs : w.reader = 1
  · have k1 := eqb hs
    simp only [RUX, Nat.reduceAdd, reduceIte, Nat.reduceEqDiff, Nat.reduceLT, Nat.reduceLeDiff, reduceCtorEq, eq_self, wHd, wP, FIX, forall_const, endE_n, endE_r, CHT, disj, Nat.reduceBEq, beq_self_eq_true, APT, APX, forall_eq, ALT, KI, UCp_3.d, en_len, gw1, k1, q1, q2, tk]
    refine main _ _ _ ?_ ?_ ?_
    · rfl
    · rfl
    · exact ⟨_, own_len (m := w.queue.length + w.results.length + 1) (b := w.queue ++ w.results ++ sent w) (by rw [sent, if_pos hs, List.length_append, List.length_append]; rfl), arr_snoc (a := w.queue ++ w.results) (b := w.queue ++ w.results ++ sent w) (by rw [sent, if_pos hs])⟩
  · have k1 := neqb hs
    simp only [RUX, Nat.reduceAdd, reduceIte, Nat.reduceEqDiff, Nat.reduceLT, Nat.reduceLeDiff, reduceCtorEq, eq_self, wHd, wP, FIX, forall_const, endE_n, endE_r, CHT, disj, Nat.reduceBEq, beq_self_eq_true, APT, APX, forall_eq, ALT, KI, UCp_3.d, en_len, gw1, k1]
    refine main _ _ _ ?_ ?_ ?_
    · rfl
    · rfl
    · exact ⟨_, own_len (m := w.queue.length + w.results.length) (b := w.queue ++ w.results ++ sent w) (by rw [sent, if_neg hs, List.append_nil, List.length_append]), arr_eq (a := w.queue ++ w.results) (b := w.queue ++ w.results ++ sent w) (by rw [sent, if_neg hs, List.append_nil])⟩
end Go.V

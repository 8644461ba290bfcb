/- It is proved that the law FnExactCrewStep returns true for all arguments and leaves its arguments as they were; no condition. -/
import Derived.Test.YtlomodjpgjlagaaGreatSC2
import Derived.Sort.Row
import Derived.Sort.Grow
import Derived.Sort.EncStr
import Derived.Shelf.Sort.Plain
import Derived.Shelf.Slices.In.SortNone
import Derived.Shelf.SlGeneric
import Derived.Shelf.Spec.SlicesGrow
import Derived.Lib.RowBridge
set_option linter.unusedSimpArgs false
namespace Go.V
open Go.Proofs Go.Sort
/-! A library's function that works in place on a row of numbers, as a contract over an own array. -/
/-- Strings as an own array's elements. -/
def rowI (ss : List Int) : List (List V) := ss.map fun s => [.s (.int .i64 s)]
theorem rowI_len (ss : List Int) : (rowI ss).length = ss.length := by simp [rowI]
theorem rowI_one (ss : List Int) : ∀ e ∈ rowI ss, e.length = 1 := by
  intro e he
  obtain ⟨s, -, rfl⟩ := List.mem_map.1 he
  rfl
/-- The kit's way to say it. -/
def rowJ (ss : List Int) : List Int := ss.map fun s => s
theorem rowJ_len (ss : List Int) : (rowJ ss).length = ss.length := by simp [rowJ]
abbrev rowIH (n m v : Nat) (ty : TypeId) (ss ss' : List Int) : List Hand := [⟨n, m, some (.arr v true 1 ty (rowI ss)), .arr v true 1 ty (rowI ss'), true⟩]
theorem rowIH_in (n m v : Nat) (ty : TypeId) (ss ss' : List Int) (k : Nat) : hinOf (rowIH n m v ty ss ss') k = if k = n then some (.arr v true 1 ty (rowI ss)) else none := by
  by_cases h : k = n
  · subst h; simp [hinOf, renN]
  · have : (n == k) = false := by simp; omega
    simp [hinOf, renN, h, this]
theorem rowIH_ren (n m v : Nat) (ty : TypeId) (ss ss' : List Int) {c : Nat} {h : Hand} (hh : renN (rowIH n m v ty ss ss') c = some h) : c = n ∧ h = ⟨n, m, some (.arr v true 1 ty (rowI ss)), .arr v true 1 ty (rowI ss'), true⟩ := by
  simp only [renN, List.find?_cons, List.find?_nil] at hh
  by_cases e : (n == c) = true
  · simp only [e] at hh
    exact ⟨(by simpa using e : n = c).symm, by simpa using hh.symm⟩
  · simp only [Bool.not_eq_true] at e
    simp [e] at hh

theorem VsRep_rowI {w : World} {imm : Imm} {cur : Array Value} {ss : List Int} (h : ∀ i e, (rowI ss)[i]? = some e → VsRep w imm cur (i * 1) e) {j : Nat} {s : Int} (hs : ss[j]? = some s) : cur[j]? = some (.int .i64 s) := by
  obtain ⟨u, h1, h2⟩ := h j [.s (.int .i64 s)] (by simp [rowI, hs]) 0 (.s (.int .i64 s)) rfl
  cases h2
  simpa using h1

theorem put_rowI {w w' : World} {imm : Imm} {L : Locs} {U : Nat → Prop} {n m v g : Nat} {ty : TypeId} {ss ss' : List Int} {cur cur' : Array Value} (hH : HOk w imm (hinOf (rowIH n m v ty ss ss')) L U) (hg : L n = some g)
    (hc : w.heap[g]? = some (.cells cur ty (0, 0))) (hos : w'.os = w.os) (htape : w'.tape = w.tape) (hout : w'.output = w.output) (hsz : w.heap.size ≤ w'.heap.size) (hf : ∀ b, b < w.heap.size → b ≠ g → w'.heap[b]? = w.heap[b]?)
    (hc' : w'.heap[g]? = some (.cells cur' ty (0, 0))) (hcs : cur'.size = cur.size) (hl : ss'.length = ss.length) (hr : ∀ (j : Nat) s, ss'[j]? = some s → cur'[j]? = some (.int .i64 s)) :
    let H' : HMap := fun k => if k = n then some (.arr v true 1 ty (rowI ss')) else none
    HOk w' imm H' L U ∧ Step w imm (foot (hinOf (rowIH n m v ty ss ss')) L) w' imm ∧ Near w (foot (hinOf (rowIH n m v ty ss ss')) L) H' L ∧ Ext w (hinOf (rowIH n m v ty ss ss')) L U w' H' L U := by
  intro H'
  have hin : hinOf (rowIH n m v ty ss ss') n = some (.arr v true 1 ty (rowI ss)) := by rw [rowIH_in]; simp
  have hB := hH.blk n _ hin
  obtain ⟨hv, _, h1, h2⟩ := hB
  have hgsz : g < w.heap.size := by
    rcases Nat.lt_or_ge g w.heap.size with h | h
    · exact h
    · rw [Array.getElem?_eq_none h] at hc; cases hc
  obtain ⟨hlen, himm⟩ : ss.length ≤ cur.size ∧ ∀ o, ¬ imm g o := by
    rcases h2 with ⟨h, he⟩ | ⟨g', cur2, h3, h4, h5, h6, h7⟩
    · rw [h] at hg; cases hg
    · rw [hg] at h3; cases h3
      rw [hc] at h4; cases h4
      exact ⟨by rw [rowI_len] at h5; omega, fun o ho => by cases (h7 o ho).1⟩
  have hn : ∀ k, H' k ≠ none → k = n := fun k hk => by
    by_cases h : k = n
    · exact h
    · simp [H', h] at hk
  have hn0 : ∀ k, hinOf (rowIH n m v ty ss ss') k ≠ none → k = n := fun k hk => by
    rw [rowIH_in] at hk
    by_cases h : k = n
    · exact h
    · simp [h] at hk
  refine ⟨⟨fun k B hk => ?_, fun a b g' ha hb _ _ => (hn a ha).trans (hn b hb).symm, fun b o hb => Nat.lt_of_lt_of_le (hH.imm b o hb) hsz⟩, ⟨hos, htape, hout, hsz, fun b hb hfp => ?_, fun b o hb => ⟨hb, ?_⟩, fun b o hb => .inl hb⟩, fun k g' hk hg' => .inl ⟨n, by rw [hin]; simp, ?_⟩, ⟨fun x hx => hx, fun k ver ty' cs hu hk => ?_, fun k ver wr st ty' es hu hk => ?_, fun k ver wr st ty' es g' cur2 hu hk hg' hc2 => ?_⟩⟩
  · have hk' := hn k (by rw [hk]; simp)
    subst hk'
    simp only [H', if_true] at hk
    cases hk
    refine ⟨hv, Nat.one_pos, rowI_one ss', .inr ⟨g, cur', hg, hc', by rw [rowI_len]; omega, fun i e he j y hy => ?_, fun o ho => (himm o ho).elim⟩⟩
    simp only [rowI, List.getElem?_map, Option.map_eq_some_iff] at he
    obtain ⟨s, hs, rfl⟩ := he
    cases j with
    | zero =>
      simp at hy
      subst hy
      exact ⟨.int .i64 s, by simpa using hr i s hs, .s _ rfl⟩
    | succ j => simp at hy
  · exact hf b hb fun e => hfp ⟨n, by rw [hin]; simp, by rw [hg, e]⟩
  · have hb' := hH.imm b o hb
    have hne : b ≠ g := fun e => himm o (e ▸ hb)
    simp only [World.cell?, hf b hb' hne]
  · rw [← hn k hk]; exact hg'
  · have := hn k (by rw [hk]; simp)
    subst this
    simp [H'] at hk
  · have := hn k (by rw [hk]; simp)
    subst this
    simp only [H', if_true, Option.some.injEq, Blk.arr.injEq] at hk
    obtain ⟨rfl, rfl, rfl, rfl, rfl⟩ := hk
    exact ⟨true, rowI ss, hin, by rw [rowI_len, rowI_len]; omega, rfl⟩
  · have := hn k (by rw [hk]; simp)
    subst this
    simp only [H', if_true, Option.some.injEq, Blk.arr.injEq] at hk
    obtain ⟨rfl, rfl, rfl, rfl, rfl⟩ := hk
    rw [hg] at hg'; cases hg'
    rw [hc] at hc2; cases hc2
    exact ⟨cur', hc', hcs⟩

theorem row_openI {w : World} {imm : Imm} {L : Locs} {U : Nat → Prop} {n m v : Nat} {ty : TypeId} {ss ss' : List Int} {vs : List Value} (hH : HOk w imm (hinOf (rowIH n m v ty ss ss')) L U) (hT : TsRep w imm (hinOf (rowIH n m v ty ss ss')) L U vs [.c (.own n v ss.length)]) :
    ∃ x, vs = [x] ∧ TRep w imm (hinOf (rowIH n m v ty ss ss')) L U x (.c (.own n v ss.length)) ∧ U v ∧
      ((ss = [] ∧ ∃ a cap, x = .slice a 0 cap) ∨ ∃ g cap cur, L n = some g ∧ x = .slice (some ⟨g, 0, none⟩) ss.length cap ∧ w.heap[g]? = some (.cells cur ty (0, 0)) ∧ g < w.heap.size ∧ ss.length ≤ cap ∧ cap ≤ maxLen ∧ cur.size = cap * 1 ∧ Holds (Value.int .i64) w g 0 (rowJ ss).toArray) := by
  obtain ⟨x, rfl⟩ : ∃ x, vs = [x] := by
    have := hT.1
    match vs, this with
    | [x], _ => exact ⟨x, rfl⟩
  have hx : TRep w imm (hinOf (rowIH n m v ty ss ss')) L U x (.c (.own n v ss.length)) := hT.2 0 x _ rfl rfl
  have hin : hinOf (rowIH n m v ty ss ss') n = some (.arr v true 1 ty (rowI ss)) := by rw [rowIH_in]; simp
  have hx' : CRep w imm (hinOf (rowIH n m v ty ss ss')) L U x (.own n v ss.length) := hx
  obtain ⟨hu, -, h3⟩ := hx'
  refine ⟨x, rfl, hx, hu, ?_⟩
  obtain ⟨-, h4⟩ := h3 _ _ _ _ hin
  rcases h4 with ⟨a, h5, h6⟩ | ⟨g, cap, cur, h5, h6, h7, h8, h9, h10⟩
  · left
    exact ⟨List.length_eq_zero_iff.1 h6, a, 0, h5⟩
  · right
    have hgsz : g < w.heap.size := by
      rcases Nat.lt_or_ge g w.heap.size with h | h
      · exact h
      · rw [Array.getElem?_eq_none h] at h7; cases h7
    refine ⟨g, cap, cur, h5, h6, h7, hgsz, h8, h9, h10, fun j hj => ?_⟩
    obtain ⟨-, -, -, hb⟩ := hH.blk n _ hin
    rcases hb with ⟨h, -⟩ | ⟨g', cur2, i1, i2, -, i4, -⟩
    · rw [h] at h5; cases h5
    · rw [h5] at i1; cases i1
      rw [h7] at i2; cases i2
      have hj' : j < ss.length := by simpa [rowJ] using hj
      have := VsRep_rowI (ss := ss) i4 (j := j) (s := ss[j]) (by simp [hj'])
      refine ⟨?_, by simp [World.frozen?, h7]⟩
      simp only [World.cell?, h7, Nat.zero_add, Option.isSome_none, Bool.false_eq_true, if_false]
      rw [this, getElem!_pos _ j hj]
      simp [rowJ]

theorem row_worldI {w : World} {g q : Nat} {ty : TypeId} {cur : Array Value} {ss' : List Int} {os : Array Obj} (hc : w.heap[g]? = some (.cells cur ty (0, 0))) (hg : g < w.heap.size) (hl : ss'.length ≤ cur.size) :
    ∃ cur', (Go.Sort.grow (putRow (Value.int .i64) (Go.Sort.ahead w q) g 0 (rowJ ss').toArray) os).heap[g]? = some (.cells cur' ty (0, 0)) ∧ cur'.size = cur.size ∧ (∀ (j : Nat) s, ss'[j]? = some s → cur'[j]? = some (.int .i64 s)) ∧
      w.heap.size ≤ (Go.Sort.grow (putRow (Value.int .i64) (Go.Sort.ahead w q) g 0 (rowJ ss').toArray) os).heap.size ∧
      ∀ b, b < w.heap.size → b ≠ g → (Go.Sort.grow (putRow (Value.int .i64) (Go.Sort.ahead w q) g 0 (rowJ ss').toArray) os).heap[b]? = w.heap[b]? := by
  refine ⟨putCells (Value.int .i64) 0 (rowJ ss').toArray cur, ?_, by simp [putCells], fun j s hs => ?_, ?_, fun b hb hne => ?_⟩
  · simp only [Go.Sort.grow, putRow, mapBlock, Go.Sort.ahead]
    rw [Array.getElem?_append_left (by simpa using hg), Array.getElem?_modify]
    simp [hc, onCells]
  · have hj : j < ss'.length := (List.getElem?_eq_some_iff.1 hs).1
    have hjc : j < cur.size := by omega
    simp only [putCells, Array.getElem?_mapIdx, Array.getElem?_eq_getElem hjc, Option.map_some]
    have e : (rowJ ss').toArray[j]! = s := by
      rw [getElem!_pos _ j (by simpa [rowJ] using hj)]
      have := (List.getElem?_eq_some_iff.1 hs).2
      simp [rowJ, this]
    have c1 : 0 ≤ j ∧ j < 0 + (rowJ ss').toArray.size := ⟨Nat.zero_le _, by simpa [rowJ] using hj⟩
    rw [if_pos c1, Nat.sub_zero, e]
  · simp [Go.Sort.grow, putRow, mapBlock, Go.Sort.ahead]
  · simp only [Go.Sort.grow, putRow, mapBlock, Go.Sort.ahead]
    rw [Array.getElem?_append_left (by simpa using hb), Array.getElem?_modify, if_neg (fun e => hne e.symm)]

theorem row_sameI {w : World} {imm : Imm} {L : Locs} {U : Nat → Prop} {n m v : Nat} {ty : TypeId} (hH : HOk w imm (hinOf (rowIH n m v ty [] [])) L U) :
    HOk w imm (hinOf (rowIH n m v ty [] [])) L U ∧ Step w imm (foot (hinOf (rowIH n m v ty [] [])) L) w imm ∧ Near w (foot (hinOf (rowIH n m v ty [] [])) L) (hinOf (rowIH n m v ty [] [])) L ∧ Ext w (hinOf (rowIH n m v ty [] [])) L U w (hinOf (rowIH n m v ty [] [])) L U :=
  ⟨hH, ⟨rfl, rfl, rfl, Nat.le_refl _, fun _ _ _ => rfl, fun _ _ h => ⟨h, rfl⟩, fun _ _ h => .inl h⟩, fun k _ hk hg => .inl ⟨k, hk, hg⟩,
    ⟨fun _ h => h, fun _ _ ty' cs _ hk => ⟨ty', cs, hk, rfl⟩, fun _ _ wr _ _ es _ hk => ⟨wr, es, hk, Nat.le_refl _, rfl⟩, fun _ _ _ _ _ _ _ cur _ _ _ hc => ⟨cur, hc, rfl⟩⟩⟩

theorem row_leftI (n m v : Nat) (ty : TypeId) (ss ss' : List Int) (r : T) (hr : verT (fun _ => v) r = r) (h' : HMap) (hh : h' n = some (.arr v true 1 ty (rowI ss'))) :
    ∃ ν : Nat → Nat, r = verT ν r ∧ ∀ c h, renN (rowIH n m v ty ss ss') c = some h → h' c = some (verB ν (ν c) h.b') ∧ (h.keep = true → ∃ b, h.b = some b ∧ ν c = b.ver) := by
  refine ⟨fun _ => v, hr.symm, fun c h hc => ?_⟩
  obtain ⟨rfl, rfl⟩ := rowIH_ren _ _ _ _ _ _ hc
  exact ⟨hh, fun _ => ⟨_, rfl, rfl⟩⟩

theorem row_sortI {P : Program} {f : FuncId} {n m v : Nat} {ty : TypeId} {ss ss' : List Int} (hfn : isFn P f = true) (hl : ss'.length = ss.length)
    (h0 : ∀ (a : Option Addr) (cap : Nat) (w : World), Calls P f #[.slice a 0 cap] w fun e w' => e = .returned (.tuple #[]) ∧ w' = w)
    (hs : ∀ (g cap : Nat) (w : World), Holds (Value.int .i64) w g 0 (rowJ ss).toArray → g < w.heap.size → ss.length ≤ cap → Calls P f #[.slice (some ⟨g, 0, none⟩) ss.length cap] w fun e w' =>
      e = .returned (.tuple #[]) ∧ ∃ q os, w' = Go.Sort.grow (putRow (Value.int .i64) (Go.Sort.ahead w q) g 0 (rowJ ss').toArray) os) :
    ACallsF P f [.c (.own n v ss.length)] (rowIH n m v ty ss ss') (.tup []) := by
  refine ⟨hfn, fun w imm L c vs hH hT => ?_⟩
  obtain ⟨x, rfl, hx, hu, h⟩ := row_openI hH hT
  rcases h with ⟨rfl, a, cap, rfl⟩ | ⟨g, cap, cur, h1, rfl, h3, h4, h5, h6, h7, h8⟩
  · have : ss' = [] := List.length_eq_zero_iff.1 hl
    subst this
    refine (h0 a cap w).mono ?_
    rintro e w' ⟨rfl, rfl⟩
    obtain ⟨p1, p2, p3, p4⟩ := row_sameI hH
    exact ⟨.tuple #[], .tup [], _, imm, L, c, rfl, row_leftI n m v ty [] [] _ rfl _ (by rw [rowIH_in]; simp), ⟨[], rfl, rfl, fun k u y hk => by simp at hk⟩, p1, p2, p3, p4⟩
  · refine (hs g cap w h8 h4 h5).mono ?_
    rintro e w' ⟨rfl, q, os, rfl⟩
    obtain ⟨cur', j1, j2, j3, j4, j5⟩ := row_worldI (q := q) (os := os) (ss' := ss') h3 h4 (by omega)
    obtain ⟨p1, p2, p3, p4⟩ := put_rowI (w' := Go.Sort.grow (putRow (Value.int .i64) (Go.Sort.ahead w q) g 0 (rowJ ss').toArray) os) hH h1 h3 rfl rfl rfl j4 j5 j1 j2 hl j3
    exact ⟨.tuple #[], .tup [], _, imm, L, c, rfl, row_leftI n m v ty ss ss' _ rfl _ (by simp), ⟨[], rfl, rfl, fun k u y hk => by simp at hk⟩, p1, p2, p3, p4⟩

end Go.V
set_option linter.unusedSimpArgs false
namespace Go.Proofs
open Go.Shelf
def Tryz.laysSort_ren : Go.Shelf.Ren := ⟨fun | 189 => 104 | 125 => 112 | 257 => 111 | 128 => 125 | 129 => 126 | 294 => 116 | 295 => 117 | 296 => 118 | 297 => 119 | 298 => 120 | 299 => 121 | 216 => 122 | 300 => 123 | 301 => 124 | 328 => 129 | 329 => 130 | 330 => 131 | 331 => 132 | 332 => 133 | 215 => 134 | 343 => 135 | n => n, fun | 28 => 23 | 3 => 3 | 46 => 114 | 0 => 0 | 51 => 127 | 53 => 129 | 4 => 4 | 183 => 120 | 182 => 119 | 131 => 124 | 5 => 5 | 9 => 9 | 218 => 134 | 222 => 138 | 228 => 140 | 229 => 141 | n => n, fun | n => n⟩
theorem Tryz.laysSort : Go.Proofs.Lays.n189 Tryz.prog Tryz.laysSort_ren := {
  mixed := by kernel_rfl
  f125 := Tryz.func112.trans (congrArg some (by kernel_rfl))
  f128 := Tryz.func125.trans (congrArg some (by kernel_rfl))
  f129 := Tryz.func126.trans (congrArg some (by kernel_rfl))
  f189 := Tryz.func104.trans (congrArg some (by kernel_rfl))
  f215 := Tryz.func134.trans (congrArg some (by kernel_rfl))
  f216 := Tryz.func122.trans (congrArg some (by kernel_rfl))
  f257 := Tryz.func111.trans (congrArg some (by kernel_rfl))
  f294 := Tryz.func116.trans (congrArg some (by kernel_rfl))
  f295 := Tryz.func117.trans (congrArg some (by kernel_rfl))
  f296 := Tryz.func118.trans (congrArg some (by kernel_rfl))
  f297 := Tryz.func119.trans (congrArg some (by kernel_rfl))
  f298 := Tryz.func120.trans (congrArg some (by kernel_rfl))
  f299 := Tryz.func121.trans (congrArg some (by kernel_rfl))
  f300 := Tryz.func123.trans (congrArg some (by kernel_rfl))
  f301 := Tryz.func124.trans (congrArg some (by kernel_rfl))
  f328 := Tryz.func129.trans (congrArg some (by kernel_rfl))
  f329 := Tryz.func130.trans (congrArg some (by kernel_rfl))
  f330 := Tryz.func131.trans (congrArg some (by kernel_rfl))
  f331 := Tryz.func132.trans (congrArg some (by kernel_rfl))
  f332 := Tryz.func133.trans (congrArg some (by kernel_rfl))
  f343 := Tryz.func135.trans (congrArg some (by kernel_rfl))
  t0 := Tryz.underlying0
  a0 := Tryz.isAgg0
  z0 := Tryz.sizeOf0
  v0 := Tryz.zeroValue0
  t3 := Tryz.underlying3
  a3 := Tryz.isAgg3
  z3 := Tryz.sizeOf3
  v3 := Tryz.zeroValue3
  t4 := Tryz.underlying4
  a4 := Tryz.isAgg4
  z4 := Tryz.sizeOf4
  v4 := Tryz.zeroValue4
  t5 := Tryz.underlying5
  a5 := Tryz.isAgg5
  z5 := Tryz.sizeOf5
  v5 := Tryz.zeroValue5
  t9 := Tryz.underlying9
  a9 := Tryz.isAgg9
  z9 := Tryz.sizeOf9
  v9 := Tryz.zeroValue9
  t28 := Tryz.underlying23
  a28 := Tryz.isAgg23
  z28 := Tryz.sizeOf23
  v28 := Tryz.zeroValue23
  t46 := Tryz.underlying114
  a46 := Tryz.isAgg114
  z46 := Tryz.sizeOf114
  v46 := Tryz.zeroValue114
  t51 := Tryz.underlying127
  a51 := Tryz.isAgg127
  z51 := Tryz.sizeOf127
  v51 := Tryz.zeroValue127
  t53 := Tryz.underlying129
  a53 := Tryz.isAgg129
  z53 := Tryz.sizeOf129
  v53 := Tryz.zeroValue129
  t131 := Tryz.underlying124
  a131 := Tryz.isAgg124
  z131 := Tryz.sizeOf124
  v131 := Tryz.zeroValue124
  t182 := Tryz.underlying119
  a182 := Tryz.isAgg119
  z182 := Tryz.sizeOf119
  v182 := Tryz.zeroValue119
  t183 := Tryz.underlying120
  a183 := Tryz.isAgg120
  z183 := Tryz.sizeOf120
  v183 := Tryz.zeroValue120
  t218 := Tryz.underlying134
  a218 := Tryz.isAgg134
  z218 := Tryz.sizeOf134
  v218 := Tryz.zeroValue134
  t222 := Tryz.underlying138
  a222 := Tryz.isAgg138
  z222 := Tryz.sizeOf138
  v222 := Tryz.zeroValue138
  t228 := Tryz.underlying140
  a228 := Tryz.isAgg140
  z228 := Tryz.sizeOf140
  v228 := Tryz.zeroValue140
  t229 := Tryz.underlying141
  a229 := Tryz.isAgg141
  z229 := Tryz.sizeOf141
  v229 := Tryz.zeroValue141 }
def Tryz.laysGrow_ren : Go.Shelf.Ren := ⟨fun | 4 => 115 | n => n, fun | 22 => 23 | 25 => 3 | 3 => 3 | 4 => 4 | 9 => 9 | 20 => 20 | 0 => 0 | n => n, fun | n => n⟩
theorem Tryz.laysGrow : Go.Proofs.Lays8.n4 Tryz.prog Tryz.laysGrow_ren := {
  mixed := by kernel_rfl
  f4 := ⟨"slices.Grow[[]int,int]", by decide, Tryz.func115.trans (congrArg some (by kernel_rfl))⟩
  t0 := Tryz.underlying0
  a0 := Tryz.isAgg0
  z0 := Tryz.sizeOf0
  v0 := Tryz.zeroValue0
  t3 := Tryz.underlying3
  a3 := Tryz.isAgg3
  z3 := Tryz.sizeOf3
  v3 := Tryz.zeroValue3
  t4 := Tryz.underlying4
  a4 := Tryz.isAgg4
  z4 := Tryz.sizeOf4
  v4 := Tryz.zeroValue4
  t9 := Tryz.underlying9
  a9 := Tryz.isAgg9
  z9 := Tryz.sizeOf9
  v9 := Tryz.zeroValue9
  t20 := Tryz.underlying20
  a20 := Tryz.isAgg20
  z20 := Tryz.sizeOf20
  v20 := Tryz.zeroValue20
  t22 := Tryz.underlying23
  a22 := Tryz.isAgg23
  z22 := Tryz.sizeOf23
  v22 := Tryz.zeroValue23 }
end Go.Proofs
namespace Go.V
open Go.Proofs Go.Sort
open Nat (reduceAdd reduceEqDiff reduceLT reduceLeDiff)
theorem isFnSort : isFn Tryz.prog 104 = true := by kernel_rfl
theorem isFnGrow : isFn Tryz.prog 115 = true := by kernel_rfl
abbrev srt (zs : List Int) : List Int := zs.mergeSort fun x y => decide (x ≤ y)
theorem rowJ_id (zs : List Int) : rowJ zs = zs := by simp [rowJ]
theorem rowI_en (zs : List Int) : rowI zs = en eI zs := rfl
abbrev sortH (n m v : Nat) (zs zs' : List Int) : List Hand := [⟨n, m, some (.arr v true 1 3 (en eI zs)), .arr v true 1 3 (en eI zs'), true⟩]
theorem sort_ok (zs : List Int) (hs : zs.length < 4611686018427387904) (n m v : Nat) : ACallsF Tryz.prog 104 [.c (.own n v zs.length)] (sortH n m v zs (srt zs)) (.tup []) := by
  refine row_sortI (ss := zs) (ss' := srt zs) isFnSort (by simp [srt]) (fun a cap w => Any.slices_Sort_int_none Tryz.laysSort a cap w) fun g cap w hH hg _ => ?_
  rw [rowJ_id] at hH ⊢
  exact Any.slices_Sort_int Tryz.laysSort g 0 cap zs w hH hg hs
/-- A call that gives back a new array of its own. -/
theorem callA {P : Program} {t : Nat → T} {H : HMap} {c : Nat} {f : Opd} {args : List Opd} {fid : FuncId} {n m N st : Nat} {ty : TypeId} {es : List (List V)} {argsC : List T} {k : Nat} {d : Option Nat} {un : List Nat} {l : List AOper} {prev : List (Nat × List Nat × List Nat)} {K : St → Prop}
    (hC : ACallsF P fid argsC [newH n m st ty es] (.c (.own n 0 N))) (hf : ev t f = .pt (.one (.fn fid []))) (hl : args.map (ev t) = argsC)
    (h1 : lendTs H argsC argsC = some (argsC, [], [])) (h2 : renITs [newH n m st ty es] argsC = some argsC)
    (hk : chk prev un ⟨.c (.own m (c + k) N), [(m, .arr (c + k) true st ty es)], [m], [m]⟩ = true ∧ DRun P l ((k, [m], [m]) :: prev) K ⟨updD t d (.c (.own m (c + k) N)), upd H m (some (.arr (c + k) true st ty es)), c⟩) :
    step P k d un (.call f args) l prev K t H c := by
  let hs : List Hand := [newH n m st ty es]
  have hN : renN hs n = some (newH n m st ty es) := by simp [hs, renN]
  refine callW (caps := []) (ws := []) (ns := []) (r' := .c (.own m (c + k) N)) (ob := [(m, .arr (c + k) true st ty es)]) hs hC hf (by rw [hl]; simpa using h1) h2 ⟨trivial, trivial⟩ (by simp [hs]) (by simp [hs]) ?_ ?_ ?_
  · simp only [T.c, renOT, renOP, renO, hN, Option.map_some, verOf]; rfl
  · simp only [hs, renOBs, renOB, verOf]; rfl
  · have e1 : (if quiet (.c (.own n 0 N)) hs = true then ([] : List (Nat × Blk)) else []) = [] := by split <;> rfl
    have e2 : (if quiet (.c (.own n 0 N)) hs = true then ([] : List Nat) else []) = [] := by split <;> rfl
    rw [e1, e2]
    exact hk
theorem freshHand {w w' : World} {imm : Imm} {L : Locs} {c N m : Nat} {ty : TypeId} {x : Value} (hH : HOk w imm (hinOf [⟨N, m, none, .arr 0 true 1 ty [], false⟩]) L (· < c))
    (hw : (w' = w ∧ ∃ a, x = .slice a 0 0) ∨ ∃ (cells : Array Value) (cap : Nat), x = .slice (some ⟨w.heap.size, 0, none⟩) 0 cap ∧ w' = w.drew.alloc (.cells cells ty) ∧ cells.size = cap ∧ cap ≤ maxLen) :
    ∃ (x' : Value) (r : T) (h : HMap) (imm' : Imm) (L' : Locs) (c' : Nat), Ending.returned x = .returned x' ∧ (∃ ν : Nat → Nat, r = verT ν (.c (.own N 0 0)) ∧ ∀ c h0, renN [⟨N, m, none, .arr 0 true 1 ty [], false⟩] c = some h0 → h c = some (verB ν (ν c) h0.b') ∧ (h0.keep = true → ∃ b, h0.b = some b ∧ ν c = b.ver)) ∧
      TRep w' imm' h L' (· < c') x' r ∧ HOk w' imm' h L' (· < c') ∧ Step w imm (foot (hinOf [⟨N, m, none, .arr 0 true 1 ty [], false⟩]) L) w' imm' ∧ Near w (foot (hinOf [⟨N, m, none, .arr 0 true 1 ty [], false⟩]) L) h L' ∧
      Ext w (hinOf [⟨N, m, none, .arr 0 true 1 ty [], false⟩]) L (· < c) w' h L' (· < c') := by
  have hnone : ∀ k, hinOf [⟨N, m, none, .arr 0 true 1 ty [], false⟩] k = none := by
    intro k
    by_cases h : (N == k) = true
    · simp [hinOf, renN, h]
    · simp only [Bool.not_eq_true] at h; simp [hinOf, renN, h]
  let H' : HMap := fun k => if k = N then some (.arr c true 1 ty []) else none
  have hn : ∀ k, H' k ≠ none → k = N := fun k hk => by
    by_cases h : k = N
    · exact h
    · simp [H', h] at hk
  have hN : H' N = some (.arr c true 1 ty []) := by simp [H']
  have left : ∃ ν : Nat → Nat, T.c (.own N c 0) = verT ν (.c (.own N 0 0)) ∧ ∀ k h0, renN [⟨N, m, none, .arr 0 true 1 ty [], false⟩] k = some h0 → H' k = some (verB ν (ν k) h0.b') ∧ (h0.keep = true → ∃ b, h0.b = some b ∧ ν k = b.ver) := by
    refine ⟨fun _ => c, rfl, fun k h0 hk => ?_⟩
    by_cases h : (N == k) = true
    · simp only [renN, List.find?_cons, h, Option.some.injEq] at hk
      subst hk
      have hk : k = N := (by simpa using h : N = k).symm
      subst hk
      exact ⟨hN, fun h => by cases h⟩
    · simp only [Bool.not_eq_true] at h
      simp [renN, h] at hk
  rcases hw with ⟨rfl, a, rfl⟩ | ⟨cells, cap, rfl, rfl, hsz, hcap⟩
  · refine ⟨_, _, H', imm, fun k => if k = N then none else L k, c + 1, rfl, left, ?_, ⟨fun k B hk => ?_, fun a b g ha hb _ _ => (hn a ha).trans (hn b hb).symm, hH.imm⟩, ⟨rfl, rfl, rfl, Nat.le_refl _, fun _ _ _ => rfl, fun _ _ h => ⟨h, rfl⟩, fun _ _ h => .inl h⟩, fun k g hk hg => ?_, ⟨fun x hx => Nat.lt_succ_of_lt hx, fun k ver ty' cs hu hk => ?_, fun k ver wr st ty' es hu hk => ?_, fun k ver wr st ty' es g cur hu hk => ?_⟩⟩
    · refine ⟨Nat.lt_succ_self c, ⟨_, _, rfl, Nat.le_refl _⟩, fun wr st ty' es hes => ⟨Nat.zero_le _, .inl ⟨_, rfl, rfl⟩⟩⟩
    · have := hn k (by rw [hk]; simp)
      subst this
      rw [hN] at hk
      cases hk
      exact ⟨Nat.lt_succ_self c, Nat.one_pos, by simp, .inl ⟨by simp, rfl⟩⟩
    · have := hn k hk
      subst this
      simp at hg
    · have := hn k (by rw [hk]; simp)
      subst this
      rw [hN] at hk
      cases hk
    · have := hn k (by rw [hk]; simp)
      subst this
      rw [hN] at hk
      cases hk
      exact absurd hu (Nat.lt_irrefl c)
    · have := hn k (by rw [hk]; simp)
      subst this
      rw [hN] at hk
      cases hk
      exact absurd hu (Nat.lt_irrefl c)
  · have e0 : (w.drew.alloc (.cells cells ty)).heap = w.heap.push (.cells cells ty) := rfl
    have hnew : (w.drew.alloc (.cells cells ty)).heap[w.heap.size]? = some (.cells cells ty (0, 0)) := by rw [e0, Array.getElem?_push_size]
    have hold : ∀ b, b < w.heap.size → (w.drew.alloc (.cells cells ty)).heap[b]? = w.heap[b]? := fun b hb => by
      rw [e0, Array.getElem?_push_lt hb, Array.getElem?_eq_getElem hb]
    have hsz2 : w.heap.size ≤ (w.drew.alloc (.cells cells ty)).heap.size := by rw [e0]; simp
    refine ⟨_, _, H', imm, fun k => if k = N then some w.heap.size else L k, c + 1, rfl, left, ?_, ⟨fun k B hk => ?_, fun a b g ha hb _ _ => (hn a ha).trans (hn b hb).symm, fun b o hb => Nat.lt_of_lt_of_le (hH.imm b o hb) hsz2⟩, ⟨rfl, rfl, rfl, hsz2, fun b hb _ => hold b hb, fun b o h => ⟨h, by simp only [World.cell?, hold b (hH.imm b o h)]⟩, fun _ _ h => .inl h⟩, fun k g hk hg => ?_, ⟨fun x hx => Nat.lt_succ_of_lt hx, fun k ver ty' cs hu hk => ?_, fun k ver wr st ty' es hu hk => ?_, fun k ver wr st ty' es g cur hu hk => ?_⟩⟩
    · refine ⟨Nat.lt_succ_self c, ⟨_, _, rfl, Nat.zero_le _⟩, fun wr st ty' es hes => ?_⟩
      rw [hN] at hes
      cases hes
      exact ⟨Nat.zero_le _, .inr ⟨w.heap.size, cap, cells, by simp, rfl, hnew, Nat.zero_le _, hcap, by omega⟩⟩
    · have := hn k (by rw [hk]; simp)
      subst this
      rw [hN] at hk
      cases hk
      exact ⟨Nat.lt_succ_self c, Nat.one_pos, by simp, .inr ⟨w.heap.size, cells, by simp, hnew, by simp, by simp, fun o ho => absurd (hH.imm _ o ho) (Nat.lt_irrefl _)⟩⟩
    · have := hn k hk
      subst this
      simp at hg
      exact .inr (by omega)
    · have := hn k (by rw [hk]; simp)
      subst this
      rw [hN] at hk
      cases hk
    · have := hn k (by rw [hk]; simp)
      subst this
      rw [hN] at hk
      cases hk
      exact absurd hu (Nat.lt_irrefl c)
    · have := hn k (by rw [hk]; simp)
      subst this
      rw [hN] at hk
      cases hk
      exact absurd hu (Nat.lt_irrefl c)

theorem infoInt : ∃ i, Tryz.prog.info? 3 = some i ∧ i.zero = some (.int .i64 0) ∧ i.size = 1 ∧ i.bytes = 8 := ⟨Tryz.t3, by kernel_rfl, rfl, rfl, rfl⟩
theorem grow_ok (N m n : Nat) (hn : n ≤ 2000000) : ACallsF Tryz.prog 115 [.c .nil0, .i n] [⟨N, m, none, .arr 0 true 1 3 [], false⟩] (.c (.own N 0 0)) := by
  refine ⟨isFnGrow, fun w imm L c vs hH hT => ?_⟩
  obtain ⟨x, y, rfl⟩ : ∃ x y, vs = [x, y] := by
    have := hT.1
    match vs, this with
    | [x, y], _ => exact ⟨x, y, rfl⟩
  obtain ⟨a, rfl⟩ : ∃ a, x = .slice a 0 0 := hT.2 0 x _ rfl rfl
  have hy : y = .int .i64 n := by
    have : VRep w imm y (.s (.int .i64 n)) := hT.2 1 y _ rfl rfl
    cases this; rfl
  subst hy
  obtain ⟨i, i1, i2, i3, i4⟩ := infoInt
  by_cases h0 : n = 0
  · subst h0
    refine (Any8.slices_Grow_room Tryz.laysGrow a 0 0 0 w (by omega) (by omega) (by omega) (by omega)).mono ?_
    rintro e w' ⟨rfl, rfl⟩
    exact freshHand hH (.inl ⟨rfl, a, rfl⟩)
  · refine (Any8.slices_Grow_grow Tryz.laysGrow i _ i1 i2 (by rw [i3]; omega) a 0 0 n [] w (by omega) (by omega) (by rw [i4]; omega) (by omega) (by simp) (fun _ => rfl) (fun _ _ j v h => by simp at h)).mono ?_
    rintro e w' ⟨rfl, rfl⟩
    have hge := grownCap_ge w (0 + n) 0 3
    refine freshHand hH (.inr ⟨_, _, rfl, rfl, ?_, grownCap_le_maxLen w (0 + n) 0 3 (by simp [maxLen]; omega)⟩)
    have hz : ∀ k, (Builtin.zeroCells (Value.cells (.int .i64 0)) k).size = k := fun k => by simp [Builtin.zeroCells, Value.cells]
    simp only [Array.size_append, hz]
    simp
    have hq : (Tryz.laysGrow_ren.t 25) = 3 := rfl
    rw [hq]
    simp at hge ⊢
    omega
def sum2 (xs ys : List Int) : Nat → Nat
  | 0 => 0
  | 1 => xs.length
  | _ => xs.length + ys.length
def app2 (xs ys : List Int) : Nat → List Int
  | 0 => []
  | 1 => xs
  | _ => xs ++ ys
/- slices.Concat[[]int,int] -/
def r110_0 : List AOper := [ao 0 2 (.mv (.k (.c .nil0)))]
def r110_1 : List AOper := [ao 0 3 (.mv (.k (.i 0)))]
def r110_2 : List AOper := [ao 0 9 (.mv (.t 0)),
  ao 1 10 (.len (.t 9)),
  ao 2 11 (.mv (.k (.i 0)))]
def r110_3 : List AOper := [ao 0 12 (.bin .lss (.t 11) (.t 10))]
def c110_4 : ACode := .cond (.t 12) .skip (.exit 0)
def r110_5 : List AOper := [ao 0 13 (.ia 1 (.t 9) (.t 11)),
  ao 1 14 (.ld 1 false (.t 13)),
  ao 2 5 (.mv (.t 14))]
def r110_6 : List AOper := [ao 0 15 (.mv (.t 3)),
  ao 1 16 (.mv (.t 5)),
  ao 2 17 (.len (.t 16)),
  ao 3 18 (.bin .add (.t 15) (.t 17)),
  ao 4 3 (.mv (.t 18))]
def r110_7 : List AOper := [ao 0 19 (.mv (.t 3)),
  ao 1 20 (.bin .lss (.t 19) (.k (.i 0)))]
def r110_8 : List AOper := [ao 0 21 (.bad),
  an 1 (.bad)]
def c110_9 : ACode := .cond (.t 20) (.reg r110_8) .skip
def c110_10 : ACode := .seq (.reg r110_5) (.seq (.reg r110_6) (.seq (.reg r110_7) c110_9))
def c110_11 : ACode := .block 1 c110_10
def r110_12 : List AOper := [ao 0 22 (.bin .add (.t 11) (.k (.i 1))),
  ao 1 11 (.mv (.t 22))]
def c110_13 : ACode := .seq (.reg r110_3) (.seq c110_4 (.seq c110_11 (.reg r110_12)))
def c110_14 : ACode := .loop c110_13
def c110_15 : ACode := .block 0 c110_14
def c110_16 : ACode := .seq (.reg r110_2) c110_15
def r110_17 : List AOper := [ao 0 23 (.mv (.t 3)),
  ao 1 24 (.call (.k (.c (.fn 115 []))) [(.k (.c .nil0)), (.t 23)]),
  ao 2 6 (.mv (.t 24))]
def r110_18 : List AOper := [ao 0 25 (.mv (.t 0)),
  ao 1 26 (.len (.t 25)),
  ao 2 27 (.mv (.k (.i 0)))]
def r110_19 : List AOper := [ao 0 28 (.bin .lss (.t 27) (.t 26))]
def c110_20 : ACode := .cond (.t 28) .skip (.exit 2)
def r110_21 : List AOper := [ao 0 29 (.ia 1 (.t 25) (.t 27)),
  ao 1 30 (.ld 1 false (.t 29)),
  ao 2 8 (.mv (.t 30))]
def r110_22 : List AOper := [ao 0 31 (.mv (.t 6)),
  ao 1 32 (.mv (.t 8)),
  ao 2 33 (.app 1 3 8 (.t 31) (.t 32)),
  ao 3 6 (.mv (.t 33))]
def c110_23 : ACode := .seq (.reg r110_21) (.reg r110_22)
def c110_24 : ACode := .block 3 c110_23
def r110_25 : List AOper := [ao 0 34 (.bin .add (.t 27) (.k (.i 1))),
  ao 1 27 (.mv (.t 34))]
def c110_26 : ACode := .seq (.reg r110_19) (.seq c110_20 (.seq c110_24 (.reg r110_25)))
def c110_27 : ACode := .loop c110_26
def c110_28 : ACode := .block 2 c110_27
def c110_29 : ACode := .seq (.reg r110_18) c110_28
def r110_30 : List AOper := [ao 0 35 (.mv (.t 6)),
  ao 1 2 (.mv (.t 35))]
def c110 : ACode := .seq (.reg r110_0) (.seq (.reg r110_1) (.seq c110_16 (.seq (.reg r110_17) (.seq c110_29 (.seq (.reg r110_30) .ret)))))
def s110 : List ARes := [.tmp 2]
theorem ok110 : okF Tryz.prog 110 36 c110 s110 := ⟨Tryz.f110, Tryz.func110, Tryz.ntmps110, by kernel_rfl, by kernel_rfl, by kernel_rfl⟩
def invCata (xs ys : List Int) (i : Nat) (σ : St) : Prop := σ.t 0 = .c (.v (.sl [[.sl (en eI xs)], [.sl (en eI ys)]])) ∧ σ.t 3 = .i (sum2 xs ys i) ∧ σ.t 9 = .c (.v (.sl [[.sl (en eI xs)], [.sl (en eI ys)]])) ∧ σ.t 10 = .i 2 ∧ σ.t 11 = .i i
def invCatb (xs ys : List Int) (i : Nat) (σ : St) : Prop := σ.t 25 = .c (.v (.sl [[.sl (en eI xs)], [.sl (en eI ys)]])) ∧ σ.t 26 = .i 2 ∧ σ.t 27 = .i i ∧ ∃ v, σ.t 6 = .c (.own 3108 v (app2 xs ys i).length) ∧ σ.H 3108 = some (.arr v true 1 3 (en eI (app2 xs ys i)))
abbrev catH (m : Nat) (ss : List Int) : Hand := newH 3108 m 1 3 (en eI ss)
def UCn_1 := Bx.mk <|
  aN (uA c110.eq_1) <| aN (uR r110_0.eq_1) <| aN (uR r110_1.eq_1) <| aN (uA c110_16.eq_1) <| aN (uR r110_2.eq_1) <| aN (uA c110_15.eq_1) <| aN (uA c110_14.eq_1) <| aN (uR r110_17.eq_1) <| aN (uA c110_29.eq_1) <| aN (uR r110_18.eq_1) <| aN (uA c110_28.eq_1) <| aN (uA c110_27.eq_1) <| aN (uR r110_30.eq_1) <| s110.eq_1
def UCn_2 := Bx.mk <|
  aN (uA c110_13.eq_1) <| aN (uR r110_3.eq_1) <| aN (uA c110_4.eq_1) <| aN (uA c110_11.eq_1) <| aN (uA c110_10.eq_1) <| aN (uR r110_5.eq_1) <| aN (uR r110_6.eq_1) <| aN (uR r110_7.eq_1) <| aN (uA c110_9.eq_1) <| aN (uR r110_8.eq_1) <| aN (uR r110_12.eq_1) <| aN (uA c110.eq_1) <| aN (uR r110_0.eq_1) <| aN (uR r110_1.eq_1) <| aN (uA c110_16.eq_1) <| aN (uR r110_2.eq_1) <| aN (uA c110_15.eq_1) <| aN (uA c110_14.eq_1) <| aN (uR r110_17.eq_1) <| aN (uA c110_29.eq_1) <| aN (uR r110_18.eq_1) <| aN (uA c110_28.eq_1) <| aN (uA c110_27.eq_1) <| aN (uR r110_30.eq_1) <| s110.eq_1
def UCn_3 := Bx.mk <|
  aN (uA c110_26.eq_1) <| aN (uR r110_19.eq_1) <| aN (uA c110_20.eq_1) <| aN (uA c110_24.eq_1) <| aN (uA c110_23.eq_1) <| aN (uR r110_21.eq_1) <| aN (uR r110_22.eq_1) <| aN (uR r110_25.eq_1) <| aN (uA c110.eq_1) <| aN (uR r110_0.eq_1) <| aN (uR r110_1.eq_1) <| aN (uA c110_16.eq_1) <| aN (uR r110_2.eq_1) <| aN (uA c110_15.eq_1) <| aN (uA c110_14.eq_1) <| aN (uR r110_17.eq_1) <| aN (uA c110_29.eq_1) <| aN (uR r110_18.eq_1) <| aN (uA c110_28.eq_1) <| aN (uA c110_27.eq_1) <| aN (uR r110_30.eq_1) <| s110.eq_1
theorem concat_ok (xs ys : List Int) (ha : xs.length ≤ 1000000) (hb : ys.length ≤ 1000000) (m : Nat) : ACallsF Tryz.prog 110 [.c (.v (.sl [[.sl (en eI xs)], [.sl (en eI ys)]]))] [catH m (xs ++ ys)] (.c (.own 3108 0 (xs ++ ys).length)) := by
  refine ACallsF.intro ok110 follows fun X c0 => ?_
  simp only [RUX, Nat.reduceAdd, reduceIte, Nat.reduceEqDiff, Nat.reduceLT, Nat.reduceLeDiff, reduceCtorEq, eq_self, FIX, forall_const, endE_n, endE_r, UCn_1.d]
  refine AW.upto 2 (invCata xs ys) ⟨rfl, rfl, rfl, rfl, rfl⟩ fun i t H c hi h => ?_
  obtain ⟨e0, e3, e9, e10, e11⟩ := h
  simp only [T.c, T.i, T.s] at e0 e3 e9 e10 e11
  have hxa : (∀ (e : List V), e ∈ en eI xs → e.length = 1) = True := eq_true (en_one eI eI_len xs)
  have hya : (∀ (e : List V), e ∈ en eI ys → e.length = 1) = True := eq_true (en_one eI eI_len ys)
  have hx0 : sum2 xs ys 1 = xs.length := rfl
  have hx2 : sum2 xs ys 2 = xs.length + ys.length := rfl
  rcases (by omega : i = 0 ∨ i = 1 ∨ i = 2) with rfl | rfl | rfl
  · have w0 : IntKind.i64.wrap ((sum2 xs ys 0 : Int) + xs.length) = (sum2 xs ys 1 : Nat) := by rw [wrap64 ⟨by simp [sum2], by simp [sum2]; omega⟩]; simp [sum2]
    have w1 : IntKind.i64.wrap (((0 : Nat) : Int) + 1) = ((0 + 1 : Nat) : Int) := wrap64 (x := ((0 : Nat) : Int) + 1) ⟨by omega, by omega⟩
    have k0 : ((0 : Nat) : Int) < 2 := by omega
    have kz : (0 : Int) ≤ ((0 : Nat) : Int) := by omega
    have k1 : ¬ ((sum2 xs ys 1 : Nat) : Int) < 0 := by omega
    simp only [RZ, reduceAdd, reduceIte, reduceEqDiff, reduceLT, reduceLeDiff, reduceCtorEq, Nat.reduceBEq, UCn_2.d, e0, e3, e9, e10, e11, en_len, w0, k1, k0, kz, w1, Int.toNat_natCast, List.getElem?_cons_zero, List.length_cons, List.length_nil]
    exact ⟨e0, rfl, e9, e10, rfl⟩
  · have w0 : IntKind.i64.wrap ((sum2 xs ys 1 : Int) + ys.length) = (sum2 xs ys 2 : Nat) := by rw [wrap64 ⟨by omega, by omega⟩, hx2, hx0]; omega
    have w1 : IntKind.i64.wrap (((1 : Nat) : Int) + 1) = ((1 + 1 : Nat) : Int) := wrap64 (x := ((1 : Nat) : Int) + 1) ⟨by omega, by omega⟩
    have k0 : ((1 : Nat) : Int) < 2 := by omega
    have kz : (0 : Int) ≤ ((1 : Nat) : Int) := by omega
    have k1 : ¬ ((sum2 xs ys 2 : Nat) : Int) < 0 := by omega
    simp only [RZ, reduceAdd, reduceIte, reduceEqDiff, reduceLT, reduceLeDiff, reduceCtorEq, Nat.reduceBEq, UCn_2.d, e0, e3, e9, e10, e11, en_len, w0, k1, k0, kz, w1, Int.toNat_natCast, List.getElem?_cons_succ, List.getElem?_cons_zero, List.length_cons, List.length_nil]
    exact ⟨e0, rfl, e9, e10, rfl⟩
  · have k0 : ¬ ((2 : Nat) : Int) < 2 := by omega
    simp only [RZ, reduceAdd, reduceIte, reduceEqDiff, reduceLT, reduceLeDiff, reduceCtorEq, Nat.reduceBEq, UCn_2.d, UCn_1.d, e0, e3, e9, e10, e11, k0]
    refine callA (m := 3108) (grow_ok 3108 3108 (sum2 xs ys 2) (by omega)) rfl rfl rfl rfl ⟨rfl, ?_⟩
    simp only [RZ, reduceAdd, reduceIte, reduceEqDiff, reduceLT, reduceLeDiff, reduceCtorEq, Nat.reduceBEq, UCn_1.d, e0, List.length_cons, List.length_nil]
    refine AW.upto 2 (invCatb xs ys) ⟨rfl, rfl, rfl, _, rfl, rfl⟩ fun i t H c hi h => ?_
    obtain ⟨e25, e26, e27, v, e6, eH⟩ := h
    simp only [T.c, T.i, T.s] at e25 e26 e27 e6 eH
    rcases (by omega : i = 0 ∨ i = 1 ∨ i = 2) with rfl | rfl | rfl
    · have w1 : IntKind.i64.wrap (((0 : Nat) : Int) + 1) = ((0 + 1 : Nat) : Int) := wrap64 (x := ((0 : Nat) : Int) + 1) ⟨by omega, by omega⟩
      have k0 : ((0 : Nat) : Int) < 2 := by omega
      have kz : (0 : Int) ≤ ((0 : Nat) : Int) := by omega
      have q1 : (xs.length) * 8 ≤ 140737488355328 := by omega
      have q2 : xs.length ≤ 9223372036854775807 := by omega
      simp only [RZ, reduceAdd, reduceIte, reduceEqDiff, reduceLT, reduceLeDiff, reduceCtorEq, Nat.reduceBEq, UCn_3.d, e25, e26, e27, e6, eH, app2, List.length_nil, Nat.zero_add, en_len, hxa, q1, q2, k0, kz, w1, Int.toNat_natCast, List.getElem?_cons_zero, List.length_cons]
      exact ⟨e25, e26, rfl, _, rfl, rfl⟩
    · have w1 : IntKind.i64.wrap (((1 : Nat) : Int) + 1) = ((1 + 1 : Nat) : Int) := wrap64 (x := ((1 : Nat) : Int) + 1) ⟨by omega, by omega⟩
      have k0 : ((1 : Nat) : Int) < 2 := by omega
      have kz : (0 : Int) ≤ ((1 : Nat) : Int) := by omega
      have q1 : (xs.length + ys.length) * 8 ≤ 140737488355328 := by omega
      have q2 : xs.length + ys.length ≤ 9223372036854775807 := by omega
      have htk : List.take xs.length (en eI xs) = en eI xs := en_take eI xs
      simp only [RZ, reduceAdd, reduceIte, reduceEqDiff, reduceLT, reduceLeDiff, reduceCtorEq, Nat.reduceBEq, UCn_3.d, e25, e26, e27, e6, eH, app2, en_len, q1, q2, k0, kz, w1, hya, htk, Int.toNat_natCast, List.getElem?_cons_succ, List.getElem?_cons_zero, List.length_cons, Nat.le_refl]
      have hl2 : (app2 xs ys (1 + 1)).length = xs.length + ys.length := List.length_append
      have he2 : en eI (app2 xs ys (1 + 1)) = en eI xs ++ en eI ys := by simp [en, app2]
      exact ⟨e25, e26, rfl, _, by rw [hl2]; rfl, by rw [he2]; rfl⟩
    · have k0 : ¬ ((2 : Nat) : Int) < 2 := by omega
      have hq : en eI (xs ++ ys) = en eI xs ++ en eI ys := by simp [en]
      simp only [RZ, reduceAdd, reduceIte, reduceEqDiff, reduceLT, reduceLeDiff, reduceCtorEq, Nat.reduceBEq, UCn_3.d, UCn_1.d, e25, e26, e27, e6, eH, app2, k0, List.length_append, imp_self]
end Go.V
set_option linter.unusedSimpArgs false
namespace Go.V
open Go.Proofs
/-- The jobs that are read and not given, as the program rows them. -/
def wayJobs (w : CW) : List Int := w.queue ++ w.results ++ sent w ++ hJobs w.hands ++ (w.ring.filter fun x => x != -1)
theorem way_perm {w : CW} (h : ∀ x ∈ w.ring, x ≠ -1 → 0 ≤ x) : (wayJobs w).Perm (places w) := by
  have e : (w.ring.filter fun x => x != -1) = rJobs w.ring := by
    refine List.filter_congr fun x hx => ?_
    by_cases g : x = -1
    · subst g; decide
    · rw [neqn g, decide_eq_true (h x hx g)]
  rw [wayJobs, places, e, List.perm_iff_count]
  intro a
  simp only [List.count_append]
  omega
theorem way_ring {w : CW} {x : Int} (h : x ∈ w.ring) (g : x ≠ -1) : x ∈ wayJobs w := by
  rw [wayJobs]
  exact List.mem_append_right _ (List.mem_filter.2 ⟨h, neqn g⟩)
theorem jobs_way {w : CW} (g : Jobs w) : (wayJobs w).Perm (places w) := way_perm fun x hx hn => by
  obtain ⟨i, hi⟩ := List.mem_iff_getElem?.1 hx
  have := (g.ring i x hi).1
  omega
theorem jobs_ring {w : CW} (g : Jobs w) {i : Nat} {x : Int} (hi : w.ring[i]? = some x) (hn : x ≠ -1) : x.tmod w.window = i := by
  obtain ⟨h1, h2⟩ := g.ring i x hi
  have : 0 ≤ x := by omega
  rw [Int.tmod_eq_emod_of_nonneg this]
  exact h2 this
theorem jobs_of {w : CW} (h : PForm w) (q1 : ∀ x ∈ wayJobs w, w.due ≤ x ∧ x ≤ w.next - 1) (q2 : (wayJobs w).Nodup) (q3 : sh w 3 = 0 → ((wayJobs w).length : Int) = w.next - w.due)
    (q4 : ∀ (i : Nat) (x : Int), w.ring[i]? = some x → x ≠ -1 → x.tmod w.window = i) (q5 : ∀ (i : Nat) (x : Int), w.got[i]? = some x → x = i) (q6 : w.due = w.got.length + w.out.length)
    (q7 : ∀ x : Int, w.out[0]? = some x → x = w.got.length) (q8 : w.room + w.next - w.due + (if w.keeper = 3 then 1 else 0) = w.window) : Jobs w := by
  have hd := h.due
  have hp : (wayJobs w).Perm (places w) := way_perm fun x hx hn => by
    have := (q1 x (way_ring hx hn)).1
    omega
  refine ⟨fun x hx => q1 x (hp.mem_iff.2 hx), hp.nodup_iff.1 q2, fun e => by rw [← hp.length_eq]; exact q3 e, fun i x hi => ?_, q5, q6, q7, q8⟩
  by_cases hn : x = -1
  · exact ⟨by omega, fun e => by omega⟩
  · have h0 : 0 ≤ x := by have := (q1 x (way_ring (List.mem_of_getElem? hi) hn)).1; omega
    exact ⟨by omega, fun _ => by rw [← Int.tmod_eq_emod_of_nonneg h0]; exact q4 i x hi hn⟩
/-- A row that rises, no two neighbours of which are alike, has nothing twice. -/
theorem nd_adj {xs : List Int} (hs : xs.Pairwise fun x y => x ≤ y) (h : ∀ (j : Nat) x y, xs[j]? = some x → xs[j + 1]? = some y → x ≠ y) : xs.Nodup := by
  refine List.pairwise_iff_getElem.2 fun i j hi hj hij e => ?_
  have le : ∀ a b (ha : a < xs.length) (hb : b < xs.length), a ≤ b → xs[a] ≤ xs[b] := fun a b ha hb hab => by
    rcases Nat.lt_or_eq_of_le hab with g | g
    · exact List.pairwise_iff_getElem.1 hs a b ha hb g
    · subst g; exact Int.le_refl _
  have h1 := le i (j - 1) hi (by omega) (by omega)
  have h2 := le (j - 1) j (by omega) hj (by omega)
  have h3 := h (j - 1) xs[j - 1] xs[j] (List.getElem?_eq_getElem (by omega)) (by rw [show j - 1 + 1 = j by omega]; exact List.getElem?_eq_getElem hj)
  rw [e] at h1
  omega
theorem srt_perm (zs : List Int) : (zs.mergeSort fun x y => decide (x ≤ y)).Perm zs := List.mergeSort_perm zs _
theorem srt_up (zs : List Int) : (zs.mergeSort fun x y => decide (x ≤ y)).Pairwise fun x y => x ≤ y := by
  have := List.pairwise_mergeSort (le := fun x y : Int => decide (x ≤ y)) (fun a b c h1 h2 => by simp only [decide_eq_true_eq] at *; omega) (fun a b => by simp only [Bool.or_eq_true, decide_eq_true_eq]; omega) zs
  exact this.imp fun h => of_decide_eq_true h
theorem way_len {w : CW} (h : PForm w) : (wayJobs w).length ≤ 41 := by
  have h0 := sent_len w
  have h1 := h.lq
  have h2 := h.le
  have h3 := hJobs_len w.hands
  have h4 : (w.ring.filter fun x => x != -1).length ≤ w.ring.length := List.length_filter_le _ _
  have h5 := h.lh
  have h6 := h.lr
  have h7 := h.st.k
  have h8 := h.st.n
  simp only [wayJobs, List.length_append]
  omega
end Go.V
set_option linter.unusedSimpArgs false
namespace Go.V
open Go.Proofs
open Nat (reduceAdd reduceEqDiff reduceLT reduceLeDiff)
section
variable {P : Program} {t : Nat → T} {H : HMap} {c : Nat} {f : Opd} {args : List Opd} {fid : FuncId} {k : Nat} {d : Option Nat} {un : List Nat} {l : List AOper} {prev : List (Nat × List Nat × List Nat)} {K : St → Prop}
/-- A call that works in place on an own array of numbers. -/
theorem callRowI {m v N : Nat} {zs zs' : List Int}
    (hC : ACallsF P fid [.c (.own m v N)] (sortH m m v zs zs') (.tup [])) (hf : ev t f = .pt (.one (.fn fid []))) (hl : args.map (ev t) = [.c (.own m v N)]) (hH : H m = some (.arr v true 1 3 (en eI zs)))
    (hk : chk prev un ⟨.tup [], [(m, .arr v true 1 3 (en eI zs'))], [m], [m]⟩ = true ∧ DRun P l ((k, [m], [m]) :: prev) K ⟨updD t d (.tup []), upd H m (some (.arr v true 1 3 (en eI zs'))), c⟩) :
    step P k d un (.call f args) l prev K t H c := by
  have hN : renN (sortH m m v zs zs') m = some ⟨m, m, some (.arr v true 1 3 (en eI zs)), .arr v true 1 3 (en eI zs'), true⟩ := by simp [renN]
  refine callW (caps := []) («as» := [.c (.own m v N)]) (ws := []) (ns := []) (r' := .tup []) (ob := [(m, .arr v true 1 3 (en eI zs'))]) (sortH m m v zs zs') hC hf (by rw [hl]; rfl) ?_ ⟨?_, trivial⟩ (by simp) (by simp) ?_ ?_ ?_
  · simp only [T.c, renITs, renIT, renI, inN, hN, Option.bind_some, Option.map_some]
  · show (match renIB (sortH m m v zs zs') (.arr v true 1 3 (en eI zs)) with | some B => (updH H []) m = some B | none => False)
    simp only [renIB, updH]
    exact hH
  · simp only [renOT, renOPs, Option.map_some]
  · simp only [renOBs, renOB, verOf, if_true, Blk.ver]
  · have hq : quiet (.tup []) (sortH m m v zs zs') = false := by simp [quiet]
    simpa [hq, updH] using hk
/-- A call of a method that looks at a world and makes an array. -/
theorem callPA {m v n m2 N st : Nat} {ty : TypeId} {w : CW} {al : List T} {es : List (List V)} (hC : ∀ m v m2, ACallsF P fid (wP 1000 v :: al) [wHd m v w, newH n m2 st ty es] (.c (.own n 0 N))) (hf : ev t f = .pt (.one (.fn fid []))) (hl : args.map (ev t) = wP m v :: al) (ha : al.all closedA = true) (hH : H m = some (cwB v w)) (hn : 1000 ≠ n) (hm : m ≠ m2)
    (hk : chk prev un ⟨.c (.own m2 (c + k) N), [(m, cwB v w), (m2, .arr (c + k) true st ty es)], [m, m2], [m, m2]⟩ = true ∧ DRun P l ((k, [m, m2], [m, m2]) :: prev) K ⟨updD t d (.c (.own m2 (c + k) N)), upd H m2 (some (.arr (c + k) true st ty es)), c⟩) :
    step P k d un (.call f args) l prev K t H c := by
  have hn' : (1000 == n) = false := beq_eq_false_iff_ne.2 hn
  have hN : renN [wHd m v w, newH n m2 st ty es] 1000 = some (wHd m v w) := by simp [renN]
  have hN2 : renN [wHd m v w, newH n m2 st ty es] n = some (newH n m2 st ty es) := by simp [renN, hn']
  have hcl : (cwC w).all closedC = true := rfl
  obtain ⟨x1, x2⟩ := closed_As [wHd m v w, newH n m2 st ty es] H al ha
  have hb : renIB [wHd m v w, newH n m2 st ty es] (cwB v w) = some (cwB v w) := by simp only [renIB, (closed_Cs _ H (cwC w) hcl).2.1, Option.map_some]
  refine callW (caps := []) («as» := wP m v :: al) (ws := []) (ns := []) (r' := .c (.own m2 (c + k) N)) (ob := [(m, cwB v w), (m2, .arr (c + k) true st ty es)]) [wHd m v w, newH n m2 st ty es] (hC m v m2) hf ?_ ?_ ⟨?_, trivial, trivial⟩ (by simpa using hm) (by simpa using hn) ?_ ?_ ?_
  · have a1 : lendT H (wP 1000 v) (wP m v) = some (wP m v, [], []) := rfl
    rw [hl]
    simp only [List.map_nil, List.append_nil, lendTs, a1, x1]
  · have a1 : renIT [wHd m v w, newH n m2 st ty es] (wP 1000 v) = some (wP m v) := by simp only [wP, T.c, renIT, renI, inN, hN, Option.bind_some, Option.map_some]
    simp only [renITs, x2, a1]
  · show (match renIB [wHd m v w, newH n m2 st ty es] (cwB v w) with | some B => (updH H []) m = some B | none => False)
    rw [hb]; exact hH
  · simp only [T.c, renOT, renOP, renO, hN2, Option.map_some, verOf]; rfl
  · simp only [renOBs, renOB, verOf, Blk.ver, if_true]
    rw [(closed_Cs _ H (cwC w) hcl).2.2]
    rfl
  · have hu : updH H ((if quiet (.c (.own n 0 N)) [wHd m v w, newH n m2 st ty es] = true then [] else []) ++ [(m, cwB v w), (m2, Blk.arr (c + k) true st ty es)]) = upd H m2 (some (.arr (c + k) true st ty es)) := by
      have : (if quiet (.c (.own n 0 N)) [wHd m v w, newH n m2 st ty es] = true then ([] : List (Nat × Blk)) else []) = [] := by split <;> rfl
      rw [this]
      show upd (upd H m (some (cwB v w))) m2 _ = _
      rw [show upd H m (some (cwB v w)) = H from updH_same hH]
    rw [hu]
    have e1 : (if quiet (.c (.own n 0 N)) [wHd m v w, newH n m2 st ty es] = true then ([] : List (Nat × Blk)) else []) = [] := by split <;> rfl
    have e2 : (if quiet (.c (.own n 0 N)) [wHd m v w, newH n m2 st ty es] = true then ([] : List Nat) else []) = [] := by split <;> rfl
    rw [e1, e2]
    exact hk
end
/- (*loop.example/teagle/impl.CrewWorld).underWay -/
def r103_0 : List AOper := [ao 0 2 (.mv (.k (.c .nil0)))]
def r103_1 : List AOper := [ao 0 8 (.mv (.t 0)),
  ao 1 9 (.nck (.t 8)),
  ao 2 10 (.fa 5 (.t 9)),
  ao 3 11 (.ld 1 false (.t 10)),
  au 4 12 (ru 4) (.mv (.t 0)),
  au 5 13 (ru 4) (.nck (.t 12)),
  au 6 14 (ru 4) (.fa 8 (.t 13)),
  au 7 15 (ru 4) (.ld 1 false (.t 14)),
  ao 8 16 (.bsl 1 23 [(.t 11), (.t 15)]),
  ao 9 17 (.call (.k (.c (.fn 110 []))) [(.t 16)]),
  ao 10 3 (.mv (.t 17))]
def r103_2 : List AOper := [ao 0 18 (.mv (.t 0)),
  ao 1 19 (.nck (.t 18)),
  ao 2 20 (.fa 4 (.t 19)),
  ao 3 21 (.ld 1 false (.t 20)),
  ao 4 22 (.bin .eql (.t 21) (.k (.i 1)))]
def r103_3 : List AOper := [ao 0 23 (.mv (.t 3)),
  ao 1 24 (.mv (.t 0)),
  ao 2 25 (.nck (.t 24)),
  ao 3 26 (.fa 3 (.t 25)),
  ao 4 27 (.ld 1 false (.t 26)),
  ao 5 28 (.bin .sub (.t 27) (.k (.i 1))),
  ao 6 29 (.bsl 1 3 [(.t 28)]),
  ao 7 30 (.app 1 3 8 (.t 23) (.t 29)),
  ao 8 3 (.mv (.t 30))]
def c103_4 : ACode := .cond (.t 22) (.reg r103_3) .skip
def c103_5 : ACode := .seq (.reg r103_2) c103_4
def r103_6 : List AOper := [ao 0 31 (.mv (.t 0)),
  ao 1 32 (.nck (.t 31)),
  ao 2 33 (.fa 6 (.t 32)),
  ao 3 34 (.ld 1 false (.t 33)),
  ao 4 35 (.len (.t 34)),
  ao 5 36 (.mv (.k (.i 0)))]
def r103_7 : List AOper := [ao 0 37 (.bin .lss (.t 36) (.t 35))]
def c103_8 : ACode := .cond (.t 37) .skip (.exit 0)
def r103_9 : List AOper := [ao 0 38 (.ia 2 (.t 34) (.t 36)),
  ao 1 39 (.ld 2 true (.t 38)),
  ao 2 5 (.alloc 68 [(.v (.s (.int .i64 0))), (.v (.s (.int .i64 0)))]),
  an 3 (.st 2 (.t 5) (.t 39))]
def r103_10 : List AOper := [ao 0 40 (.fa 0 (.t 5)),
  ao 1 41 (.ld 1 false (.t 40)),
  ao 2 42 (.bin .eql (.t 41) (.k (.i 1))),
  ao 3 43 (.mv (.t 42)),
  ag 4 44 43 false [] (.fa 0 (.t 5)),
  ag 5 45 43 false [] (.ld 1 false (.t 44)),
  ag 6 46 43 false [] (.bin .eql (.t 45) (.k (.i 2))),
  ao 7 47 (.pick (.t 43) (.k (.b true)) (.t 46))]
def r103_11 : List AOper := [ao 0 48 (.mv (.t 3)),
  ao 1 49 (.fa 1 (.t 5)),
  ao 2 50 (.ld 1 false (.t 49)),
  ao 3 51 (.bsl 1 3 [(.t 50)]),
  ao 4 52 (.app 1 3 8 (.t 48) (.t 51)),
  ao 5 3 (.mv (.t 52))]
def c103_12 : ACode := .cond (.t 47) (.reg r103_11) .skip
def c103_13 : ACode := .seq (.reg r103_9) (.seq (.reg r103_10) c103_12)
def c103_14 : ACode := .block 1 c103_13
def r103_15 : List AOper := [ao 0 53 (.bin .add (.t 36) (.k (.i 1))),
  ao 1 36 (.mv (.t 53))]
def c103_16 : ACode := .seq (.reg r103_7) (.seq c103_8 (.seq c103_14 (.reg r103_15)))
def c103_17 : ACode := .loop c103_16
def c103_18 : ACode := .block 0 c103_17
def c103_19 : ACode := .seq (.reg r103_6) c103_18
def r103_20 : List AOper := [ao 0 54 (.mv (.t 0)),
  ao 1 55 (.nck (.t 54)),
  ao 2 56 (.fa 10 (.t 55)),
  ao 3 57 (.ld 1 false (.t 56)),
  ao 4 58 (.len (.t 57)),
  ao 5 59 (.mv (.k (.i 0)))]
def r103_21 : List AOper := [ao 0 60 (.bin .lss (.t 59) (.t 58))]
def c103_22 : ACode := .cond (.t 60) .skip (.exit 2)
def r103_23 : List AOper := [ao 0 61 (.ia 1 (.t 57) (.t 59)),
  ao 1 62 (.ld 1 false (.t 61)),
  ao 2 7 (.mv (.t 62))]
def r103_24 : List AOper := [ao 0 63 (.mv (.t 7)),
  ao 1 64 (.bin .neq (.t 63) (.k (.i (-1))))]
def r103_25 : List AOper := [ao 0 65 (.mv (.t 3)),
  ao 1 66 (.mv (.t 7)),
  ao 2 67 (.bsl 1 3 [(.t 66)]),
  ao 3 68 (.app 1 3 8 (.t 65) (.t 67)),
  ao 4 3 (.mv (.t 68))]
def c103_26 : ACode := .cond (.t 64) (.reg r103_25) .skip
def c103_27 : ACode := .seq (.reg r103_23) (.seq (.reg r103_24) c103_26)
def c103_28 : ACode := .block 3 c103_27
def r103_29 : List AOper := [ao 0 69 (.bin .add (.t 59) (.k (.i 1))),
  ao 1 59 (.mv (.t 69))]
def c103_30 : ACode := .seq (.reg r103_21) (.seq c103_22 (.seq c103_28 (.reg r103_29)))
def c103_31 : ACode := .loop c103_30
def c103_32 : ACode := .block 2 c103_31
def c103_33 : ACode := .seq (.reg r103_20) c103_32
def r103_34 : List AOper := [ao 0 70 (.mv (.t 3)),
  ao 1 2 (.mv (.t 70))]
def c103 : ACode := .seq (.reg r103_0) (.seq (.reg r103_1) (.seq c103_5 (.seq c103_19 (.seq c103_33 (.seq (.reg r103_34) .ret)))))
def s103 : List ARes := [.tmp 2]
theorem ok103 : okF Tryz.prog 103 71 c103 s103 := ⟨Tryz.f103, Tryz.func103, Tryz.ntmps103, by kernel_rfl, by kernel_rfl, by kernel_rfl⟩
def inv103a (w : CW) (v : Nat) (A : List Int) (i : Nat) (σ : St) : Prop := σ.t 0 = wP 1000 v ∧ σ.H 1000 = some (cwB v w) ∧ σ.t 34 = tL (en eH w.hands) ∧ σ.t 35 = .i w.hands.length ∧ σ.t 36 = .i i ∧ (∃ u, σ.t 3 = .c (.own 3108 u (A ++ hJobs (w.hands.take i)).length) ∧ σ.H 3108 = some (.arr u true 1 3 (en eI (A ++ hJobs (w.hands.take i)))))
def inv103b (w : CW) (v : Nat) (A : List Int) (i : Nat) (σ : St) : Prop := σ.H 1000 = some (cwB v w) ∧ σ.t 57 = tL (en eI w.ring) ∧ σ.t 58 = .i w.ring.length ∧ σ.t 59 = .i i ∧ (∃ u, σ.t 3 = .c (.own 3108 u (A ++ (w.ring.take i).filter (fun x => x != -1)).length) ∧ σ.H 3108 = some (.arr u true 1 3 (en eI (A ++ (w.ring.take i).filter fun x => x != -1))))
theorem ring_take {rs : List Int} {i : Nat} {x : Int} (hx : rs[i]? = some x) : (rs.take (i + 1)).filter (fun x => x != -1) = if x = -1 then (rs.take i).filter (fun x => x != -1) else (rs.take i).filter (fun x => x != -1) ++ [x] := by
  rw [List.take_add_one, hx, List.filter_append]
  by_cases hc : x = -1
  · subst hc; simp
  · simp [hc, neqn hc]
def UCp_1 := Bx.mk <|
  aN (uA c103.eq_1) <| aN (uR r103_0.eq_1) <| aN (uR r103_1.eq_1) <| aN (uA c103_5.eq_1) <| aN (uR r103_2.eq_1) <| aN (uA c103_4.eq_1) <| aN (uR r103_3.eq_1) <| aN (uA c103_19.eq_1) <| aN (uR r103_6.eq_1) <| aN (uA c103_18.eq_1) <| aN (uA c103_17.eq_1) <| aN (uR r103_34.eq_1) <| s103.eq_1
def UCp_2 := Bx.mk <|
  aN (uA c103.eq_1) <| aN (uR r103_0.eq_1) <| aN (uR r103_1.eq_1) <| aN (uA c103_5.eq_1) <| aN (uR r103_2.eq_1) <| aN (uA c103_4.eq_1) <| aN (uR r103_3.eq_1) <| aN (uA c103_19.eq_1) <| aN (uR r103_6.eq_1) <| aN (uA c103_18.eq_1) <| aN (uA c103_17.eq_1) <| aN (uA c103_33.eq_1) <| aN (uR r103_20.eq_1) <| aN (uA c103_32.eq_1) <| aN (uA c103_31.eq_1) <| aN (uR r103_34.eq_1) <| s103.eq_1
def UCp_3 := Bx.mk <|
  aN (uA c103.eq_1) <| aN (uR r103_0.eq_1) <| aN (uR r103_1.eq_1) <| aN (uA c103_5.eq_1) <| aN (uR r103_2.eq_1) <| aN (uA c103_4.eq_1) <| aN (uR r103_3.eq_1) <| aN (uA c103_33.eq_1) <| aN (uR r103_20.eq_1) <| aN (uA c103_32.eq_1) <| aN (uA c103_31.eq_1) <| aN (uR r103_34.eq_1) <| s103.eq_1
def UCp_4 := Bx.mk <|
  aN (uA c103_16.eq_1) <| aN (uR r103_7.eq_1) <| aN (uA c103_8.eq_1) <| aN (uA c103_14.eq_1) <| aN (uA c103_13.eq_1) <| aN (uR r103_9.eq_1) <| aN (uR r103_10.eq_1) <| aN (uA c103_12.eq_1) <| aN (uR r103_11.eq_1) <| aN (uR r103_15.eq_1) <| aN (uA c103.eq_1) <| aN (uR r103_0.eq_1) <| aN (uR r103_1.eq_1) <| aN (uA c103_5.eq_1) <| aN (uR r103_2.eq_1) <| aN (uA c103_4.eq_1) <| aN (uR r103_3.eq_1) <| aN (uA c103_19.eq_1) <| aN (uR r103_6.eq_1) <| aN (uA c103_18.eq_1) <| aN (uA c103_17.eq_1) <| aN (uA c103_33.eq_1) <| aN (uR r103_20.eq_1) <| aN (uA c103_32.eq_1) <| aN (uA c103_31.eq_1) <| aN (uR r103_34.eq_1) <| s103.eq_1
def UCp_5 := Bx.mk <|
  aN (uA c103_30.eq_1) <| aN (uR r103_21.eq_1) <| aN (uA c103_22.eq_1) <| aN (uA c103_28.eq_1) <| aN (uA c103_27.eq_1) <| aN (uR r103_23.eq_1) <| aN (uR r103_24.eq_1) <| aN (uA c103_26.eq_1) <| aN (uR r103_25.eq_1) <| aN (uR r103_29.eq_1) <| aN (uA c103.eq_1) <| aN (uR r103_0.eq_1) <| aN (uR r103_1.eq_1) <| aN (uA c103_5.eq_1) <| aN (uR r103_2.eq_1) <| aN (uA c103_4.eq_1) <| aN (uR r103_3.eq_1) <| aN (uA c103_19.eq_1) <| aN (uR r103_6.eq_1) <| aN (uA c103_18.eq_1) <| aN (uA c103_17.eq_1) <| aN (uA c103_33.eq_1) <| aN (uR r103_20.eq_1) <| aN (uA c103_32.eq_1) <| aN (uA c103_31.eq_1) <| aN (uR r103_34.eq_1) <| s103.eq_1
set_option maxHeartbeats 1000000 in
theorem underWay_ok {w : CW} (h : PForm w) (m v m2 : Nat) : ACallsF Tryz.prog 103 [wP 1000 v] [wHd m v w, newH 3108 m2 1 3 (en eI (wayJobs w))] (.c (.own 3108 0 (wayJobs w).length)) := by
  have hq := h.lq
  have hk := h.st.k
  have hn := h.st.n
  have hh := h.lh
  have hr := h.lr
  have he := h.le
  have hnx := h.next
  have hj := h.st.j
  have gw1 : IntKind.i64.wrap (w.next - 1) = w.next - 1 := wrap64 ⟨by omega, by omega⟩
  have q1 : (w.queue.length + w.results.length + 1) * 8 ≤ 140737488355328 := by omega
  have q2 : w.queue.length + w.results.length + 1 ≤ 9223372036854775807 := by omega
  have tk : List.take (w.queue.length + w.results.length) (en eI (w.queue ++ w.results)) = en eI (w.queue ++ w.results) := by rw [← List.length_append, en_take]
  refine ACallsF.intro ok103 follows fun X c0 => ?_
  have main : ∀ (t : Nat → T) (H : HMap) (c : Nat), t 0 = wP 1000 v → H 1000 = some (cwB v w) → (∃ u, t 3 = .c (.own 3108 u (w.queue ++ w.results ++ sent w).length) ∧ H 3108 = some (.arr u true 1 3 (en eI (w.queue ++ w.results ++ sent w)))) → wpa Tryz.prog X c103_19 (thenW Tryz.prog X (.seq c103_33 (.seq (.reg r103_34) .ret)) (endA (FinC [.tmp 2] (.c (.own 3108 0 (wayJobs w).length)) [wHd m v w, newH 3108 m2 1 3 (en eI (wayJobs w))]))) ⟨t, H, c⟩ := by
    intro t H c e0 hW ⟨u, e3, eL⟩
    simp only [wP, T.c] at e0 e3
    simp only [RZ, reduceAdd, reduceIte, reduceEqDiff, reduceLT, reduceLeDiff, reduceCtorEq, Nat.reduceBEq, UCp_1.d, e0, hW, e3, eL, en_len]
    refine AW.upto w.hands.length (inv103a w v (w.queue ++ w.results ++ sent w)) ⟨e0, hW, rfl, rfl, rfl, ?_⟩ fun i t H c hi h' => ?_
    · have e : w.queue ++ w.results ++ sent w ++ hJobs (w.hands.take 0) = w.queue ++ w.results ++ sent w := by simp [hJobs]
      rw [e]
      exact ⟨u, e3, eL⟩
    clear e0 hW e3 eL
    obtain ⟨e0, hW, e34, e35, e36, ⟨u, e3, eL⟩⟩ := h'
    simp only [wP, T.c, T.i] at e0 e3 e34 e35 e36 hW eL
    have hlA : (w.queue ++ w.results ++ sent w ++ hJobs (w.hands.take i)).length ≤ 41 := by
      have h0 := sent_len w
      have h1 := hJobs_len (w.hands.take i)
      have h2 := take_le w.hands i
      simp only [List.length_append]
      omega
    obtain ⟨B, hB⟩ : ∃ B, w.queue ++ w.results ++ sent w ++ hJobs (w.hands.take i) = B := ⟨_, rfl⟩
    rw [hB] at e3 eL hlA
    by_cases k1 : (i : Int) < w.hands.length
    · obtain ⟨x, hx⟩ : ∃ x, w.hands[i]? = some x := ⟨_, List.getElem?_eq_getElem (by omega)⟩
      have ex := en_at eH hx
      have gz : (0 : Int) ≤ i := by omega
      have gw := w1_ok (i := i) (by omega)
      have ht := hJobs_take hx
      have q7 : (B.length + 1) * 8 ≤ 140737488355328 := by omega
      have q8 : B.length + 1 ≤ 9223372036854775807 := by omega
      by_cases b1 : x.state = 1 ∨ x.state = 2
      · rw [if_pos b1] at ht
        have ht2 : w.queue ++ w.results ++ sent w ++ hJobs (w.hands.take (i + 1)) = B ++ [x.job] := by rw [ht, ← hB]; simp only [List.append_assoc]
        rcases b1 with b1 | b1
        · have k2 := eqb b1
          simp only [RZ, reduceAdd, reduceIte, reduceEqDiff, reduceLT, reduceLeDiff, reduceCtorEq, Nat.reduceBEq, UCp_4.d, e0, hW, e3, eL, e34, e35, e36, en_len, k1, ex, gz, gw, eH, k2, q7, q8, APT]
          exact ⟨by omega, e0, hW, e34, e35, rfl, ⟨_, own_len (by rw [ht2, List.length_append]; rfl), arr_snoc ht2⟩⟩
        · have k2 : (x.state == 1) = false := neqb (by omega)
          have k3 := eqb b1
          simp only [RZ, reduceAdd, reduceIte, reduceEqDiff, reduceLT, reduceLeDiff, reduceCtorEq, Nat.reduceBEq, UCp_4.d, e0, hW, e3, eL, e34, e35, e36, en_len, k1, ex, gz, gw, eH, k2, k3, q7, q8, APT]
          exact ⟨by omega, e0, hW, e34, e35, rfl, ⟨_, own_len (by rw [ht2, List.length_append]; rfl), arr_snoc ht2⟩⟩
      · rw [if_neg b1] at ht
        have k2 : (x.state == 1) = false := neqb (by omega)
        have k3 : (x.state == 2) = false := neqb (by omega)
        simp only [RZ, reduceAdd, reduceIte, reduceEqDiff, reduceLT, reduceLeDiff, reduceCtorEq, Nat.reduceBEq, UCp_4.d, e0, hW, e3, eL, e34, e35, e36, en_len, k1, ex, gz, gw, eH, k2, k3, q7, q8, APT]
        refine ⟨by omega, e0, hW, e34, e35, rfl, ⟨u, ?_, ?_⟩⟩
        · show t 3 = _
          rw [ht, hB]; exact e3
        · show H 3108 = _
          rw [ht, hB]; exact eL
    have hi2 : i = w.hands.length := by omega
    subst hi2
    rw [List.take_length] at hB
    have hB2 : B = w.queue ++ w.results ++ sent w ++ hJobs w.hands := hB.symm
    simp only [RZ, reduceAdd, reduceIte, reduceEqDiff, reduceLT, reduceLeDiff, reduceCtorEq, Nat.reduceBEq, UCp_4.d, UCp_2.d, e0, hW, e3, eL, e34, e35, e36, en_len, k1]
    refine AW.upto w.ring.length (inv103b w v B) ⟨hW, rfl, rfl, rfl, ?_⟩ fun i t H c hi h' => ?_
    · rw [List.take_zero, List.filter_nil, List.append_nil]
      exact ⟨u, e3, eL⟩
    clear e0 hW e3 eL e34 e35 e36 k1
    obtain ⟨hW, e57, e58, e59, ⟨u, e3, eL⟩⟩ := h'
    simp only [T.c, T.i] at e3 e57 e58 e59 hW eL
    have hlB : (B ++ (w.ring.take i).filter fun x => x != -1).length ≤ 80 := by
      have h1 : ((w.ring.take i).filter fun x => x != -1).length ≤ (w.ring.take i).length := List.length_filter_le _ _
      have h2 := take_le w.ring i
      simp only [List.length_append]
      omega
    obtain ⟨D, hD⟩ : ∃ D, (B ++ (w.ring.take i).filter fun x => x != -1) = D := ⟨_, rfl⟩
    rw [hD] at e3 eL hlB
    by_cases k1 : (i : Int) < w.ring.length
    · obtain ⟨x, hx⟩ : ∃ x, w.ring[i]? = some x := ⟨_, List.getElem?_eq_getElem (by omega)⟩
      have ex := en_at eI hx
      have gz : (0 : Int) ≤ i := by omega
      have gw := w1_ok (i := i) (by omega)
      have ht := ring_take hx
      have q7 : (D.length + 1) * 8 ≤ 140737488355328 := by omega
      have q8 : D.length + 1 ≤ 9223372036854775807 := by omega
      by_cases b1 : x = -1
      · rw [if_pos b1] at ht
        have k2 := eqn b1
        simp only [RZ, reduceAdd, reduceIte, reduceEqDiff, reduceLT, reduceLeDiff, reduceCtorEq, Nat.reduceBEq, UCp_5.d, hW, e3, eL, e57, e58, e59, en_len, k1, ex, gz, gw, eI, k2, q7, q8, APT]
        refine ⟨by omega, hW, e57, e58, rfl, ⟨u, ?_, ?_⟩⟩
        · show t 3 = _
          rw [ht, hD]; exact e3
        · show H 3108 = _
          rw [ht, hD]; exact eL
      · rw [if_neg b1] at ht
        have ht2 : (B ++ (w.ring.take (i + 1)).filter fun x => x != -1) = D ++ [x] := by rw [ht, ← hD]; simp only [List.append_assoc]
        have k2 := neqn b1
        simp only [RZ, reduceAdd, reduceIte, reduceEqDiff, reduceLT, reduceLeDiff, reduceCtorEq, Nat.reduceBEq, UCp_5.d, hW, e3, eL, e57, e58, e59, en_len, k1, ex, gz, gw, eI, k2, q7, q8, APT]
        exact ⟨by omega, hW, e57, e58, rfl, ⟨_, own_len (by rw [ht2, List.length_append]; rfl), arr_snoc ht2⟩⟩
    have hi2 : i = w.ring.length := by omega
    subst hi2
    rw [List.take_length] at hD
    have hw : D = wayJobs w := by rw [← hD, hB2]; rfl
    rw [hw] at e3 eL
    simp only [RZ, reduceAdd, reduceIte, reduceEqDiff, reduceLT, reduceLeDiff, reduceCtorEq, Nat.reduceBEq, UCp_5.d, UCp_2.d, hW, e3, eL, e57, e58, e59, en_len, k1, imp_self]
  simp only [RZ, reduceAdd, reduceIte, reduceEqDiff, reduceLT, reduceLeDiff, reduceCtorEq, Nat.reduceBEq, wHd, wP, UCp_3.d, en_len, gw1]
  refine callA1 (m := 3108) (ws := [(16, .arr (c0 + 1 + 8) false 1 23 [[.sl (en eI w.queue)], [.sl (en eI w.results)]])]) (ns := [16]) (concat_ok w.queue w.results (by omega) (by omega) 3108) rfl ?_ rfl (en_flat eI eI_flat _) ⟨rfl, ?_⟩
  · simp only [RZ, reduceAdd, reduceIte, reduceEqDiff, reduceLT, reduceLeDiff, reduceCtorEq, Nat.reduceBEq, lendTs, lendT]
  by_cases hs : w.reader = 1
  · have k1 := eqb hs
    simp only [RZ, reduceAdd, reduceIte, reduceEqDiff, reduceLT, reduceLeDiff, reduceCtorEq, Nat.reduceBEq, wHd, wP, UCp_3.d, en_len, gw1, k1, q1, q2, tk]
    refine main _ _ _ ?_ ?_ ?_
    · rfl
    · rfl
    · exact ⟨_, own_len (m := w.queue.length + w.results.length + 1) (b := w.queue ++ w.results ++ sent w) (by rw [sent, if_pos hs, List.length_append, List.length_append]; rfl), arr_snoc (a := w.queue ++ w.results) (b := w.queue ++ w.results ++ sent w) (by rw [sent, if_pos hs])⟩
  · have k1 := neqb hs
    simp only [RZ, reduceAdd, reduceIte, reduceEqDiff, reduceLT, reduceLeDiff, reduceCtorEq, Nat.reduceBEq, wHd, wP, UCp_3.d, en_len, gw1, k1]
    refine main _ _ _ ?_ ?_ ?_
    · rfl
    · rfl
    · exact ⟨_, own_len (m := w.queue.length + w.results.length) (b := w.queue ++ w.results ++ sent w) (by rw [sent, if_neg hs, List.append_nil, List.length_append]), arr_eq (a := w.queue ++ w.results) (b := w.queue ++ w.results ++ sent w) (by rw [sent, if_neg hs, List.append_nil])⟩
end Go.V
set_option linter.unusedSimpArgs false
namespace Go.V
open Go.Proofs
open Nat (reduceAdd reduceEqDiff reduceLT reduceLeDiff)
/- (*loop.example/teagle/impl.CrewWorld).jobsOk -/
def r76_0 : List AOper := [ao 0 2 (.mv (.k (.b false)))]
def r76_1 : List AOper := [ao 0 10 (.mv (.t 0)),
  ao 1 11 (.call (.k (.c (.fn 103 []))) [(.t 10)]),
  ao 2 3 (.mv (.t 11))]
def r76_2 : List AOper := [ao 0 12 (.mv (.t 3)),
  ao 1 13 (.call (.k (.c (.fn 104 []))) [(.t 12)])]
def r76_3 : List AOper := [ao 0 14 (.mv (.t 3)),
  ao 1 15 (.len (.t 14)),
  ao 2 16 (.mv (.k (.i 0)))]
def r76_4 : List AOper := [ao 0 17 (.bin .lss (.t 16) (.t 15))]
def c76_5 : ACode := .cond (.t 17) .skip (.exit 0)
def r76_6 : List AOper := [ao 0 18 (.mv (.t 16)),
  ao 1 19 (.ia 1 (.t 14) (.t 16)),
  ao 2 20 (.ld 1 false (.t 19)),
  ao 3 4 (.mv (.t 18)),
  ao 4 5 (.mv (.t 20))]
def r76_7 : List AOper := [ao 0 21 (.mv (.t 5)),
  au 1 22 [0] (.mv (.t 0)),
  au 2 23 [0] (.nck (.t 22)),
  au 3 24 [0] (.fa 11 (.t 23)),
  au 4 25 [0] (.ld 1 false (.t 24)),
  au 5 26 (ru 5) (.mv (.t 0)),
  au 6 27 (ru 5) (.nck (.t 26)),
  au 7 28 (ru 5) (.fa 3 (.t 27)),
  au 8 29 (ru 5) (.ld 1 false (.t 28)),
  au 9 30 (ru 5) (.bin .sub (.t 29) (.k (.i 1))),
  ao 10 31 (.call (.k (.c (.fn 82 []))) [(.t 21), (.t 25), (.t 30)]),
  ao 11 32 (.un .not (.t 31)),
  ao 12 33 (.mv (.t 32)),
  ag 13 34 33 false [] (.mv (.t 4)),
  ag 14 35 33 false [] (.bin .gtr (.t 34) (.k (.i 0))),
  ag 15 36 33 false [] (.mv (.t 35)),
  ag 16 37 36 true [] (.mv (.t 3)),
  ag 17 38 36 true [16] (.mv (.t 4)),
  ag 18 39 36 true [16] (.bin .sub (.t 38) (.k (.i 1))),
  ag 19 40 36 true [] (.ia 1 (.t 37) (.t 39)),
  ag 20 41 36 true [] (.ld 1 false (.t 40)),
  ag 21 42 36 true [16, 17, 18, 19, 20] (.mv (.t 5)),
  ag 22 43 36 true [] (.bin .eql (.t 41) (.t 42)),
  ag 23 44 33 false [] (.pick (.t 36) (.t 43) (.k (.b false))),
  ao 24 45 (.pick (.t 33) (.k (.b true)) (.t 44))]
def r76_8 : List AOper := [ao 0 2 (.mv (.k (.b false)))]
def c76_9 : ACode := .seq (.reg r76_8) .ret
def c76_10 : ACode := .cond (.t 45) c76_9 .skip
def c76_11 : ACode := .seq (.reg r76_6) (.seq (.reg r76_7) c76_10)
def c76_12 : ACode := .block 1 c76_11
def r76_13 : List AOper := [ao 0 46 (.bin .add (.t 16) (.k (.i 1))),
  ao 1 16 (.mv (.t 46))]
def c76_14 : ACode := .seq (.reg r76_4) (.seq c76_5 (.seq c76_12 (.reg r76_13)))
def c76_15 : ACode := .loop c76_14
def c76_16 : ACode := .block 0 c76_15
def c76_17 : ACode := .seq (.reg r76_3) c76_16
def r76_18 : List AOper := [ao 0 47 (.mv (.t 0)),
  ao 1 48 (.call (.k (.c (.fn 105 []))) [(.t 47)]),
  ao 2 49 (.un .not (.t 48)),
  ao 3 50 (.mv (.t 49)),
  ag 4 51 50 true [] (.mv (.t 3)),
  ag 5 52 50 true [] (.len (.t 51)),
  ag 6 53 50 true [4, 5] (.mv (.t 0)),
  ag 7 54 50 true [4, 5] (.nck (.t 53)),
  ag 8 55 50 true [4, 5] (.fa 3 (.t 54)),
  ag 9 56 50 true [4, 5] (.ld 1 false (.t 55)),
  ag 10 57 50 true [4, 5, 6, 7, 8, 9] (.mv (.t 0)),
  ag 11 58 50 true [4, 5, 6, 7, 8, 9] (.nck (.t 57)),
  ag 12 59 50 true [4, 5, 6, 7, 8, 9] (.fa 11 (.t 58)),
  ag 13 60 50 true [4, 5, 6, 7, 8, 9] (.ld 1 false (.t 59)),
  ag 14 61 50 true [4, 5] (.bin .sub (.t 56) (.t 60)),
  ag 15 62 50 true [] (.bin .neq (.t 52) (.t 61)),
  ao 16 63 (.pick (.t 50) (.t 62) (.k (.b false)))]
def r76_19 : List AOper := [ao 0 2 (.mv (.k (.b false)))]
def c76_20 : ACode := .seq (.reg r76_19) .ret
def c76_21 : ACode := .cond (.t 63) c76_20 .skip
def c76_22 : ACode := .seq (.reg r76_18) c76_21
def r76_23 : List AOper := [ao 0 64 (.mv (.t 0)),
  ao 1 65 (.nck (.t 64)),
  ao 2 66 (.fa 10 (.t 65)),
  ao 3 67 (.ld 1 false (.t 66)),
  ao 4 68 (.len (.t 67)),
  ao 5 69 (.mv (.k (.i 0)))]
def r76_24 : List AOper := [ao 0 70 (.bin .lss (.t 69) (.t 68))]
def c76_25 : ACode := .cond (.t 70) .skip (.exit 2)
def r76_26 : List AOper := [ao 0 71 (.mv (.t 69)),
  ao 1 72 (.ia 1 (.t 67) (.t 69)),
  ao 2 73 (.ld 1 false (.t 72)),
  ao 3 6 (.mv (.t 71)),
  ao 4 7 (.mv (.t 73))]
def r76_27 : List AOper := [ao 0 74 (.mv (.t 7)),
  ao 1 75 (.bin .neq (.t 74) (.k (.i (-1)))),
  ao 2 76 (.mv (.t 75)),
  ag 3 77 76 true [] (.mv (.t 7)),
  ag 4 78 76 true [] (.mv (.t 0)),
  ag 5 79 76 true [] (.nck (.t 78)),
  ag 6 80 76 true [] (.fa 2 (.t 79)),
  ag 7 81 76 true [] (.ld 1 false (.t 80)),
  ag 8 82 76 true [] (.bin .rem (.t 77) (.t 81)),
  ag 9 83 76 true [] (.mv (.t 6)),
  ag 10 84 76 true [] (.bin .neq (.t 82) (.t 83)),
  ao 11 85 (.pick (.t 76) (.t 84) (.k (.b false)))]
def r76_28 : List AOper := [ao 0 2 (.mv (.k (.b false)))]
def c76_29 : ACode := .seq (.reg r76_28) .ret
def c76_30 : ACode := .cond (.t 85) c76_29 .skip
def c76_31 : ACode := .seq (.reg r76_26) (.seq (.reg r76_27) c76_30)
def c76_32 : ACode := .block 3 c76_31
def r76_33 : List AOper := [ao 0 86 (.bin .add (.t 69) (.k (.i 1))),
  ao 1 69 (.mv (.t 86))]
def c76_34 : ACode := .seq (.reg r76_24) (.seq c76_25 (.seq c76_32 (.reg r76_33)))
def c76_35 : ACode := .loop c76_34
def c76_36 : ACode := .block 2 c76_35
def c76_37 : ACode := .seq (.reg r76_23) c76_36
def r76_38 : List AOper := [ao 0 87 (.mv (.t 0)),
  ao 1 88 (.nck (.t 87)),
  ao 2 89 (.fa 14 (.t 88)),
  ao 3 90 (.ld 1 false (.t 89)),
  ao 4 91 (.len (.t 90)),
  ao 5 92 (.mv (.k (.i 0)))]
def r76_39 : List AOper := [ao 0 93 (.bin .lss (.t 92) (.t 91))]
def c76_40 : ACode := .cond (.t 93) .skip (.exit 4)
def r76_41 : List AOper := [ao 0 94 (.mv (.t 92)),
  ao 1 95 (.ia 1 (.t 90) (.t 92)),
  ao 2 96 (.ld 1 false (.t 95)),
  ao 3 8 (.mv (.t 94)),
  ao 4 9 (.mv (.t 96))]
def r76_42 : List AOper := [ao 0 97 (.mv (.t 9)),
  ao 1 98 (.mv (.t 8)),
  ao 2 99 (.bin .neq (.t 97) (.t 98))]
def r76_43 : List AOper := [ao 0 2 (.mv (.k (.b false)))]
def c76_44 : ACode := .seq (.reg r76_43) .ret
def c76_45 : ACode := .cond (.t 99) c76_44 .skip
def c76_46 : ACode := .seq (.reg r76_41) (.seq (.reg r76_42) c76_45)
def c76_47 : ACode := .block 5 c76_46
def r76_48 : List AOper := [ao 0 100 (.bin .add (.t 92) (.k (.i 1))),
  ao 1 92 (.mv (.t 100))]
def c76_49 : ACode := .seq (.reg r76_39) (.seq c76_40 (.seq c76_47 (.reg r76_48)))
def c76_50 : ACode := .loop c76_49
def c76_51 : ACode := .block 4 c76_50
def c76_52 : ACode := .seq (.reg r76_38) c76_51
def r76_53 : List AOper := [ao 0 101 (.mv (.t 0)),
  ao 1 102 (.nck (.t 101)),
  ao 2 103 (.fa 12 (.t 102)),
  ao 3 104 (.ld 1 false (.t 103)),
  ao 4 105 (.len (.t 104)),
  ao 5 106 (.bin .eql (.t 105) (.k (.i 1))),
  ao 6 107 (.mv (.t 106)),
  ag 7 108 107 true [] (.mv (.t 0)),
  ag 8 109 107 true [] (.nck (.t 108)),
  ag 9 110 107 true [] (.fa 12 (.t 109)),
  ag 10 111 107 true [] (.ld 1 false (.t 110)),
  ag 11 112 107 true [] (.ia 1 (.t 111) (.k (.i 0))),
  ag 12 113 107 true [] (.ld 1 false (.t 112)),
  ag 13 114 107 true [7, 8, 9, 10, 11, 12] (.mv (.t 0)),
  ag 14 115 107 true [7, 8, 9, 10, 11, 12] (.nck (.t 114)),
  ag 15 116 107 true [7, 8, 9, 10, 11, 12] (.fa 14 (.t 115)),
  ag 16 117 107 true [7, 8, 9, 10, 11, 12] (.ld 1 false (.t 116)),
  ag 17 118 107 true [7, 8, 9, 10, 11, 12] (.len (.t 117)),
  ag 18 119 107 true [] (.bin .neq (.t 113) (.t 118)),
  ao 19 120 (.pick (.t 107) (.t 119) (.k (.b false))),
  ao 20 121 (.mv (.t 120)),
  ag 21 122 121 false [] (.mv (.t 0)),
  ag 22 123 121 false [] (.nck (.t 122)),
  ag 23 124 121 false [] (.fa 11 (.t 123)),
  ag 24 125 121 false [] (.ld 1 false (.t 124)),
  ag 25 126 121 false [21, 22, 23, 24] (.mv (.t 0)),
  ag 26 127 121 false [21, 22, 23, 24] (.nck (.t 126)),
  ag 27 128 121 false [21, 22, 23, 24] (.fa 14 (.t 127)),
  ag 28 129 121 false [21, 22, 23, 24] (.ld 1 false (.t 128)),
  ag 29 130 121 false [21, 22, 23, 24] (.len (.t 129)),
  ag 30 131 121 false [21, 22, 23, 24, 25, 26, 27, 28, 29] (.mv (.t 0)),
  ag 31 132 121 false [21, 22, 23, 24, 25, 26, 27, 28, 29] (.nck (.t 131)),
  ag 32 133 121 false [21, 22, 23, 24, 25, 26, 27, 28, 29] (.fa 12 (.t 132)),
  ag 33 134 121 false [21, 22, 23, 24, 25, 26, 27, 28, 29] (.ld 1 false (.t 133)),
  ag 34 135 121 false [21, 22, 23, 24, 25, 26, 27, 28, 29] (.len (.t 134)),
  ag 35 136 121 false [21, 22, 23, 24] (.bin .add (.t 130) (.t 135)),
  ag 36 137 121 false [] (.bin .neq (.t 125) (.t 136)),
  ao 37 138 (.pick (.t 121) (.k (.b true)) (.t 137))]
def r76_54 : List AOper := [ao 0 2 (.mv (.k (.b false)))]
def c76_55 : ACode := .seq (.reg r76_54) .ret
def c76_56 : ACode := .cond (.t 138) c76_55 .skip
def c76_57 : ACode := .seq (.reg r76_53) c76_56
def r76_58 : List AOper := [ao 0 139 (.mv (.t 0)),
  ao 1 140 (.nck (.t 139)),
  ao 2 141 (.fa 15 (.t 140)),
  ao 3 142 (.ld 1 false (.t 141)),
  au 4 143 (ru 4) (.mv (.t 0)),
  au 5 144 (ru 4) (.nck (.t 143)),
  au 6 145 (ru 4) (.fa 3 (.t 144)),
  au 7 146 (ru 4) (.ld 1 false (.t 145)),
  ao 8 147 (.bin .add (.t 142) (.t 146)),
  au 9 148 (ru 9) (.mv (.t 0)),
  au 10 149 (ru 9) (.nck (.t 148)),
  au 11 150 (ru 9) (.fa 11 (.t 149)),
  au 12 151 (ru 9) (.ld 1 false (.t 150)),
  ao 13 152 (.bin .sub (.t 147) (.t 151)),
  au 14 153 (ru 14) (.mv (.t 0)),
  au 15 154 (ru 14) (.nck (.t 153)),
  au 16 155 (ru 14) (.fa 9 (.t 154)),
  au 17 156 (ru 14) (.ld 1 false (.t 155)),
  au 18 157 (ru 14) (.bin .eql (.t 156) (.k (.i 3))),
  au 19 158 (ru 14) (.call (.k (.c (.fn 79 []))) [(.t 157)]),
  ao 20 159 (.bin .add (.t 152) (.t 158)),
  au 21 160 (ru 21) (.mv (.t 0)),
  au 22 161 (ru 21) (.nck (.t 160)),
  au 23 162 (ru 21) (.fa 2 (.t 161)),
  au 24 163 (ru 21) (.ld 1 false (.t 162)),
  ao 25 164 (.bin .eql (.t 159) (.t 163)),
  ao 26 2 (.mv (.t 164))]
def c76 : ACode := .seq (.reg r76_0) (.seq (.reg r76_1) (.seq (.reg r76_2) (.seq c76_17 (.seq c76_22 (.seq c76_37 (.seq c76_52 (.seq c76_57 (.seq (.reg r76_58) .ret))))))))
def s76 : List ARes := [.tmp 2]
theorem ok76 : okF Tryz.prog 76 165 c76 s76 := ⟨Tryz.f76, Tryz.func76, Tryz.ntmps76, by kernel_rfl, by kernel_rfl, by kernel_rfl⟩
def inv76a (w : CW) (L : List Int) (i : Nat) (σ : St) : Prop := (∀ j : Nat, j < i → ∀ x, L[j]? = some x → w.due ≤ x ∧ x ≤ w.next - 1) ∧ (∀ j : Nat, j + 1 < i → ∀ x y, L[j]? = some x → L[j + 1]? = some y → x ≠ y) ∧ σ.t 0 = wP 1000 0 ∧ σ.H 1000 = some (cwB 0 w) ∧ σ.t 15 = .i L.length ∧ σ.t 16 = .i i ∧ ∃ u, σ.t 3 = .c (.own 3108 u L.length) ∧ σ.t 14 = .c (.own 3108 u L.length) ∧ σ.H 3108 = some (.arr u true 1 3 (en eI L))
def inv76b (w : CW) (i : Nat) (σ : St) : Prop := (∀ j : Nat, j < i → ∀ x, w.ring[j]? = some x → x ≠ -1 → x.tmod w.window = j) ∧ σ.t 0 = wP 1000 0 ∧ σ.H 1000 = some (cwB 0 w) ∧ σ.t 67 = tL (en eI w.ring) ∧ σ.t 68 = .i w.ring.length ∧ σ.t 69 = .i i
def inv76c (w : CW) (i : Nat) (σ : St) : Prop := (∀ j : Nat, j < i → ∀ x, w.got[j]? = some x → x = j) ∧ σ.t 0 = wP 1000 0 ∧ σ.H 1000 = some (cwB 0 w) ∧ σ.t 90 = tL (en eI w.got) ∧ σ.t 91 = .i w.got.length ∧ σ.t 92 = .i i
def UCq_1 := Bx.mk <|
  aN (uA c76.eq_1) <| aN (uR r76_0.eq_1) <| aN (uR r76_1.eq_1) <| aN (uR r76_2.eq_1) <| aN (uA c76_17.eq_1) <| aN (uR r76_3.eq_1) <| aN (uA c76_16.eq_1) <| aN (uA c76_15.eq_1) <| aN (uA c76_22.eq_1) <| aN (uR r76_18.eq_1) <| aN (uA c76_21.eq_1) <| aN (uA c76_20.eq_1) <| aN (uR r76_19.eq_1) <| aN (uA c76_37.eq_1) <| aN (uR r76_23.eq_1) <| aN (uA c76_36.eq_1) <| aN (uA c76_35.eq_1) <| aN (uA c76_57.eq_1) <| aN (uR r76_53.eq_1) <| aN (uA c76_56.eq_1) <| aN (uA c76_55.eq_1) <| aN (uR r76_54.eq_1) <| aN (uR r76_58.eq_1) <| s76.eq_1
def UCq_2 := Bx.mk <|
  aN (uA c76.eq_1) <| aN (uR r76_0.eq_1) <| aN (uR r76_1.eq_1) <| aN (uR r76_2.eq_1) <| aN (uA c76_17.eq_1) <| aN (uR r76_3.eq_1) <| aN (uA c76_16.eq_1) <| aN (uA c76_15.eq_1) <| aN (uA c76_22.eq_1) <| aN (uR r76_18.eq_1) <| aN (uA c76_21.eq_1) <| aN (uA c76_20.eq_1) <| aN (uR r76_19.eq_1) <| aN (uA c76_37.eq_1) <| aN (uR r76_23.eq_1) <| aN (uA c76_36.eq_1) <| aN (uA c76_35.eq_1) <| aN (uA c76_52.eq_1) <| aN (uR r76_38.eq_1) <| aN (uA c76_51.eq_1) <| aN (uA c76_50.eq_1) <| aN (uA c76_57.eq_1) <| aN (uR r76_53.eq_1) <| aN (uA c76_56.eq_1) <| aN (uA c76_55.eq_1) <| aN (uR r76_54.eq_1) <| aN (uR r76_58.eq_1) <| s76.eq_1
def UCq_3 := Bx.mk <|
  aN (uA c76.eq_1) <| aN (uR r76_0.eq_1) <| aN (uR r76_1.eq_1) <| aN (uR r76_2.eq_1) <| aN (uA c76_17.eq_1) <| aN (uR r76_3.eq_1) <| aN (uA c76_16.eq_1) <| aN (uA c76_15.eq_1) <| aN (uA c76_22.eq_1) <| aN (uR r76_18.eq_1) <| aN (uA c76_21.eq_1) <| aN (uA c76_20.eq_1) <| aN (uR r76_19.eq_1) <| aN (uA c76_52.eq_1) <| aN (uR r76_38.eq_1) <| aN (uA c76_51.eq_1) <| aN (uA c76_50.eq_1) <| aN (uA c76_57.eq_1) <| aN (uR r76_53.eq_1) <| aN (uA c76_56.eq_1) <| aN (uA c76_55.eq_1) <| aN (uR r76_54.eq_1) <| aN (uR r76_58.eq_1) <| s76.eq_1
def UCq_4 := Bx.mk <|
  aN (uA c76_34.eq_1) <| aN (uR r76_24.eq_1) <| aN (uA c76_25.eq_1) <| aN (uA c76_32.eq_1) <| aN (uA c76_31.eq_1) <| aN (uR r76_26.eq_1) <| aN (uR r76_27.eq_1) <| aN (uA c76_30.eq_1) <| aN (uA c76_29.eq_1) <| aN (uR r76_28.eq_1) <| aN (uR r76_33.eq_1) <| aN (uA c76.eq_1) <| aN (uR r76_0.eq_1) <| aN (uR r76_1.eq_1) <| aN (uR r76_2.eq_1) <| aN (uA c76_17.eq_1) <| aN (uR r76_3.eq_1) <| aN (uA c76_16.eq_1) <| aN (uA c76_15.eq_1) <| aN (uA c76_22.eq_1) <| aN (uR r76_18.eq_1) <| aN (uA c76_21.eq_1) <| aN (uA c76_20.eq_1) <| aN (uR r76_19.eq_1) <| aN (uA c76_37.eq_1) <| aN (uR r76_23.eq_1) <| aN (uA c76_36.eq_1) <| aN (uA c76_35.eq_1) <| aN (uA c76_52.eq_1) <| aN (uR r76_38.eq_1) <| aN (uA c76_51.eq_1) <| aN (uA c76_50.eq_1) <| aN (uA c76_57.eq_1) <| aN (uR r76_53.eq_1) <| aN (uA c76_56.eq_1) <| aN (uA c76_55.eq_1) <| aN (uR r76_54.eq_1) <| aN (uR r76_58.eq_1) <| s76.eq_1
def UCq_5 := Bx.mk <|
  aN (uA c76_34.eq_1) <| aN (uR r76_24.eq_1) <| aN (uA c76_25.eq_1) <| aN (uA c76_32.eq_1) <| aN (uA c76_31.eq_1) <| aN (uR r76_26.eq_1) <| aN (uR r76_27.eq_1) <| aN (uA c76_30.eq_1) <| aN (uA c76_29.eq_1) <| aN (uR r76_28.eq_1) <| aN (uR r76_33.eq_1) <| aN (uA c76.eq_1) <| aN (uR r76_0.eq_1) <| aN (uR r76_1.eq_1) <| aN (uR r76_2.eq_1) <| aN (uA c76_17.eq_1) <| aN (uR r76_3.eq_1) <| aN (uA c76_16.eq_1) <| aN (uA c76_15.eq_1) <| aN (uA c76_22.eq_1) <| aN (uR r76_18.eq_1) <| aN (uA c76_21.eq_1) <| aN (uA c76_20.eq_1) <| aN (uR r76_19.eq_1) <| aN (uA c76_37.eq_1) <| aN (uR r76_23.eq_1) <| aN (uA c76_36.eq_1) <| aN (uA c76_35.eq_1) <| aN (uA c76_52.eq_1) <| aN (uR r76_38.eq_1) <| aN (uA c76_51.eq_1) <| aN (uA c76_50.eq_1) <| aN (uR r76_58.eq_1) <| s76.eq_1
def UCq_6 := Bx.mk <|
  aN (uA c76_49.eq_1) <| aN (uR r76_39.eq_1) <| aN (uA c76_40.eq_1) <| aN (uA c76_47.eq_1) <| aN (uA c76_46.eq_1) <| aN (uR r76_41.eq_1) <| aN (uR r76_42.eq_1) <| aN (uA c76_45.eq_1) <| aN (uA c76_44.eq_1) <| aN (uR r76_43.eq_1) <| aN (uR r76_48.eq_1) <| aN (uA c76.eq_1) <| aN (uR r76_0.eq_1) <| aN (uR r76_1.eq_1) <| aN (uR r76_2.eq_1) <| aN (uA c76_17.eq_1) <| aN (uR r76_3.eq_1) <| aN (uA c76_16.eq_1) <| aN (uA c76_15.eq_1) <| aN (uA c76_22.eq_1) <| aN (uR r76_18.eq_1) <| aN (uA c76_21.eq_1) <| aN (uA c76_20.eq_1) <| aN (uR r76_19.eq_1) <| aN (uA c76_37.eq_1) <| aN (uR r76_23.eq_1) <| aN (uA c76_36.eq_1) <| aN (uA c76_35.eq_1) <| aN (uA c76_52.eq_1) <| aN (uR r76_38.eq_1) <| aN (uA c76_51.eq_1) <| aN (uA c76_50.eq_1) <| aN (uA c76_57.eq_1) <| aN (uR r76_53.eq_1) <| aN (uA c76_56.eq_1) <| aN (uA c76_55.eq_1) <| aN (uR r76_54.eq_1) <| aN (uR r76_58.eq_1) <| s76.eq_1
def UCq_7 := Bx.mk <|
  aN (uA c76_49.eq_1) <| aN (uR r76_39.eq_1) <| aN (uA c76_40.eq_1) <| aN (uA c76_47.eq_1) <| aN (uA c76_46.eq_1) <| aN (uR r76_41.eq_1) <| aN (uR r76_42.eq_1) <| aN (uA c76_45.eq_1) <| aN (uA c76_44.eq_1) <| aN (uR r76_43.eq_1) <| aN (uR r76_48.eq_1) <| aN (uA c76.eq_1) <| aN (uR r76_0.eq_1) <| aN (uR r76_1.eq_1) <| aN (uR r76_2.eq_1) <| aN (uA c76_17.eq_1) <| aN (uR r76_3.eq_1) <| aN (uA c76_16.eq_1) <| aN (uA c76_15.eq_1) <| aN (uA c76_22.eq_1) <| aN (uR r76_18.eq_1) <| aN (uA c76_21.eq_1) <| aN (uA c76_20.eq_1) <| aN (uR r76_19.eq_1) <| aN (uA c76_37.eq_1) <| aN (uR r76_23.eq_1) <| aN (uA c76_36.eq_1) <| aN (uA c76_35.eq_1) <| aN (uA c76_52.eq_1) <| aN (uR r76_38.eq_1) <| aN (uA c76_51.eq_1) <| aN (uA c76_50.eq_1) <| aN (uA c76_57.eq_1) <| aN (uR r76_53.eq_1) <| aN (uA c76_56.eq_1) <| aN (uA c76_55.eq_1) <| aN (uR r76_54.eq_1) <| s76.eq_1
def UCq_8 := Bx.mk <|
  aN (uA c76_14.eq_1) <| aN (uR r76_4.eq_1) <| aN (uA c76_5.eq_1) <| aN (uA c76_12.eq_1) <| aN (uA c76_11.eq_1) <| aN (uR r76_6.eq_1) <| aN (uR r76_7.eq_1) <| aN (uA c76_10.eq_1) <| aN (uA c76_9.eq_1) <| aN (uR r76_8.eq_1) <| aN (uR r76_13.eq_1) <| aN (uA c76.eq_1) <| aN (uR r76_0.eq_1) <| aN (uR r76_1.eq_1) <| aN (uR r76_2.eq_1) <| aN (uA c76_17.eq_1) <| aN (uR r76_3.eq_1) <| aN (uA c76_16.eq_1) <| aN (uA c76_15.eq_1) <| aN (uA c76_22.eq_1) <| aN (uR r76_18.eq_1) <| aN (uA c76_21.eq_1) <| aN (uA c76_20.eq_1) <| aN (uR r76_19.eq_1) <| aN (uA c76_37.eq_1) <| aN (uR r76_23.eq_1) <| aN (uA c76_36.eq_1) <| aN (uA c76_35.eq_1) <| aN (uA c76_52.eq_1) <| aN (uR r76_38.eq_1) <| aN (uA c76_51.eq_1) <| aN (uA c76_50.eq_1) <| aN (uA c76_57.eq_1) <| aN (uR r76_53.eq_1) <| aN (uA c76_56.eq_1) <| aN (uA c76_55.eq_1) <| aN (uR r76_54.eq_1) <| aN (uR r76_58.eq_1) <| s76.eq_1
def UCq_9 := Bx.mk <|
  aN (uA c76_14.eq_1) <| aN (uR r76_4.eq_1) <| aN (uA c76_5.eq_1) <| aN (uA c76_12.eq_1) <| aN (uA c76_11.eq_1) <| aN (uR r76_6.eq_1) <| aN (uR r76_7.eq_1) <| aN (uA c76_10.eq_1) <| aN (uA c76_9.eq_1) <| aN (uR r76_8.eq_1) <| aN (uR r76_13.eq_1) <| aN (uA c76.eq_1) <| aN (uR r76_0.eq_1) <| aN (uR r76_1.eq_1) <| aN (uR r76_2.eq_1) <| aN (uA c76_17.eq_1) <| aN (uR r76_3.eq_1) <| aN (uA c76_16.eq_1) <| aN (uA c76_15.eq_1) <| aN (uA c76_22.eq_1) <| aN (uR r76_18.eq_1) <| aN (uA c76_21.eq_1) <| aN (uA c76_20.eq_1) <| aN (uR r76_19.eq_1) <| aN (uA c76_52.eq_1) <| aN (uR r76_38.eq_1) <| aN (uA c76_51.eq_1) <| aN (uA c76_50.eq_1) <| aN (uA c76_57.eq_1) <| aN (uR r76_53.eq_1) <| aN (uA c76_56.eq_1) <| aN (uA c76_55.eq_1) <| aN (uR r76_54.eq_1) <| aN (uR r76_58.eq_1) <| s76.eq_1
set_option maxRecDepth 4000 in
set_option maxHeartbeats 2000000 in
theorem jobsOk_ok {w : CW} (h : PForm w) (hgl : w.got.length ≤ 2000000) : YW 76 w (Jobs w) := by
  have hh := h.lh
  have hr := h.lr
  have hk := h.st.k
  have hn := h.st.n
  have hj := h.st.j
  have hnx := h.next
  have hdu := h.due
  have hrm := h.room
  have ho := h.lo
  have hpl := way_len h
  have gw1 : IntKind.i64.wrap (w.next - 1) = w.next - 1 := wrap64 ⟨by omega, by omega⟩
  have gw2 : IntKind.i64.wrap (w.next - w.due) = w.next - w.due := wrap64 ⟨by omega, by omega⟩
  have hs3 : w.shut[3]? = some (sh w 3) := by
    have h1 := h.ls
    rw [sh, List.getD_eq_getElem?_getD, List.getElem?_eq_getElem (by omega)]; rfl
  have z3 := h.shut _ (List.mem_of_getElem? hs3)
  refine WC.intro ok76 rfl (fun _ => rfl) fun X => ?_
  have fin : (∀ x ∈ wayJobs w, w.due ≤ x ∧ x ≤ w.next - 1) → (wayJobs w).Nodup → (sh w 3 = 0 → ((wayJobs w).length : Int) = w.next - w.due) → ∀ (t : Nat → T) (H : HMap) (c : Nat), t 0 = wP 1000 0 → H 1000 = some (cwB 0 w) → wpa Tryz.prog X c76_37 (thenW Tryz.prog X (.seq c76_52 (.seq c76_57 (.seq (.reg r76_58) .ret))) (endE (fun b : Bool => b = true ↔ Jobs w) T.b (fun _ => [rV 0 26 (cwC w) (cwC w)]) [.tmp 2])) ⟨t, H, c⟩ := by
    intro q1 q2 q3 t H c e0 hW
    simp only [wP, T.c] at e0
    simp only [RZ, reduceAdd, reduceIte, reduceEqDiff, reduceLT, reduceLeDiff, reduceCtorEq, Nat.reduceBEq, rV, UCq_1.d, e0, hW, en_len]
    refine AW.upto w.ring.length (inv76b w) ⟨fun j hj => absurd hj (Nat.not_lt_zero j), e0, hW, rfl, rfl, rfl⟩ fun i t H c hi h' => ?_
    clear e0 hW
    obtain ⟨a, e0, hW, e67, e68, e69⟩ := h'
    simp only [wP, T.c, T.i] at e0 hW e67 e68 e69
    by_cases k1 : (i : Int) < w.ring.length
    · obtain ⟨x, hx⟩ : ∃ x, w.ring[i]? = some x := ⟨_, List.getElem?_eq_getElem (by omega)⟩
      have ex := en_at eI hx
      have gz : (0 : Int) ≤ i := by omega
      have gw := w1_ok (i := i) (by omega)
      have hz : ¬ w.window = 0 := by omega
      by_cases b1 : x = -1
      · have k2 := eqn b1
        simp only [RZ, reduceAdd, reduceIte, reduceEqDiff, reduceLT, reduceLeDiff, reduceCtorEq, Nat.reduceBEq, rV, UCq_4.d, e0, hW, e67, e68, e69, en_len, k1, ex, gz, gw, eI, k2]
        exact ⟨by omega, upto_next2 (p := fun j x => x ≠ -1 → x.tmod w.window = (j : Int)) a hx (fun e => absurd b1 e), e0, hW, e67, e68, rfl⟩
      · have k2 := neqn b1
        by_cases b2 : x.tmod w.window = i
        · have k3 := eqn b2
          simp only [RZ, reduceAdd, reduceIte, reduceEqDiff, reduceLT, reduceLeDiff, reduceCtorEq, Nat.reduceBEq, rV, UCq_4.d, e0, hW, e67, e68, e69, en_len, k1, ex, gz, gw, eI, k2, k3, hz]
          exact ⟨by omega, upto_next2 (p := fun j x => x ≠ -1 → x.tmod w.window = (j : Int)) a hx (fun _ => b2), e0, hW, e67, e68, rfl⟩
        · have k3 := neqn b2
          simp only [RZ, reduceAdd, reduceIte, reduceEqDiff, reduceLT, reduceLeDiff, reduceCtorEq, Nat.reduceBEq, rV, UCq_4.d, e0, hW, e67, e68, e69, en_len, k1, ex, gz, gw, eI, k2, k3, hz]
          refine ES.mk false (no fun g => b2 (jobs_ring g hx b1)) ?_
          simp only [RZ, reduceAdd, reduceIte, reduceEqDiff, reduceLT, reduceLeDiff, reduceCtorEq, Nat.reduceBEq, rV, UCq_4.d, e0, hW, e67, e68, e69, en_len, k1, ex, gz, gw, eI, k2, k3, hz]
    have q4 := upto_all (p := fun j x => x ≠ -1 → x.tmod w.window = (j : Int)) a (by omega)
    simp only [RZ, reduceAdd, reduceIte, reduceEqDiff, reduceLT, reduceLeDiff, reduceCtorEq, Nat.reduceBEq, rV, UCq_5.d, e0, hW, e67, e68, e69, en_len, k1]
    refine AW.upto w.got.length (inv76c w) ⟨fun j hj => absurd hj (Nat.not_lt_zero j), e0, hW, rfl, rfl, rfl⟩ fun i t H c hi h' => ?_
    clear e0 hW e67 e68 e69 k1 a
    obtain ⟨a, e0, hW, e90, e91, e92⟩ := h'
    simp only [wP, T.c, T.i] at e0 hW e90 e91 e92
    by_cases k1 : (i : Int) < w.got.length
    · obtain ⟨x, hx⟩ : ∃ x, w.got[i]? = some x := ⟨_, List.getElem?_eq_getElem (by omega)⟩
      have ex := en_at eI hx
      have gz : (0 : Int) ≤ i := by omega
      have gw := w1_ok (i := i) (by omega)
      by_cases b1 : x = i
      · have k2 := eqn b1
        simp only [RZ, reduceAdd, reduceIte, reduceEqDiff, reduceLT, reduceLeDiff, reduceCtorEq, Nat.reduceBEq, rV, UCq_6.d, e0, hW, e90, e91, e92, en_len, k1, ex, gz, gw, eI, k2]
        exact ⟨by omega, upto_next2 (p := fun j x => x = (j : Int)) a hx b1, e0, hW, e90, e91, rfl⟩
      · have k2 := neqn b1
        simp only [RZ, reduceAdd, reduceIte, reduceEqDiff, reduceLT, reduceLeDiff, reduceCtorEq, Nat.reduceBEq, rV, UCq_6.d, e0, hW, e90, e91, e92, en_len, k1, ex, gz, gw, eI, k2]
        refine ES.mk false (no fun g => b1 (g.got i x hx)) ?_
        simp only [RZ, reduceAdd, reduceIte, reduceEqDiff, reduceLT, reduceLeDiff, reduceCtorEq, Nat.reduceBEq, rV, UCq_6.d, e0, hW, e90, e91, e92, en_len, k1, ex, gz, gw, eI, k2]
    have q5 := upto_all (p := fun j x => x = (j : Int)) a (by omega)
    have w1 : IntKind.i64.wrap ((w.got.length : Int) + w.out.length) = w.got.length + w.out.length := wrap64 ⟨by omega, by omega⟩
    have w2 : IntKind.i64.wrap (w.room + w.next) = w.room + w.next := wrap64 ⟨by omega, by omega⟩
    have w3 : IntKind.i64.wrap (w.room + w.next - w.due) = w.room + w.next - w.due := wrap64 ⟨by omega, by omega⟩
    obtain ⟨back, hb, hbw⟩ : ∃ back : Int, (if w.keeper = 3 then 1 else 0) = back ∧ IntKind.i64.wrap (w.room + w.next - w.due + back) = w.room + w.next - w.due + back := by
      by_cases b : w.keeper = 3
      · exact ⟨1, if_pos b, wrap64 ⟨by omega, by omega⟩⟩
      · exact ⟨0, if_neg b, wrap64 ⟨by omega, by omega⟩⟩
    have hb2 : (if (w.keeper == 3) = true then (1 : Int) else 0) = back := by rw [← hb]; simp only [beq_iff_eq]
    have tail : (w.due = w.got.length + w.out.length) → (∀ x : Int, w.out[0]? = some x → x = w.got.length) → ∀ (t : Nat → T) (H : HMap) (c : Nat), t 0 = wP 1000 0 → H 1000 = some (cwB 0 w) → DRun Tryz.prog r76_58 [] (Kont (thenW Tryz.prog X .ret (endE (fun b : Bool => b = true ↔ Jobs w) T.b (fun _ => [rV 0 26 (cwC w) (cwC w)]) [.tmp 2])) r76_58) ⟨t, H, c⟩ := by
      intro q6 q7 t H c e0 hW
      simp only [wP, T.c] at e0
      simp only [RZ, reduceAdd, reduceIte, reduceEqDiff, reduceLT, reduceLeDiff, reduceCtorEq, Nat.reduceBEq, rV, UCq_2.d, e0, hW, w2, w3]
      refine callC (bit_ok (w.keeper == 3)) rfl rfl rfl rfl ?_
      by_cases b3 : w.room + w.next - w.due + back = w.window
      · have k3 := eqb b3
        simp only [RZ, reduceAdd, reduceIte, reduceEqDiff, reduceLT, reduceLeDiff, reduceCtorEq, Nat.reduceBEq, rV, UCq_2.d, e0, hW, w2, w3, hb2, hbw, k3]
        refine ES.mk true (yes (jobs_of h q1 q2 q3 q4 q5 q6 q7 (by rw [hb]; exact b3))) ?_
        simp only [RZ, reduceAdd, reduceIte, reduceEqDiff, reduceLT, reduceLeDiff, reduceCtorEq, Nat.reduceBEq, rV, UCq_2.d, e0, hW, w2, w3, hb2, hbw, k3]
      · have k3 := neqb b3
        simp only [RZ, reduceAdd, reduceIte, reduceEqDiff, reduceLT, reduceLeDiff, reduceCtorEq, Nat.reduceBEq, rV, UCq_2.d, e0, hW, w2, w3, hb2, hbw, k3]
        refine ES.mk false (no fun g => b3 (by have := g.room; rw [hb] at this; exact this)) ?_
        simp only [RZ, reduceAdd, reduceIte, reduceEqDiff, reduceLT, reduceLeDiff, reduceCtorEq, Nat.reduceBEq, rV, UCq_2.d, e0, hW, w2, w3, hb2, hbw, k3]
    by_cases b1 : (w.out.length : Int) = 1
    · have k2 := eqb b1
      obtain ⟨x, hx⟩ : ∃ x, w.out[0]? = some x := ⟨_, List.getElem?_eq_getElem (by omega)⟩
      have ex := en_at eI hx
      by_cases b4 : x = w.got.length
      · have k4 := eqn b4
        have q7 : ∀ y : Int, w.out[0]? = some y → y = w.got.length := fun y hy => by rw [hx] at hy; rw [← Option.some.inj hy]; exact b4
        by_cases b6 : w.due = w.got.length + w.out.length
        · have k6 := eqn b6
          simp only [RZ, reduceAdd, reduceIte, reduceEqDiff, reduceLT, reduceLeDiff, reduceCtorEq, Nat.reduceBEq, rV, UCq_7.d, e0, hW, e90, e91, e92, en_len, k1, w1, k2, ex, eI, k4, k6, Int.toNat_zero, Int.le_refl]
          refine tail b6 q7 _ _ _ ?_ ?_
          · exact e0
          · exact hW
        · have k6 := neqn b6
          simp only [RZ, reduceAdd, reduceIte, reduceEqDiff, reduceLT, reduceLeDiff, reduceCtorEq, Nat.reduceBEq, rV, UCq_7.d, e0, hW, e90, e91, e92, en_len, k1, w1, k2, ex, eI, k4, k6, Int.toNat_zero, Int.le_refl]
          refine ES.mk false (no fun g => b6 g.due) ?_
          simp only [RZ, reduceAdd, reduceIte, reduceEqDiff, reduceLT, reduceLeDiff, reduceCtorEq, Nat.reduceBEq, rV, UCq_7.d, e0, hW, e90, e91, e92, en_len, k1, w1, k2, ex, eI, k4, k6, Int.toNat_zero, Int.le_refl]
      · have k4 := neqn b4
        simp only [RZ, reduceAdd, reduceIte, reduceEqDiff, reduceLT, reduceLeDiff, reduceCtorEq, Nat.reduceBEq, rV, UCq_7.d, e0, hW, e90, e91, e92, en_len, k1, w1, k2, ex, eI, k4, Int.toNat_zero, Int.le_refl]
        refine ES.mk false (no fun g => b4 (g.out x hx)) ?_
        simp only [RZ, reduceAdd, reduceIte, reduceEqDiff, reduceLT, reduceLeDiff, reduceCtorEq, Nat.reduceBEq, rV, UCq_7.d, e0, hW, e90, e91, e92, en_len, k1, w1, k2, ex, eI, k4, Int.toNat_zero, Int.le_refl]
    · have k2 := neqb b1
      have q7 : ∀ y : Int, w.out[0]? = some y → y = w.got.length := fun y hy => absurd (List.getElem?_eq_some_iff.1 hy).1 (by omega)
      by_cases b6 : w.due = w.got.length + w.out.length
      · have k6 := eqn b6
        simp only [RZ, reduceAdd, reduceIte, reduceEqDiff, reduceLT, reduceLeDiff, reduceCtorEq, Nat.reduceBEq, rV, UCq_7.d, e0, hW, e90, e91, e92, en_len, k1, w1, k2, k6]
        refine tail b6 q7 _ _ _ ?_ ?_
        · exact e0
        · exact hW
      · have k6 := neqn b6
        simp only [RZ, reduceAdd, reduceIte, reduceEqDiff, reduceLT, reduceLeDiff, reduceCtorEq, Nat.reduceBEq, rV, UCq_7.d, e0, hW, e90, e91, e92, en_len, k1, w1, k2, k6]
        refine ES.mk false (no fun g => b6 g.due) ?_
        simp only [RZ, reduceAdd, reduceIte, reduceEqDiff, reduceLT, reduceLeDiff, reduceCtorEq, Nat.reduceBEq, rV, UCq_7.d, e0, hW, e90, e91, e92, en_len, k1, w1, k2, k6]
  simp only [RZ, reduceAdd, reduceIte, reduceEqDiff, reduceLT, reduceLeDiff, reduceCtorEq, Nat.reduceBEq, rV, UCq_3.d, en_len]
  refine callPA (m := 1000) (v := 0) (m2 := 3108) (fun m v m2 => underWay_ok h m v m2) rfl rfl rfl rfl (by decide) (by decide) ⟨rfl, ?_⟩
  simp only [RZ, reduceAdd, reduceIte, reduceEqDiff, reduceLT, reduceLeDiff, reduceCtorEq, Nat.reduceBEq, rV, UCq_3.d, en_len]
  refine callRowI (sort_ok (wayJobs w) (by omega) 3108 3108 _) rfl rfl rfl ⟨rfl, ?_⟩
  obtain ⟨L, hL⟩ : ∃ L, srt (wayJobs w) = L := ⟨_, rfl⟩
  have hp : L.Perm (wayJobs w) := by rw [← hL]; exact srt_perm _
  have hup : L.Pairwise fun x y => x ≤ y := by rw [← hL]; exact srt_up _
  have hlen : L.length = (wayJobs w).length := hp.length_eq
  have hll : L.length ≤ 41 := by omega
  rw [hL, ← hlen]
  simp only [RZ, reduceAdd, reduceIte, reduceEqDiff, reduceLT, reduceLeDiff, reduceCtorEq, Nat.reduceBEq, rV, UCq_3.d, en_len]
  refine AW.upto L.length (inv76a w L) ⟨fun j hj => absurd hj (Nat.not_lt_zero j), fun j hj => absurd hj (by omega), rfl, rfl, rfl, rfl, _, rfl, rfl, rfl⟩ fun i t H c hi h' => ?_
  obtain ⟨a, b, e0, hW, e15, e16, u, e3, e14, eL⟩ := h'
  simp only [wP, T.c, T.i] at e0 hW e15 e16 e3 e14 eL
  by_cases k1 : (i : Int) < L.length
  · obtain ⟨x, hx⟩ : ∃ x, L[i]? = some x := ⟨_, List.getElem?_eq_getElem (by omega)⟩
    have ex := en_at eI hx
    have gz : (0 : Int) ≤ i := by omega
    have gw := w1_ok (i := i) (by omega)
    have hmem := hp.mem_iff.1 (List.mem_of_getElem? hx)
    simp only [RZ, reduceAdd, reduceIte, reduceEqDiff, reduceLT, reduceLeDiff, reduceCtorEq, Nat.reduceBEq, rV, UCq_8.d, e0, hW, e15, e16, e3, e14, eL, en_len, k1, ex, gz, gw, eI, gw1]
    by_cases h1 : w.due ≤ x ∧ x ≤ w.next - 1
    rotate_left
    · refine callC (in_no h1) rfl rfl rfl rfl ?_
      simp only [RZ, reduceAdd, reduceIte, reduceEqDiff, reduceLT, reduceLeDiff, reduceCtorEq, Nat.reduceBEq, rV, UCq_8.d, e0, hW, e15, e16, e3, e14, eL, en_len, k1, ex, gz, gw, eI, gw1]
      refine ES.mk false (no fun g => h1 (g.all x ((jobs_way g).mem_iff.1 hmem))) ?_
      simp only [RZ, reduceAdd, reduceIte, reduceEqDiff, reduceLT, reduceLeDiff, reduceCtorEq, Nat.reduceBEq, rV, UCq_8.d, e0, hW, e15, e16, e3, e14, eL, en_len, k1, ex, gz, gw, eI, gw1]
    refine callC (in_yes h1) rfl rfl rfl rfl ?_
    cases i with
    | zero =>
      have k2 : ¬ ((0 : Nat) : Int) > 0 := by decide
      simp only [RZ, reduceAdd, reduceIte, reduceEqDiff, reduceLT, reduceLeDiff, reduceCtorEq, Nat.reduceBEq, rV, UCq_8.d, e0, hW, e15, e16, e3, e14, eL, en_len, k1, ex, gz, gw, eI, gw1, k2]
      exact ⟨by omega, upto_next a hx h1, fun j hj => absurd hj (by omega), e0, hW, e15, rfl, u, e3, e14, eL⟩
    | succ p =>
      have k2 : ((p + 1 : Nat) : Int) > 0 := by omega
      have gm : IntKind.i64.wrap (((p + 1 : Nat) : Int) - 1) = (p : Int) := by rw [wrap64 ⟨by omega, by omega⟩]; omega
      obtain ⟨y, hy⟩ : ∃ y, L[p]? = some y := ⟨_, List.getElem?_eq_getElem (by omega)⟩
      have ey := en_at eI hy
      have gp : (0 : Int) ≤ p := by omega
      have gp2 : (p : Int) < L.length := by omega
      by_cases b1 : y = x
      · have k3 := eqb b1
        simp only [RZ, reduceAdd, reduceIte, reduceEqDiff, reduceLT, reduceLeDiff, reduceCtorEq, Nat.reduceBEq, rV, UCq_8.d, e0, hW, e15, e16, e3, e14, eL, en_len, k1, ex, gz, gw, eI, gw1, k2, gm, ey, gp, gp2, k3]
        refine ES.mk false (no fun g => nd_no (hp.nodup_iff.2 ((jobs_way g).nodup_iff.2 g.nd)) (Nat.lt_succ_self p) hx (by rw [← b1]; exact hy)) ?_
        simp only [RZ, reduceAdd, reduceIte, reduceEqDiff, reduceLT, reduceLeDiff, reduceCtorEq, Nat.reduceBEq, rV, UCq_8.d, e0, hW, e15, e16, e3, e14, eL, en_len, k1, ex, gz, gw, eI, gw1, k2, gm, ey, gp, gp2, k3]
      · have k3 := neqb b1
        simp only [RZ, reduceAdd, reduceIte, reduceEqDiff, reduceLT, reduceLeDiff, reduceCtorEq, Nat.reduceBEq, rV, UCq_8.d, e0, hW, e15, e16, e3, e14, eL, en_len, k1, ex, gz, gw, eI, gw1, k2, gm, ey, gp, gp2, k3]
        refine ⟨by omega, upto_next a hx h1, fun j hj x' y' hx' hy' => ?_, e0, hW, e15, rfl, u, e3, e14, eL⟩
        by_cases hjp : j + 1 < p + 1
        · exact b j hjp x' y' hx' hy'
        · have : j = p := by omega
          subst this
          rw [hy] at hx'
          rw [hx] at hy'
          rw [← Option.some.inj hx', ← Option.some.inj hy']
          exact b1
  have q1 : ∀ x ∈ wayJobs w, w.due ≤ x ∧ x ≤ w.next - 1 := fun x hx => upto_mem a (by omega) x (hp.mem_iff.2 hx)
  have q2 : (wayJobs w).Nodup := hp.nodup_iff.1 (nd_adj hup fun j x y hx hy => b j (by have := (List.getElem?_eq_some_iff.1 hy).1; omega) x y hx hy)
  simp only [RZ, reduceAdd, reduceIte, reduceEqDiff, reduceLT, reduceLeDiff, reduceCtorEq, Nat.reduceBEq, rV, UCq_9.d, e0, hW, e15, e16, e3, e14, eL, en_len, k1]
  obtain ⟨bs, hbs, Cs⟩ := stopped_at hs3
  refine callP (v := 0) (w := w) Cs rfl rfl rfl rfl hW ⟨rfl, ?_⟩
  cases bs with
  | true =>
    simp only [RZ, reduceAdd, reduceIte, reduceEqDiff, reduceLT, reduceLeDiff, reduceCtorEq, Nat.reduceBEq, rV, UCq_9.d, e0, hW, e15, e16, e3, e14, eL, en_len, k1]
    refine fin q1 q2 (fun e => by have := hbs.1 rfl; omega) _ _ _ ?_ ?_
    · exact e0
    · exact hW
  | false =>
    have hs0 : sh w 3 = 0 := by
      by_cases e : sh w 3 = 1
      · cases hbs.2 e
      · omega
    by_cases b2 : (L.length : Int) = w.next - w.due
    · have k3 := eqn b2
      simp only [RZ, reduceAdd, reduceIte, reduceEqDiff, reduceLT, reduceLeDiff, reduceCtorEq, Nat.reduceBEq, rV, UCq_9.d, e0, hW, e15, e16, e3, e14, eL, en_len, k1, gw2, k3]
      refine fin q1 q2 (fun _ => by rw [← hlen]; exact b2) _ _ _ ?_ ?_
      · exact e0
      · exact hW
    · have k3 := neqn b2
      simp only [RZ, reduceAdd, reduceIte, reduceEqDiff, reduceLT, reduceLeDiff, reduceCtorEq, Nat.reduceBEq, rV, UCq_9.d, e0, hW, e15, e16, e3, e14, eL, en_len, k1, gw2, k3]
      refine ES.mk false (no fun g => b2 (by rw [hlen, (jobs_way g).length_eq]; exact g.len hs0)) ?_
      simp only [RZ, reduceAdd, reduceIte, reduceEqDiff, reduceLT, reduceLeDiff, reduceCtorEq, Nat.reduceBEq, rV, UCq_9.d, e0, hW, e15, e16, e3, e14, eL, en_len, k1, gw2, k3]
end Go.V
set_option linter.unusedSimpArgs false
namespace Go.V
open Go.Proofs
open Nat (reduceAdd reduceEqDiff reduceLT reduceLeDiff)
/-- Those have ended who may have, as the program asks it. -/
structure PEnds (w : CW) : Prop where
  rd : sh w 0 = 1 ↔ w.reader = 3
  cl : sh w 1 = 1 ↔ w.closer = 1
  kp : sh w 2 = 1 ↔ w.keeper = 5
  al : w.closer = 1 → All w
  us : sh w 3 = 1 → w.user = 1
  rc : sh w 3 = 0 → 2 ≤ w.reader → w.next = w.jobs
  an : sh w 3 = 0 → Any w → w.reader = 3 ∧ w.queue.length = 0
  dn : sh w 3 = 0 → (w.keeper = 4 ∨ w.keeper = 5) → w.closer = 1 ∧ w.results.length = 0
  en : sh w 3 = 0 → w.user = 1 → w.keeper = 5 ∧ w.out.length = 0
theorem ends_iff {w : CW} : Ends w ↔ PEnds w ∧ (w.keeper = 0 → ¬ Due w) ∧ (w.keeper = 2 → Due w) :=
  ⟨fun g => ⟨⟨g.rd, g.cl, g.kp, g.al, g.us, g.rc, g.an, g.dn, g.en⟩, g.tk, g.gv⟩, fun ⟨g, x, y⟩ => ⟨g.rd, g.cl, g.kp, g.us, g.rc, g.an, g.al, g.dn, g.en, x, y⟩⟩
theorem bitt {s x y : Int} (hs : s = 0 ∨ s = 1) (h : s = 1 ↔ x = y) : (s != (if (x == y) = true then (1 : Int) else 0)) = false := by
  by_cases g : x = y
  · rw [if_pos (eqb g), h.2 g]; rfl
  · rw [if_neg (by rw [neqb g]; decide)]
    rcases hs with hs | hs
    · rw [hs]; rfl
    · exact absurd (h.1 hs) g
theorem bitn {s x y : Int} (hs : s = 0 ∨ s = 1) (h : ¬ (s = 1 ↔ x = y)) : (s != (if (x == y) = true then (1 : Int) else 0)) = true := by
  by_cases g : x = y
  · rw [if_pos (eqb g)]
    rcases hs with hs | hs
    · rw [hs]; rfl
    · exact absurd ⟨fun _ => g, fun _ => hs⟩ h
  · rw [if_neg (by rw [neqb g]; decide)]
    rcases hs with hs | hs
    · exact absurd ⟨fun e => absurd e (by omega), fun e => absurd e g⟩ h
    · rw [hs]; rfl
/- (*loop.example/teagle/impl.CrewWorld).endsOk -/
def r77_0 : List AOper := [ao 0 2 (.mv (.k (.b false)))]
def r77_1 : List AOper := [ao 0 3 (.mv (.t 0)),
  ao 1 4 (.nck (.t 3)),
  ao 2 5 (.fa 16 (.t 4)),
  ao 3 6 (.ld 1 false (.t 5)),
  ao 4 7 (.ia 1 (.t 6) (.k (.i 0))),
  ao 5 8 (.ld 1 false (.t 7)),
  au 6 9 (ru 6) (.mv (.t 0)),
  au 7 10 (ru 6) (.nck (.t 9)),
  au 8 11 (ru 6) (.fa 4 (.t 10)),
  au 9 12 (ru 6) (.ld 1 false (.t 11)),
  au 10 13 (ru 6) (.bin .eql (.t 12) (.k (.i 3))),
  au 11 14 (ru 6) (.call (.k (.c (.fn 79 []))) [(.t 13)]),
  ao 12 15 (.bin .neq (.t 8) (.t 14)),
  ao 13 16 (.mv (.t 15)),
  ag 14 17 16 false [] (.mv (.t 0)),
  ag 15 18 16 false [] (.nck (.t 17)),
  ag 16 19 16 false [] (.fa 16 (.t 18)),
  ag 17 20 16 false [] (.ld 1 false (.t 19)),
  ag 18 21 16 false [] (.ia 1 (.t 20) (.k (.i 1))),
  ag 19 22 16 false [] (.ld 1 false (.t 21)),
  ag 20 23 16 false [14, 15, 16, 17, 18, 19] (.mv (.t 0)),
  ag 21 24 16 false [14, 15, 16, 17, 18, 19] (.nck (.t 23)),
  ag 22 25 16 false [14, 15, 16, 17, 18, 19] (.fa 7 (.t 24)),
  ag 23 26 16 false [14, 15, 16, 17, 18, 19] (.ld 1 false (.t 25)),
  ag 24 27 16 false [14, 15, 16, 17, 18, 19] (.bin .eql (.t 26) (.k (.i 1))),
  ag 25 28 16 false [14, 15, 16, 17, 18, 19] (.call (.k (.c (.fn 79 []))) [(.t 27)]),
  ag 26 29 16 false [] (.bin .neq (.t 22) (.t 28)),
  ao 27 30 (.pick (.t 16) (.k (.b true)) (.t 29)),
  ao 28 31 (.mv (.t 30)),
  ag 29 32 31 false [] (.mv (.t 0)),
  ag 30 33 31 false [] (.nck (.t 32)),
  ag 31 34 31 false [] (.fa 16 (.t 33)),
  ag 32 35 31 false [] (.ld 1 false (.t 34)),
  ag 33 36 31 false [] (.ia 1 (.t 35) (.k (.i 2))),
  ag 34 37 31 false [] (.ld 1 false (.t 36)),
  ag 35 38 31 false [29, 30, 31, 32, 33, 34] (.mv (.t 0)),
  ag 36 39 31 false [29, 30, 31, 32, 33, 34] (.nck (.t 38)),
  ag 37 40 31 false [29, 30, 31, 32, 33, 34] (.fa 9 (.t 39)),
  ag 38 41 31 false [29, 30, 31, 32, 33, 34] (.ld 1 false (.t 40)),
  ag 39 42 31 false [29, 30, 31, 32, 33, 34] (.bin .eql (.t 41) (.k (.i 5))),
  ag 40 43 31 false [29, 30, 31, 32, 33, 34] (.call (.k (.c (.fn 79 []))) [(.t 42)]),
  ag 41 44 31 false [] (.bin .neq (.t 37) (.t 43)),
  ao 42 45 (.pick (.t 31) (.k (.b true)) (.t 44))]
def r77_2 : List AOper := [ao 0 2 (.mv (.k (.b false)))]
def c77_3 : ACode := .seq (.reg r77_2) .ret
def c77_4 : ACode := .cond (.t 45) c77_3 .skip
def c77_5 : ACode := .seq (.reg r77_1) c77_4
def r77_6 : List AOper := [ao 0 46 (.mv (.t 0)),
  ao 1 47 (.nck (.t 46)),
  ao 2 48 (.fa 7 (.t 47)),
  ao 3 49 (.ld 1 false (.t 48)),
  ao 4 50 (.bin .eql (.t 49) (.k (.i 1))),
  ao 5 51 (.mv (.t 50)),
  ag 6 52 51 true [] (.mv (.t 0)),
  ag 7 53 51 true [] (.call (.k (.c (.fn 41 []))) [(.t 52)]),
  ag 8 54 51 true [] (.un .not (.t 53)),
  ao 9 55 (.pick (.t 51) (.t 54) (.k (.b false)))]
def r77_7 : List AOper := [ao 0 2 (.mv (.k (.b false)))]
def c77_8 : ACode := .seq (.reg r77_7) .ret
def c77_9 : ACode := .cond (.t 55) c77_8 .skip
def c77_10 : ACode := .seq (.reg r77_6) c77_9
def r77_11 : List AOper := [ao 0 56 (.mv (.t 0)),
  ao 1 57 (.call (.k (.c (.fn 105 []))) [(.t 56)])]
def r77_12 : List AOper := [ao 0 58 (.mv (.t 0)),
  ao 1 59 (.nck (.t 58)),
  ao 2 60 (.fa 13 (.t 59)),
  ao 3 61 (.ld 1 false (.t 60)),
  ao 4 62 (.bin .eql (.t 61) (.k (.i 1))),
  ao 5 2 (.mv (.t 62))]
def c77_13 : ACode := .seq (.reg r77_12) .ret
def c77_14 : ACode := .cond (.t 57) c77_13 .skip
def c77_15 : ACode := .seq (.reg r77_11) c77_14
def r77_16 : List AOper := [ao 0 64 (.mv (.t 0)),
  ao 1 65 (.nck (.t 64)),
  ao 2 66 (.fa 4 (.t 65)),
  ao 3 67 (.ld 1 false (.t 66)),
  ao 4 68 (.bin .eql (.t 67) (.k (.i 2))),
  ao 5 69 (.mv (.t 68)),
  ag 6 70 69 false [] (.mv (.t 0)),
  ag 7 71 69 false [] (.nck (.t 70)),
  ag 8 72 69 false [] (.fa 4 (.t 71)),
  ag 9 73 69 false [] (.ld 1 false (.t 72)),
  ag 10 74 69 false [] (.bin .eql (.t 73) (.k (.i 3))),
  ao 11 75 (.pick (.t 69) (.k (.b true)) (.t 74)),
  ao 12 76 (.mv (.t 75)),
  ag 13 77 76 true [] (.mv (.t 0)),
  ag 14 78 76 true [] (.nck (.t 77)),
  ag 15 79 76 true [] (.fa 3 (.t 78)),
  ag 16 80 76 true [] (.ld 1 false (.t 79)),
  ag 17 81 76 true [13, 14, 15, 16] (.mv (.t 0)),
  ag 18 82 76 true [13, 14, 15, 16] (.nck (.t 81)),
  ag 19 83 76 true [13, 14, 15, 16] (.fa 0 (.t 82)),
  ag 20 84 76 true [13, 14, 15, 16] (.ld 1 false (.t 83)),
  ag 21 85 76 true [] (.bin .neq (.t 80) (.t 84)),
  ao 22 86 (.pick (.t 76) (.t 85) (.k (.b false))),
  ao 23 63 (.mv (.t 86))]
def r77_17 : List AOper := [ao 0 2 (.mv (.k (.b false)))]
def c77_18 : ACode := .seq (.reg r77_17) .ret
def r77_19 : List AOper := [ao 0 88 (.mv (.t 0)),
  ao 1 89 (.call (.k (.c (.fn 106 []))) [(.t 88)]),
  ao 2 90 (.mv (.t 89)),
  ag 3 91 90 true [] (.mv (.t 0)),
  ag 4 92 90 true [] (.nck (.t 91)),
  ag 5 93 90 true [] (.fa 4 (.t 92)),
  ag 6 94 90 true [] (.ld 1 false (.t 93)),
  ag 7 95 90 true [] (.bin .neq (.t 94) (.k (.i 3))),
  ag 8 96 90 true [] (.mv (.t 95)),
  ag 9 97 96 false [] (.mv (.t 0)),
  ag 10 98 96 false [] (.nck (.t 97)),
  ag 11 99 96 false [] (.fa 5 (.t 98)),
  ag 12 100 96 false [] (.ld 1 false (.t 99)),
  ag 13 101 96 false [] (.len (.t 100)),
  ag 14 102 96 false [] (.bin .gtr (.t 101) (.k (.i 0))),
  ag 15 103 90 true [] (.pick (.t 96) (.k (.b true)) (.t 102)),
  ao 16 104 (.pick (.t 90) (.t 103) (.k (.b false))),
  ao 17 87 (.mv (.t 104))]
def r77_20 : List AOper := [ao 0 2 (.mv (.k (.b false)))]
def c77_21 : ACode := .seq (.reg r77_20) .ret
def r77_22 : List AOper := [ao 0 106 (.mv (.t 0)),
  ao 1 107 (.nck (.t 106)),
  ao 2 108 (.fa 9 (.t 107)),
  ao 3 109 (.ld 1 false (.t 108)),
  ao 4 110 (.bin .eql (.t 109) (.k (.i 4))),
  ao 5 111 (.mv (.t 110)),
  ag 6 112 111 false [] (.mv (.t 0)),
  ag 7 113 111 false [] (.nck (.t 112)),
  ag 8 114 111 false [] (.fa 9 (.t 113)),
  ag 9 115 111 false [] (.ld 1 false (.t 114)),
  ag 10 116 111 false [] (.bin .eql (.t 115) (.k (.i 5))),
  ao 11 117 (.pick (.t 111) (.k (.b true)) (.t 116)),
  ao 12 118 (.mv (.t 117)),
  ag 13 119 118 true [] (.mv (.t 0)),
  ag 14 120 118 true [] (.nck (.t 119)),
  ag 15 121 118 true [] (.fa 7 (.t 120)),
  ag 16 122 118 true [] (.ld 1 false (.t 121)),
  ag 17 123 118 true [] (.bin .neq (.t 122) (.k (.i 1))),
  ag 18 124 118 true [] (.mv (.t 123)),
  ag 19 125 124 false [] (.mv (.t 0)),
  ag 20 126 124 false [] (.nck (.t 125)),
  ag 21 127 124 false [] (.fa 8 (.t 126)),
  ag 22 128 124 false [] (.ld 1 false (.t 127)),
  ag 23 129 124 false [] (.len (.t 128)),
  ag 24 130 124 false [] (.bin .gtr (.t 129) (.k (.i 0))),
  ag 25 131 118 true [] (.pick (.t 124) (.k (.b true)) (.t 130)),
  ao 26 132 (.pick (.t 118) (.t 131) (.k (.b false))),
  ao 27 105 (.mv (.t 132))]
def r77_23 : List AOper := [ao 0 2 (.mv (.k (.b false)))]
def c77_24 : ACode := .seq (.reg r77_23) .ret
def r77_25 : List AOper := [ao 0 134 (.mv (.t 0)),
  ao 1 135 (.nck (.t 134)),
  ao 2 136 (.fa 13 (.t 135)),
  ao 3 137 (.ld 1 false (.t 136)),
  ao 4 138 (.bin .eql (.t 137) (.k (.i 1))),
  ao 5 139 (.mv (.t 138)),
  ag 6 140 139 true [] (.mv (.t 0)),
  ag 7 141 139 true [] (.nck (.t 140)),
  ag 8 142 139 true [] (.fa 9 (.t 141)),
  ag 9 143 139 true [] (.ld 1 false (.t 142)),
  ag 10 144 139 true [] (.bin .neq (.t 143) (.k (.i 5))),
  ag 11 145 139 true [] (.mv (.t 144)),
  ag 12 146 145 false [] (.mv (.t 0)),
  ag 13 147 145 false [] (.nck (.t 146)),
  ag 14 148 145 false [] (.fa 12 (.t 147)),
  ag 15 149 145 false [] (.ld 1 false (.t 148)),
  ag 16 150 145 false [] (.len (.t 149)),
  ag 17 151 145 false [] (.bin .gtr (.t 150) (.k (.i 0))),
  ag 18 152 139 true [] (.pick (.t 145) (.k (.b true)) (.t 151)),
  ao 19 153 (.pick (.t 139) (.t 152) (.k (.b false))),
  ao 20 133 (.mv (.t 153))]
def r77_26 : List AOper := [ao 0 2 (.mv (.k (.b false)))]
def c77_27 : ACode := .seq (.reg r77_26) .ret
def c77_28 : ACode := .cond (.t 133) c77_27 .skip
def c77_29 : ACode := .seq (.reg r77_25) c77_28
def c77_30 : ACode := .cond (.t 105) c77_24 c77_29
def c77_31 : ACode := .seq (.reg r77_22) c77_30
def c77_32 : ACode := .cond (.t 87) c77_21 c77_31
def c77_33 : ACode := .seq (.reg r77_19) c77_32
def c77_34 : ACode := .cond (.t 63) c77_18 c77_33
def c77_35 : ACode := .seq (.reg r77_16) c77_34
def c77_36 : ACode := .block 0 c77_35
def r77_37 : List AOper := [ao 0 2 (.mv (.k (.b true)))]
def c77 : ACode := .seq (.reg r77_0) (.seq c77_5 (.seq c77_10 (.seq c77_15 (.seq c77_36 (.seq (.reg r77_37) .ret)))))
def s77 : List ARes := [.tmp 2]
theorem ok77 : okF Tryz.prog 77 154 c77 s77 := ⟨Tryz.f77, Tryz.func77, Tryz.ntmps77, by kernel_rfl, by kernel_rfl, by kernel_rfl⟩
def UCr_1 := Bx.mk <|
  aN (uA c77.eq_1) <| aN (uR r77_0.eq_1) <| aN (uA c77_5.eq_1) <| aN (uR r77_1.eq_1) <| aN (uA c77_4.eq_1) <| aN (uA c77_3.eq_1) <| aN (uR r77_2.eq_1) <| aN (uA c77_10.eq_1) <| aN (uR r77_6.eq_1) <| aN (uA c77_9.eq_1) <| aN (uA c77_8.eq_1) <| aN (uR r77_7.eq_1) <| aN (uA c77_15.eq_1) <| aN (uR r77_11.eq_1) <| aN (uA c77_14.eq_1) <| aN (uA c77_13.eq_1) <| aN (uR r77_12.eq_1) <| aN (uA c77_36.eq_1) <| aN (uA c77_35.eq_1) <| aN (uR r77_16.eq_1) <| aN (uA c77_34.eq_1) <| aN (uA c77_18.eq_1) <| aN (uR r77_17.eq_1) <| aN (uA c77_33.eq_1) <| aN (uR r77_19.eq_1) <| aN (uA c77_32.eq_1) <| aN (uA c77_21.eq_1) <| aN (uR r77_20.eq_1) <| aN (uA c77_31.eq_1) <| aN (uR r77_22.eq_1) <| aN (uA c77_30.eq_1) <| aN (uA c77_24.eq_1) <| aN (uR r77_23.eq_1) <| aN (uA c77_29.eq_1) <| aN (uR r77_25.eq_1) <| aN (uA c77_28.eq_1) <| aN (uA c77_27.eq_1) <| aN (uR r77_26.eq_1) <| aN (uR r77_37.eq_1) <| s77.eq_1
def UCr_2 := Bx.mk <|
  aN (uA c77.eq_1) <| aN (uR r77_0.eq_1) <| aN (uA c77_5.eq_1) <| aN (uR r77_1.eq_1) <| aN (uA c77_4.eq_1) <| aN (uA c77_3.eq_1) <| aN (uR r77_2.eq_1) <| aN (uA c77_10.eq_1) <| aN (uR r77_6.eq_1) <| aN (uA c77_9.eq_1) <| aN (uA c77_8.eq_1) <| aN (uR r77_7.eq_1) <| aN (uA c77_15.eq_1) <| aN (uR r77_11.eq_1) <| aN (uA c77_14.eq_1) <| aN (uA c77_13.eq_1) <| aN (uR r77_12.eq_1) <| aN (uA c77_36.eq_1) <| aN (uA c77_35.eq_1) <| aN (uR r77_16.eq_1) <| aN (uA c77_34.eq_1) <| aN (uA c77_18.eq_1) <| aN (uR r77_17.eq_1) <| aN (uA c77_33.eq_1) <| aN (uR r77_19.eq_1) <| aN (uA c77_32.eq_1) <| aN (uA c77_21.eq_1) <| aN (uR r77_20.eq_1) <| aN (uA c77_31.eq_1) <| aN (uR r77_22.eq_1) <| aN (uA c77_30.eq_1) <| aN (uA c77_24.eq_1) <| aN (uR r77_23.eq_1) <| aN (uR r77_37.eq_1) <| s77.eq_1
def UCr_3 := Bx.mk <|
  aN (uA c77.eq_1) <| aN (uR r77_0.eq_1) <| aN (uA c77_5.eq_1) <| aN (uR r77_1.eq_1) <| aN (uA c77_4.eq_1) <| aN (uA c77_3.eq_1) <| aN (uR r77_2.eq_1) <| aN (uA c77_10.eq_1) <| aN (uR r77_6.eq_1) <| aN (uA c77_9.eq_1) <| aN (uA c77_8.eq_1) <| aN (uR r77_7.eq_1) <| aN (uA c77_15.eq_1) <| aN (uR r77_11.eq_1) <| aN (uA c77_14.eq_1) <| aN (uA c77_13.eq_1) <| aN (uR r77_12.eq_1) <| aN (uA c77_36.eq_1) <| aN (uA c77_35.eq_1) <| aN (uR r77_16.eq_1) <| aN (uA c77_34.eq_1) <| aN (uA c77_18.eq_1) <| aN (uR r77_17.eq_1) <| aN (uA c77_33.eq_1) <| aN (uR r77_19.eq_1) <| aN (uA c77_32.eq_1) <| aN (uA c77_21.eq_1) <| aN (uR r77_20.eq_1) <| aN (uR r77_37.eq_1) <| s77.eq_1
def UCr_4 := Bx.mk <|
  aN (uA c77.eq_1) <| aN (uR r77_0.eq_1) <| aN (uA c77_5.eq_1) <| aN (uR r77_1.eq_1) <| aN (uA c77_4.eq_1) <| aN (uA c77_3.eq_1) <| aN (uR r77_2.eq_1) <| aN (uA c77_10.eq_1) <| aN (uR r77_6.eq_1) <| aN (uA c77_9.eq_1) <| aN (uA c77_8.eq_1) <| aN (uR r77_7.eq_1) <| aN (uA c77_15.eq_1) <| aN (uR r77_11.eq_1) <| aN (uA c77_14.eq_1) <| aN (uA c77_13.eq_1) <| aN (uR r77_12.eq_1) <| aN (uA c77_36.eq_1) <| aN (uA c77_35.eq_1) <| aN (uR r77_16.eq_1) <| aN (uA c77_34.eq_1) <| aN (uA c77_18.eq_1) <| aN (uR r77_17.eq_1) <| aN (uR r77_37.eq_1) <| s77.eq_1
def UCr_5 := Bx.mk <|
  aN (uA c77.eq_1) <| aN (uR r77_0.eq_1) <| aN (uA c77_5.eq_1) <| aN (uR r77_1.eq_1) <| aN (uA c77_4.eq_1) <| aN (uA c77_3.eq_1) <| aN (uR r77_2.eq_1) <| aN (uA c77_10.eq_1) <| aN (uR r77_6.eq_1) <| aN (uA c77_9.eq_1) <| aN (uA c77_8.eq_1) <| aN (uR r77_7.eq_1) <| aN (uA c77_36.eq_1) <| aN (uA c77_35.eq_1) <| aN (uR r77_16.eq_1) <| aN (uA c77_34.eq_1) <| aN (uA c77_18.eq_1) <| aN (uR r77_17.eq_1) <| aN (uA c77_33.eq_1) <| aN (uR r77_19.eq_1) <| aN (uA c77_32.eq_1) <| aN (uA c77_21.eq_1) <| aN (uR r77_20.eq_1) <| aN (uA c77_31.eq_1) <| aN (uR r77_22.eq_1) <| aN (uA c77_30.eq_1) <| aN (uA c77_24.eq_1) <| aN (uR r77_23.eq_1) <| aN (uA c77_29.eq_1) <| aN (uR r77_25.eq_1) <| aN (uA c77_28.eq_1) <| aN (uA c77_27.eq_1) <| aN (uR r77_26.eq_1) <| aN (uR r77_37.eq_1) <| s77.eq_1
set_option maxRecDepth 4000 in
set_option maxHeartbeats 1000000 in
theorem endsOk_ok {w : CW} (h : Form w) : YW 77 w (PEnds w) := by
  obtain ⟨ba, hba, Ca⟩ := someHasEnded_ok h
  obtain ⟨bl, hbl, Cl⟩ := haveEnded_ok h
  obtain ⟨bs, hbs, Cs⟩ := stopped_ok h
  have s0 := en_at eI (sh_at h (i := 0) (by omega))
  have s1 := en_at eI (sh_at h (i := 1) (by omega))
  have s2 := en_at eI (sh_at h (i := 2) (by omega))
  have y0 := sh_01 h (i := 0) (by omega)
  have y1 := sh_01 h (i := 1) (by omega)
  have y2 := sh_01 h (i := 2) (by omega)
  have y3 := sh_01 h (i := 3) (by omega)
  have hrd := h.rd
  refine WC.intro ok77 rfl (fun _ => rfl) fun X => ?_
  have t29 : (sh w 3 = 0) → ((w.user = 1 → w.keeper = 5 ∧ w.out.length = 0) → PEnds w) → ∀ (t : Nat → T) (H : HMap) (c : Nat), t 0 = wP 1000 0 → H 1000 = some (cwB 0 w) → wpa Tryz.prog X c77_29 (inW 0 (thenW Tryz.prog X (.seq (.reg r77_37) .ret) (endE (fun b : Bool => b = true ↔ PEnds w) T.b (fun _ => [rV 0 26 (cwC w) (cwC w)]) [.tmp 2]))) ⟨t, H, c⟩ := by
    intro z3 pre t H c e0 hW
    simp only [wP, T.c] at e0
    by_cases b1 : w.user = 1
    · have k1 := eqb b1
      by_cases b2 : w.keeper = 5
      · have k2 := eqn b2
        by_cases b3 : (w.out.length : Int) > 0
        · simp only [RZ, reduceAdd, reduceIte, reduceEqDiff, reduceLT, reduceLeDiff, reduceCtorEq, Nat.reduceBEq, rV, UCr_1.d, e0, hW, en_len, k1, k2, b3]
          refine ES.mk false (no fun g => by have := (g.en z3 b1).2; omega) ?_
          simp only [RZ, reduceAdd, reduceIte, reduceEqDiff, reduceLT, reduceLeDiff, reduceCtorEq, Nat.reduceBEq, rV, UCr_1.d, e0, hW, en_len, k1, k2, b3]
        · simp only [RZ, reduceAdd, reduceIte, reduceEqDiff, reduceLT, reduceLeDiff, reduceCtorEq, Nat.reduceBEq, rV, UCr_1.d, e0, hW, en_len, k1, k2, b3]
          refine ES.mk true (yes (pre fun _ => ⟨b2, by omega⟩)) ?_
          simp only [RZ, reduceAdd, reduceIte, reduceEqDiff, reduceLT, reduceLeDiff, reduceCtorEq, Nat.reduceBEq, rV, UCr_1.d, e0, hW, en_len, k1, k2, b3]
      · have k2 := neqn b2
        simp only [RZ, reduceAdd, reduceIte, reduceEqDiff, reduceLT, reduceLeDiff, reduceCtorEq, Nat.reduceBEq, rV, UCr_1.d, e0, hW, en_len, k1, k2]
        refine ES.mk false (no fun g => b2 (g.en z3 b1).1) ?_
        simp only [RZ, reduceAdd, reduceIte, reduceEqDiff, reduceLT, reduceLeDiff, reduceCtorEq, Nat.reduceBEq, rV, UCr_1.d, e0, hW, en_len, k1, k2]
    · have k1 := neqb b1
      simp only [RZ, reduceAdd, reduceIte, reduceEqDiff, reduceLT, reduceLeDiff, reduceCtorEq, Nat.reduceBEq, rV, UCr_1.d, e0, hW, en_len, k1]
      refine ES.mk true (yes (pre fun e => absurd e b1)) ?_
      simp only [RZ, reduceAdd, reduceIte, reduceEqDiff, reduceLT, reduceLeDiff, reduceCtorEq, Nat.reduceBEq, rV, UCr_1.d, e0, hW, en_len, k1]
  have t31 : (sh w 3 = 0) → ((w.keeper = 4 ∨ w.keeper = 5 → w.closer = 1 ∧ w.results.length = 0) → (w.user = 1 → w.keeper = 5 ∧ w.out.length = 0) → PEnds w) → ∀ (t : Nat → T) (H : HMap) (c : Nat), t 0 = wP 1000 0 → H 1000 = some (cwB 0 w) → wpa Tryz.prog X c77_31 (inW 0 (thenW Tryz.prog X (.seq (.reg r77_37) .ret) (endE (fun b : Bool => b = true ↔ PEnds w) T.b (fun _ => [rV 0 26 (cwC w) (cwC w)]) [.tmp 2]))) ⟨t, H, c⟩ := by
    intro z3 pre t H c e0 hW
    simp only [wP, T.c] at e0
    by_cases c1 : w.keeper = 4
    · have k1 := eqb c1
      have hkk : w.keeper = 4 ∨ w.keeper = 5 := .inl c1
      by_cases b1 : w.closer = 1
      · have k2 := eqn b1
        by_cases b3 : (w.results.length : Int) > 0
        · simp only [RZ, reduceAdd, reduceIte, reduceEqDiff, reduceLT, reduceLeDiff, reduceCtorEq, Nat.reduceBEq, rV, UCr_2.d, e0, hW, en_len, k1, k2, b3]
          refine ES.mk false (no fun g => by have := (g.dn z3 hkk).2; omega) ?_
          simp only [RZ, reduceAdd, reduceIte, reduceEqDiff, reduceLT, reduceLeDiff, reduceCtorEq, Nat.reduceBEq, rV, UCr_2.d, e0, hW, en_len, k1, k2, b3]
        · simp only [RZ, reduceAdd, reduceIte, reduceEqDiff, reduceLT, reduceLeDiff, reduceCtorEq, Nat.reduceBEq, rV, UCr_2.d, e0, hW, en_len, k1, k2, b3]
          refine t29 z3 (pre fun _ => ⟨b1, by omega⟩) _ _ _ ?_ ?_
          · exact e0
          · exact hW
      · have k2 := neqn b1
        simp only [RZ, reduceAdd, reduceIte, reduceEqDiff, reduceLT, reduceLeDiff, reduceCtorEq, Nat.reduceBEq, rV, UCr_2.d, e0, hW, en_len, k1, k2]
        refine ES.mk false (no fun g => b1 (g.dn z3 hkk).1) ?_
        simp only [RZ, reduceAdd, reduceIte, reduceEqDiff, reduceLT, reduceLeDiff, reduceCtorEq, Nat.reduceBEq, rV, UCr_2.d, e0, hW, en_len, k1, k2]
    by_cases c2 : w.keeper = 5
    · have k1 : (w.keeper == 4) = false := neqb c1
      have k4 := eqb c2
      have hkk : w.keeper = 4 ∨ w.keeper = 5 := .inr c2
      by_cases b1 : w.closer = 1
      · have k2 := eqn b1
        by_cases b3 : (w.results.length : Int) > 0
        · simp only [RZ, reduceAdd, reduceIte, reduceEqDiff, reduceLT, reduceLeDiff, reduceCtorEq, Nat.reduceBEq, rV, UCr_2.d, e0, hW, en_len, k1, k4, k2, b3]
          refine ES.mk false (no fun g => by have := (g.dn z3 hkk).2; omega) ?_
          simp only [RZ, reduceAdd, reduceIte, reduceEqDiff, reduceLT, reduceLeDiff, reduceCtorEq, Nat.reduceBEq, rV, UCr_2.d, e0, hW, en_len, k1, k4, k2, b3]
        · simp only [RZ, reduceAdd, reduceIte, reduceEqDiff, reduceLT, reduceLeDiff, reduceCtorEq, Nat.reduceBEq, rV, UCr_2.d, e0, hW, en_len, k1, k4, k2, b3]
          refine t29 z3 (pre fun _ => ⟨b1, by omega⟩) _ _ _ ?_ ?_
          · exact e0
          · exact hW
      · have k2 := neqn b1
        simp only [RZ, reduceAdd, reduceIte, reduceEqDiff, reduceLT, reduceLeDiff, reduceCtorEq, Nat.reduceBEq, rV, UCr_2.d, e0, hW, en_len, k1, k4, k2]
        refine ES.mk false (no fun g => b1 (g.dn z3 hkk).1) ?_
        simp only [RZ, reduceAdd, reduceIte, reduceEqDiff, reduceLT, reduceLeDiff, reduceCtorEq, Nat.reduceBEq, rV, UCr_2.d, e0, hW, en_len, k1, k4, k2]
    have k1 := neqb c1
    have k2 := neqb c2
    simp only [RZ, reduceAdd, reduceIte, reduceEqDiff, reduceLT, reduceLeDiff, reduceCtorEq, Nat.reduceBEq, rV, UCr_2.d, e0, hW, en_len, k1, k2]
    refine t29 z3 (pre fun e => by omega) _ _ _ ?_ ?_
    · exact e0
    · exact hW
  have t33 : (sh w 3 = 0) → ((Any w → w.reader = 3 ∧ w.queue.length = 0) → (w.keeper = 4 ∨ w.keeper = 5 → w.closer = 1 ∧ w.results.length = 0) → (w.user = 1 → w.keeper = 5 ∧ w.out.length = 0) → PEnds w) → ∀ (t : Nat → T) (H : HMap) (c : Nat), t 0 = wP 1000 0 → H 1000 = some (cwB 0 w) → wpa Tryz.prog X c77_33 (inW 0 (thenW Tryz.prog X (.seq (.reg r77_37) .ret) (endE (fun b : Bool => b = true ↔ PEnds w) T.b (fun _ => [rV 0 26 (cwC w) (cwC w)]) [.tmp 2]))) ⟨t, H, c⟩ := by
    intro z3 pre t H c e0 hW
    simp only [wP, T.c] at e0
    simp only [RZ, reduceAdd, reduceIte, reduceEqDiff, reduceLT, reduceLeDiff, reduceCtorEq, Nat.reduceBEq, rV, UCr_3.d, e0, hW, en_len]
    refine callP (v := 0) (w := w) Ca rfl rfl rfl rfl hW ⟨rfl, ?_⟩
    cases ba with
    | false =>
      simp only [RZ, reduceAdd, reduceIte, reduceEqDiff, reduceLT, reduceLeDiff, reduceCtorEq, Nat.reduceBEq, rV, UCr_3.d, e0, hW, en_len]
      refine t31 z3 (pre fun e => by cases hba.2 e) _ _ _ ?_ ?_
      · exact e0
      · exact hW
    | true =>
      by_cases b1 : w.reader = 3
      · have k1 := eqn b1
        by_cases b3 : (w.queue.length : Int) > 0
        · simp only [RZ, reduceAdd, reduceIte, reduceEqDiff, reduceLT, reduceLeDiff, reduceCtorEq, Nat.reduceBEq, rV, UCr_3.d, e0, hW, en_len, k1, b3]
          refine ES.mk false (no fun g => by have := (g.an z3 (hba.1 rfl)).2; omega) ?_
          simp only [RZ, reduceAdd, reduceIte, reduceEqDiff, reduceLT, reduceLeDiff, reduceCtorEq, Nat.reduceBEq, rV, UCr_3.d, e0, hW, en_len, k1, b3]
        · simp only [RZ, reduceAdd, reduceIte, reduceEqDiff, reduceLT, reduceLeDiff, reduceCtorEq, Nat.reduceBEq, rV, UCr_3.d, e0, hW, en_len, k1, b3]
          refine t31 z3 (pre fun _ => ⟨b1, by omega⟩) _ _ _ ?_ ?_
          · exact e0
          · exact hW
      · have k1 := neqn b1
        simp only [RZ, reduceAdd, reduceIte, reduceEqDiff, reduceLT, reduceLeDiff, reduceCtorEq, Nat.reduceBEq, rV, UCr_3.d, e0, hW, en_len, k1]
        refine ES.mk false (no fun g => b1 (g.an z3 (hba.1 rfl)).1) ?_
        simp only [RZ, reduceAdd, reduceIte, reduceEqDiff, reduceLT, reduceLeDiff, reduceCtorEq, Nat.reduceBEq, rV, UCr_3.d, e0, hW, en_len, k1]
  have t15 : ((sh w 3 = 1 → w.user = 1) → (sh w 3 = 0 → 2 ≤ w.reader → w.next = w.jobs) → (sh w 3 = 0 → Any w → w.reader = 3 ∧ w.queue.length = 0) → (sh w 3 = 0 → (w.keeper = 4 ∨ w.keeper = 5) → w.closer = 1 ∧ w.results.length = 0) → (sh w 3 = 0 → w.user = 1 → w.keeper = 5 ∧ w.out.length = 0) → PEnds w) → ∀ (t : Nat → T) (H : HMap) (c : Nat), t 0 = wP 1000 0 → H 1000 = some (cwB 0 w) → wpa Tryz.prog X c77_15 (thenW Tryz.prog X (.seq c77_36 (.seq (.reg r77_37) .ret)) (endE (fun b : Bool => b = true ↔ PEnds w) T.b (fun _ => [rV 0 26 (cwC w) (cwC w)]) [.tmp 2])) ⟨t, H, c⟩ := by
    intro pre t H c e0 hW
    simp only [wP, T.c] at e0
    simp only [RZ, reduceAdd, reduceIte, reduceEqDiff, reduceLT, reduceLeDiff, reduceCtorEq, Nat.reduceBEq, rV, UCr_4.d, e0, hW, en_len]
    refine callP (v := 0) (w := w) Cs rfl rfl rfl rfl hW ⟨rfl, ?_⟩
    cases bs with
    | true =>
      have z3 := hbs.1 rfl
      simp only [RZ, reduceAdd, reduceIte, reduceEqDiff, reduceLT, reduceLeDiff, reduceCtorEq, Nat.reduceBEq, rV, UCr_4.d, e0, hW, en_len]
      by_cases b1 : w.user = 1
      · have k1 := eqb b1
        simp only [RZ, reduceAdd, reduceIte, reduceEqDiff, reduceLT, reduceLeDiff, reduceCtorEq, Nat.reduceBEq, rV, UCr_4.d, e0, hW, en_len, k1]
        refine ES.mk true (yes (pre (fun _ => b1) (fun e => by omega) (fun e => by omega) (fun e => by omega) (fun e => by omega))) ?_
        simp only [RZ, reduceAdd, reduceIte, reduceEqDiff, reduceLT, reduceLeDiff, reduceCtorEq, Nat.reduceBEq, rV, UCr_4.d, e0, hW, en_len, k1]
      · have k1 := neqb b1
        simp only [RZ, reduceAdd, reduceIte, reduceEqDiff, reduceLT, reduceLeDiff, reduceCtorEq, Nat.reduceBEq, rV, UCr_4.d, e0, hW, en_len, k1]
        refine ES.mk false (no fun g => b1 (g.us z3)) ?_
        simp only [RZ, reduceAdd, reduceIte, reduceEqDiff, reduceLT, reduceLeDiff, reduceCtorEq, Nat.reduceBEq, rV, UCr_4.d, e0, hW, en_len, k1]
    | false =>
      have z3 : sh w 3 = 0 := by
        by_cases e : sh w 3 = 1
        · cases hbs.2 e
        · omega
      by_cases c1 : w.reader = 2
      · have k1 := eqb c1
        by_cases b2 : w.next = w.jobs
        · have k2 := eqn b2
          simp only [RZ, reduceAdd, reduceIte, reduceEqDiff, reduceLT, reduceLeDiff, reduceCtorEq, Nat.reduceBEq, rV, UCr_4.d, e0, hW, en_len, k1, k2]
          refine t33 z3 (fun a d e => pre (fun e => by omega) (fun _ _ => b2) (fun _ => a) (fun _ => d) (fun _ => e)) _ _ _ ?_ ?_
          · exact e0
          · exact hW
        · have k2 := neqn b2
          simp only [RZ, reduceAdd, reduceIte, reduceEqDiff, reduceLT, reduceLeDiff, reduceCtorEq, Nat.reduceBEq, rV, UCr_4.d, e0, hW, en_len, k1, k2]
          refine ES.mk false (no fun g => b2 (g.rc z3 (by omega))) ?_
          simp only [RZ, reduceAdd, reduceIte, reduceEqDiff, reduceLT, reduceLeDiff, reduceCtorEq, Nat.reduceBEq, rV, UCr_4.d, e0, hW, en_len, k1, k2]
      by_cases c2 : w.reader = 3
      · have k1 := neqb c1
        have k3 := eqb c2
        by_cases b2 : w.next = w.jobs
        · have k2 := eqn b2
          simp only [RZ, reduceAdd, reduceIte, reduceEqDiff, reduceLT, reduceLeDiff, reduceCtorEq, Nat.reduceBEq, rV, UCr_4.d, e0, hW, en_len, k1, k2, k3]
          refine t33 z3 (fun a d e => pre (fun e => by omega) (fun _ _ => b2) (fun _ => a) (fun _ => d) (fun _ => e)) _ _ _ ?_ ?_
          · exact e0
          · exact hW
        · have k2 := neqn b2
          simp only [RZ, reduceAdd, reduceIte, reduceEqDiff, reduceLT, reduceLeDiff, reduceCtorEq, Nat.reduceBEq, rV, UCr_4.d, e0, hW, en_len, k1, k2, k3]
          refine ES.mk false (no fun g => b2 (g.rc z3 (by omega))) ?_
          simp only [RZ, reduceAdd, reduceIte, reduceEqDiff, reduceLT, reduceLeDiff, reduceCtorEq, Nat.reduceBEq, rV, UCr_4.d, e0, hW, en_len, k1, k2, k3]
      have k1 := neqb c1
      have k3 := neqb c2
      simp only [RZ, reduceAdd, reduceIte, reduceEqDiff, reduceLT, reduceLeDiff, reduceCtorEq, Nat.reduceBEq, rV, UCr_4.d, e0, hW, en_len, k1, k3]
      refine t33 z3 (fun a d e => pre (fun e => by omega) (fun _ g => by omega) (fun _ => a) (fun _ => d) (fun _ => e)) _ _ _ ?_ ?_
      · exact e0
      · exact hW
  simp only [RZ, reduceAdd, reduceIte, reduceEqDiff, reduceLT, reduceLeDiff, reduceCtorEq, Nat.reduceBEq, rV, UCr_5.d, s0, s1, s2, eI]
  refine callC (bit_ok (w.reader == 3)) rfl rfl rfl rfl ?_
  by_cases c0 : sh w 0 = 1 ↔ w.reader = 3
  rotate_left
  · have k1 := bitn y0 c0
    simp only [RZ, reduceAdd, reduceIte, reduceEqDiff, reduceLT, reduceLeDiff, reduceCtorEq, Nat.reduceBEq, rV, UCr_5.d, s0, s1, s2, eI, k1]
    refine ES.mk false (no fun g => c0 g.rd) ?_
    simp only [RZ, reduceAdd, reduceIte, reduceEqDiff, reduceLT, reduceLeDiff, reduceCtorEq, Nat.reduceBEq, rV, UCr_5.d, s0, s1, s2, eI, k1]
  have f0 := bitt y0 c0
  simp only [RZ, reduceAdd, reduceIte, reduceEqDiff, reduceLT, reduceLeDiff, reduceCtorEq, Nat.reduceBEq, rV, UCr_5.d, f0, s0, s1, s2, eI]
  refine callC (bit_ok (w.closer == 1)) rfl rfl rfl rfl ?_
  by_cases c1 : sh w 1 = 1 ↔ w.closer = 1
  rotate_left
  · have k1 := bitn y1 c1
    simp only [RZ, reduceAdd, reduceIte, reduceEqDiff, reduceLT, reduceLeDiff, reduceCtorEq, Nat.reduceBEq, rV, UCr_5.d, f0, s0, s1, s2, eI, k1]
    refine ES.mk false (no fun g => c1 g.cl) ?_
    simp only [RZ, reduceAdd, reduceIte, reduceEqDiff, reduceLT, reduceLeDiff, reduceCtorEq, Nat.reduceBEq, rV, UCr_5.d, f0, s0, s1, s2, eI, k1]
  have f1 := bitt y1 c1
  simp only [RZ, reduceAdd, reduceIte, reduceEqDiff, reduceLT, reduceLeDiff, reduceCtorEq, Nat.reduceBEq, rV, UCr_5.d, f1, f0, s0, s1, s2, eI]
  refine callC (bit_ok (w.keeper == 5)) rfl rfl rfl rfl ?_
  by_cases c2 : sh w 2 = 1 ↔ w.keeper = 5
  rotate_left
  · have k1 := bitn y2 c2
    simp only [RZ, reduceAdd, reduceIte, reduceEqDiff, reduceLT, reduceLeDiff, reduceCtorEq, Nat.reduceBEq, rV, UCr_5.d, f1, f0, s0, s1, s2, eI, k1]
    refine ES.mk false (no fun g => c2 g.kp) ?_
    simp only [RZ, reduceAdd, reduceIte, reduceEqDiff, reduceLT, reduceLeDiff, reduceCtorEq, Nat.reduceBEq, rV, UCr_5.d, f1, f0, s0, s1, s2, eI, k1]
  have f2 := bitt y2 c2
  simp only [RZ, reduceAdd, reduceIte, reduceEqDiff, reduceLT, reduceLeDiff, reduceCtorEq, Nat.reduceBEq, rV, UCr_5.d, f2, f1, f0, s0, s1, s2, eI]
  by_cases b1 : w.closer = 1
  · have k1 := eqb b1
    simp only [RZ, reduceAdd, reduceIte, reduceEqDiff, reduceLT, reduceLeDiff, reduceCtorEq, Nat.reduceBEq, rV, UCr_5.d, f2, f1, f0, s0, s1, s2, eI, k1]
    refine callP (v := 0) (w := w) Cl rfl rfl rfl rfl rfl ⟨rfl, ?_⟩
    cases bl with
    | true =>
      simp only [RZ, reduceAdd, reduceIte, reduceEqDiff, reduceLT, reduceLeDiff, reduceCtorEq, Nat.reduceBEq, rV, UCr_5.d, f2, f1, f0, s0, s1, s2, eI, k1]
      refine t15 (fun a b c d e => ⟨c0, c1, c2, fun _ => hbl.1 rfl, a, b, c, d, e⟩) _ _ _ ?_ ?_
      · rfl
      · rfl
    | false =>
      simp only [RZ, reduceAdd, reduceIte, reduceEqDiff, reduceLT, reduceLeDiff, reduceCtorEq, Nat.reduceBEq, rV, UCr_5.d, f2, f1, f0, s0, s1, s2, eI, k1]
      refine ES.mk false (no fun g => by cases hbl.2 (g.al b1)) ?_
      simp only [RZ, reduceAdd, reduceIte, reduceEqDiff, reduceLT, reduceLeDiff, reduceCtorEq, Nat.reduceBEq, rV, UCr_5.d, f2, f1, f0, s0, s1, s2, eI, k1]
  · have k1 := neqb b1
    simp only [RZ, reduceAdd, reduceIte, reduceEqDiff, reduceLT, reduceLeDiff, reduceCtorEq, Nat.reduceBEq, rV, UCr_5.d, f2, f1, f0, s0, s1, s2, eI, k1]
    refine t15 (fun a b c d e => ⟨c0, c1, c2, fun e => absurd e b1, a, b, c, d, e⟩) _ _ _ ?_ ?_
    · rfl
    · rfl
end Go.V
set_option linter.unusedSimpArgs false
namespace Go.V
open Go.Proofs
open Nat (reduceAdd reduceEqDiff reduceLT reduceLeDiff)
theorem b01 (x y : Int) (h : 0 ≤ x ∧ x ≤ 1) (hy : y = 0) : (if (x == y) = true then (1 : Int) else 0) = 1 - x := by
  subst hy
  rcases (by omega : x = 0 ∨ x = 1) with e | e <;> subst e <;> rfl
theorem bit_ge (x : Int) : (if decide (0 ≤ x) = true then (1 : Int) else 0) = if 0 ≤ x then 1 else 0 := by simp only [decide_eq_true_eq]
theorem hdC_at {r : Int} (h : 0 ≤ r ∧ r ≤ 3) : [iC 1, iC 9, iC 8, iC 0][r.toNat * 1]? = some (iC (hdL r)) := by
  rcases (by omega : r = 0 ∨ r = 1 ∨ r = 2 ∨ r = 3) with rfl | rfl | rfl | rfl <;> rfl
theorem kpC_at {r : Int} (h : 0 ≤ r ∧ r ≤ 5) : [iC 2, iC 3, iC 2, iC 4, iC 1, iC 0][r.toNat * 1]? = some (iC (kpL r)) := by
  rcases (by omega : r = 0 ∨ r = 1 ∨ r = 2 ∨ r = 3 ∨ r = 4 ∨ r = 5) with rfl | rfl | rfl | rfl | rfl | rfl <;> rfl
theorem n4 {r : Int} (h : 0 ≤ r ∧ r ≤ 3) : r.toNat < 4 := by omega
theorem n6 {r : Int} (h : 0 ≤ r ∧ r ≤ 5) : r.toNat < 6 := by omega
def sum0 (w : CW) : Int := 11 * (w.jobs - w.next) + 9 * w.queue.length + 6 * w.results.length + w.out.length
/- (*loop.example/teagle/impl.CrewWorld).left -/
def r40_0 : List AOper := [ao 0 2 (.mv (.k (.i 0)))]
def r40_1 : List AOper := [ao 0 8 (.mv (.t 0)),
  ao 1 9 (.nck (.t 8)),
  ao 2 10 (.fa 0 (.t 9)),
  ao 3 11 (.ld 1 false (.t 10)),
  au 4 12 (ru 4) (.mv (.t 0)),
  au 5 13 (ru 4) (.nck (.t 12)),
  au 6 14 (ru 4) (.fa 3 (.t 13)),
  au 7 15 (ru 4) (.ld 1 false (.t 14)),
  ao 8 16 (.bin .sub (.t 11) (.t 15)),
  ao 9 17 (.bin .mul (.k (.i 11)) (.t 16)),
  au 10 18 (ru 10) (.mv (.t 0)),
  au 11 19 (ru 10) (.nck (.t 18)),
  au 12 20 (ru 10) (.fa 5 (.t 19)),
  au 13 21 (ru 10) (.ld 1 false (.t 20)),
  au 14 22 (ru 10) (.len (.t 21)),
  au 15 23 (ru 10) (.bin .mul (.k (.i 9)) (.t 22)),
  ao 16 24 (.bin .add (.t 17) (.t 23)),
  au 17 25 (ru 17) (.mv (.t 0)),
  au 18 26 (ru 17) (.nck (.t 25)),
  au 19 27 (ru 17) (.fa 8 (.t 26)),
  au 20 28 (ru 17) (.ld 1 false (.t 27)),
  au 21 29 (ru 17) (.len (.t 28)),
  au 22 30 (ru 17) (.bin .mul (.k (.i 6)) (.t 29)),
  ao 23 31 (.bin .add (.t 24) (.t 30)),
  au 24 32 (ru 24) (.mv (.t 0)),
  au 25 33 (ru 24) (.nck (.t 32)),
  au 26 34 (ru 24) (.fa 12 (.t 33)),
  au 27 35 (ru 24) (.ld 1 false (.t 34)),
  au 28 36 (ru 24) (.len (.t 35)),
  ao 29 37 (.bin .add (.t 31) (.t 36)),
  ao 30 3 (.mv (.t 37))]
def r40_2 : List AOper := [ao 0 38 (.mv (.t 0)),
  ao 1 39 (.nck (.t 38)),
  ao 2 40 (.fa 4 (.t 39)),
  ao 3 41 (.ld 1 false (.t 40))]
def r40_3 : List AOper := [ao 0 43 (.bin .eql (.t 41) (.k (.i 0))),
  ao 1 42 (.mv (.t 43))]
def r40_4 : List AOper := [ao 0 44 (.mv (.t 3)),
  ao 1 45 (.bin .add (.t 44) (.k (.i 2))),
  ao 2 3 (.mv (.t 45))]
def r40_5 : List AOper := [ao 0 47 (.bin .eql (.t 41) (.k (.i 1))),
  ao 1 46 (.mv (.t 47))]
def r40_6 : List AOper := [ao 0 48 (.mv (.t 3)),
  ao 1 49 (.bin .add (.t 48) (.k (.i 12))),
  ao 2 3 (.mv (.t 49))]
def r40_7 : List AOper := [ao 0 51 (.bin .eql (.t 41) (.k (.i 2))),
  ao 1 50 (.mv (.t 51))]
def r40_8 : List AOper := [ao 0 52 (.mv (.t 3)),
  ao 1 53 (.bin .add (.t 52) (.k (.i 1))),
  ao 2 3 (.mv (.t 53))]
def c40_9 : ACode := .cond (.t 50) (.reg r40_8) .skip
def c40_10 : ACode := .seq (.reg r40_7) c40_9
def c40_11 : ACode := .cond (.t 46) (.reg r40_6) c40_10
def c40_12 : ACode := .seq (.reg r40_5) c40_11
def c40_13 : ACode := .cond (.t 42) (.reg r40_4) c40_12
def c40_14 : ACode := .seq (.reg r40_3) c40_13
def c40_15 : ACode := .block 0 c40_14
def c40_16 : ACode := .seq (.reg r40_2) c40_15
def r40_17 : List AOper := [ao 0 54 (.mv (.t 0)),
  ao 1 55 (.nck (.t 54)),
  ao 2 56 (.fa 6 (.t 55)),
  ao 3 57 (.ld 1 false (.t 56)),
  ao 4 58 (.len (.t 57)),
  ao 5 59 (.mv (.k (.i 0)))]
def r40_18 : List AOper := [ao 0 60 (.bin .lss (.t 59) (.t 58))]
def c40_19 : ACode := .cond (.t 60) .skip (.exit 1)
def r40_20 : List AOper := [ao 0 61 (.ia 2 (.t 57) (.t 59)),
  ao 1 62 (.ld 2 true (.t 61)),
  ao 2 5 (.alloc 68 [(.v (.s (.int .i64 0))), (.v (.s (.int .i64 0)))]),
  an 3 (.st 2 (.t 5) (.t 62))]
def r40_21 : List AOper := [ao 0 63 (.mv (.t 3)),
  ao 1 64 (.build [(.v (.s (.int .i64 0))), (.v (.s (.int .i64 0))), (.v (.s (.int .i64 0))), (.v (.s (.int .i64 0)))] [(0, 1, (.k (.i 1))), (1, 1, (.k (.i 9))), (2, 1, (.k (.i 8))), (3, 1, (.k (.i 0)))]),
  ao 2 65 (.fa 0 (.t 5)),
  ao 3 66 (.ld 1 false (.t 65)),
  ao 4 67 (.ixA 4 1 false (.t 64) (.t 66)),
  ao 5 68 (.bin .add (.t 63) (.t 67)),
  ao 6 3 (.mv (.t 68))]
def c40_22 : ACode := .seq (.reg r40_20) (.reg r40_21)
def c40_23 : ACode := .block 2 c40_22
def r40_24 : List AOper := [ao 0 69 (.bin .add (.t 59) (.k (.i 1))),
  ao 1 59 (.mv (.t 69))]
def c40_25 : ACode := .seq (.reg r40_18) (.seq c40_19 (.seq c40_23 (.reg r40_24)))
def c40_26 : ACode := .loop c40_25
def c40_27 : ACode := .block 1 c40_26
def c40_28 : ACode := .seq (.reg r40_17) c40_27
def r40_29 : List AOper := [ao 0 70 (.mv (.t 0)),
  ao 1 71 (.nck (.t 70)),
  ao 2 72 (.fa 10 (.t 71)),
  ao 3 73 (.ld 1 false (.t 72)),
  ao 4 74 (.len (.t 73)),
  ao 5 75 (.mv (.k (.i 0)))]
def r40_30 : List AOper := [ao 0 76 (.bin .lss (.t 75) (.t 74))]
def c40_31 : ACode := .cond (.t 76) .skip (.exit 3)
def r40_32 : List AOper := [ao 0 77 (.ia 1 (.t 73) (.t 75)),
  ao 1 78 (.ld 1 false (.t 77)),
  ao 2 7 (.mv (.t 78))]
def r40_33 : List AOper := [ao 0 79 (.mv (.t 3)),
  ao 1 80 (.mv (.t 7)),
  ao 2 81 (.bin .geq (.t 80) (.k (.i 0))),
  ao 3 82 (.call (.k (.c (.fn 79 []))) [(.t 81)]),
  ao 4 83 (.bin .mul (.k (.i 4)) (.t 82)),
  ao 5 84 (.bin .add (.t 79) (.t 83)),
  ao 6 3 (.mv (.t 84))]
def c40_34 : ACode := .seq (.reg r40_32) (.reg r40_33)
def c40_35 : ACode := .block 4 c40_34
def r40_36 : List AOper := [ao 0 85 (.bin .add (.t 75) (.k (.i 1))),
  ao 1 75 (.mv (.t 85))]
def c40_37 : ACode := .seq (.reg r40_30) (.seq c40_31 (.seq c40_35 (.reg r40_36)))
def c40_38 : ACode := .loop c40_37
def c40_39 : ACode := .block 3 c40_38
def c40_40 : ACode := .seq (.reg r40_29) c40_39
def r40_41 : List AOper := [ao 0 86 (.mv (.t 3)),
  au 1 87 [0] (.mv (.t 0)),
  au 2 88 [0] (.nck (.t 87)),
  au 3 89 [0] (.fa 7 (.t 88)),
  au 4 90 [0] (.ld 1 false (.t 89)),
  au 5 91 [0] (.bin .eql (.t 90) (.k (.i 0))),
  au 6 92 [0] (.call (.k (.c (.fn 79 []))) [(.t 91)]),
  ao 7 93 (.bin .add (.t 86) (.t 92)),
  au 8 94 (ru 8) (.build [(.v (.s (.int .i64 0))), (.v (.s (.int .i64 0))), (.v (.s (.int .i64 0))), (.v (.s (.int .i64 0))), (.v (.s (.int .i64 0))), (.v (.s (.int .i64 0)))] [(0, 1, (.k (.i 2))), (1, 1, (.k (.i 3))), (2, 1, (.k (.i 2))), (3, 1, (.k (.i 4))), (4, 1, (.k (.i 1))), (5, 1, (.k (.i 0)))]),
  au 9 95 (ru 9) (.mv (.t 0)),
  au 10 96 (ru 9) (.nck (.t 95)),
  au 11 97 (ru 9) (.fa 9 (.t 96)),
  au 12 98 (ru 9) (.ld 1 false (.t 97)),
  au 13 99 (ru 8) (.ixA 6 1 false (.t 94) (.t 98)),
  ao 14 100 (.bin .add (.t 93) (.t 99)),
  au 15 101 (ru 15) (.mv (.t 0)),
  au 16 102 (ru 15) (.nck (.t 101)),
  au 17 103 (ru 15) (.fa 13 (.t 102)),
  au 18 104 (ru 15) (.ld 1 false (.t 103)),
  au 19 105 (ru 15) (.bin .eql (.t 104) (.k (.i 0))),
  au 20 106 [0, 7, 8, 9, 10, 11, 12, 13, 14] (.call (.k (.c (.fn 79 []))) [(.t 105)]),
  ao 21 107 (.bin .add (.t 100) (.t 106)),
  ao 22 2 (.mv (.t 107))]
def c40 : ACode := .seq (.reg r40_0) (.seq (.reg r40_1) (.seq c40_16 (.seq c40_28 (.seq c40_40 (.seq (.reg r40_41) .ret)))))
def s40 : List ARes := [.tmp 2]
theorem ok40 : okF Tryz.prog 40 108 c40 s40 := ⟨Tryz.f40, Tryz.func40, Tryz.ntmps40, by kernel_rfl, by kernel_rfl, by kernel_rfl⟩
def inv40a (w : CW) (i : Nat) (σ : St) : Prop := σ.t 0 = wP 1000 0 ∧ σ.H 1000 = some (cwB 0 w) ∧ σ.t 3 = .i (sum0 w + rdL w.reader + sumL (w.hands.take i)) ∧ σ.t 57 = tL (en eH w.hands) ∧ σ.t 58 = .i w.hands.length ∧ σ.t 59 = .i i
def inv40b (w : CW) (i : Nat) (σ : St) : Prop := σ.t 0 = wP 1000 0 ∧ σ.H 1000 = some (cwB 0 w) ∧ σ.t 3 = .i (sum0 w + rdL w.reader + sumL w.hands + 4 * (rJobs (w.ring.take i)).length) ∧ σ.t 73 = tL (en eI w.ring) ∧ σ.t 74 = .i w.ring.length ∧ σ.t 75 = .i i
def UCs_1 := Bx.mk <|
  aN (uA c40.eq_1) <| aN (uR r40_0.eq_1) <| aN (uR r40_1.eq_1) <| aN (uA c40_16.eq_1) <| aN (uR r40_2.eq_1) <| aN (uA c40_15.eq_1) <| aN (uA c40_14.eq_1) <| aN (uR r40_3.eq_1) <| aN (uA c40_13.eq_1) <| aN (uR r40_4.eq_1) <| aN (uA c40_12.eq_1) <| aN (uR r40_5.eq_1) <| aN (uA c40_11.eq_1) <| aN (uR r40_6.eq_1) <| aN (uA c40_10.eq_1) <| aN (uR r40_7.eq_1) <| aN (uA c40_9.eq_1) <| aN (uR r40_8.eq_1) <| aN (uA c40_28.eq_1) <| aN (uR r40_17.eq_1) <| aN (uA c40_27.eq_1) <| aN (uA c40_26.eq_1) <| aN (uR r40_41.eq_1) <| s40.eq_1
def UCs_2 := Bx.mk <|
  aN (uA c40.eq_1) <| aN (uR r40_0.eq_1) <| aN (uR r40_1.eq_1) <| aN (uA c40_16.eq_1) <| aN (uR r40_2.eq_1) <| aN (uA c40_15.eq_1) <| aN (uA c40_14.eq_1) <| aN (uR r40_3.eq_1) <| aN (uA c40_13.eq_1) <| aN (uR r40_4.eq_1) <| aN (uA c40_12.eq_1) <| aN (uR r40_5.eq_1) <| aN (uA c40_11.eq_1) <| aN (uR r40_6.eq_1) <| aN (uA c40_10.eq_1) <| aN (uR r40_7.eq_1) <| aN (uA c40_9.eq_1) <| aN (uR r40_8.eq_1) <| aN (uA c40_40.eq_1) <| aN (uR r40_29.eq_1) <| aN (uA c40_39.eq_1) <| aN (uA c40_38.eq_1) <| aN (uR r40_41.eq_1) <| s40.eq_1
def UCs_3 := Bx.mk <|
  aN (uA c40_25.eq_1) <| aN (uR r40_18.eq_1) <| aN (uA c40_19.eq_1) <| aN (uA c40_23.eq_1) <| aN (uA c40_22.eq_1) <| aN (uR r40_20.eq_1) <| aN (uR r40_21.eq_1) <| aN (uR r40_24.eq_1) <| aN (uA c40.eq_1) <| aN (uR r40_0.eq_1) <| aN (uR r40_1.eq_1) <| aN (uA c40_16.eq_1) <| aN (uR r40_2.eq_1) <| aN (uA c40_15.eq_1) <| aN (uA c40_14.eq_1) <| aN (uR r40_3.eq_1) <| aN (uA c40_13.eq_1) <| aN (uR r40_4.eq_1) <| aN (uA c40_12.eq_1) <| aN (uR r40_5.eq_1) <| aN (uA c40_11.eq_1) <| aN (uR r40_6.eq_1) <| aN (uA c40_10.eq_1) <| aN (uR r40_7.eq_1) <| aN (uA c40_9.eq_1) <| aN (uR r40_8.eq_1) <| aN (uA c40_28.eq_1) <| aN (uR r40_17.eq_1) <| aN (uA c40_27.eq_1) <| aN (uA c40_26.eq_1) <| aN (uA c40_40.eq_1) <| aN (uR r40_29.eq_1) <| aN (uA c40_39.eq_1) <| aN (uA c40_38.eq_1) <| aN (uR r40_41.eq_1) <| s40.eq_1
def UCs_4 := Bx.mk <|
  aN (uA c40_25.eq_1) <| aN (uR r40_18.eq_1) <| aN (uA c40_19.eq_1) <| aN (uA c40_23.eq_1) <| aN (uA c40_22.eq_1) <| aN (uR r40_20.eq_1) <| aN (uR r40_21.eq_1) <| aN (uR r40_24.eq_1) <| aN (uA c40.eq_1) <| aN (uR r40_0.eq_1) <| aN (uR r40_1.eq_1) <| aN (uA c40_16.eq_1) <| aN (uR r40_2.eq_1) <| aN (uA c40_15.eq_1) <| aN (uA c40_14.eq_1) <| aN (uR r40_3.eq_1) <| aN (uA c40_13.eq_1) <| aN (uR r40_4.eq_1) <| aN (uA c40_12.eq_1) <| aN (uR r40_5.eq_1) <| aN (uA c40_11.eq_1) <| aN (uR r40_6.eq_1) <| aN (uA c40_10.eq_1) <| aN (uR r40_7.eq_1) <| aN (uA c40_9.eq_1) <| aN (uR r40_8.eq_1) <| aN (uA c40_28.eq_1) <| aN (uR r40_17.eq_1) <| aN (uA c40_27.eq_1) <| aN (uA c40_26.eq_1) <| aN (uA c40_40.eq_1) <| aN (uR r40_29.eq_1) <| aN (uA c40_39.eq_1) <| aN (uA c40_38.eq_1) <| s40.eq_1
def UCs_5 := Bx.mk <|
  aN (uA c40_37.eq_1) <| aN (uR r40_30.eq_1) <| aN (uA c40_31.eq_1) <| aN (uA c40_35.eq_1) <| aN (uA c40_34.eq_1) <| aN (uR r40_32.eq_1) <| aN (uR r40_33.eq_1) <| aN (uR r40_36.eq_1) <| aN (uA c40.eq_1) <| aN (uR r40_0.eq_1) <| aN (uR r40_1.eq_1) <| aN (uA c40_16.eq_1) <| aN (uR r40_2.eq_1) <| aN (uA c40_15.eq_1) <| aN (uA c40_14.eq_1) <| aN (uR r40_3.eq_1) <| aN (uA c40_13.eq_1) <| aN (uR r40_4.eq_1) <| aN (uA c40_12.eq_1) <| aN (uR r40_5.eq_1) <| aN (uA c40_11.eq_1) <| aN (uR r40_6.eq_1) <| aN (uA c40_10.eq_1) <| aN (uR r40_7.eq_1) <| aN (uA c40_9.eq_1) <| aN (uR r40_8.eq_1) <| aN (uA c40_28.eq_1) <| aN (uR r40_17.eq_1) <| aN (uA c40_27.eq_1) <| aN (uA c40_26.eq_1) <| aN (uA c40_40.eq_1) <| aN (uR r40_29.eq_1) <| aN (uA c40_39.eq_1) <| aN (uA c40_38.eq_1) <| aN (uR r40_41.eq_1) <| s40.eq_1
set_option maxRecDepth 4000 in
set_option maxHeartbeats 1000000 in
theorem pleft_ok {w : CW} (h : Form w) : WC 40 [] w (fun x : Int => x = left w) T.i := by
  have hr := h.lr
  have hh := h.lh
  have hn := h.st.n
  have hk := h.st.k
  have hj := h.st.j
  have hx := h.next
  have hq := h.lq
  have he := h.le
  have ho := h.lo
  have hcl := h.cl
  have hus := h.us
  have hrd := h.rd
  have b1 := rdL_bd w.reader
  have b2 := kpL_bd w.keeper
  have b3 : 0 ≤ sum0 w ∧ sum0 w ≤ 800 := by unfold sum0; omega
  have w1 : IntKind.i64.wrap (w.jobs - w.next) = w.jobs - w.next := wrap64 ⟨by omega, by omega⟩
  have w2 : IntKind.i64.wrap (11 * (w.jobs - w.next)) = 11 * (w.jobs - w.next) := wrap64 ⟨by omega, by omega⟩
  have w3 : IntKind.i64.wrap (9 * (w.queue.length : Int)) = 9 * (w.queue.length : Int) := wrap64 ⟨by omega, by omega⟩
  have w4 : IntKind.i64.wrap (6 * (w.results.length : Int)) = 6 * (w.results.length : Int) := wrap64 ⟨by omega, by omega⟩
  have w5 : IntKind.i64.wrap (11 * (w.jobs - w.next) + 9 * (w.queue.length : Int)) = 11 * (w.jobs - w.next) + 9 * (w.queue.length : Int) := wrap64 ⟨by omega, by omega⟩
  have w6 : IntKind.i64.wrap (11 * (w.jobs - w.next) + 9 * (w.queue.length : Int) + 6 * (w.results.length : Int)) = 11 * (w.jobs - w.next) + 9 * (w.queue.length : Int) + 6 * (w.results.length : Int) := wrap64 ⟨by omega, by omega⟩
  have w7 : IntKind.i64.wrap (11 * (w.jobs - w.next) + 9 * (w.queue.length : Int) + 6 * (w.results.length : Int) + (w.out.length : Int)) = sum0 w := wrap64 (x := sum0 w) ⟨by omega, by omega⟩
  have u0 : IntKind.i64.wrap (sum0 w + 2) = sum0 w + 2 := wrap64 ⟨by omega, by omega⟩
  have u1 : IntKind.i64.wrap (sum0 w + 12) = sum0 w + 12 := wrap64 ⟨by omega, by omega⟩
  have u2 : IntKind.i64.wrap (sum0 w + 1) = sum0 w + 1 := wrap64 ⟨by omega, by omega⟩
  refine WC.intro ok40 rfl (fun _ => rfl) fun X => ?_
  have main : ∀ (t : Nat → T) (H : HMap) (c : Nat), t 0 = wP 1000 0 → H 1000 = some (cwB 0 w) → t 3 = .i (sum0 w + rdL w.reader) → wpa Tryz.prog X c40_28 (thenW Tryz.prog X (.seq c40_40 (.seq (.reg r40_41) .ret)) (endE (fun x : Int => x = left w) T.i (fun _ => [rV 0 26 (cwC w) (cwC w)]) [.tmp 2])) ⟨t, H, c⟩ := by
    intro t H c e0 hW e3
    simp only [wP, T.c, T.i] at e0 e3
    simp only [RZ, reduceAdd, reduceIte, reduceEqDiff, reduceLT, reduceLeDiff, reduceCtorEq, Nat.reduceBEq, rV, UCs_1.d, e0, hW, e3, en_len]
    refine AW.upto w.hands.length (inv40a w) ⟨e0, hW, ?_, rfl, rfl, rfl⟩ fun i t H c hi h' => ?_
    · show t 3 = _
      rw [e3, List.take_zero]
      simp only [sumL, List.map_nil, List.sum_nil, Int.add_zero, T.i]
    clear e0 hW e3
    obtain ⟨e0, hW, e3, e57, e58, e59⟩ := h'
    simp only [wP, T.c, T.i] at e0 hW e3 e57 e58 e59
    have b4 := sumL_bd (w.hands.take i)
    have b5 := take_le w.hands i
    by_cases k1 : (i : Int) < w.hands.length
    · obtain ⟨x, hx⟩ : ∃ x, w.hands[i]? = some x := ⟨_, List.getElem?_eq_getElem (by omega)⟩
      have ex := en_at eH hx
      have gz : (0 : Int) ≤ i := by omega
      have gw := w1_ok (i := i) (by omega)
      have hs := (h.hand x (List.mem_of_getElem? hx)).state
      have b6 := hdL_bd x.state
      have v1 : IntKind.i64.wrap (sum0 w + rdL w.reader + sumL (w.hands.take i) + hdL x.state) = sum0 w + rdL w.reader + sumL (w.hands.take i) + hdL x.state := wrap64 ⟨by omega, by omega⟩
      have hq0 : x.state = 0 ∨ x.state = 1 ∨ x.state = 2 ∨ x.state = 3 := by omega
      simp only [RZ, reduceAdd, reduceIte, reduceEqDiff, reduceLT, reduceLeDiff, reduceCtorEq, Nat.reduceBEq, rV, UCs_3.d, e0, hW, e3, e57, e58, e59, en_len, k1, ex, gz, gw, eH, hs.1, n4 hs, hdC_at hs, v1]
      exact ⟨by omega, e0, hW, by show _ = T.i _; rw [sumL_take hx, ← Int.add_assoc]; rfl, e57, e58, rfl⟩
    have hi2 : i = w.hands.length := by omega
    subst hi2
    rw [List.take_length] at e3 b4
    simp only [RZ, reduceAdd, reduceIte, reduceEqDiff, reduceLT, reduceLeDiff, reduceCtorEq, Nat.reduceBEq, rV, UCs_4.d, e0, hW, e3, e57, e58, e59, en_len, k1]
    refine AW.upto w.ring.length (inv40b w) ⟨e0, hW, ?_, rfl, rfl, rfl⟩ fun i t H c hi h' => ?_
    · show t 3 = _
      rw [e3]; simp [rJobs]
    clear e0 hW e3 e57 e58 e59 k1
    obtain ⟨e0, hW, e3, e73, e74, e75⟩ := h'
    simp only [wP, T.c, T.i] at e0 hW e3 e73 e74 e75
    have b6 := rJobs_len (w.ring.take i)
    have b7 := take_le w.ring i
    by_cases k1 : (i : Int) < w.ring.length
    · obtain ⟨x, hx⟩ : ∃ x, w.ring[i]? = some x := ⟨_, List.getElem?_eq_getElem (by omega)⟩
      have ex := en_at eI hx
      have gz : (0 : Int) ≤ i := by omega
      have gw := w1_ok (i := i) (by omega)
      have ht := rJobs_take hx
      obtain ⟨q, hq, hq4, hl⟩ : ∃ q : Int, (if 0 ≤ x then (1 : Int) else 0) = q ∧ (0 ≤ q ∧ q ≤ 1) ∧ 4 * ((rJobs (w.ring.take (i + 1))).length : Int) = 4 * ((rJobs (w.ring.take i)).length : Int) + 4 * q := by
        by_cases c1 : 0 ≤ x
        · rw [if_pos c1] at ht ⊢
          exact ⟨1, rfl, by omega, by rw [ht, List.length_append, List.length_singleton]; omega⟩
        · rw [if_neg c1] at ht ⊢
          exact ⟨0, rfl, by omega, by rw [ht]; omega⟩
      have v1 : IntKind.i64.wrap (4 * q) = 4 * q := wrap64 ⟨by omega, by omega⟩
      have v2 : IntKind.i64.wrap (sum0 w + rdL w.reader + sumL w.hands + 4 * ((rJobs (w.ring.take i)).length : Int) + 4 * q) = sum0 w + rdL w.reader + sumL w.hands + 4 * ((rJobs (w.ring.take (i + 1))).length : Int) := by rw [wrap64 ⟨by omega, by omega⟩]; omega
      simp only [RZ, reduceAdd, reduceIte, reduceEqDiff, reduceLT, reduceLeDiff, reduceCtorEq, Nat.reduceBEq, rV, UCs_5.d, e0, hW, e3, e73, e74, e75, en_len, k1, ex, gz, gw, eI, ge_iff_le]
      refine callC (bit_ok (decide (0 ≤ x))) rfl rfl rfl rfl ?_
      simp only [RZ, reduceAdd, reduceIte, reduceEqDiff, reduceLT, reduceLeDiff, reduceCtorEq, Nat.reduceBEq, rV, UCs_5.d, e0, hW, e3, e73, e74, e75, en_len, k1, ex, gz, gw, eI, ge_iff_le, bit_ge, hq, v1, v2]
      exact ⟨by omega, e0, hW, rfl, e73, e74, rfl⟩
    have hi2 : i = w.ring.length := by omega
    subst hi2
    rw [List.take_length] at e3
    have b8 := rJobs_len w.ring
    have f1 := b01 w.closer 0 hcl rfl
    have f2 := b01 w.user 0 hus rfl
    have v1 : IntKind.i64.wrap (sum0 w + rdL w.reader + sumL w.hands + 4 * ((rJobs w.ring).length : Int) + (1 - w.closer)) = sum0 w + rdL w.reader + sumL w.hands + 4 * ((rJobs w.ring).length : Int) + (1 - w.closer) := wrap64 ⟨by omega, by omega⟩
    have v2 : IntKind.i64.wrap (sum0 w + rdL w.reader + sumL w.hands + 4 * ((rJobs w.ring).length : Int) + (1 - w.closer) + kpL w.keeper) = sum0 w + rdL w.reader + sumL w.hands + 4 * ((rJobs w.ring).length : Int) + (1 - w.closer) + kpL w.keeper := wrap64 ⟨by omega, by omega⟩
    have v3 : IntKind.i64.wrap (sum0 w + rdL w.reader + sumL w.hands + 4 * ((rJobs w.ring).length : Int) + (1 - w.closer) + kpL w.keeper + (1 - w.user)) = left w := by
      rw [wrap64 ⟨by omega, by omega⟩]
      unfold left base sum0
      omega
    simp only [RZ, reduceAdd, reduceIte, reduceEqDiff, reduceLT, reduceLeDiff, reduceCtorEq, Nat.reduceBEq, rV, UCs_5.d, e0, hW, e3, e73, e74, e75, en_len, k1]
    refine callC (bit_ok (w.closer == 0)) rfl rfl rfl rfl ?_
    simp only [RZ, reduceAdd, reduceIte, reduceEqDiff, reduceLT, reduceLeDiff, reduceCtorEq, Nat.reduceBEq, rV, UCs_5.d, e0, hW, e3, e73, e74, e75, en_len, k1, f1, v1, kpC_at h.kp, n6 h.kp, h.kp.1, v2]
    refine callC (bit_ok (w.user == 0)) rfl rfl rfl rfl ?_
    simp only [RZ, reduceAdd, reduceIte, reduceEqDiff, reduceLT, reduceLeDiff, reduceCtorEq, Nat.reduceBEq, rV, UCs_5.d, e0, hW, e3, e73, e74, e75, en_len, k1, f1, f2, v1, kpC_at h.kp, n6 h.kp, h.kp.1, v2, v3]
    exact ES.mk _ rfl (by simp only [RZ, reduceAdd, reduceIte, reduceEqDiff, reduceLT, reduceLeDiff, reduceCtorEq, Nat.reduceBEq, rV, UCs_5.d, e0, hW, e3, e73, e74, e75, en_len, k1, f1, f2, v1, kpC_at h.kp, n6 h.kp, h.kp.1, v2, v3])
  by_cases c0 : w.reader = 0
  · have k0 := eqb c0
    simp only [RZ, reduceAdd, reduceIte, reduceEqDiff, reduceLT, reduceLeDiff, reduceCtorEq, Nat.reduceBEq, rV, UCs_2.d, en_len, k0, w1, w2, w3, w4, w5, w6, w7, u0, u1, u2]
    refine main _ _ _ ?_ ?_ ?_
    · rfl
    · rfl
    · rw [c0]; rfl
  have k0 := neqb c0
  by_cases c1 : w.reader = 1
  · have k1 := eqb c1
    simp only [RZ, reduceAdd, reduceIte, reduceEqDiff, reduceLT, reduceLeDiff, reduceCtorEq, Nat.reduceBEq, rV, UCs_2.d, en_len, k0, k1, w1, w2, w3, w4, w5, w6, w7, u0, u1, u2]
    refine main _ _ _ ?_ ?_ ?_
    · rfl
    · rfl
    · rw [c1]; rfl
  have k1 := neqb c1
  by_cases c2 : w.reader = 2
  · have k2 := eqb c2
    simp only [RZ, reduceAdd, reduceIte, reduceEqDiff, reduceLT, reduceLeDiff, reduceCtorEq, Nat.reduceBEq, rV, UCs_2.d, en_len, k0, k1, k2, w1, w2, w3, w4, w5, w6, w7, u0, u1, u2]
    refine main _ _ _ ?_ ?_ ?_
    · rfl
    · rfl
    · rw [c2]; rfl
  have k2 := neqb c2
  have c3 : w.reader = 3 := by omega
  simp only [RZ, reduceAdd, reduceIte, reduceEqDiff, reduceLT, reduceLeDiff, reduceCtorEq, Nat.reduceBEq, rV, UCs_2.d, en_len, k0, k1, k2, w1, w2, w3, w4, w5, w6, w7, u0, u1, u2]
  refine main _ _ _ ?_ ?_ ?_
  · rfl
  · rfl
  · rw [c3]
    show _ = T.i (sum0 w + 0)
    rw [Int.add_zero]; rfl
end Go.V
set_option linter.unusedSimpArgs false
namespace Go.V
open Go.Proofs
open Nat (reduceAdd reduceEqDiff reduceLT reduceLeDiff)
/- (*loop.example/teagle/impl.CrewWorld).isOk -/
def r38_0 : List AOper := [ao 0 2 (.mv (.k (.b false)))]
def r38_1 : List AOper := [ao 0 3 (.mv (.t 0)),
  ao 1 4 (.call (.k (.c (.fn 75 []))) [(.t 3)]),
  ao 2 5 (.un .not (.t 4)),
  ao 3 6 (.mv (.t 5)),
  ag 4 7 6 false [] (.mv (.t 0)),
  ag 5 8 6 false [] (.call (.k (.c (.fn 76 []))) [(.t 7)]),
  ag 6 9 6 false [] (.un .not (.t 8)),
  ao 7 10 (.pick (.t 6) (.k (.b true)) (.t 9)),
  ao 8 11 (.mv (.t 10)),
  ag 9 12 11 false [] (.mv (.t 0)),
  ag 10 13 11 false [] (.call (.k (.c (.fn 77 []))) [(.t 12)]),
  ag 11 14 11 false [] (.un .not (.t 13)),
  ao 12 15 (.pick (.t 11) (.k (.b true)) (.t 14))]
def r38_2 : List AOper := [ao 0 2 (.mv (.k (.b false)))]
def c38_3 : ACode := .seq (.reg r38_2) .ret
def c38_4 : ACode := .cond (.t 15) c38_3 .skip
def c38_5 : ACode := .seq (.reg r38_1) c38_4
def r38_6 : List AOper := [ao 0 16 (.mv (.t 0)),
  ao 1 17 (.nck (.t 16)),
  ao 2 18 (.fa 9 (.t 17)),
  ao 3 19 (.ld 1 false (.t 18)),
  ao 4 20 (.bin .eql (.t 19) (.k (.i 0))),
  ao 5 21 (.mv (.t 20)),
  ag 6 22 21 true [] (.mv (.t 0)),
  ag 7 23 21 true [] (.call (.k (.c (.fn 78 []))) [(.t 22)]),
  ao 8 24 (.pick (.t 21) (.t 23) (.k (.b false))),
  ao 9 25 (.mv (.t 24)),
  ag 10 26 25 false [] (.mv (.t 0)),
  ag 11 27 25 false [] (.nck (.t 26)),
  ag 12 28 25 false [] (.fa 9 (.t 27)),
  ag 13 29 25 false [] (.ld 1 false (.t 28)),
  ag 14 30 25 false [] (.bin .eql (.t 29) (.k (.i 2))),
  ag 15 31 25 false [] (.mv (.t 30)),
  ag 16 32 31 true [] (.mv (.t 0)),
  ag 17 33 31 true [] (.call (.k (.c (.fn 78 []))) [(.t 32)]),
  ag 18 34 31 true [] (.un .not (.t 33)),
  ag 19 35 25 false [] (.pick (.t 31) (.t 34) (.k (.b false))),
  ao 20 36 (.pick (.t 25) (.k (.b true)) (.t 35))]
def r38_7 : List AOper := [ao 0 2 (.mv (.k (.b false)))]
def c38_8 : ACode := .seq (.reg r38_7) .ret
def c38_9 : ACode := .cond (.t 36) c38_8 .skip
def c38_10 : ACode := .seq (.reg r38_6) c38_9
def r38_11 : List AOper := [ao 0 37 (.mv (.t 0)),
  ao 1 38 (.nck (.t 37)),
  ao 2 39 (.fa 17 (.t 38)),
  ao 3 40 (.ld 1 false (.t 39)),
  au 4 41 (ru 4) (.mv (.t 0)),
  au 5 42 (ru 4) (.call (.k (.c (.fn 40 []))) [(.t 41)]),
  ao 6 43 (.bin .add (.t 40) (.t 42)),
  au 7 44 (ru 7) (.mv (.t 0)),
  au 8 45 (ru 7) (.nck (.t 44)),
  au 9 46 (ru 7) (.fa 0 (.t 45)),
  au 10 47 (ru 7) (.ld 1 false (.t 46)),
  au 11 48 (ru 7) (.bin .mul (.k (.i 11)) (.t 47)),
  au 12 49 (ru 12) (.mv (.t 0)),
  au 13 50 (ru 12) (.nck (.t 49)),
  au 14 51 (ru 12) (.fa 1 (.t 50)),
  au 15 52 (ru 12) (.ld 1 false (.t 51)),
  au 16 53 (ru 7) (.bin .add (.t 48) (.t 52)),
  au 17 54 (ru 7) (.bin .add (.t 53) (.k (.i 7))),
  ao 18 55 (.bin .leq (.t 43) (.t 54)),
  ao 19 2 (.mv (.t 55))]
def c38 : ACode := .seq (.reg r38_0) (.seq c38_5 (.seq c38_10 (.seq (.reg r38_11) .ret)))
def s38 : List ARes := [.tmp 2]
theorem ok38 : okF Tryz.prog 38 56 c38 s38 := ⟨Tryz.f38, Tryz.func38, Tryz.ntmps38, by kernel_rfl, by kernel_rfl, by kernel_rfl⟩
def UCt_1 := Bx.mk <|
  aN (uA c38.eq_1) <| aN (uR r38_0.eq_1) <| aN (uA c38_5.eq_1) <| aN (uR r38_1.eq_1) <| aN (uA c38_4.eq_1) <| aN (uA c38_3.eq_1) <| aN (uR r38_2.eq_1) <| aN (uA c38_10.eq_1) <| aN (uR r38_6.eq_1) <| aN (uA c38_9.eq_1) <| aN (uA c38_8.eq_1) <| aN (uR r38_7.eq_1) <| aN (uR r38_11.eq_1) <| s38.eq_1
def UCt_2 := Bx.mk <|
  aN (uA c38.eq_1) <| aN (uR r38_0.eq_1) <| aN (uA c38_5.eq_1) <| aN (uR r38_1.eq_1) <| aN (uA c38_4.eq_1) <| aN (uA c38_3.eq_1) <| aN (uR r38_2.eq_1) <| aN (uA c38_10.eq_1) <| aN (uR r38_6.eq_1) <| aN (uA c38_9.eq_1) <| aN (uA c38_8.eq_1) <| aN (uR r38_7.eq_1) <| s38.eq_1
set_option maxHeartbeats 1000000 in
theorem isOk_ok (w : CW) (hgl : w.got.length ≤ 2000000) : YW 38 w (WOk w) := by
  obtain ⟨b1, h1, C1⟩ := sizes_ok w
  refine WC.intro ok38 rfl (fun _ => rfl) fun X => ?_
  simp only [RZ, reduceAdd, reduceIte, reduceEqDiff, reduceLT, reduceLeDiff, reduceCtorEq, Nat.reduceBEq, rV, UCt_1.d]
  refine callP (v := 0) (w := w) C1 rfl rfl rfl rfl rfl ⟨rfl, ?_⟩
  cases b1 with
  | false =>
    simp only [RZ, reduceAdd, reduceIte, reduceEqDiff, reduceLT, reduceLeDiff, reduceCtorEq, Nat.reduceBEq, rV, UCt_1.d]
    refine ES.mk false (no fun g => by cases h1.2 g.form.p) ?_
    simp only [RZ, reduceAdd, reduceIte, reduceEqDiff, reduceLT, reduceLeDiff, reduceCtorEq, Nat.reduceBEq, rV, UCt_1.d]
  | true =>
  have hp := h1.1 rfl
  obtain ⟨b2, h2, C2⟩ := jobsOk_ok hp hgl
  simp only [RZ, reduceAdd, reduceIte, reduceEqDiff, reduceLT, reduceLeDiff, reduceCtorEq, Nat.reduceBEq, rV, UCt_1.d]
  refine callP (v := 0) (w := w) C2 rfl rfl rfl rfl rfl ⟨rfl, ?_⟩
  cases b2 with
  | false =>
    simp only [RZ, reduceAdd, reduceIte, reduceEqDiff, reduceLT, reduceLeDiff, reduceCtorEq, Nat.reduceBEq, rV, UCt_1.d]
    refine ES.mk false (no fun g => by cases h2.2 g.jobs) ?_
    simp only [RZ, reduceAdd, reduceIte, reduceEqDiff, reduceLT, reduceLeDiff, reduceCtorEq, Nat.reduceBEq, rV, UCt_1.d]
  | true =>
  have hj := h2.1 rfl
  have h : Form w := hp.f (by have := hj.due; have := hp.due; have := hp.next; omega)
  obtain ⟨b3, h3, C3⟩ := endsOk_ok h
  simp only [RZ, reduceAdd, reduceIte, reduceEqDiff, reduceLT, reduceLeDiff, reduceCtorEq, Nat.reduceBEq, rV, UCt_1.d]
  refine callP (v := 0) (w := w) C3 rfl rfl rfl rfl rfl ⟨rfl, ?_⟩
  cases b3 with
  | false =>
    simp only [RZ, reduceAdd, reduceIte, reduceEqDiff, reduceLT, reduceLeDiff, reduceCtorEq, Nat.reduceBEq, rV, UCt_1.d]
    refine ES.mk false (no fun g => by cases h3.2 (ends_iff.1 g.ends).1) ?_
    simp only [RZ, reduceAdd, reduceIte, reduceEqDiff, reduceLT, reduceLeDiff, reduceCtorEq, Nat.reduceBEq, rV, UCt_1.d]
  | true =>
  have he := h3.1 rfl
  obtain ⟨bd, hbd, Cd⟩ := hasDue_ok h
  have hjb := h.st.j
  have hk := h.st.k
  have ho := h.ops0
  have ho2 := h.ops1
  have hl := left_bd h
  have w1 : IntKind.i64.wrap (w.ops + left w) = w.ops + left w := wrap64 ⟨by omega, by omega⟩
  have w2 : IntKind.i64.wrap (11 * w.jobs) = 11 * w.jobs := wrap64 ⟨by omega, by omega⟩
  have w3 : IntKind.i64.wrap (11 * w.jobs + w.workers) = 11 * w.jobs + w.workers := wrap64 ⟨by omega, by omega⟩
  have w4 : IntKind.i64.wrap (11 * w.jobs + w.workers + 7) = 11 * w.jobs + w.workers + 7 := wrap64 ⟨by omega, by omega⟩
  obtain ⟨lf, rfl, Cf⟩ := pleft_ok h
  have fin : ((w.keeper = 0 → ¬ Due w) ∧ (w.keeper = 2 → Due w)) → ∀ (t : Nat → T) (H : HMap) (c : Nat), t 0 = wP 1000 0 → H 1000 = some (cwB 0 w) → DRun Tryz.prog r38_11 [] (Kont (thenW Tryz.prog X .ret (endE (fun b : Bool => b = true ↔ WOk w) T.b (fun _ => [rV 0 26 (cwC w) (cwC w)]) [.tmp 2])) r38_11) ⟨t, H, c⟩ := by
    intro pr t H c e0 hW
    simp only [wP, T.c] at e0
    simp only [RZ, reduceAdd, reduceIte, reduceEqDiff, reduceLT, reduceLeDiff, reduceCtorEq, Nat.reduceBEq, rV, UCt_1.d, e0, hW]
    refine callP (v := 0) (w := w) Cf rfl rfl rfl rfl hW ⟨rfl, ?_⟩
    by_cases k1 : w.ops + left w ≤ 11 * w.jobs + w.workers + 7
    · simp only [RZ, reduceAdd, reduceIte, reduceEqDiff, reduceLT, reduceLeDiff, reduceCtorEq, Nat.reduceBEq, rV, UCt_1.d, e0, hW, w1, w2, w3, w4, k1]
      refine ES.mk true (yes ⟨h, hj, ends_iff.2 ⟨he, pr⟩, k1⟩) ?_
      simp only [RZ, reduceAdd, reduceIte, reduceEqDiff, reduceLT, reduceLeDiff, reduceCtorEq, Nat.reduceBEq, rV, UCt_1.d, e0, hW, w1, w2, w3, w4, k1]
    · simp only [RZ, reduceAdd, reduceIte, reduceEqDiff, reduceLT, reduceLeDiff, reduceCtorEq, Nat.reduceBEq, rV, UCt_1.d, e0, hW, w1, w2, w3, w4, k1]
      refine ES.mk false (no fun g => k1 g.ops) ?_
      simp only [RZ, reduceAdd, reduceIte, reduceEqDiff, reduceLT, reduceLeDiff, reduceCtorEq, Nat.reduceBEq, rV, UCt_1.d, e0, hW, w1, w2, w3, w4, k1]
  by_cases c1 : w.keeper = 0
  · have k1 := eqb c1
    simp only [RZ, reduceAdd, reduceIte, reduceEqDiff, reduceLT, reduceLeDiff, reduceCtorEq, Nat.reduceBEq, rV, UCt_2.d, k1]
    refine callP (v := 0) (w := w) Cd rfl rfl rfl rfl rfl ⟨rfl, ?_⟩
    cases bd with
    | true =>
      simp only [RZ, reduceAdd, reduceIte, reduceEqDiff, reduceLT, reduceLeDiff, reduceCtorEq, Nat.reduceBEq, rV, UCt_2.d, k1]
      refine ES.mk false (no fun g => (ends_iff.1 g.ends).2.1 c1 (hbd.1 rfl)) ?_
      simp only [RZ, reduceAdd, reduceIte, reduceEqDiff, reduceLT, reduceLeDiff, reduceCtorEq, Nat.reduceBEq, rV, UCt_2.d, k1]
    | false =>
      have k2 : (w.keeper == 2) = false := neqb (by omega)
      simp only [RZ, reduceAdd, reduceIte, reduceEqDiff, reduceLT, reduceLeDiff, reduceCtorEq, Nat.reduceBEq, rV, UCt_2.d, k1, k2]
      refine fin ⟨fun _ g => (by cases hbd.2 g), fun e => by omega⟩ _ _ _ ?_ ?_
      · rfl
      · rfl
  have k1 := neqb c1
  by_cases c2 : w.keeper = 2
  · have k2 := eqb c2
    simp only [RZ, reduceAdd, reduceIte, reduceEqDiff, reduceLT, reduceLeDiff, reduceCtorEq, Nat.reduceBEq, rV, UCt_2.d, k1, k2]
    refine callP (v := 0) (w := w) Cd rfl rfl rfl rfl rfl ⟨rfl, ?_⟩
    cases bd with
    | false =>
      simp only [RZ, reduceAdd, reduceIte, reduceEqDiff, reduceLT, reduceLeDiff, reduceCtorEq, Nat.reduceBEq, rV, UCt_2.d, k1, k2]
      refine ES.mk false (no fun g => by cases hbd.2 ((ends_iff.1 g.ends).2.2 c2)) ?_
      simp only [RZ, reduceAdd, reduceIte, reduceEqDiff, reduceLT, reduceLeDiff, reduceCtorEq, Nat.reduceBEq, rV, UCt_2.d, k1, k2]
    | true =>
      simp only [RZ, reduceAdd, reduceIte, reduceEqDiff, reduceLT, reduceLeDiff, reduceCtorEq, Nat.reduceBEq, rV, UCt_2.d, k1, k2]
      refine fin ⟨fun e => by omega, fun _ => hbd.1 rfl⟩ _ _ _ ?_ ?_
      · rfl
      · rfl
  have k2 := neqb c2
  simp only [RZ, reduceAdd, reduceIte, reduceEqDiff, reduceLT, reduceLeDiff, reduceCtorEq, Nat.reduceBEq, rV, UCt_2.d, k1, k2]
  refine fin ⟨fun e => absurd e c1, fun e => absurd e c2⟩ _ _ _ ?_ ?_
  · rfl
  · rfl
end Go.V

/- The program's LogPlay returns what the reference's returns, for all arguments. -/
import Derived.Test.YtaojogkldejmhaaGreatDoorMX1
import Derived.Test.YtaojogkldejmhaaGreatDoorMK1
import Derived.Shelf.Slices.Delete
import Derived.Lib.RowBridge
set_option linter.unusedVariables false
set_option linter.unusedSimpArgs false
namespace Go.Proofs
open Go.Shelf
def laysDelete_ren : Go.Shelf.Ren := ⟨fun | 24 => 112 | n => n, fun | 24 => 26 | 9 => 9 | 3 => 3 | 4 => 4 | 0 => 0 | n => n, fun | n => n⟩
theorem laysDelete : Go.Proofs.Lays2.n24 Tryz.prog laysDelete_ren := {
  mixed := by kernel_rfl
  f24 := Tryz.func112.trans (congrArg some (by kernel_rfl))
  t0 := Tryz.underlying0
  a0 := Tryz.isAgg0
  z0 := Tryz.sizeOf0
  v0 := Tryz.zeroValue0
  t3 := Tryz.underlying3
  a3 := Tryz.isAgg3
  z3 := Tryz.sizeOf3
  v3 := Tryz.zeroValue3
  t4 := Tryz.underlying4
  a4 := Tryz.isAgg4
  z4 := Tryz.sizeOf4
  v4 := Tryz.zeroValue4
  t9 := Tryz.underlying9
  a9 := Tryz.isAgg9
  z9 := Tryz.sizeOf9
  v9 := Tryz.zeroValue9
  t24 := Tryz.underlying26
  a24 := Tryz.isAgg26
  z24 := Tryz.sizeOf26
  v24 := Tryz.zeroValue26
  i9 := by kernel_rfl }
end Go.Proofs
namespace Go.V
open Go.Proofs Go.Sort
def ofL (l : List UInt8) : ByteArray := ⟨l.toArray⟩
theorem ofL_data (b : ByteArray) : ofL b.data.toList = b := by simp [ofL]
theorem isFnDel : isFn Tryz.prog 112 = true := by kernel_rfl
/-- Names without the one at a place. -/
def del (ns : List ByteArray) (i : Nat) : List ByteArray := ns.take i ++ ns.drop (i + 1)
theorem row_world2 {w : World} {g q : Nat} {ty : TypeId} {cur : Array Value} {ss' : List ByteArray} (hc : w.heap[g]? = some (.cells cur ty (0, 0))) (hl : ss'.length ≤ cur.size) :
    ∃ cur', (putRow encStr (Go.Sort.ahead w q) g 0 (rowL ss').toArray).heap[g]? = some (.cells cur' ty (0, 0)) ∧ cur'.size = cur.size ∧ (∀ (j : Nat) s, ss'[j]? = some s → cur'[j]? = some (.string s)) ∧ (∀ j : Nat, ss'.length ≤ j → cur'[j]? = cur[j]?) ∧
      w.heap.size ≤ (putRow encStr (Go.Sort.ahead w q) g 0 (rowL ss').toArray).heap.size ∧
      ∀ b, b < w.heap.size → b ≠ g → (putRow encStr (Go.Sort.ahead w q) g 0 (rowL ss').toArray).heap[b]? = w.heap[b]? := by
  refine ⟨putCells encStr 0 (rowL ss').toArray cur, ?_, by simp [putCells], fun j s hs => ?_, fun j hj => ?_, ?_, fun b hb hne => ?_⟩
  · simp only [putRow, mapBlock, Go.Sort.ahead]
    rw [Array.getElem?_modify]
    simp [hc, onCells]
  · have hj : j < ss'.length := (List.getElem?_eq_some_iff.1 hs).1
    have hjc : j < cur.size := by omega
    simp only [putCells, Array.getElem?_mapIdx, Array.getElem?_eq_getElem hjc, Option.map_some]
    have e : (rowL ss').toArray[j]! = s.data.toList := by
      rw [getElem!_pos _ j (by simpa [rowL] using hj)]
      have := (List.getElem?_eq_some_iff.1 hs).2
      simp [rowL, this]
    have c1 : 0 ≤ j ∧ j < 0 + (rowL ss').toArray.size := ⟨Nat.zero_le _, by simpa [rowL] using hj⟩
    rw [if_pos c1, Nat.sub_zero, e]
  · simp only [putCells, Array.getElem?_mapIdx]
    have c1 : ¬ (0 ≤ j ∧ j < 0 + (rowL ss').toArray.size) := by simp [rowL]; omega
    cases hcj : cur[j]? with
    | none => rfl
    | some x => simp only [Option.map_some, if_neg c1]
  · simp [putRow, mapBlock, Go.Sort.ahead]
  · simp only [putRow, mapBlock, Go.Sort.ahead]
    rw [Array.getElem?_modify, if_neg (fun e => hne e.symm)]
theorem delete_ok (ss rest : List ByteArray) (i : Nat) (hi : i < ss.length) (n m v : Nat) :
    ACallsF Tryz.prog 112 [.c (.own n v ss.length), .i i, .i ((i + 1 : Nat) : Int)] [arH n m v 1 9 (en eS (ss ++ rest)) (en eS (del ss i ++ ([zS] ++ rest)))] (.c (.own n v (del ss i).length)) := by
  have hdl : (del ss i).length = ss.length - 1 := by simp [del]; omega
  have hl0 : (del ss i ++ [zS]).length = ss.length := by rw [List.length_append, hdl, List.length_singleton]; omega
  have hl : (del ss i ++ ([zS] ++ rest)).length = (ss ++ rest).length := by rw [← List.append_assoc, List.length_append, hl0, List.length_append]
  show ACallsF Tryz.prog 112 [.c (.own n v ss.length), .i i, .i ((i + 1 : Nat) : Int)] (rowH n m v 9 (ss ++ rest) (del ss i ++ ([zS] ++ rest))) (.c (.own n v (del ss i).length))
  refine ⟨isFnDel, fun w imm L c vs hH hT => ?_⟩
  obtain ⟨x, a, b, rfl⟩ : ∃ x a b, vs = [x, a, b] := by
    have := hT.1
    match vs, this with
    | [x, a, b], _ => exact ⟨x, a, b, rfl⟩
  have ha := rep_s (y := .int .i64 i) (hT.2 1 a (.i i) rfl rfl)
  have hb := rep_s (y := .int .i64 ((i + 1 : Nat) : Int)) (hT.2 2 b (.i ((i + 1 : Nat) : Int)) rfl rfl)
  subst ha hb
  have hx : TRep w imm (hinOf (rowH n m v 9 (ss ++ rest) (del ss i ++ ([zS] ++ rest)))) L (· < c) x (.c (.own n v ss.length)) := hT.2 0 x _ rfl rfl
  have hin : hinOf (rowH n m v 9 (ss ++ rest) (del ss i ++ ([zS] ++ rest))) n = some (.arr v true 1 9 (rowS (ss ++ rest))) := by rw [rowH_in]; simp
  have hx' : CRep w imm (hinOf (rowH n m v 9 (ss ++ rest) (del ss i ++ ([zS] ++ rest)))) L (· < c) x (.own n v ss.length) := hx
  obtain ⟨hu, -, h3⟩ := hx'
  obtain ⟨-, h4⟩ := h3 _ _ _ _ hin
  rcases h4 with ⟨a, h5, h6⟩ | ⟨g, cap, cur, h5, h6, h7, h8, h9, h10⟩
  · omega
  · have hgsz : g < w.heap.size := by
      rcases Nat.lt_or_ge g w.heap.size with h | h
      · exact h
      · rw [Array.getElem?_eq_none h] at h7; cases h7
    obtain ⟨-, -, -, hb⟩ := hH.blk n _ hin
    rcases hb with ⟨h, -⟩ | ⟨g', cur2, i1, i2, -, i4, -⟩
    · rw [h] at h5; cases h5
    rw [h5] at i1; cases i1
    rw [h7] at i2; cases i2
    have hcur : ∀ (j : Nat) s, (ss ++ rest)[j]? = some s → cur[j]? = some (.string s) := fun j s hs => VsRep_row (ss := ss ++ rest) i4 hs
    have hHolds : Holds encStr w g 0 (rowL ss).toArray := fun j hj => by
      have hj' : j < ss.length := by simpa [rowL] using hj
      have := hcur j ss[j] (by rw [List.getElem?_append_left hj']; simp [hj'])
      refine ⟨?_, by simp [World.frozen?, h7]⟩
      simp only [World.cell?, h7, Nat.zero_add, Option.isSome_none, Bool.false_eq_true, if_false]
      rw [this, getElem!_pos _ j hj]
      simp [rowL]
    subst h6
    have hD := Any.slices_Delete_string laysDelete g 0 cap i (i + 1) (rowL ss) w hHolds (by rw [rowL_len]; exact h8) h9 (by omega) (by rw [rowL_len]; omega)
    rw [rowL_len] at hD
    refine hD.mono ?_
    rintro e w' ⟨rfl, q, rfl⟩
    have hrow : (rowL ss).take i ++ (rowL ss).drop (i + 1) ++ List.replicate (i + 1 - i) [] = rowL (del ss i ++ [zS]) := by
      rw [show i + 1 - i = 1 by omega]
      simp [rowL, del, zS, List.map_take, List.map_drop]
    rw [hrow]
    obtain ⟨cur', j1, j2, j3, j3b, j4, j5⟩ := row_world2 (q := q) (ss' := del ss i ++ [zS]) h7 (by omega)
    obtain ⟨p1, p2, p3, p4⟩ := put_row (w' := putRow encStr (Go.Sort.ahead w q) g 0 (rowL (del ss i ++ [zS])).toArray) hH h5 h7 rfl rfl rfl j4 j5 j1 j2 hl (fun j s hs => by
      rw [← List.append_assoc] at hs
      rcases Nat.lt_or_ge j ss.length with hj | hj
      · rw [List.getElem?_append_left (by omega)] at hs; exact j3 j s hs
      · rw [List.getElem?_append_right (by omega), hl0] at hs
        rw [j3b j (by omega)]
        exact hcur j s (by rw [List.getElem?_append_right hj]; exact hs))
    refine ⟨_, .c (.own n v (del ss i).length), _, imm, L, c, rfl, row_left n m v 9 (ss ++ rest) (del ss i ++ ([zS] ++ rest)) _ rfl _ (by simp), ?_, p1, p2, p3, p4⟩
    refine ⟨hu, ⟨_, _, by rw [hdl, show i + 1 - i = 1 by omega], by omega⟩, fun wr st ty' es hes => ?_⟩
    simp only [if_true, Option.some.injEq, Blk.arr.injEq] at hes
    obtain ⟨-, rfl, rfl, rfl, rfl⟩ := hes
    exact ⟨by rw [rowS_len, hl, List.length_append]; omega, .inr ⟨g, cap, cur', h5, by rw [hdl, show i + 1 - i = 1 by omega], j1, by omega, h9, by rw [j2, h10]⟩⟩
end Go.V
set_option linter.unusedSimpArgs false
set_option maxRecDepth 20000
namespace Go.V
open Go.Proofs
/-- A call that cuts an array of the caller's. -/
theorem callCut {P : Program} {t : Nat → T} {H : HMap} {c : Nat} {f : Opd} {args : List Opd} {fid : FuncId} {n m v N N' st : Nat} {ty : TypeId} {es es' : List (List V)} {x y : T} {k : Nat} {d : Option Nat} {un : List Nat} {l : List AOper} {prev : List (Nat × List Nat × List Nat)} {K : St → Prop}
    (hC : ACallsF P fid [.c (.own n v N), x, y] [arH n m v st ty es es'] (.c (.own n v N'))) (hf : ev t f = .pt (.one (.fn fid []))) (hl : args.map (ev t) = [.c (.own m v N), x, y]) (hH : H m = some (.arr v true st ty es)) (hx : closedA x = true) (hy : closedA y = true)
    (hk : chk prev un ⟨.c (.own m v N'), [(m, .arr v true st ty es')], [m], [m]⟩ = true ∧ DRun P l ((k, [m], [m]) :: prev) K ⟨updD t d (.c (.own m v N')), upd H m (some (.arr v true st ty es')), c⟩) :
    step P k d un (.call f args) l prev K t H c := by
  have hN : renN [arH n m v st ty es es'] n = some (arH n m v st ty es es') := by simp [renN]
  obtain ⟨x1, x2⟩ := closed_A [arH n m v st ty es es'] H x hx
  obtain ⟨y1, y2⟩ := closed_A [arH n m v st ty es es'] H y hy
  refine callW (caps := []) («as» := [.c (.own m v N), x, y]) (ws := []) (ns := []) (r' := .c (.own m v N')) (ob := [(m, .arr v true st ty es')]) [arH n m v st ty es es'] hC hf ?_ ?_ ⟨?_, trivial⟩ (by simp) (by simp) ?_ ?_ ?_
  · rw [hl]
    have a1 : lendT H (T.c (.own n v N)) (T.c (.own m v N)) = some (T.c (.own m v N), [], []) := rfl
    simp only [List.map_nil, List.append_nil, lendTs, a1, x1, y1]
  · have a1 : renIT [arH n m v st ty es es'] (T.c (.own n v N)) = some (T.c (.own m v N)) := by simp only [T.c, renIT, renI, inN, hN, Option.bind_some, Option.map_some]
    simp only [renITs, a1, x2, y2]
  · show (match renIB [arH n m v st ty es es'] (.arr v true st ty es) with | some B => (updH H []) m = some B | none => False)
    simp only [renIB, updH]
    exact hH
  · simp only [T.c, renOT, renOP, renO, hN, Option.map_some, verOf, if_true, Blk.ver]
  · simp only [renOBs, renOB, verOf, if_true, Blk.ver]
  · have hq : quiet (.c (.own n v N')) [arH n m v st ty es es'] = false := by simp [quiet]
    simpa [hq, updH] using hk
/-- Names without the first that is this. -/
def er (ns : List ByteArray) (nm : ByteArray) : List ByteArray := match ns.findIdx? fun x => decide (x = nm) with
  | some i => del ns i
  | none => ns
theorem er_at {ns : List ByteArray} {nm : ByteArray} {i : Nat} (h : ix ns nm = i) : er ns nm = del ns i := by
  cases hq : ns.findIdx? fun x => decide (x = nm) with
  | none => simp only [ix, hq] at h; omega
  | some j => simp only [ix, hq] at h; simp only [er, hq]; congr 1; omega
theorem er_no {ns : List ByteArray} {nm : ByteArray} (h : ix ns nm = -1) : er ns nm = ns := by
  cases hq : ns.findIdx? fun x => decide (x = nm) with
  | none => simp only [er, hq]
  | some j => simp only [ix, hq] at h; omega
theorem er_len (ns : List ByteArray) (nm : ByteArray) : (er ns nm).length ≤ ns.length := by
  unfold er
  split
  · simp [del]; omega
  · exact Nat.le_refl _
def stI (p : List ByteArray × List ByteArray) (m : DM) : List ByteArray × List ByteArray :=
  if m.gone then (match p.1.findIdx? fun x => decide (x = m.name) with | some i => (del p.1 i, [zS] ++ p.2) | none => p) else (p.1 ++ [m.name], [])
def runI (ns : List ByteArray) (ms : List DM) : List ByteArray × List ByteArray := ms.foldl stI (ns, [])
abbrev nmI (ns : List ByteArray) (ms : List DM) : List ByteArray := (runI ns ms).1
theorem runI_take (ns : List ByteArray) {ms : List DM} {i : Nat} {m : DM} (h : ms[i]? = some m) : runI ns (ms.take (i + 1)) = stI (runI ns (ms.take i)) m := by
  rw [List.take_add_one, h, runI, List.foldl_append]; rfl
theorem stI_made (p : List ByteArray × List ByteArray) {m : DM} (h : m.gone = false) : stI p m = (p.1 ++ [m.name], []) := by unfold stI; rw [h]; rfl
theorem stI_at (p : List ByteArray × List ByteArray) {m : DM} (h : m.gone = true) {i : Nat} (hi : ix p.1 m.name = i) : stI p m = (del p.1 i, [zS] ++ p.2) := by
  unfold ix at hi
  unfold stI
  rw [h, if_pos rfl]
  split at hi
  · rename_i j hj; rw [hj]; have : j = i := by omega
    rw [this]
  · exact absurd hi (by omega)
theorem stI_no (p : List ByteArray × List ByteArray) {m : DM} (h : m.gone = true) (hi : ix p.1 m.name = -1) : stI p m = p := by
  unfold ix at hi
  unfold stI
  rw [h, if_pos rfl]
  split at hi
  · exact absurd hi (by omega)
  · rename_i hj; rw [hj]
theorem nmI_take (ns : List ByteArray) {ms : List DM} {i : Nat} {m : DM} (h : ms[i]? = some m) : nmI ns (ms.take (i + 1)) = if m.gone then er (nmI ns (ms.take i)) m.name else nmI ns (ms.take i) ++ [m.name] := by
  unfold nmI
  rw [runI_take ns h]
  cases hg : m.gone with
  | false => rw [stI_made _ hg]; rfl
  | true =>
    rcases ix_case (runI ns (ms.take i)).1 m.name with ⟨k, h1, _, _⟩ | ⟨h1, _⟩
    · rw [stI_at _ hg h1, if_pos rfl, er_at h1]
    · rw [stI_no _ hg h1, if_pos rfl, er_no h1]
theorem nmI_len (ns : List ByteArray) (ms : List DM) : ∀ i, i ≤ ms.length → (nmI ns (ms.take i)).length ≤ ns.length + i
  | 0, _ => Nat.le_refl _
  | i + 1, h => by
    obtain ⟨m, hm⟩ : ∃ m, ms[i]? = some m := ⟨_, List.getElem?_eq_getElem h⟩
    have := nmI_len ns ms i (by omega)
    rw [nmI_take ns hm]
    split
    · have h2 := er_len (nmI ns (ms.take i)) m.name; omega
    · rw [List.length_append, List.length_singleton]; omega
theorem en_take2 {α : Type} (f : α → List V) (xs ys : List α) : List.take xs.length (en f (xs ++ ys)) = en f xs := by
  rw [en_app, List.take_append_of_le_length (by rw [en_len]; exact Nat.le_refl _), en_take]
def ok65 := okF.gu (P := Tryz.prog) tab Tryz.func65 Tryz.ntmps65 (by conv => lhs; cbv) (by kernel_rfl)
def inv65 (d : Dk) (n : Nat) (i : Nat) (σ : St) : Prop := σ.t 15 = tL (en eM (d.moves.take n)) ∧ σ.t 16 = .i n ∧ σ.t 17 = .i i ∧ ∃ v, σ.t 5 = .c (.own 5 v (runI d.names (d.moves.take i)).1.length) ∧ σ.H 5 = some (.arr v true 1 9 (en eS ((runI d.names (d.moves.take i)).1 ++ (runI d.names (d.moves.take i)).2)))
theorem namesI_ok (d : Dk) (hd : smallDk d) (n : Nat) (hn : n ≤ d.moves.length) (m : Nat) : ACallsF Tryz.prog 65 [tDk d, .i n] [newH 5 m 1 9 (en eS (nmI d.names (d.moves.take n) ++ (runI d.names (d.moves.take n)).2))] (.c (.own 5 0 (nmI d.names (d.moves.take n)).length)) := by
  have h1 := hd.n
  have h2 := hd.m
  have hl0 : (d.moves.take n).length = n := by rw [List.length_take]; omega
  have g1 : (0 : Int) ≤ n := by omega
  have g2 : (n : Int) ≤ d.moves.length := by omega
  refine ACallsF.intro ok65 follows fun X c0 => ?_
  simp only [go_sem]
  refine callA1 (m := 5) (ws := []) (ns := []) (cloneS_ok d.names (by omega) 5) rfl rfl rfl (en_flat eS eS_flat _) ⟨rfl, ?_⟩
  simp only [go_sem, lohi, g1, g2, Int.le_refl, Int.toNat_zero, List.drop_zero, Nat.sub_zero, en_cut, hl0]
  refine AW.upto n (inv65 d n) ?_ fun i t H c hi h => ?_
  · unfold inv65
    have e0 : runI d.names (d.moves.take 0) = (d.names, []) := rfl
    rw [e0, List.append_nil]
    exact ⟨rfl, rfl, rfl, _, rfl, rfl⟩
  obtain ⟨e15, e16, e17, v, e5, eH⟩ := h
  simp only [T.c, T.i, T.s, tL] at e15 e16 e17 e5 eH
  by_cases hlt : i < n
  · obtain ⟨x, hx⟩ : ∃ x, d.moves[i]? = some x := ⟨_, List.getElem?_eq_getElem (by omega)⟩
    have hx2 : (d.moves.take n)[i]? = some x := by rw [List.getElem?_take, if_pos hlt]; exact hx
    have ex := en_at eM hx2
    have k1 : (i : Int) < n := by omega
    have gz : (0 : Int) ≤ i := by omega
    have gw : IntKind.i64.wrap ((i : Int) + 1) = ((i + 1 : Nat) : Int) := wrap64 (x := (i : Int) + 1) ⟨by omega, by omega⟩
    have hr := runI_take d.names hx
    have hwl := nmI_len d.names d.moves i (by omega)
    unfold nmI at hwl
    generalize hp : runI d.names (d.moves.take i) = p at *
    obtain ⟨ns, rest⟩ := p
    simp only at hwl e5 eH
    have q3 : (ns.length + 1) * 16 ≤ 140737488355328 := by omega
    have q4 : ns.length + 1 ≤ 9223372036854775807 := by omega
    have ht2 := en_take2 eS ns rest
    have hle : ns.length ≤ ns.length + rest.length := by omega
    cases hg : x.gone with
    | false =>
      rw [stI_made _ hg] at hr
      simp only [go_sem, e15, e16, e17, e5, eH, en_len, k1, gz, ex, eM, hg, gw, q3, q4, ht2, hle]
      unfold inv65
      rw [hr, List.append_nil, en_snoc, List.length_append]
      exact ⟨hlt, e15, e16, rfl, _, rfl, rfl⟩
    | true =>
      simp only [go_sem, e15, e16, e17, e5, eH, en_len, k1, gz, ex, eM, hg]
      refine callL (ws := [(5, .arr v false 1 9 (en eS (ns ++ rest)))]) (ns := [5]) (index_ok ns x.name (by omega)) rfl ?_ rfl rfl ⟨?_, ?_⟩
      · simp only [go_sem, lendTs, lendT, e5, eH, ht2, hle]
      · simp only [go_sem, scalarT, scalarP, scalarC]
      rcases ix_case ns x.name with ⟨k, a1, a2, a3⟩ | ⟨a1, a2⟩
      · have hkl := (List.getElem?_eq_some_iff.1 a2).1
        have gk : (0 : Int) ≤ k := by omega
        have gw2 : IntKind.i64.wrap ((k : Int) + 1) = ((k + 1 : Nat) : Int) := wrap64 (x := (k : Int) + 1) ⟨by omega, by omega⟩
        rw [stI_at _ hg a1] at hr
        simp only [go_sem, scalarT, scalarP, scalarC, a1, ge_iff_le, gk, gw2, e5]
        refine callCut (m := 5) (delete_ok ns rest k hkl 5 5 v) rfl rfl eH rfl rfl ⟨?_, ?_⟩
        · simp only [go_sem]
        simp only [go_sem, e17, gw]
        unfold inv65
        rw [hr]
        exact ⟨hlt, e15, e16, rfl, _, rfl, rfl⟩
      · have gk : ¬ (0 : Int) ≤ -1 := by omega
        rw [stI_no _ hg a1] at hr
        simp only [go_sem, scalarT, scalarP, scalarC, a1, ge_iff_le, gk, e17, gw]
        unfold inv65
        rw [hr]
        exact ⟨hlt, e15, e16, rfl, v, e5, eH⟩
  · have k1 : ¬ (i : Int) < n := by omega
    have hi2 : i = n := by omega
    subst hi2
    simp only [go_sem, e15, e16, e17, e5, eH, k1, imp_self]
def ok137 := okF.gu (P := Tryz.prog) tab Tryz.func137 Tryz.ntmps137 (by conv => lhs; cbv) (by kernel_rfl)
theorem there_ok (d : Dk) (hd : smallDk d) (m : Nat) : ACallsF Tryz.prog 137 [tDk d] [newH 1009 m 1 9 (en eS (nmI d.names d.moves ++ (runI d.names d.moves).2))] (.c (.own 1009 0 (nmI d.names d.moves).length)) := by
  have hA := namesI_ok d hd d.moves.length (Nat.le_refl _) 1009
  rw [List.take_length] at hA
  refine ACallsF.intro ok137 follows fun X c0 => ?_
  simp only [go_sem]
  refine callA1 (m := 1009) (ws := []) (ns := []) hA rfl rfl rfl (en_flat eS eS_flat _) ⟨rfl, ?_⟩
  simp only [go_sem, imp_self]
end Go.V
set_option linter.unusedSimpArgs false
set_option maxRecDepth 20000
namespace Go.V
open Go.Proofs
theorem er_wo {ns : List ByteArray} (h : ns.Nodup) (nm : ByteArray) : er ns nm = wo nm ns := by
  have self : ∀ l : List ByteArray, nm ∉ l → wo nm l = l := fun l hl => List.filter_eq_self.2 fun x hx => by
    have : x ≠ nm := fun e => hl (e ▸ hx)
    simpa using this
  rcases ix_case ns nm with ⟨i, h1, h2, h3⟩ | ⟨h1, h2⟩
  · rw [er_at h1]
    have hil := (List.getElem?_eq_some_iff.1 h2).1
    have hie := (List.getElem?_eq_some_iff.1 h2).2
    have hsp : ns = ns.take i ++ nm :: ns.drop (i + 1) := by
      have := List.take_append_drop i ns
      rw [List.drop_eq_getElem_cons hil, hie] at this
      exact this.symm
    have hn2 := h
    rw [hsp, List.nodup_append] at hn2
    have hb : nm ∉ ns.take i := fun hm => hn2.2.2 nm hm nm (by simp) rfl
    have hc : nm ∉ ns.drop (i + 1) := (List.nodup_cons.1 hn2.2.1).1
    have e : wo nm ns = wo nm (ns.take i) ++ wo nm (nm :: ns.drop (i + 1)) := by
      conv => lhs; rw [hsp]
      exact List.filter_append _ _
    have e2 : wo nm (nm :: ns.drop (i + 1)) = wo nm (ns.drop (i + 1)) := by simp [wo]
    rw [e, e2, self _ hb, self _ hc, del]
  · rw [er_no h1, self _ h2]
theorem nmI_aft {ns : List ByteArray} {ms : List DM} (h : (ns ++ mades ms).Nodup) : ∀ i, i ≤ ms.length → nmI ns (ms.take i) = aft ns (ms.take i) ∧ (aft ns (ms.take i) ++ mades (ms.drop i)).Nodup
  | 0, _ => ⟨rfl, h⟩
  | i + 1, hi => by
    obtain ⟨m, hm⟩ : ∃ m, ms[i]? = some m := ⟨_, List.getElem?_eq_getElem hi⟩
    obtain ⟨h1, h2⟩ := nmI_aft h i (by omega)
    have hd : ms.drop i = m :: ms.drop (i + 1) := by rw [List.drop_eq_getElem_cons hi, (List.getElem?_eq_some_iff.1 hm).2]
    rw [nmI_take ns hm, aft_take ns hm, h1]
    rw [hd] at h2
    cases hg : m.gone with
    | true =>
      have e : mades (m :: ms.drop (i + 1)) = mades (ms.drop (i + 1)) := by simp [mades, hg]
      rw [e] at h2
      rw [if_pos rfl, if_pos rfl]
      refine ⟨er_wo (List.nodup_append.1 h2).1 _, ?_⟩
      exact h2.sublist (List.Sublist.append List.filter_sublist (List.Sublist.refl _))
    | false =>
      have e : mades (m :: ms.drop (i + 1)) = m.name :: mades (ms.drop (i + 1)) := by simp [mades, hg]
      rw [e] at h2
      rw [if_neg (by simp), if_neg (by simp)]
      exact ⟨rfl, by simpa using h2⟩
theorem fnd_le {fs : List DF} {i : Nat} {f : DF} (h : fs[i]? = some f) : 0 ≤ fnd fs f.name ∧ fnd fs f.name ≤ i := by
  unfold fnd
  split
  · rename_i j hj
    rw [List.findIdx?_eq_some_iff_getElem] at hj
    obtain ⟨a1, a2, a3⟩ := hj
    refine ⟨by omega, ?_⟩
    rcases Nat.lt_or_ge i j with hlt | hge
    · have hie := (List.getElem?_eq_some_iff.1 h).2
      have := a3 i hlt
      rw [hie] at this
      simp at this
    · omega
  · rename_i hj
    rw [List.findIdx?_eq_none_iff] at hj
    have := hj f (List.mem_of_getElem? h)
    simp at this
theorem made_nodup {d : Dk} (hl : (made d).length = d.files.length) (h : ∀ (i : Nat) (f : DF), d.files[i]? = some f → (made d)[i]? = some f.name ∧ fnd d.files f.name = i) : (made d).Nodup := by
  rw [List.Nodup, List.pairwise_iff_getElem]
  intro i j hi hj hij e
  obtain ⟨f, hf⟩ : ∃ f, d.files[i]? = some f := ⟨_, List.getElem?_eq_getElem (by omega)⟩
  obtain ⟨g, hg⟩ : ∃ g, d.files[j]? = some g := ⟨_, List.getElem?_eq_getElem (by omega)⟩
  have a := h i f hf
  have b := h j g hg
  have a1 := a.1
  have b1 := b.1
  rw [List.getElem?_eq_getElem hi] at a1
  rw [List.getElem?_eq_getElem hj] at b1
  have e' : f.name = g.name := by rw [← Option.some.inj a1, ← Option.some.inj b1]; exact e
  have := a.2
  rw [e', b.2] at this
  omega
theorem DOk.nmI {d : Dk} (h : DOk d) (i : Nat) (hi : i ≤ d.moves.length) : nmI d.names (d.moves.take i) = aft d.names (d.moves.take i) :=
  (nmI_aft (made_nodup h.l fun i f hf => ⟨(h.files i f hf).made, (h.files i f hf).one⟩) i hi).1
end Go.V
set_option linter.unusedSimpArgs false
set_option maxRecDepth 20000
namespace Go.V
open Go.Proofs
abbrev oC (c1 v1 c2 v2 c3 v3 : Nat) (d : Dk) : List C := [.own c1 v1 d.files.length, .own c2 v2 d.names.length, .own c3 v3 d.moves.length]
/-- A disk that is written in place, and its arrays. -/
abbrev dkW (m0 m1 m2 m3 u v1 v2 v3 : Nat) (d d' : Dk) : List Hand := [⟨4001, m0, some (.var u 29 (oC 1001 v1 1002 v2 1003 v3 d)), .var u 29 (oC 1001 0 1002 0 1003 0 d'), true⟩,
  ⟨1001, m1, some (.arr v1 true 3 92 (en eF d.files)), .arr 0 true 3 92 (en eF d'.files), false⟩, ⟨1002, m2, some (.arr v2 true 1 9 (en eS d.names)), .arr 0 true 1 9 (en eS d'.names), false⟩, ⟨1003, m3, some (.arr v3 true 2 94 (en eM d.moves)), .arr 0 true 2 94 (en eM d'.moves), false⟩]
/-- As dkW, where the directory is made sure: the files and the names are arrays anew. -/
abbrev dkD (m0 m1 m2 m3 m4 m5 u v1 v2 v3 : Nat) (d : Dk) (F : List DF) (N rest : List ByteArray) : List Hand := [⟨4001, m0, some (.var u 29 (oC 1001 v1 1002 v2 1003 v3 d)), .var u 29 [.own 10 0 F.length, .own 7001 0 N.length, .nil0], true⟩,
  arH 1001 m1 v1 3 92 (en eF d.files) (en eF d.files), arH 1002 m2 v2 1 9 (en eS d.names) (en eS d.names), arH 1003 m3 v3 2 94 (en eM d.moves) (en eM d.moves), newH 10 m4 3 92 (en eF F), newH 7001 m5 1 9 (en eS (N ++ rest))]
section
variable {P : Program} {t : Nat → T} {H : HMap} {c : Nat} {f : Opd} {args : List Opd} {fid : FuncId} {al : List T} {m0 m1 m2 m3 m4 m5 u v1 v2 v3 : Nat} {dk dk' : Dk} {F : List DF} {N rest : List ByteArray} {r : T} {k : Nat} {d : Option Nat} {un : List Nat} {l : List AOper} {prev : List (Nat × List Nat × List Nat)} {K : St → Prop}
theorem callDw (hC : ACallsF P fid (.c (.ptr 4001 u 0) :: al) (dkW m0 m1 m2 m3 u v1 v2 v3 dk dk') r) (hf : ev t f = .pt (.one (.fn fid []))) (hl : args.map (ev t) = .c (.ptr m0 u 0) :: al) (ha : al.all closedA = true) (hr : closedT r = true)
    (hm : m0 ≠ m1 ∧ m0 ≠ m2 ∧ m0 ≠ m3 ∧ m1 ≠ m2 ∧ m1 ≠ m3 ∧ m2 ≠ m3)
    (h0 : H m0 = some (.var u 29 (oC m1 v1 m2 v2 m3 v3 dk))) (h1 : H m1 = some (.arr v1 true 3 92 (en eF dk.files))) (h2 : H m2 = some (.arr v2 true 1 9 (en eS dk.names))) (h3 : H m3 = some (.arr v3 true 2 94 (en eM dk.moves)))
    (hk : chk prev un ⟨r, [(m0, .var u 29 (oC m1 (c + k) m2 (c + k) m3 (c + k) dk')), (m1, .arr (c + k) true 3 92 (en eF dk'.files)), (m2, .arr (c + k) true 1 9 (en eS dk'.names)), (m3, .arr (c + k) true 2 94 (en eM dk'.moves))], [m0, m1, m2, m3], [m0, m1, m2, m3]⟩ = true ∧
      DRun P l ((k, [m0, m1, m2, m3], [m0, m1, m2, m3]) :: prev) K ⟨updD t d r, upd (upd (upd (upd H m0 (some (.var u 29 (oC m1 (c + k) m2 (c + k) m3 (c + k) dk')))) m1 (some (.arr (c + k) true 3 92 (en eF dk'.files)))) m2 (some (.arr (c + k) true 1 9 (en eS dk'.names)))) m3 (some (.arr (c + k) true 2 94 (en eM dk'.moves))), c⟩) :
    step P k d un (.call f args) l prev K t H c := by
  generalize hhs : dkW m0 m1 m2 m3 u v1 v2 v3 dk dk' = hs at hC
  have R0 : renN hs 4001 = some ⟨4001, m0, some (.var u 29 (oC 1001 v1 1002 v2 1003 v3 dk)), .var u 29 (oC 1001 0 1002 0 1003 0 dk'), true⟩ := by rw [← hhs]; rfl
  have R1 : renN hs 1001 = some ⟨1001, m1, some (.arr v1 true 3 92 (en eF dk.files)), .arr 0 true 3 92 (en eF dk'.files), false⟩ := by rw [← hhs]; rfl
  have R2 : renN hs 1002 = some ⟨1002, m2, some (.arr v2 true 1 9 (en eS dk.names)), .arr 0 true 1 9 (en eS dk'.names), false⟩ := by rw [← hhs]; rfl
  have R3 : renN hs 1003 = some ⟨1003, m3, some (.arr v3 true 2 94 (en eM dk.moves)), .arr 0 true 2 94 (en eM dk'.moves), false⟩ := by rw [← hhs]; rfl
  have I0 : inN hs 4001 = some m0 := by simp [inN, R0]
  have I1 : inN hs 1001 = some m1 := by simp [inN, R1]
  have I2 : inN hs 1002 = some m2 := by simp [inN, R2]
  have I3 : inN hs 1003 = some m3 := by simp [inN, R3]
  obtain ⟨x1, x2⟩ := closed_As hs H al ha
  obtain ⟨g1, g2, g3, g4, g5, g6⟩ := hm
  refine callW (caps := []) («as» := .c (.ptr m0 u 0) :: al) (ws := []) (ns := []) (r' := r) (ob := [(m0, .var u 29 (oC m1 (c + k) m2 (c + k) m3 (c + k) dk')), (m1, .arr (c + k) true 3 92 (en eF dk'.files)), (m2, .arr (c + k) true 1 9 (en eS dk'.names)), (m3, .arr (c + k) true 2 94 (en eM dk'.moves))]) hs hC hf ?_ ?_ ?_ (by rw [← hhs]; simp [g1, g2, g3, g4, g5, g6]) (by rw [← hhs]; simp) (closed_T _ r hr _) ?_ ?_
  · have a1 : lendT H (T.c (.ptr 4001 u 0)) (T.c (.ptr m0 u 0)) = some (T.c (.ptr m0 u 0), [], []) := rfl
    rw [hl]
    simp only [List.map_nil, List.append_nil, lendTs, a1, x1]
  · have a1 : renIT hs (T.c (.ptr 4001 u 0)) = some (T.c (.ptr m0 u 0)) := by simp only [T.c, renIT, renI, I0, Option.map_some]
    simp only [renITs, a1, x2]
  · have B0 : renIB hs (.var u 29 (oC 1001 v1 1002 v2 1003 v3 dk)) = some (.var u 29 (oC m1 v1 m2 v2 m3 v3 dk)) := by simp only [renIB, renIs, renI, I1, I2, I3, Option.map_some]
    have B1 : ∀ v wr st ty es, renIB hs (.arr v wr st ty es) = some (.arr v wr st ty es) := fun _ _ _ _ _ => rfl
    have key : handsIn (updH H []) hs (dkW m0 m1 m2 m3 u v1 v2 v3 dk dk') := by
      simp only [handsIn, B0, B1, updH, h0, h1, h2, h3, and_self]
    rw [hhs] at key
    exact key
  · have key : renOBs hs (c + k) (dkW m0 m1 m2 m3 u v1 v2 v3 dk dk') = some [(m0, .var u 29 (oC m1 (c + k) m2 (c + k) m3 (c + k) dk')), (m1, .arr (c + k) true 3 92 (en eF dk'.files)), (m2, .arr (c + k) true 1 9 (en eS dk'.names)), (m3, .arr (c + k) true 2 94 (en eM dk'.moves))] := by
      simp only [renOBs, renOB, renOs, renO, R1, R2, R3, Option.map_some, verOf, if_true, Bool.false_eq_true, if_false, Blk.ver]
    rw [hhs] at key
    exact key
  · have hq : quiet r hs = false := by rw [← hhs]; simp [quiet]
    have hms : hs.map (·.m) = [m0, m1, m2, m3] := by rw [← hhs]; rfl
    rw [hq, hms]
    simpa [updH] using hk
theorem callDd (hC : ACallsF P fid (.c (.ptr 4001 u 0) :: al) (dkD m0 m1 m2 m3 m4 m5 u v1 v2 v3 dk F N rest) r) (hf : ev t f = .pt (.one (.fn fid []))) (hl : args.map (ev t) = .c (.ptr m0 u 0) :: al) (ha : al.all closedA = true) (hr : closedT r = true)
    (hm : [m0, m1, m2, m3, m4, m5].Nodup)
    (h0 : H m0 = some (.var u 29 (oC m1 v1 m2 v2 m3 v3 dk))) (h1 : H m1 = some (.arr v1 true 3 92 (en eF dk.files))) (h2 : H m2 = some (.arr v2 true 1 9 (en eS dk.names))) (h3 : H m3 = some (.arr v3 true 2 94 (en eM dk.moves)))
    (hk : chk prev un ⟨r, [(m0, .var u 29 [.own m4 (c + k) F.length, .own m5 (c + k) N.length, .nil0]), (m1, .arr v1 true 3 92 (en eF dk.files)), (m2, .arr v2 true 1 9 (en eS dk.names)), (m3, .arr v3 true 2 94 (en eM dk.moves)), (m4, .arr (c + k) true 3 92 (en eF F)), (m5, .arr (c + k) true 1 9 (en eS (N ++ rest)))], [m0, m1, m2, m3, m4, m5], [m0, m1, m2, m3, m4, m5]⟩ = true ∧
      DRun P l ((k, [m0, m1, m2, m3, m4, m5], [m0, m1, m2, m3, m4, m5]) :: prev) K ⟨updD t d r, upd (upd (upd (upd (upd (upd H m0 (some (.var u 29 [.own m4 (c + k) F.length, .own m5 (c + k) N.length, .nil0]))) m1 (some (.arr v1 true 3 92 (en eF dk.files)))) m2 (some (.arr v2 true 1 9 (en eS dk.names)))) m3 (some (.arr v3 true 2 94 (en eM dk.moves)))) m4 (some (.arr (c + k) true 3 92 (en eF F)))) m5 (some (.arr (c + k) true 1 9 (en eS (N ++ rest)))), c⟩) :
    step P k d un (.call f args) l prev K t H c := by
  generalize hhs : dkD m0 m1 m2 m3 m4 m5 u v1 v2 v3 dk F N rest = hs at hC
  have R0 : renN hs 4001 = some ⟨4001, m0, some (.var u 29 (oC 1001 v1 1002 v2 1003 v3 dk)), .var u 29 [.own 10 0 F.length, .own 7001 0 N.length, .nil0], true⟩ := by rw [← hhs]; rfl
  have R1 : renN hs 1001 = some (arH 1001 m1 v1 3 92 (en eF dk.files) (en eF dk.files)) := by rw [← hhs]; rfl
  have R2 : renN hs 1002 = some (arH 1002 m2 v2 1 9 (en eS dk.names) (en eS dk.names)) := by rw [← hhs]; rfl
  have R3 : renN hs 1003 = some (arH 1003 m3 v3 2 94 (en eM dk.moves) (en eM dk.moves)) := by rw [← hhs]; rfl
  have R4 : renN hs 10 = some (newH 10 m4 3 92 (en eF F)) := by rw [← hhs]; rfl
  have R5 : renN hs 7001 = some (newH 7001 m5 1 9 (en eS (N ++ rest))) := by rw [← hhs]; rfl
  have I0 : inN hs 4001 = some m0 := by simp [inN, R0]
  have I1 : inN hs 1001 = some m1 := by simp [inN, R1]
  have I2 : inN hs 1002 = some m2 := by simp [inN, R2]
  have I3 : inN hs 1003 = some m3 := by simp [inN, R3]
  obtain ⟨x1, x2⟩ := closed_As hs H al ha
  refine callW (caps := []) («as» := .c (.ptr m0 u 0) :: al) (ws := []) (ns := []) (r' := r) (ob := [(m0, .var u 29 [.own m4 (c + k) F.length, .own m5 (c + k) N.length, .nil0]), (m1, .arr v1 true 3 92 (en eF dk.files)), (m2, .arr v2 true 1 9 (en eS dk.names)), (m3, .arr v3 true 2 94 (en eM dk.moves)), (m4, .arr (c + k) true 3 92 (en eF F)), (m5, .arr (c + k) true 1 9 (en eS (N ++ rest)))]) hs hC hf ?_ ?_ ?_ (by rw [← hhs]; exact hm) (by rw [← hhs]; simp) (closed_T _ r hr _) ?_ ?_
  · have a1 : lendT H (T.c (.ptr 4001 u 0)) (T.c (.ptr m0 u 0)) = some (T.c (.ptr m0 u 0), [], []) := rfl
    rw [hl]
    simp only [List.map_nil, List.append_nil, lendTs, a1, x1]
  · have a1 : renIT hs (T.c (.ptr 4001 u 0)) = some (T.c (.ptr m0 u 0)) := by simp only [T.c, renIT, renI, I0, Option.map_some]
    simp only [renITs, a1, x2]
  · have B0 : renIB hs (.var u 29 (oC 1001 v1 1002 v2 1003 v3 dk)) = some (.var u 29 (oC m1 v1 m2 v2 m3 v3 dk)) := by simp only [renIB, renIs, renI, I1, I2, I3, Option.map_some]
    have B1 : ∀ v wr st ty es, renIB hs (.arr v wr st ty es) = some (.arr v wr st ty es) := fun _ _ _ _ _ => rfl
    have key : handsIn (updH H []) hs (dkD m0 m1 m2 m3 m4 m5 u v1 v2 v3 dk F N rest) := by
      simp only [handsIn, B0, B1, updH, h0, h1, h2, h3, and_self]
    rw [hhs] at key
    exact key
  · have key : renOBs hs (c + k) (dkD m0 m1 m2 m3 m4 m5 u v1 v2 v3 dk F N rest) = some [(m0, .var u 29 [.own m4 (c + k) F.length, .own m5 (c + k) N.length, .nil0]), (m1, .arr v1 true 3 92 (en eF dk.files)), (m2, .arr v2 true 1 9 (en eS dk.names)), (m3, .arr v3 true 2 94 (en eM dk.moves)), (m4, .arr (c + k) true 3 92 (en eF F)), (m5, .arr (c + k) true 1 9 (en eS (N ++ rest)))] := by
      simp only [renOBs, renOB, renOs, renO, R4, R5, Option.map_some, verOf, if_true, Bool.false_eq_true, if_false, Blk.ver]
    rw [hhs] at key
    exact key
  · have hq : quiet r hs = false := by rw [← hhs]; simp [quiet]
    have hms : hs.map (·.m) = [m0, m1, m2, m3, m4, m5] := by rw [← hhs]; rfl
    rw [hq, hms]
    simpa [updH] using hk
end
def ok154 := okF.gu (P := Tryz.prog) tab Tryz.func154 Tryz.ntmps154 (by conv => lhs; cbv) (by kernel_rfl)
theorem move_ok (d : Dk) (hd : smallDk d) (nm : ByteArray) (g : Bool) (m0 m1 m2 m3 u v1 v2 v3 : Nat) : ACallsF Tryz.prog 154 [.c (.ptr 4001 u 0), tS nm, .b g] (dkW m0 m1 m2 m3 u v1 v2 v3 d ⟨d.files, d.names, d.moves ++ [⟨g, nm⟩]⟩) (.tup []) := by
  have h3 := hd.m
  have q3 : (d.moves.length + 1) * 24 ≤ 140737488355328 := by omega
  have q4 : d.moves.length + 1 ≤ 9223372036854775807 := by omega
  refine ACallsF.intro ok154 follows fun X c0 => ?_
  simp only [go_sem, q3, q4, en_snoc, eM, false_implies, and_self]
end Go.V
set_option linter.unusedSimpArgs false
set_option maxRecDepth 20000
namespace Go.V
open Go.Proofs
/-- A disk's arrays, lent. -/
abbrev dkL (c1 v1 c2 v2 c3 v3 : Nat) (d : Dk) : List (Nat × Blk) := [(c1, .arr v1 false 3 92 (en eF d.files)), (c2, .arr v2 false 1 9 (en eS d.names)), (c3, .arr v3 false 2 94 (en eM d.moves))]
def ok153 := okF.gu (P := Tryz.prog) tab Tryz.func153 Tryz.ntmps153 (by conv => lhs; cbv) (by kernel_rfl)
def inv153 (d : Dk) (N rest : List ByteArray) (u v1 v2 v3 w : Nat) (i : Nat) (σ : St) : Prop := σ.t 0 = .c (.ptr 4001 u 0) ∧ σ.H 4001 = some (.var u 29 (oC 1001 v1 1002 v2 1003 v3 d)) ∧ σ.H 1001 = some (.arr v1 true 3 92 (en eF d.files)) ∧ σ.H 1002 = some (.arr v2 true 1 9 (en eS d.names)) ∧ σ.H 1003 = some (.arr v3 true 2 94 (en eM d.moves)) ∧
  (σ.t 2 = .c (.own 7001 w N.length) ∧ σ.t 11 = .c (.own 7001 w N.length) ∧ σ.H 7001 = some (.arr w true 1 9 (en eS (N ++ rest)))) ∧ (∃ v, σ.t 3 = .c (.own 10 v ((N.take i).map (fileOf d.files)).length) ∧ σ.H 10 = some (.arr v true 3 92 (en eF ((N.take i).map (fileOf d.files))))) ∧ σ.t 12 = .i N.length ∧ σ.t 13 = .i i
theorem dirs_ok (d : Dk) (hd : fineDk d) (hD : DOk d) (m0 m1 m2 m3 m4 m5 u v1 v2 v3 : Nat) : ACallsF Tryz.prog 153 [.c (.ptr 4001 u 0)] (dkD m0 m1 m2 m3 m4 m5 u v1 v2 v3 d ((aft d.names d.moves).map (fileOf d.files)) (aft d.names d.moves) (runI d.names d.moves).2) (.tup []) := by
  have hN := hD.nmI d.moves.length (Nat.le_refl _)
  rw [List.take_length] at hN
  have hT := there_ok d hd.s 7001
  rw [hN] at hT
  have hal := aft_len d.moves d.names
  have s1 := hd.s.f
  have s2 := hd.s.n
  have s3 := hd.s.m
  have hmem : ∀ x ∈ aft d.names d.moves, x ∈ made d := fun x hx => DOk.aft_made (n := d.moves.length) (by rw [List.take_length]; exact hx)
  generalize aft d.names d.moves = N at *
  generalize (runI d.names d.moves).2 = rest at *
  refine ACallsF.intro ok153 follows fun X c0 => ?_
  simp only [go_sem]
  refine callA1 (m := 7001) (ws := dkL 1001 v1 1002 v2 1003 v3 d) (ns := [1001, 1002, 1003]) hT rfl ?_ rfl (en_flat eS eS_flat _) ⟨?_, ?_⟩
  · simp only [go_sem, lendTs, lendT, dkL]
  · simp only [go_sem]
  simp only [go_sem]
  refine AW.upto N.length (inv153 d N rest u v1 v2 v3 (c0 + 3)) ⟨rfl, rfl, rfl, rfl, rfl, ⟨rfl, rfl, rfl⟩, ⟨_, rfl, rfl⟩, rfl, rfl⟩ fun i t H c hi h => ?_
  obtain ⟨e0, eH0, eH1, eH2, eH3, ⟨e2, e11, eHn⟩, ⟨v, e3, eHf⟩, e12, e13⟩ := h
  simp only [T.c, T.i, T.s, tL, oC] at e0 eH0 eH1 eH2 eH3 e2 e11 eHn e3 eHf e12 e13
  by_cases hlt : i < N.length
  · obtain ⟨x, hx⟩ : ∃ x, N[i]? = some x := ⟨_, List.getElem?_eq_getElem hlt⟩
    have hx2 : (N ++ rest)[i]? = some x := by rw [List.getElem?_append_left hlt]; exact hx
    obtain ⟨j, hj1, hj2, hj3⟩ := hD.find (hmem x (List.mem_of_getElem? hx))
    have hjl := (List.getElem?_eq_some_iff.1 hj2).1
    have ex := en_at eS hx2
    have ef := en_at eF hj2
    have k1 : (i : Int) < N.length := by omega
    have k2 : (j : Int) < d.files.length := by omega
    have gz : (0 : Int) ≤ i := by omega
    have gj : (0 : Int) ≤ j := by omega
    have hle : N.length ≤ N.length + rest.length := by omega
    have gw : IntKind.i64.wrap ((i : Int) + 1) = ((i + 1 : Nat) : Int) := wrap64 (x := (i : Int) + 1) ⟨by omega, by omega⟩
    have ht : (N.take (i + 1)).map (fileOf d.files) = (N.take i).map (fileOf d.files) ++ [fileOf d.files x] := by rw [List.take_add_one, hx]; simp
    have hl : ((N.take i).map (fileOf d.files)).length ≤ 3000000 := by rw [List.length_map, List.length_take]; omega
    generalize hq : (N.take i).map (fileOf d.files) = q at *
    have q3 : (q.length + 1) * 40 ≤ 140737488355328 := by omega
    have q4 : q.length + 1 ≤ 9223372036854775807 := by omega
    have hfo := fileAt_ok d x (by omega)
    rw [hj1] at hfo
    simp only [go_sem, e0, eH0, eH1, eH2, eH3, e2, e11, eHn, e12, e13, en_len, k1, gz, ex, eS, hle]
    refine callL (ws := dkL 1001 v1 1002 v2 1003 v3 d) (ns := [1001, 1002, 1003]) hfo rfl ?_ rfl rfl ⟨?_, ?_⟩
    · simp only [go_sem, lendTs, lendT, dkL, eH1, eH2, eH3]
    · simp only [go_sem, scalarT, scalarP, scalarC]
    simp only [go_sem, scalarT, scalarP, scalarC, e3, eHf, eH1, e13, gj, k2, ef, eF, gw, q3, q4]
    unfold inv153
    rw [ht, en_snoc, List.length_append]
    exact ⟨hlt, e0, eH0, eH1, eH2, eH3, ⟨e2, e11, eHn⟩, ⟨_, rfl, rfl⟩, e12, rfl⟩
  · have k1 : ¬ (i : Int) < N.length := by omega
    have hi2 : i = N.length := by omega
    subst hi2
    rw [List.take_length] at e3 eHf
    simp only [go_sem, e0, eH0, eH1, eH2, eH3, e2, eHn, e3, eHf, e12, e13, k1, false_implies, and_self, List.length_map]
end Go.V
set_option linter.unusedSimpArgs false
set_option maxRecDepth 20000
namespace Go.V
open Go.Proofs
def ok136 := okF.gu (P := Tryz.prog) tab Tryz.func136 Tryz.ntmps136 (by conv => lhs; cbv) (by kernel_rfl)
set_option maxRecDepth 20000 in
set_option maxHeartbeats 2000000 in
theorem writeD_ok (d : Dk) (w : DW) (hd : fineDk d) (_hw : fineDW w) (hD : DOk d) (k5 : w.kind = 5) (m0 m1 m2 m3 m4 m5 u v1 v2 v3 : Nat) :
    ACallsF Tryz.prog 136 [.c (.ptr 4001 u 0), tDW w] (dkD m0 m1 m2 m3 m4 m5 u v1 v2 v3 d ((aft d.names d.moves).map (fileOf d.files)) (aft d.names d.moves) (runI d.names d.moves).2) (.i 0) := by
  have s1 := hd.s.f
  have s2 := hd.s.n
  have s3 := hd.s.m
  have hN := hD.nmI d.moves.length (Nat.le_refl _)
  rw [List.take_length] at hN
  have hT := there_ok d hd.s 7002
  rw [hN] at hT
  have hal := aft_len d.moves d.names
  have hle : (aft d.names d.moves).length ≤ (aft d.names d.moves).length + (runI d.names d.moves).2.length := by omega
  have hin := inRange_ok w.kind 1 5
  have hx : (decide ((1 : Int) ≤ w.kind) && decide (w.kind ≤ 5)) = true := by rw [k5]; rfl
  rw [hx] at hin
  have b5 : (w.kind == 5) = true := by simp [k5]
  refine ACallsF.intro ok136 follows fun X c0 => ?_
  simp only [go_sem]
  refine callL (ws := dkL 1001 v1 1002 v2 1003 v3 d) (ns := [1001, 1002, 1003]) (fileAt_ok d w.name (by omega)) rfl ?_ rfl rfl ⟨?_, ?_⟩
  · simp only [go_sem, lendTs, lendT, dkL]
  · simp only [go_sem, scalarT, scalarP, scalarC]
  simp only [go_sem, scalarT, scalarP, scalarC]
  refine callA1 (m := 7002) (ws := dkL 1001 v1 1002 v2 1003 v3 d) (ns := [1001, 1002, 1003]) hT rfl ?_ rfl (en_flat eS eS_flat _) ⟨?_, ?_⟩
  · simp only [go_sem, lendTs, lendT, dkL]
  · simp only [go_sem]
  simp only [go_sem]
  refine callL (ws := [(7002, .arr (c0 + 2 + 7 + 9) false 1 9 (en eS (aft d.names d.moves ++ (runI d.names d.moves).2)))]) (ns := [7002]) (contains_ok (aft d.names d.moves) w.name (by omega)) rfl ?_ rfl rfl ⟨?_, ?_⟩
  · simp only [go_sem, lendTs, lendT, en_take2, hle]
  · simp only [go_sem, scalarT, scalarP, scalarC]
  simp only [go_sem, scalarT, scalarP, scalarC]
  refine callC hin rfl rfl rfl rfl ?_
  simp only [go_sem, b5]
  refine callDd (m0 := 4001) (m1 := 1001) (m2 := 1002) (m3 := 1003) (m4 := 10) (m5 := 7001) (dirs_ok d hd hD 4001 1001 1002 1003 10 7001 u v1 v2 v3) rfl rfl rfl rfl (by decide) rfl rfl rfl rfl ⟨rfl, ?_⟩
  simp only [go_sem, false_implies, and_self, imp_self]
set_option maxRecDepth 20000 in
set_option maxHeartbeats 2000000 in
theorem write_ok (d : Dk) (w : DW) (hd : fineDk d) (hw : fineDW w) (hD : DOk d) (k5 : w.kind ≠ 5) (m0 m1 m2 m3 u v1 v2 v3 : Nat) :
    ACallsF Tryz.prog 136 [.c (.ptr 4001 u 0), tDW w] (dkW m0 m1 m2 m3 u v1 v2 v3 d (doS d w).1) (.i (doS d w).2) := by
  have s1 := hd.s.f
  have s2 := hd.s.n
  have s3 := hd.s.m
  have l1 := hD.f
  have l3 := hD.m
  have hN := hD.nmI d.moves.length (Nat.le_refl _)
  rw [List.take_length] at hN
  have hT := there_ok d hd.s 7002
  rw [hN] at hT
  have hal := aft_len d.moves d.names
  have hle : (aft d.names d.moves).length ≤ (aft d.names d.moves).length + (runI d.names d.moves).2.length := by omega
  have hin := inRange_ok w.kind 1 5
  have b5 : (w.kind == 5) = false := by simp [k5]
  have pre : ∀ r, doS d w = r → (∀ (X : Ctx) (t1 : Nat → T) (H : HMap) (c u3 : Nat), t1 0 = .c (.ptr 4001 u 0) → H 4001 = some (.var u 29 (oC 1001 v1 1002 v2 1003 v3 d)) → H 1001 = some (.arr v1 true 3 92 (en eF d.files)) → H 1002 = some (.arr v2 true 1 9 (en eS d.names)) → H 1003 = some (.arr v3 true 2 94 (en eM d.moves)) →
      t1 3 = .c (.ptr 3 u3 0) → H 3 = some (.var u3 89 [.v (.s (.int .i64 w.kind)), .v (.s (.string w.name)), .v (.s (.string w.data))]) → t1 5 = .b ((d.moves.length : Int) == 128) → t1 6 = .i (fnd d.files w.name) → t1 7 = .b (has (aft d.names d.moves) w.name) →
      wpa Tryz.prog X (ok136.sub [1,1,1,0]) (thenW Tryz.prog X (.seq (ok136.sub [1,1,1,1,0]) (.seq (ok136.sub [1,1,1,1,1,0]) .ret)) (endA (FinC ok136.res (.i r.2) (dkW m0 m1 m2 m3 u v1 v2 v3 d r.1)))) ⟨t1, H, c⟩) → ACallsF Tryz.prog 136 [.c (.ptr 4001 u 0), tDW w] (dkW m0 m1 m2 m3 u v1 v2 v3 d (doS d w).1) (.i (doS d w).2) := by
    intro r hr hrest
    rw [hr]
    refine ACallsF.intro ok136 follows fun X c0 => ?_
    show wpa _ _ (.seq _ (.seq _ (.seq _ (.seq (ok136.sub [1,1,1,0]) (.seq (ok136.sub [1,1,1,1,0]) (.seq (ok136.sub [1,1,1,1,1,0]) .ret)))))) _ _
    simp only [go_sem]
    refine callL (ws := dkL 1001 v1 1002 v2 1003 v3 d) (ns := [1001, 1002, 1003]) (fileAt_ok d w.name (by omega)) rfl ?_ rfl rfl ⟨?_, ?_⟩
    · simp only [go_sem, lendTs, lendT, dkL]
    · simp only [go_sem, scalarT, scalarP, scalarC]
    simp only [go_sem, scalarT, scalarP, scalarC]
    refine callA1 (m := 7002) (ws := dkL 1001 v1 1002 v2 1003 v3 d) (ns := [1001, 1002, 1003]) hT rfl ?_ rfl (en_flat eS eS_flat _) ⟨?_, ?_⟩
    · simp only [go_sem, lendTs, lendT, dkL]
    · simp only [go_sem]
    simp only [go_sem]
    refine callL (ws := [(7002, .arr (c0 + 2 + 7 + 9) false 1 9 (en eS (aft d.names d.moves ++ (runI d.names d.moves).2)))]) (ns := [7002]) (contains_ok (aft d.names d.moves) w.name (by omega)) rfl ?_ rfl rfl ⟨?_, ?_⟩
    · simp only [go_sem, lendTs, lendT, en_take2, hle]
    · simp only [go_sem, scalarT, scalarP, scalarC]
    simp only [go_sem, scalarT, scalarP, scalarC]
    exact hrest X _ _ _ _ rfl rfl rfl rfl rfl rfl rfl rfl rfl rfl
  have fin : (False → True) = True := by simp
  by_cases kr : 1 ≤ w.kind ∧ w.kind ≤ 5
  rotate_left
  · have k1 : w.kind ≠ 1 := by omega
    have hx : (decide ((1 : Int) ≤ w.kind) && decide (w.kind ≤ 5)) = false := by
      rw [← Bool.decide_and]; exact decide_eq_false kr
    rw [hx] at hin
    refine pre (d, 5) (by simp only [doS, k1, k5, kr, if_true, if_false, not_false_eq_true]) ?_
    rintro X t1 H c u3 e0 eH0 eH1 eH2 eH3 e3 eH3v e5 e6 e7
    dsimp only [okF.sub, ACode.sub, okF.res]
    simp only [T.c, T.i, T.b, oC] at e0 eH0 eH1 eH2 eH3 e3 eH3v e5 e6 e7
    simp only [go_sem, e3, eH3v]
    refine callC hin rfl rfl rfl rfl ?_
    simp only [go_sem, e0, eH0, eH1, eH2, eH3, e3, eH3v, e5, e6, e7, false_implies, and_self, imp_self]
  have hx : (decide ((1 : Int) ≤ w.kind) && decide (w.kind ≤ 5)) = true := by
    rw [← Bool.decide_and]; exact decide_eq_true kr
  rw [hx] at hin
  by_cases k1 : w.kind = 1
  · have b1 : (w.kind == 1) = true := by simp [k1]
    have b1' : (w.kind != 1) = false := by simp [k1]
    have b2 : (w.kind == 2) = false := by simp [k1]
    have b4 : (w.kind == 4) = false := by simp [k1]
    by_cases n1 : nameOk w.name = false
    · refine pre (d, 3) (by simp only [doS, k1, n1, if_true, true_or]) ?_
      rintro X t1 H c u3 e0 eH0 eH1 eH2 eH3 e3 eH3v e5 e6 e7
      dsimp only [okF.sub, ACode.sub, okF.res]
      simp only [T.c, T.i, T.b, oC] at e0 eH0 eH1 eH2 eH3 e3 eH3v e5 e6 e7
      simp only [go_sem, e3, eH3v]
      refine callC hin rfl rfl rfl rfl ?_
      simp only [go_sem, e3, eH3v, b5, b1]
      refine callC (isName_ok w.name (by have := hw.1; omega)) rfl rfl rfl rfl ?_
      simp only [go_sem, e0, eH0, eH1, eH2, eH3, e3, eH3v, e5, e6, e7, n1, false_implies, and_self, imp_self]
    have n1' : nameOk w.name = true := by cases h : nameOk w.name with | true => rfl | false => exact absurd h n1
    by_cases n2 : 0 ≤ fnd d.files w.name
    · refine pre (d, 3) (by simp only [doS, k1, n2, if_true, or_true]) ?_
      rintro X t1 H c u3 e0 eH0 eH1 eH2 eH3 e3 eH3v e5 e6 e7
      dsimp only [okF.sub, ACode.sub, okF.res]
      simp only [T.c, T.i, T.b, oC] at e0 eH0 eH1 eH2 eH3 e3 eH3v e5 e6 e7
      simp only [go_sem, e3, eH3v]
      refine callC hin rfl rfl rfl rfl ?_
      simp only [go_sem, e3, eH3v, b5, b1]
      refine callC (isName_ok w.name (by have := hw.1; omega)) rfl rfl rfl rfl ?_
      simp only [go_sem, e0, eH0, eH1, eH2, eH3, e3, eH3v, e5, e6, e7, n1', ge_iff_le, n2, false_implies, and_self, imp_self]
    by_cases n3 : 64 ≤ d.files.length ∨ 128 ≤ d.moves.length
    · refine pre (d, 4) (by simp only [doS, k1, n1', n2, n3, if_true, if_false, or_self, Bool.true_eq_false]) ?_
      rintro X t1 H c u3 e0 eH0 eH1 eH2 eH3 e3 eH3v e5 e6 e7
      dsimp only [okF.sub, ACode.sub, okF.res]
      simp only [T.c, T.i, T.b, oC] at e0 eH0 eH1 eH2 eH3 e3 eH3v e5 e6 e7
      simp only [go_sem, e3, eH3v]
      refine callC hin rfl rfl rfl rfl ?_
      simp only [go_sem, e3, eH3v, b5, b1]
      refine callC (isName_ok w.name (by have := hw.1; omega)) rfl rfl rfl rfl ?_
      by_cases n4 : d.moves.length = 128
      · have n5 : ((d.moves.length : Int) == 128) = true := by simp [n4]
        simp only [go_sem, e0, eH0, eH1, eH2, eH3, e3, eH3v, e5, e6, e7, n1', ge_iff_le, n2, b1, b1', n5, false_implies, and_self, imp_self]
      · have n5 : ((d.moves.length : Int) == 128) = false := by simp; omega
        have n6 : ((d.files.length : Int) == 64) = true := by simp; omega
        simp only [go_sem, e0, eH0, eH1, eH2, eH3, e3, eH3v, e5, e6, e7, n1', ge_iff_le, n2, b1, b1', n5, n6, false_implies, and_self, imp_self]
    · refine pre (⟨d.files ++ [⟨w.name, ⟨#[]⟩, 0⟩], d.names, d.moves ++ [⟨false, w.name⟩]⟩, 0) (by simp only [doS, k1, n1', n2, n3, if_true, if_false, or_self, Bool.true_eq_false]) ?_
      rintro X t1 H c u3 e0 eH0 eH1 eH2 eH3 e3 eH3v e5 e6 e7
      dsimp only [okF.sub, ACode.sub, okF.res]
      simp only [T.c, T.i, T.b, oC] at e0 eH0 eH1 eH2 eH3 e3 eH3v e5 e6 e7
      have n5 : ((d.moves.length : Int) == 128) = false := by simp; omega
      have n6 : ((d.files.length : Int) == 64) = false := by simp; omega
      have q1 : (d.files.length + 1) * 40 ≤ 140737488355328 := by omega
      have q2 : d.files.length + 1 ≤ 9223372036854775807 := by omega
      have hmv := fun v1' => move_ok ⟨d.files ++ [⟨w.name, ⟨#[]⟩, 0⟩], d.names, d.moves⟩ ⟨by simp only [List.length_append, List.length_singleton]; omega, s2, s3⟩ w.name false 4001 1001 1002 1003 u v1' v2 v3
      simp only [go_sem, e3, eH3v]
      refine callC hin rfl rfl rfl rfl ?_
      simp only [go_sem, e3, eH3v, b5, b1]
      refine callC (isName_ok w.name (by have := hw.1; omega)) rfl rfl rfl rfl ?_
      simp only [go_sem, e0, eH0, eH1, eH2, eH3, e3, eH3v, e5, e6, e7, n1', ge_iff_le, n2, b1, b1', b2, b4, n5, n6, q1, q2]
      refine callDw (m0 := 4001) (m1 := 1001) (m2 := 1002) (m3 := 1003) (hmv (c + 5 + 4 + 14 + 8 + 15 + 7 + 20 + 2 + 2 + 9)) rfl rfl rfl rfl (by decide) ?_ ?_ ?_ ?_ ⟨rfl, ?_⟩
      · simp only [go_sem, oC]
      · simp only [go_sem, en_snoc, eF]
      · simp only [go_sem, eH2]
      · simp only [go_sem, eH3]
      simp only [go_sem, false_implies, and_self, imp_self]
  have b1 : (w.kind == 1) = false := by simp [k1]
  have b1' : (w.kind != 1) = true := by simp [k1]
  cases hh : has (aft d.names d.moves) w.name with
  | false =>
    refine pre (d, 2) (by simp only [doS, k1, k5, kr, hh, if_true, if_false, not_true_eq_false, and_self]) ?_
    rintro X t1 H c u3 e0 eH0 eH1 eH2 eH3 e3 eH3v e5 e6 e7
    dsimp only [okF.sub, ACode.sub, okF.res]
    simp only [T.c, T.i, T.b, oC] at e0 eH0 eH1 eH2 eH3 e3 eH3v e5 e6 e7
    rw [hh] at e7
    simp only [go_sem, e3, eH3v]
    refine callC hin rfl rfl rfl rfl ?_
    simp only [go_sem, e0, eH0, eH1, eH2, eH3, e3, eH3v, e5, e6, e7, b5, b1, b1', false_implies, and_self, imp_self]
  | true =>
  obtain ⟨i, hi1, hi2, hi3⟩ := hD.find (DOk.aft_made (n := d.moves.length) (x := w.name) (by rw [List.take_length]; exact has_true.1 hh))
  generalize hf : fileOf d.files w.name = f at *
  have hF := hD.files i f hi2
  have hfs := hF.data
  have ei := en_at eF hi2
  have gi : (0 : Int) ≤ i := by omega
  have gil := (List.getElem?_eq_some_iff.1 hi2).1
  have gil2 : (i : Int) < d.files.length := by omega
  have hwd := hw.2
  have gw : IntKind.i64.wrap ((f.data.size : Int) + (w.data.size : Int)) = ((f.data.size + w.data.size : Nat) : Int) := (wrap64 (x := (f.data.size : Int) + (w.data.size : Int)) ⟨by omega, by omega⟩).trans (by omega)
  by_cases k2 : w.kind = 2
  · have b2 : (w.kind == 2) = true := by simp [k2]
    have b4 : (w.kind == 4) = false := by simp [k2]
    by_cases p : 20000 < f.data.size + w.data.size
    · refine pre (d, 4) (by have h21 : ¬ (2 : Int) = 1 := (by omega); have h25 : ¬ (2 : Int) = 5 := (by omega); have hr2 : (1 : Int) ≤ 2 ∧ (2 : Int) ≤ 5 := (by omega); simp only [doS, k2, h21, h25, hr2, hh, hf, p, if_true, if_false, not_true_eq_false, and_self, Bool.true_eq_false]) ?_
      rintro X t1 H c u3 e0 eH0 eH1 eH2 eH3 e3 eH3v e5 e6 e7
      dsimp only [okF.sub, ACode.sub, okF.res]
      simp only [T.c, T.i, T.b, oC] at e0 eH0 eH1 eH2 eH3 e3 eH3v e5 e6 e7
      rw [hh] at e7
      rw [hi1] at e6
      have p' : ((f.data.size + w.data.size : Nat) : Int) > 20000 := by omega
      simp only [go_sem, e3, eH3v]
      refine callC hin rfl rfl rfl rfl ?_
      simp only [go_sem, e0, eH0, eH1, eH2, eH3, e3, eH3v, e5, e6, e7, b5, b1, b1', b2, b4, gi, gil2, ei, eF, gw, p', false_implies, and_self, imp_self]
    · refine pre (⟨d.files.set i ⟨f.name, f.data ++ w.data, f.kept⟩, d.names, d.moves⟩, 0) (by have h21 : ¬ (2 : Int) = 1 := (by omega); have h25 : ¬ (2 : Int) = 5 := (by omega); have hr2 : (1 : Int) ≤ 2 ∧ (2 : Int) ≤ 5 := (by omega); simp only [doS, k2, h21, h25, hr2, hh, hf, p, hi1, Int.toNat_natCast, if_true, if_false, not_true_eq_false, and_self, Bool.true_eq_false]) ?_
      rintro X t1 H c u3 e0 eH0 eH1 eH2 eH3 e3 eH3v e5 e6 e7
      dsimp only [okF.sub, ACode.sub, okF.res]
      simp only [T.c, T.i, T.b, oC] at e0 eH0 eH1 eH2 eH3 e3 eH3v e5 e6 e7
      rw [hh] at e7
      rw [hi1] at e6
      have p' : ¬ ((f.data.size + w.data.size : Nat) : Int) > 20000 := by omega
      have hsz : fits f.data w.data := by unfold fits; omega
      have hn : (en eF d.files).set i [.s (.string f.name), .s (.string (f.data ++ w.data)), .s (.int .i64 f.kept)] = en eF (d.files.set i ⟨f.name, f.data ++ w.data, f.kept⟩) := en_set eF d.files i ⟨f.name, f.data ++ w.data, f.kept⟩
      simp only [go_sem, e3, eH3v]
      refine callC hin rfl rfl rfl rfl ?_
      simp only [go_sem, e0, eH0, eH1, eH2, eH3, e3, eH3v, e5, e6, e7, b5, b1, b1', b2, b4, gi, gil2, ei, eF, gw, p', sStr, hsz, hn, List.length_set, false_implies, and_self, imp_self]
  have b2 : (w.kind == 2) = false := by simp [k2]
  by_cases k3 : w.kind = 3
  · have b3 : (w.kind == 3) = true := by simp [k3]
    have b4 : (w.kind == 4) = false := by simp [k3]
    refine pre (⟨d.files.set i ⟨f.name, f.data, f.data.size⟩, d.names, d.moves⟩, 0) (by have h21 : ¬ (3 : Int) = 1 := (by omega); have h25 : ¬ (3 : Int) = 5 := (by omega); have h32 : ¬ (3 : Int) = 2 := (by omega); have hr2 : (1 : Int) ≤ 3 ∧ (3 : Int) ≤ 5 := (by omega); simp only [doS, k3, h21, h25, h32, hr2, hh, hf, hi1, Int.toNat_natCast, if_true, if_false, not_true_eq_false, and_self, Bool.true_eq_false]) ?_
    rintro X t1 H c u3 e0 eH0 eH1 eH2 eH3 e3 eH3v e5 e6 e7
    dsimp only [okF.sub, ACode.sub, okF.res]
    simp only [T.c, T.i, T.b, oC] at e0 eH0 eH1 eH2 eH3 e3 eH3v e5 e6 e7
    rw [hh] at e7
    rw [hi1] at e6
    have hn : (en eF d.files).set i [.s (.string f.name), .s (.string f.data), .s (.int .i64 (f.data.size : Int))] = en eF (d.files.set i ⟨f.name, f.data, f.data.size⟩) := en_set eF d.files i ⟨f.name, f.data, f.data.size⟩
    simp only [go_sem, e3, eH3v]
    refine callC hin rfl rfl rfl rfl ?_
    simp only [go_sem, e0, eH0, eH1, eH2, eH3, e3, eH3v, e5, e6, e7, b5, b1, b1', b2, b3, b4, gi, gil2, ei, eF, hn, List.length_set, false_implies, and_self, imp_self]
  have b3 : (w.kind == 3) = false := by simp [k3]
  have b4 : (w.kind == 4) = true := by have : w.kind = 4 := by omega
                                       simp [this]
  by_cases p : 128 ≤ d.moves.length
  · refine pre (d, 4) (by simp only [doS, k1, k5, k2, k3, kr, hh, p, if_true, if_false, not_true_eq_false, and_self, Bool.true_eq_false]) ?_
    rintro X t1 H c u3 e0 eH0 eH1 eH2 eH3 e3 eH3v e5 e6 e7
    dsimp only [okF.sub, ACode.sub, okF.res]
    simp only [T.c, T.i, T.b, oC] at e0 eH0 eH1 eH2 eH3 e3 eH3v e5 e6 e7
    rw [hh] at e7
    have n5 : ((d.moves.length : Int) == 128) = true := by simp; omega
    simp only [go_sem, e3, eH3v]
    refine callC hin rfl rfl rfl rfl ?_
    simp only [go_sem, e0, eH0, eH1, eH2, eH3, e3, eH3v, e5, e6, e7, b5, b1, b1', b2, b3, b4, n5, false_implies, and_self, imp_self]
  · refine pre (⟨d.files, d.names, d.moves ++ [⟨true, w.name⟩]⟩, 0) (by simp only [doS, k1, k5, k2, k3, kr, hh, p, if_true, if_false, not_true_eq_false, and_self, Bool.true_eq_false]) ?_
    rintro X t1 H c u3 e0 eH0 eH1 eH2 eH3 e3 eH3v e5 e6 e7
    dsimp only [okF.sub, ACode.sub, okF.res]
    simp only [T.c, T.i, T.b, oC] at e0 eH0 eH1 eH2 eH3 e3 eH3v e5 e6 e7
    rw [hh] at e7
    have n5 : ((d.moves.length : Int) == 128) = false := by simp; omega
    simp only [go_sem, e3, eH3v]
    refine callC hin rfl rfl rfl rfl ?_
    simp only [go_sem, e0, eH0, eH1, eH2, eH3, e3, eH3v, e5, e6, e7, b5, b1, b1', b2, b3, b4, n5]
    refine callDw (m0 := 4001) (m1 := 1001) (m2 := 1002) (m3 := 1003) (move_ok d hd.s w.name true 4001 1001 1002 1003 u v1 v2 v3) rfl rfl rfl rfl (by decide) ?_ ?_ ?_ ?_ ⟨rfl, ?_⟩
    · simp only [go_sem, eH0, oC]
    · simp only [go_sem, eH1]
    · simp only [go_sem, eH2]
    · simp only [go_sem, eH3]
    simp only [go_sem, false_implies, and_self, imp_self]
end Go.V
set_option linter.unusedSimpArgs false
namespace Go.V
open Go.Proofs
theorem small_do (d : Dk) (w : DW) (hD : DOk d) : smallDk (doS d w).1 ∧ (doS d w).1.files.length ≤ 1000 ∧ (doS d w).1.names.length ≤ 1000 ∧ (doS d w).1.moves.length ≤ 1000 := by
  have l1 := hD.f
  have l2 := hD.n
  have l3 := hD.m
  have hal := aft_len d.moves d.names
  have key : (doS d w).1.files.length ≤ 1000 ∧ (doS d w).1.names.length ≤ 1000 ∧ (doS d w).1.moves.length ≤ 1000 := by
    unfold doS
    split
    · split
      · exact ⟨by simp only; omega, by simp only; omega, by simp only; omega⟩
      · split
        · exact ⟨by simp only; omega, by simp only; omega, by simp only; omega⟩
        · simp only [List.length_append, List.length_singleton]; omega
    · split
      · simp only [keepD, List.length_map, List.length_nil]; omega
      · split
        · exact ⟨by simp only; omega, by simp only; omega, by simp only; omega⟩
        · split
          · exact ⟨by simp only; omega, by simp only; omega, by simp only; omega⟩
          · split
            · split
              · exact ⟨by simp only; omega, by simp only; omega, by simp only; omega⟩
              · simp only [List.length_set]; omega
            · split
              · simp only [List.length_set]; omega
              · split
                · exact ⟨by simp only; omega, by simp only; omega, by simp only; omega⟩
                · simp only [List.length_append, List.length_singleton]; omega
  exact ⟨⟨by omega, by omega, by omega⟩, key⟩
end Go.V
set_option linter.unusedSimpArgs false
namespace Go.V
open Go.Proofs
section
variable {P : Program} {t : Nat → T} {H : HMap} {c : Nat} {f : Opd} {args : List Opd} {fid : FuncId} {argsC : List T} {ws : List (Nat × Blk)} {ns : List Nat} {k : Nat} {d : Option Nat} {un : List Nat} {l : List AOper} {prev : List (Nat × List Nat × List Nat)} {K : St → Prop}
/-- A call that marks a disk of the caller's. -/
theorem callMk {m1 m2 m3 v1 v2 v3 : Nat} {dk dk' : Dk} {x r : T} (hC : ACallsF P fid [.pt (oDk 2001 v1 2002 v2 2003 v3 dk), x] (dkM m1 m2 m3 v1 v2 v3 dk dk') r) (hf : ev t f = .pt (.one (.fn fid []))) (hl : args.map (ev t) = [.pt (oDk m1 v1 m2 v2 m3 v3 dk), x]) (hx : closedA x = true) (hr : closedT r = true)
    (hm : m1 ≠ m2 ∧ m1 ≠ m3 ∧ m2 ≠ m3) (h1 : H m1 = some (.arr v1 true 3 92 (en eF dk.files))) (h2 : H m2 = some (.arr v2 true 1 9 (en eS dk.names))) (h3 : H m3 = some (.arr v3 true 2 94 (en eM dk.moves)))
    (hk : chk prev un ⟨r, [(m1, .arr v1 true 3 92 (en eF dk'.files)), (m2, .arr v2 true 1 9 (en eS dk'.names)), (m3, .arr v3 true 2 94 (en eM dk'.moves))], [m1, m2, m3], [m1, m2, m3]⟩ = true ∧
      DRun P l ((k, [m1, m2, m3], [m1, m2, m3]) :: prev) K ⟨updD t d r, upd (upd (upd H m1 (some (.arr v1 true 3 92 (en eF dk'.files)))) m2 (some (.arr v2 true 1 9 (en eS dk'.names)))) m3 (some (.arr v3 true 2 94 (en eM dk'.moves))), c⟩) :
    step P k d un (.call f args) l prev K t H c := by
  generalize hhs : dkM m1 m2 m3 v1 v2 v3 dk dk' = hs at hC
  have R1 : renN hs 2001 = some (arH 2001 m1 v1 3 92 (en eF dk.files) (en eF dk'.files)) := by rw [← hhs]; rfl
  have R2 : renN hs 2002 = some (arH 2002 m2 v2 1 9 (en eS dk.names) (en eS dk'.names)) := by rw [← hhs]; rfl
  have R3 : renN hs 2003 = some (arH 2003 m3 v3 2 94 (en eM dk.moves) (en eM dk'.moves)) := by rw [← hhs]; rfl
  have I1 : inN hs 2001 = some m1 := by simp [inN, R1]
  have I2 : inN hs 2002 = some m2 := by simp [inN, R2]
  have I3 : inN hs 2003 = some m3 := by simp [inN, R3]
  obtain ⟨x1, x2⟩ := closed_A hs H x hx
  obtain ⟨g1, g2, g3⟩ := hm
  refine callW (caps := []) («as» := [.pt (oDk m1 v1 m2 v2 m3 v3 dk), x]) (ws := []) (ns := []) (r' := r) (ob := [(m1, .arr v1 true 3 92 (en eF dk'.files)), (m2, .arr v2 true 1 9 (en eS dk'.names)), (m3, .arr v3 true 2 94 (en eM dk'.moves))]) hs hC hf ?_ ?_ ?_ (by rw [← hhs]; simp [g1, g2, g3]) (by rw [← hhs]; simp) (closed_T _ r hr _) ?_ ?_
  · have a1 : lendT H (.pt (oDk 2001 v1 2002 v2 2003 v3 dk)) (.pt (oDk m1 v1 m2 v2 m3 v3 dk)) = some (.pt (oDk m1 v1 m2 v2 m3 v3 dk), [], []) := rfl
    rw [hl]
    simp only [List.map_nil, List.append_nil, lendTs, a1, x1]
  · have a1 : renIT hs (.pt (oDk 2001 v1 2002 v2 2003 v3 dk)) = some (.pt (oDk m1 v1 m2 v2 m3 v3 dk)) := by simp only [renIT, renIs, renI, I1, I2, I3, Option.map_some]
    simp only [renITs, a1, x2]
  · have B1 : ∀ v wr st ty es, renIB hs (.arr v wr st ty es) = some (.arr v wr st ty es) := fun _ _ _ _ _ => rfl
    have key : handsIn (updH H []) hs (dkM m1 m2 m3 v1 v2 v3 dk dk') := by
      simp only [handsIn, B1, updH, h1, h2, h3, and_self]
    rw [hhs] at key
    exact key
  · have key : renOBs hs (c + k) (dkM m1 m2 m3 v1 v2 v3 dk dk') = some [(m1, .arr v1 true 3 92 (en eF dk'.files)), (m2, .arr v2 true 1 9 (en eS dk'.names)), (m3, .arr v3 true 2 94 (en eM dk'.moves))] := by
      simp only [renOBs, renOB, verOf, if_true, Blk.ver]
    rw [hhs] at key
    exact key
  · have hq : quiet r hs = false := by rw [← hhs]; simp [quiet]
    have hms : hs.map (·.m) = [m1, m2, m3] := by rw [← hhs]; rfl
    rw [hq, hms]
    simpa [updH] using hk
end
theorem lendDk {H : HMap} {m1 m2 m3 v1 v2 v3 n1 n2 n3 : Nat} {w1 w2 w3 : Bool} {d : Dk} (h1 : H m1 = some (.arr v1 w1 3 92 (en eF d.files))) (h2 : H m2 = some (.arr v2 w2 1 9 (en eS d.names))) (h3 : H m3 = some (.arr v3 w3 2 94 (en eM d.moves))) (e1 : n1 = d.files.length) (e2 : n2 = d.names.length) (e3 : n3 = d.moves.length) :
    lendT H (tDk d) (.pt (.agg [.own m1 v1 n1, .own m2 v2 n2, .own m3 v3 n3])) = some (tDk d, dkL m1 v1 m2 v2 m3 v3 d, [m1, m2, m3]) := by
  subst e1 e2 e3
  simp only [lendT, lendCs, lendC, sealC, h1, h2, h3, en_len, en_take, Nat.le_refl, and_self, if_true, Option.map_some, List.cons_append, List.nil_append]
theorem lend1 {H : HMap} {m1 m2 m3 v1 v2 v3 n1 n2 n3 : Nat} {w1 w2 w3 : Bool} {d : Dk} {x : T} (h1 : H m1 = some (.arr v1 w1 3 92 (en eF d.files))) (h2 : H m2 = some (.arr v2 w2 1 9 (en eS d.names))) (h3 : H m3 = some (.arr v3 w3 2 94 (en eM d.moves))) (e1 : n1 = d.files.length) (e2 : n2 = d.names.length) (e3 : n3 = d.moves.length) (hx : closedA x = true) :
    lendTs H [tDk d, x] [.pt (.agg [.own m1 v1 n1, .own m2 v2 n2, .own m3 v3 n3]), x] = some ([tDk d, x], dkL m1 v1 m2 v2 m3 v3 d, [m1, m2, m3]) := by
  simp only [lendTs, lendDk h1 h2 h3 e1 e2 e3, (closed_A [] H x hx).1, List.append_nil]
theorem mk_len (k : Nat) (d : Dk) : d.files.length = (mkDk k d).files.length ∧ d.names.length = (mkDk k d).names.length ∧ d.moves.length = (mkDk k d).moves.length := by simp [mkDk, marks_len]
/-- A disk as an argument may be. -/
structure argDk (d : Dk) : Prop where
  f : d.files.length ≤ 9223372036854775807 ∧ ∀ x ∈ d.files, okDF x
  n : d.names.length ≤ 9223372036854775807 ∧ ∀ x ∈ d.names, okS x
  m : d.moves.length ≤ 9223372036854775807 ∧ ∀ x ∈ d.moves, okDM x
end Go.V
set_option linter.unusedSimpArgs false
set_option maxRecDepth 20000
namespace Go.V
open Go.Proofs
/-- An act of a log. -/
structure LA where
  kind : Int
  data : ByteArray
  cuts : Bool
  after : Int
  moves : Int
  keep : List Int
abbrev tLA (a : LA) : T := .pt (.agg [.v (.s (.int .i64 a.kind)), .v (.s (.string a.data)), .v (.s (.bool a.cuts)), .v (.s (.int .i64 a.after)), .v (.s (.int .i64 a.moves)), .v (.sl (en eI a.keep))])
abbrev oLA (c v : Nat) (a : LA) : P1 := .agg [.v (.s (.int .i64 a.kind)), .v (.s (.string a.data)), .v (.s (.bool a.cuts)), .v (.s (.int .i64 a.after)), .v (.s (.int .i64 a.moves)), .own c v a.keep.length]
structure okLA (a : LA) : Prop where
  d : okS a.data
  k : a.keep.length ≤ 9223372036854775807
theorem ne0 (x : Int) : (x != x) = false := by simp
def ok87 := okF.gu (P := Tryz.prog) tab Tryz.func87 Tryz.ntmps87 (by conv => lhs; cbv) (by kernel_rfl)
theorem szIs_ok (xs : List Int) (left : Int) (h0 : 0 ≤ left ∧ left ≤ 1048576) (hl : xs.length ≤ 9223372036854775807) : ACallsF Tryz.prog 87 [tL (en eI xs), .i left] [] (.i (sub1 left xs.length)) := by
  refine ACallsF.intro ok87 follows fun X c0 => ?_
  have gw0 : IntKind.i64.wrap (left - xs.length) = left - xs.length := wrap64 ⟨by omega, by omega⟩
  by_cases hA : (xs.length : Int) ≤ left
  · have k0 : ¬ left - (xs.length : Int) < 0 := by omega
    have k3 : sub1 left xs.length = left - (xs.length : Int) := by rw [sub1, if_pos (by omega)]
    simp only [go_sem, en_len, gw0, k0, k3]
  · have k0 : left - (xs.length : Int) < 0 := by omega
    have k3 : sub1 left xs.length = -1 := by rw [sub1, if_neg (by omega)]
    simp only [go_sem, en_len, gw0, k0, k3]
def ok36 := okF.gu (P := Tryz.prog) tab Tryz.func36 Tryz.ntmps36 (by conv => lhs; cbv) (by kernel_rfl)
def wLA (a : LA) : Nat := a.data.size + a.keep.length
theorem szLA_ok (a : LA) (left : Int) (h0 : 0 ≤ left ∧ left ≤ 1048576) (ha : okLA a) : ACallsF Tryz.prog 36 [tLA a, .i left] [] (.i (sub1 left (wLA a))) := by
  have h1 := ha.d
  unfold okS at h1
  have gw0 : IntKind.i64.wrap (left - a.data.size) = left - a.data.size := wrap64 ⟨by omega, by omega⟩
  by_cases hA : (a.data.size : Int) ≤ left
  · have k0 : ¬ left - (a.data.size : Int) < 0 := by omega
    have hC := szIs_ok a.keep (left - a.data.size) ⟨by omega, by omega⟩ ha.k
    by_cases hB : (a.keep.length : Int) ≤ left - a.data.size
    · have k1 : sub1 (left - a.data.size) a.keep.length = left - a.data.size - a.keep.length := by rw [sub1, if_pos (by omega)]
      have k2 : sub1 left (wLA a) = left - a.data.size - a.keep.length := by rw [sub1, if_pos (by unfold wLA; omega), wLA]; omega
      have k3 : ¬ left - (a.data.size : Int) - (a.keep.length : Int) < 0 := by omega
      rw [k1] at hC
      refine ACallsF.intro ok36 follows fun X c0 => ?_
      simp only [go_sem, gw0, k0]
      refine callC hC rfl rfl rfl rfl ?_
      simp only [go_sem, k2, k3]
    · have k1 : sub1 (left - a.data.size) a.keep.length = -1 := by rw [sub1, if_neg (by omega)]
      have k2 : sub1 left (wLA a) = -1 := by rw [sub1, if_neg (by unfold wLA; omega)]
      rw [k1] at hC
      refine ACallsF.intro ok36 follows fun X c0 => ?_
      simp only [go_sem, gw0, k0]
      refine callC hC rfl rfl rfl rfl ?_
      simp only [go_sem, k2, Int.reduceLT]
  · have k0 : left - (a.data.size : Int) < 0 := by omega
    have k2 : sub1 left (wLA a) = -1 := by rw [sub1, if_neg (by unfold wLA; omega)]
    refine ACallsF.intro ok36 follows fun X c0 => ?_
    simp only [go_sem, gw0, k0, k2]
def ok91 := okF.gu (P := Tryz.prog) tab Tryz.func91 Tryz.ntmps91 (by conv => lhs; cbv) (by kernel_rfl)
def inv91 (xs : List Int) (i : Nat) (σ : St) : Prop := σ.t 0 = tL (en eI xs) ∧ (∃ v, σ.t 3 = .c (.own 7 v xs.length) ∧ σ.H 7 = some (.arr v true 1 3 (en eI (part xs (0 : Int) i)))) ∧ σ.t 4 = .i i
theorem toIs_ok (xs : List Int) (hl : xs.length ≤ 1048576) (m : Nat) : ACallsF Tryz.prog 91 [tL (en eI xs)] [newH 7 m 1 3 (en eI xs)] (.c (.own 7 0 xs.length)) := by
  refine ACallsF.intro ok91 follows fun X c0 => ?_
  have q0 : (0 : Int) ≤ xs.length := by omega
  have q1 : ((8 : Nat) : Int) * (xs.length : Int) ≤ 281474976710656 := by omega
  have q2 : (xs.length : Int) ≤ 9223372036854775807 := by omega
  simp only [go_sem, q0, q1, q2, Int.le_refl]
  refine AW.upto xs.length (inv91 xs) ?_ fun i t H c hi h => ?_
  · unfold inv91
    rw [part_zero, ← en_rep]
    exact ⟨rfl, ⟨_, rfl, rfl⟩, rfl⟩
  obtain ⟨e0, ⟨v, e3, eH⟩, e4⟩ := h
  simp only [T.c, T.i, tL] at e0 e3 eH e4
  have hpl : (part xs (0 : Int) i).length = xs.length := part_len xs (0 : Int) hi
  by_cases hlt : i < xs.length
  · obtain ⟨x, hx⟩ : ∃ x, xs[i]? = some x := ⟨_, List.getElem?_eq_getElem hlt⟩
    have ex := en_at eI hx
    have ez := en_at eI (part_at xs (0 : Int) hlt)
    have k1 : (i : Int) < xs.length := by omega
    have gz : (0 : Int) ≤ i := by omega
    have gm : i < xs.length := hlt
    have gw : IntKind.i64.wrap ((i : Int) + 1) = ((i + 1 : Nat) : Int) := wrap64 (x := (i : Int) + 1) ⟨by omega, by omega⟩
    have hn : (en eI (part xs (0 : Int) i)).set i (eI x) = en eI (part xs (0 : Int) (i + 1)) := by rw [en_set, part_set xs (0 : Int) hx]
    simp only [go_sem, e0, e3, eH, e4, en_len, k1, gz, gm, ex, ez, eI, Int.toNat_natCast, hpl, gw]
    exact ⟨e0, ⟨v, e3, congrArg (fun q => some (Blk.arr v true 1 3 q)) hn⟩, rfl⟩
  · have k1 : ¬ (i : Int) < xs.length := by omega
    have hi2 : i = xs.length := by omega
    subst hi2
    rw [part_end] at eH
    simp only [go_sem, e0, e3, eH, e4, en_len, k1, imp_self]
def ok38 := okF.gu (P := Tryz.prog) tab Tryz.func38 Tryz.ntmps38 (by conv => lhs; cbv) (by kernel_rfl)
theorem toLA_ok (a : LA) (hl : a.keep.length ≤ 1048576) (m : Nat) : ACallsF Tryz.prog 38 [tLA a] [newH 1001 m 1 3 (en eI a.keep)] (.pt (oLA 1001 0 a)) := by
  refine ACallsF.intro ok38 follows fun X c0 => ?_
  simp only [go_sem]
  refine callA1 (m := 1001) (ws := []) (ns := []) (toIs_ok a.keep hl 1001) rfl rfl rfl (en_flat eI eI_flat _) ⟨rfl, ?_⟩
  simp only [go_sem, imp_self]
def ok28 := okF.gu (P := Tryz.prog) tab Tryz.func28 Tryz.ntmps28 (by conv => lhs; cbv) (by kernel_rfl)
def inv28 (xs : List Int) (i : Nat) (σ : St) : Prop := σ.t 0 = tL (en eI xs) ∧ σ.t 1 = tL (en eI xs) ∧ σ.t 5 = .i i
theorem eqIs_ok (xs : List Int) (hl : xs.length ≤ 9000000000000000000) : ACallsF Tryz.prog 28 [tL (en eI xs), tL (en eI xs)] [] (.b true) := by
  have n0 : ((xs.length : Int) != xs.length) = false := by simp
  refine ACallsF.intro ok28 follows fun X c0 => ?_
  simp only [go_sem, n0]
  refine AW.upto xs.length (inv28 xs) ⟨rfl, rfl, rfl⟩ fun i t H c hi h => ?_
  obtain ⟨e0, e1, e5⟩ := h
  simp only [T.c, T.i, tL] at e0 e1 e5
  by_cases hlt : i < xs.length
  · obtain ⟨x, hx⟩ : ∃ x, xs[i]? = some x := ⟨_, List.getElem?_eq_getElem hlt⟩
    have ex := en_at eI hx
    have k1 : (i : Int) < xs.length := by omega
    have gz : (0 : Int) ≤ i := by omega
    have gw : IntKind.i64.wrap ((i : Int) + 1) = ((i + 1 : Nat) : Int) := wrap64 (x := (i : Int) + 1) ⟨by omega, by omega⟩
    simp only [go_sem, e0, e1, e5, en_len, k1, gz, ex, eI, Int.toNat_natCast, ne0 x, gw]
    exact ⟨hlt, e0, e1, rfl⟩
  · have k1 : ¬ (i : Int) < xs.length := by omega
    simp only [go_sem, e0, e1, e5, en_len, k1]
def ok39 := okF.gu (P := Tryz.prog) tab Tryz.func39 Tryz.ntmps39 (by conv => lhs; cbv) (by kernel_rfl)
theorem eqLA_ok (a : LA) (hl : a.keep.length ≤ 9000000000000000000) : ACallsF Tryz.prog 39 [tLA a, tLA a] [] (.b true) := by
  refine ACallsF.intro ok39 follows fun X c0 => ?_
  have b0 : (!(a.cuts == a.cuts)) = false := by simp
  simp only [go_sem, ne0, b0, sStr, str_beq, decide_true]
  refine callC (eqIs_ok a.keep hl) rfl rfl rfl rfl ?_
  simp only [go_sem]
end Go.V
set_option linter.unusedSimpArgs false
set_option maxRecDepth 20000
namespace Go.V
open Go.Proofs
def ok32 := okF.gu (P := Tryz.prog) tab Tryz.func32 Tryz.ntmps32 (by conv => lhs; cbv) (by kernel_rfl)
def inv32 (xs : List Int) (k v : Nat) (i : Nat) (σ : St) : Prop := σ.t 0 = .c (.own 2001 v xs.length) ∧ σ.H 2001 = some (.arr v true 1 3 (en eI (mrk mI 1 xs k i))) ∧ σ.t 1 = .i ((k + 1 * i : Nat) : Int) ∧ σ.t 5 = .i i
theorem markIs_ok (xs : List Int) (k : Nat) (h1 : 1 ≤ k) (hk : k + 1 * xs.length ≤ 100000000) (m v : Nat) : ACallsF Tryz.prog 32 [.c (.own 2001 v xs.length), .i k] [arH 2001 m v 1 3 (en eI xs) (en eI (marks mI 1 k xs.length))] (.i ((k + 1 * xs.length : Nat) : Int)) := by
  refine ACallsF.intro ok32 follows fun X c0 => ?_
  simp only [go_sem]
  refine AW.upto xs.length (inv32 xs k v) ?_ fun i t H c hi h => ?_
  · unfold inv32
    rw [mrk_zero]
    exact ⟨rfl, rfl, rfl, rfl⟩
  obtain ⟨e0, eH, e1, e5⟩ := h
  simp only [T.c, T.i] at e0 eH e1 e5
  have hpl : (mrk mI 1 xs k i).length = xs.length := mrk_len mI 1 xs k hi
  by_cases hlt : i < xs.length
  · obtain ⟨x, hx⟩ : ∃ x, xs[i]? = some x := ⟨_, List.getElem?_eq_getElem hlt⟩
    have ex := en_at eI (mrk_at mI 1 xs k hx)
    have k1 : (i : Int) < xs.length := by omega
    have gz : (0 : Int) ≤ i := by omega
    have gm : i < xs.length := hlt
    have gw : IntKind.i64.wrap ((i : Int) + 1) = ((i + 1 : Nat) : Int) := wrap64 (x := (i : Int) + 1) ⟨by omega, by omega⟩
    have h30 : ¬ (3 : Int) = 0 := by omega
    have q3 : ((k + 1 * i : Nat) : Int).tmod 3 = (((k + 1 * i) % 3 : Nat) : Int) := rfl
    have g0 : IntKind.i64.wrap (((k + 1 * i : Nat) : Int) + 1) = ((k + 1 * (i + 1) : Nat) : Int) := (wrap64 (x := ((k + 1 * i : Nat) : Int) + 1) ⟨by omega, by omega⟩).trans (by omega)
    have hn : (en eI (mrk mI 1 xs k i)).set i (eI (mI (k + 1 * i))) = en eI (mrk mI 1 xs k (i + 1)) := by rw [en_set, mrk_set mI 1 xs k hx]
    simp only [go_sem, SET, e0, eH, e1, e5, en_len, hpl, k1, gz, gm, ex, eI, g0, gw, h30, q3]
    exact ⟨e0, congrArg (fun q => some (Blk.arr v true 1 3 q)) hn, rfl, rfl⟩
  · have k1 : ¬ (i : Int) < xs.length := by omega
    have hi2 : i = xs.length := by omega
    subst hi2
    rw [mrk_end] at eH
    simp only [go_sem, e0, eH, e1, e5, en_len, k1, imp_self]
end Go.V
set_option linter.unusedSimpArgs false
namespace Go.V
open Go.Proofs
/-! What a write leaves ok. -/
structure DOk2 (d : Dk) : Prop where
  f : d.files.length ≤ 64
  n : d.names.length ≤ 64
  m : d.moves.length ≤ 128
  l : d.files.map DF.name = made d
  nd : (made d).Nodup
  good : ∀ f ∈ d.files, nameOk f.name = true ∧ f.data.size ≤ 20000 ∧ 0 ≤ f.kept ∧ f.kept ≤ f.data.size
  moves : ∀ (i : Nat) (m : DM), d.moves[i]? = some m → m.gone = true → m.name ∈ aft d.names (d.moves.take i)
theorem DOk.two {d : Dk} (h : DOk d) : DOk2 d := by
  refine ⟨h.f, h.n, h.m, List.ext_getElem? fun i => ?_, made_nodup h.l fun i f hf => ⟨(h.files i f hf).made, (h.files i f hf).one⟩, fun f hf => ?_, h.moves⟩
  · rw [List.getElem?_map]
    cases hi : d.files[i]? with
    | none =>
      have := h.l
      rw [List.getElem?_eq_none_iff] at hi
      exact (List.getElem?_eq_none (by omega)).symm
    | some f => exact (h.files i f hi).made.symm
  · obtain ⟨i, hi⟩ := List.mem_iff_getElem?.1 hf
    have := h.files i f hi
    exact ⟨this.name, this.data, this.lo, this.hi⟩
theorem DOk2.ok {d : Dk} (h : DOk2 d) : DOk d := by
  have hat : ∀ (i : Nat) (f : DF), d.files[i]? = some f → (made d)[i]? = some f.name := fun i f hf => by rw [← h.l, List.getElem?_map, hf]; rfl
  refine ⟨h.f, h.n, h.m, by rw [← h.l, List.length_map], fun i f hf => ?_, h.moves⟩
  obtain ⟨g1, g2, g3, g4⟩ := h.good f (List.mem_of_getElem? hf)
  refine ⟨g1, hat i f hf, g2, g3, g4, fnd_at hf rfl fun j hj g hg e => ?_⟩
  have a := hat i f hf
  have b := hat j g hg
  rw [e] at b
  obtain ⟨hi, ha⟩ := List.getElem?_eq_some_iff.1 a
  obtain ⟨hj2, hb⟩ := List.getElem?_eq_some_iff.1 b
  have := (List.pairwise_iff_getElem.1 h.nd) j i hj2 hi hj
  exact this (by rw [ha, hb])
theorem aft_len2 : ∀ (ms : List DM) (ns : List ByteArray), (aft ns ms).length ≤ ns.length + (mades ms).length
  | [], ns => by simp [aft, mades]
  | m :: ms, ns => by
    cases hg : m.gone with
    | true =>
      have h1 := aft_len2 ms (wo m.name ns)
      have h2 := wo_len m.name ns
      have e : mades (m :: ms) = mades ms := by simp [mades, hg]
      rw [e]
      simp only [aft, hg, if_true]
      omega
    | false =>
      have h1 := aft_len2 ms (ns ++ [m.name])
      have e : mades (m :: ms) = m.name :: mades ms := by simp [mades, hg]
      rw [e]
      simp only [aft, hg, Bool.false_eq_true, if_false]
      simp at h1 ⊢
      omega
theorem aft_moves {ns : List ByteArray} {ms : List DM} {m : DM} (h : ∀ (i : Nat) (x : DM), ms[i]? = some x → x.gone = true → x.name ∈ aft ns (ms.take i)) (hm : m.gone = true → m.name ∈ aft ns ms) : ∀ (i : Nat) (x : DM), (ms ++ [m])[i]? = some x → x.gone = true → x.name ∈ aft ns ((ms ++ [m]).take i) := by
  intro i x hx hg
  by_cases hi : i < ms.length
  · rw [List.getElem?_append_left hi] at hx
    rw [List.take_append_of_le_length (by omega)]
    exact h i x hx hg
  · have hlt := (List.getElem?_eq_some_iff.1 hx).1
    simp at hlt
    have e : i = ms.length := by omega
    subst e
    rw [List.getElem?_append_right (Nat.le_refl _)] at hx
    simp at hx
    subst hx
    rw [List.take_left' rfl]
    exact hm hg
theorem map_set_same {fs : List DF} {i : Nat} {f g : DF} (h : fs[i]? = some f) (hn : g.name = f.name) : (fs.set i g).map DF.name = fs.map DF.name := by
  rw [List.map_set]
  obtain ⟨hi, he⟩ := List.getElem?_eq_some_iff.1 h
  refine List.ext_getElem? fun j => ?_
  rw [List.getElem?_set]
  split
  · rename_i e
    subst e
    rw [if_pos (by simpa using hi), List.getElem?_map, h, hn]; rfl
  · rfl
theorem set_good {fs : List DF} {i : Nat} {g : DF} {Q : DF → Prop} (h : ∀ f ∈ fs, Q f) (hg : Q g) : ∀ f ∈ fs.set i g, Q f := fun f hf => by
  rcases List.mem_or_eq_of_mem_set hf with hf | rfl
  · exact h f hf
  · exact hg
/-- A write that is done leaves an ok disk. -/
theorem DOk.step {d : Dk} (w : DW) (h : DOk d) : DOk (doS d w).1 := by
  have h2 := h.two
  have hdone : DOk2 (doS d w).1 → DOk (doS d w).1 := DOk2.ok
  apply hdone
  unfold doS
  split
  · rename_i hk
    split
    · exact h2
    · rename_i hN
      split
      · exact h2
      · rename_i hL
        have hn : nameOk w.name = true := by
          cases hq : nameOk w.name with
          | true => rfl
          | false => exact absurd (.inl hq) hN
        have hmade : made ⟨d.files ++ [⟨w.name, ⟨#[]⟩, 0⟩], d.names, d.moves ++ [⟨false, w.name⟩]⟩ = made d ++ [w.name] := by simp [made, mades]
        have hnew : w.name ∉ made d := fun hm => by
          rw [← h2.l, List.mem_map] at hm
          obtain ⟨f, hf, e⟩ := hm
          obtain ⟨i, hi⟩ := List.mem_iff_getElem?.1 hf
          have := (fnd_le hi).1
          rw [e] at this
          exact hN (.inr this)
        refine ⟨by simp; omega, h2.n, by simp; omega, ?_, ?_, ?_, aft_moves h2.moves (by simp)⟩
        · rw [hmade, ← h2.l]; simp
        · rw [hmade, List.nodup_append]
          exact ⟨h2.nd, by simp, fun a ha b hb => by rw [List.mem_singleton] at hb; subst hb; intro e; subst e; exact hnew ha⟩
        · intro f hf
          rcases List.mem_append.1 hf with hf | hf
          · exact h2.good f hf
          · rw [List.mem_singleton] at hf
            subst hf
            exact ⟨hn, Nat.zero_le _, Int.le_refl _, Int.le_refl _⟩
  · rename_i hk
    split
    · have hnm : ∀ x ∈ aft d.names d.moves, x ∈ made d := fun x hx => DOk.aft_made (n := d.moves.length) (by rw [List.take_length]; exact hx)
      have hN := (nmI_aft h2.nd d.moves.length (Nat.le_refl _)).2
      rw [List.take_length, List.drop_length] at hN
      have hmade : made (keepD d (aft d.names d.moves)) = aft d.names d.moves := by simp [made, keepD, mades]
      have hl := aft_len2 d.moves d.names
      have hml : (made d).length = d.files.length := h.l
      have hm2 : (made d).length = d.names.length + (mades d.moves).length := by simp [made]
      have hf := h2.f
      refine ⟨by simp only [keepD, List.length_map]; omega, by simp only [keepD]; omega, by simp [keepD], ?_, ?_, ?_, fun i m hm => by simp [keepD] at hm⟩
      · rw [hmade]
        simp only [keepD, List.map_map]
        have : (aft d.names d.moves).map (DF.name ∘ fileOf d.files) = (aft d.names d.moves).map id := List.map_congr_left fun x hx => by
          obtain ⟨_, _, _, h4⟩ := h.find (hnm x hx)
          exact h4
        rw [this, List.map_id]
      · rw [hmade]; simpa [mades] using hN
      · intro f hf
        simp only [keepD, List.mem_map] at hf
        obtain ⟨x, hx, rfl⟩ := hf
        obtain ⟨i, _, h3, _⟩ := h.find (hnm x hx)
        exact h2.good _ (List.mem_of_getElem? h3)
    · rename_i hk5
      split
      · exact h2
      · rename_i hr
        split
        · exact h2
        · rename_i hh
          have hin : w.name ∈ aft d.names d.moves := has_true.1 (by cases hq : has (aft d.names d.moves) w.name with | true => rfl | false => exact absurd hq hh)
          obtain ⟨i, h3, h4, h5⟩ := h.find (DOk.aft_made (n := d.moves.length) (by rw [List.take_length]; exact hin))
          have hgd := h2.good _ (List.mem_of_getElem? h4)
          rw [h3, Int.toNat_natCast]
          split
          · split
            · exact h2
            · rename_i hsz
              refine ⟨by simp only [List.length_set]; exact h2.f, h2.n, h2.m, ?_, h2.nd, set_good h2.good ⟨hgd.1, ?_, hgd.2.2.1, ?_⟩, h2.moves⟩
              · exact (map_set_same (g := ⟨(fileOf d.files w.name).name, (fileOf d.files w.name).data ++ w.data, (fileOf d.files w.name).kept⟩) h4 rfl).trans h2.l
              · simp only [ByteArray.size_append]; omega
              · simp only [ByteArray.size_append]; have := hgd.2.2.2; omega
          · split
            · refine ⟨by simp only [List.length_set]; exact h2.f, h2.n, h2.m, ?_, h2.nd, set_good h2.good ⟨hgd.1, hgd.2.1, by simp, by simp⟩, h2.moves⟩
              exact (map_set_same (g := ⟨(fileOf d.files w.name).name, (fileOf d.files w.name).data, (fileOf d.files w.name).data.size⟩) h4 rfl).trans h2.l
            · split
              · exact h2
              · rename_i hL
                have hmade : made ⟨d.files, d.names, d.moves ++ [⟨true, w.name⟩]⟩ = made d := by simp [made, mades]
                refine ⟨h2.f, h2.n, by simp; omega, by rw [hmade]; exact h2.l, by rw [hmade]; exact h2.nd, h2.good, aft_moves h2.moves fun _ => hin⟩
theorem nameOk_len {s : ByteArray} (h : nameOk s = true) : s.size ≤ 8 := by
  simp only [nameOk, Bool.and_eq_true, decide_eq_true_eq] at h
  exact h.1.1.2
theorem DOk.fine {d : Dk} (h : DOk d) : fineDk d := by
  have h2 := h.two
  have l1 := h2.f
  have l2 := h2.n
  have l3 := h2.m
  have hm : ∀ x ∈ made d, x.size ≤ 8 := fun x hx => by
    rw [← h2.l, List.mem_map] at hx
    obtain ⟨f, hf, rfl⟩ := hx
    exact nameOk_len (h2.good f hf).1
  refine ⟨⟨by omega, by omega, by omega⟩, fun f hf => ?_, fun x hx => ?_, fun m hmm => ?_⟩
  · have a := h2.good f hf
    have b := nameOk_len a.1
    omega
  · have := hm x (List.mem_append.2 (.inl hx)); omega
  · have : m.name ∈ made d := by
      cases hg : m.gone with
      | false => exact List.mem_append.2 (.inr (List.mem_map.2 ⟨m, List.mem_filter.2 ⟨hmm, by simp [hg]⟩, rfl⟩))
      | true =>
        obtain ⟨i, hi⟩ := List.mem_iff_getElem?.1 hmm
        exact DOk.aft_made (h2.moves i m hi hg)
    have := hm _ this; omega
end Go.V
set_option linter.unusedSimpArgs false
set_option maxRecDepth 20000
namespace Go.V
open Go.Proofs
theorem lendN {H : HMap} {m1 m2 m3 m v1 v2 v3 v n1 n2 n3 n : Nat} {w1 w2 w3 w : Bool} {d : Dk} {ns : List ByteArray} (h1 : H m1 = some (.arr v1 w1 3 92 (en eF d.files))) (h2 : H m2 = some (.arr v2 w2 1 9 (en eS d.names))) (h3 : H m3 = some (.arr v3 w3 2 94 (en eM d.moves))) (h4 : H m = some (.arr v w 1 9 (en eS ns))) (e1 : n1 = d.files.length) (e2 : n2 = d.names.length) (e3 : n3 = d.moves.length) (e4 : n = ns.length) :
    lendTs H [tDk d, tL (en eS ns)] [.pt (.agg [.own m1 v1 n1, .own m2 v2 n2, .own m3 v3 n3]), .c (.own m v n)] = some ([tDk d, tL (en eS ns)], dkL m1 v1 m2 v2 m3 v3 d ++ [(m, .arr v false 1 9 (en eS ns))], [m1, m2, m3, m]) := by
  subst e4
  have a : lendT H (tL (en eS ns)) (.c (.own m v ns.length)) = some (tL (en eS ns), [(m, .arr v false 1 9 (en eS ns))], [m]) := by
    simp only [tL, T.c, lendT, lendC, sealC, h4, en_len, en_take, Nat.le_refl, and_self, if_true, Option.map_some]
  simp only [lendTs, lendDk h1 h2 h3 e1 e2 e3, a, List.append_nil, List.cons_append, List.nil_append]
/-! What a loss of power leaves of a disk. -/
def cutM (k : Int) (f : DF) : Int := if 0 < k then min k ((f.data.size : Int) - f.kept) else 0
def cutF (k : Int) (f : DF) : DF := ⟨f.name, f.data.extract 0 (f.kept + cutM k f).toNat, f.kept + cutM k f⟩
def keepAt (keep : List Int) (i : Nat) : Int := (keep[i]?).getD 0
def cutP (keep : List Int) (fs : List DF) (n : Nat) : List DF := fs.mapIdx fun i f => if i < n then cutF (keepAt keep i) f else f
theorem cutP_len (keep : List Int) (fs : List DF) (n : Nat) : (cutP keep fs n).length = fs.length := by simp [cutP]
theorem cutP_zero (keep : List Int) (fs : List DF) : cutP keep fs 0 = fs := by
  refine List.ext_getElem? fun i => ?_
  rw [cutP, List.getElem?_mapIdx]; cases fs[i]? <;> simp
theorem cutP_at (keep : List Int) {fs : List DF} {i : Nat} {f : DF} (h : fs[i]? = some f) (n : Nat) : (cutP keep fs n)[i]? = some (if i < n then cutF (keepAt keep i) f else f) := by
  rw [cutP, List.getElem?_mapIdx, h]; rfl
theorem cutP_set (keep : List Int) {fs : List DF} {i : Nat} {f : DF} (h : fs[i]? = some f) : (cutP keep fs i).set i (cutF (keepAt keep i) f) = cutP keep fs (i + 1) := by
  have hi := (List.getElem?_eq_some_iff.1 h).1
  refine List.ext_getElem? fun j => ?_
  rw [List.getElem?_set]
  split
  · rename_i e
    subst e
    rw [if_pos (by rw [cutP_len]; exact hi), cutP_at keep h, if_pos (Nat.lt_succ_self _)]
  · rename_i e
    cases hj : fs[j]? with
    | none =>
      have := List.getElem?_eq_none_iff.1 hj
      rw [List.getElem?_eq_none (by rw [cutP_len]; exact this), List.getElem?_eq_none (by rw [cutP_len]; exact this)]
    | some g =>
      rw [cutP_at keep hj, cutP_at keep hj]
      by_cases hlt : j < i
      · rw [if_pos hlt, if_pos (by omega)]
      · rw [if_neg hlt, if_neg (by omega)]
def cutA (keep : List Int) (d : Dk) : Dk := ⟨cutP keep d.files d.files.length, d.names, d.moves⟩
theorem cutM_le {k : Int} {f : DF} (_h0 : 0 ≤ f.kept) (h1 : f.kept ≤ f.data.size) : 0 ≤ cutM k f ∧ f.kept + cutM k f ≤ f.data.size := by
  unfold cutM; split <;> omega
theorem cut_size {k : Int} {f : DF} (h0 : 0 ≤ f.kept) (h1 : f.kept ≤ f.data.size) : ((f.data.extract 0 (f.kept + cutM k f).toNat).size : Int) = f.kept + cutM k f := by
  have := cutM_le (k := k) h0 h1
  rw [ByteArray.size_extract]; omega
theorem DOk.cutA {d : Dk} (keep : List Int) (h : DOk d) : DOk (cutA keep d) := by
  have h2 := h.two
  refine DOk2.ok ⟨by simp only [Go.V.cutA, cutP_len]; exact h2.f, h2.n, h2.m, Eq.trans ?_ h2.l, h2.nd, fun f hf => ?_, h2.moves⟩
  · refine List.ext_getElem? fun i => ?_
    rw [List.getElem?_map, List.getElem?_map]
    cases hi : d.files[i]? with
    | none => rw [List.getElem?_eq_none (by simp only [Go.V.cutA, cutP_len]; exact List.getElem?_eq_none_iff.1 hi)]
    | some f =>
      have : (Go.V.cutA keep d).files[i]? = _ := cutP_at keep hi d.files.length
      rw [this]
      split <;> rfl
  · obtain ⟨i, hi⟩ := List.mem_iff_getElem?.1 hf
    have hl := (List.getElem?_eq_some_iff.1 hi).1
    simp only [Go.V.cutA, cutP_len] at hl
    obtain ⟨g, hg⟩ : ∃ g, d.files[i]? = some g := ⟨_, List.getElem?_eq_getElem hl⟩
    have e : (Go.V.cutA keep d).files[i]? = _ := cutP_at keep hg d.files.length
    rw [hi, if_pos hl] at e
    have e := Option.some.inj e
    obtain ⟨g1, g2, g3, g4⟩ := h2.good g (List.mem_of_getElem? hg)
    have hM := cutM_le (k := keepAt keep i) g3 g4
    have hS := cut_size (k := keepAt keep i) g3 g4
    subst e
    have hz : (cutF (keepAt keep i) g).data.size = (g.data.extract 0 (g.kept + cutM (keepAt keep i) g).toNat).size := rfl
    have hk : (cutF (keepAt keep i) g).kept = g.kept + cutM (keepAt keep i) g := rfl
    exact ⟨g1, by omega, by omega, by omega⟩
def cutN (m : Int) (d : Dk) : Nat := (min (max m 0) (d.moves.length : Int)).toNat
def cutD (d : Dk) (m : Int) (keep : List Int) : Dk := keepD (cutA keep d) (aft d.names (d.moves.take (cutN m d)))
def ok46 := okF.gu (P := Tryz.prog) tab Tryz.func46 Tryz.ntmps46 (by conv => lhs; cbv) (by kernel_rfl)
def inv46 (d : Dk) (keep : List Int) (n : Nat) (i : Nat) (σ : St) : Prop := (∃ u, σ.t 3 = .c (.ptr 3 u 0) ∧ σ.H 3 = some (.var u 29 [.v (.sl (en eF d.files)), .v (.sl (en eS d.names)), .v (.sl (en eM d.moves))])) ∧ σ.t 1 = .i n ∧ σ.t 2 = tL (en eI keep) ∧ (∃ u, σ.t 6 = .c (.ptr 6 u 0) ∧ σ.H 6 = some (.var u 29 [.nil0, .nil0, .nil0])) ∧
  (∃ u v, σ.t 7 = .c (.ptr 7 u 0) ∧ σ.H 7 = some (.var u 29 [.own 1001 v d.files.length, .own 1002 v d.names.length, .own 1003 v d.moves.length]) ∧ σ.H 1001 = some (.arr v true 3 92 (en eF (cutP keep d.files i))) ∧ σ.H 1002 = some (.arr v true 1 9 (en eS d.names)) ∧ σ.H 1003 = some (.arr v true 2 94 (en eM d.moves))) ∧ σ.t 8 = .i i
set_option maxRecDepth 20000 in
set_option maxHeartbeats 1000000 in
theorem cutS_ok (d : Dk) (hD : DOk d) (m : Int) (keep : List Int) : ACallsF Tryz.prog 46 [tDk d, .i m, tL (en eI keep)] [] (tDk (cutD d m keep)) := by
  have hd := hD.fine
  obtain ⟨b, hb, hC⟩ := okS_ok d hd
  rw [hb.2 hD] at hC
  have l1 := hD.f
  have l2 := hD.n
  have l3 := hD.m
  have hcp := copyDk_ok d hd.s 1001 1002 1003
  have hn := hD.cutA keep
  have loop : ∀ (n : Nat) (hn0 : n = cutN m d) (X : Ctx) (t : Nat → T) (H : HMap) (c : Nat), inv46 d keep n 0 ⟨t, H, c⟩ → wpa Tryz.prog X (ok46.sub [1,1,1,1,1,0,1]) (thenW Tryz.prog X (.seq (ok46.sub [1,1,1,1,1,1,0]) .ret) (endA (FinC ok46.res (tDk (cutD d m keep)) []))) ⟨t, H, c⟩ := by
    intro n hn0 X t H c h0
    dsimp only [okF.sub, ACode.sub, okF.res]
    have hnl : n ≤ d.moves.length := by rw [hn0, cutN]; omega
    simp only [go_sem]
    refine AW.upto d.files.length (inv46 d keep n) h0 fun i t H c hi h => ?_
    obtain ⟨⟨u3, e3, eH3⟩, e1, e2, ⟨u6, e6, eH6⟩, ⟨u7, v, e7, eH7, eHf, eHn, eHm⟩, e8⟩ := h
    simp only [T.c, T.i, tL] at e3 eH3 e1 e2 e6 eH6 e7 eH7 eHf eHn eHm e8
    by_cases hlt : i < d.files.length
    · obtain ⟨f, hf⟩ : ∃ f, d.files[i]? = some f := ⟨_, List.getElem?_eq_getElem hlt⟩
      have hF := hD.files i f hf
      have g3 := hF.lo
      have g4 := hF.hi
      have g5 := hF.data
      have hM := cutM_le (k := keepAt keep i) g3 g4
      have ef := en_at eF hf
      have ep : (cutP keep d.files i)[i]? = some f := by rw [cutP_at keep hf, if_neg (Nat.lt_irrefl _)]
      have ep2 := en_at eF ep
      have hpl := cutP_len keep d.files i
      have k1 : (i : Int) < d.files.length := by omega
      have gz : (0 : Int) ≤ i := by omega
      have gw : IntKind.i64.wrap ((i : Int) + 1) = ((i + 1 : Nat) : Int) := wrap64 (x := (i : Int) + 1) ⟨by omega, by omega⟩
      have gs : IntKind.i64.wrap ((f.data.size : Int) - f.kept) = (f.data.size : Int) - f.kept := wrap64 ⟨by omega, by omega⟩
      have gm : IntKind.i64.wrap (f.kept + cutM (keepAt keep i) f) = f.kept + cutM (keepAt keep i) f := wrap64 ⟨by omega, by omega⟩
      have gh : (0 : Int) ≤ f.kept + cutM (keepAt keep i) f := by omega
      have gh2 : f.kept + cutM (keepAt keep i) f ≤ f.data.size := hM.2
      have hs : (en eF (cutP keep d.files i)).set i [.s (.string f.name), .s (.string (f.data.extract 0 (f.kept + cutM (keepAt keep i) f).toNat)), .s (.int .i64 (f.kept + cutM (keepAt keep i) f))] = en eF (cutP keep d.files (i + 1)) := by
        rw [← cutP_set keep hf]; exact en_set eF (cutP keep d.files i) i (cutF (keepAt keep i) f)
      by_cases hk : i < keep.length
      · obtain ⟨q, hq⟩ : ∃ q, keep[i]? = some q := ⟨_, List.getElem?_eq_getElem hk⟩
        have eq := en_at eI hq
        have hka : keepAt keep i = q := by rw [keepAt, hq]; rfl
        have k2 : (i : Int) < keep.length := by omega
        by_cases p1 : q > 0
        · by_cases p2 : q < (f.data.size : Int) - f.kept
          · have hcm : cutM (keepAt keep i) f = q := by rw [hka, cutM, if_pos (by omega)]; omega
            rw [hcm] at gm gh gh2 hs
            simp only [go_sem, e3, eH3, e1, e2, e6, eH6, e7, eH7, eHf, eHn, eHm, e8, SET, en_len, hpl, k1, k2, gz, hlt, ef, ep2, eq, eF, eI, p1, p2, gs, gm, gh, gh2, lohi, Int.le_refl, Int.toNat_zero, gw]
            exact ⟨⟨u3, e3, eH3⟩, e1, e2, ⟨u6, e6, eH6⟩, ⟨u7, v, e7, eH7, congrArg (fun q => some (Blk.arr v true 3 92 q)) hs, eHn, eHm⟩, rfl⟩
          · have hcm : cutM (keepAt keep i) f = (f.data.size : Int) - f.kept := by rw [hka, cutM, if_pos (by omega)]; omega
            rw [hcm] at gm gh gh2 hs
            simp only [go_sem, e3, eH3, e1, e2, e6, eH6, e7, eH7, eHf, eHn, eHm, e8, SET, en_len, hpl, k1, k2, gz, hlt, ef, ep2, eq, eF, eI, p1, p2, gs, gm, gh, gh2, lohi, Int.le_refl, Int.toNat_zero, gw]
            exact ⟨⟨u3, e3, eH3⟩, e1, e2, ⟨u6, e6, eH6⟩, ⟨u7, v, e7, eH7, congrArg (fun q => some (Blk.arr v true 3 92 q)) hs, eHn, eHm⟩, rfl⟩
        · have hcm : cutM (keepAt keep i) f = 0 := by rw [hka, cutM, if_neg (by omega)]
          rw [hcm] at gm gh gh2 hs
          simp only [go_sem, e3, eH3, e1, e2, e6, eH6, e7, eH7, eHf, eHn, eHm, e8, SET, en_len, hpl, k1, k2, gz, hlt, ef, ep2, eq, eF, eI, p1, gs, gm, gh, gh2, lohi, Int.le_refl, Int.toNat_zero, gw]
          exact ⟨⟨u3, e3, eH3⟩, e1, e2, ⟨u6, e6, eH6⟩, ⟨u7, v, e7, eH7, congrArg (fun q => some (Blk.arr v true 3 92 q)) hs, eHn, eHm⟩, rfl⟩
      · have hka : keepAt keep i = 0 := by rw [keepAt, List.getElem?_eq_none (by omega)]; rfl
        have k2 : ¬ (i : Int) < keep.length := by omega
        have hcm : cutM (keepAt keep i) f = 0 := by rw [hka, cutM, if_neg (by omega)]
        rw [hcm] at gm gh gh2 hs
        simp only [go_sem, e3, eH3, e1, e2, e6, eH6, e7, eH7, eHf, eHn, eHm, e8, SET, en_len, hpl, k1, k2, gz, hlt, ef, ep2, eF, eI, gs, gm, gh, gh2, lohi, Int.le_refl, Int.toNat_zero, gw]
        exact ⟨⟨u3, e3, eH3⟩, e1, e2, ⟨u6, e6, eH6⟩, ⟨u7, v, e7, eH7, congrArg (fun q => some (Blk.arr v true 3 92 q)) hs, eHn, eHm⟩, rfl⟩
    · have hi2 : i = d.files.length := by omega
      subst hi2
      have k1 : ¬ (d.files.length : Int) < d.files.length := by omega
      simp only [go_sem, e3, eH3, e1, e2, e6, eH6, e7, eH7, eHf, eHn, eHm, e8, en_len, k1]
      refine callA1 (m := 2001) (ws := []) (ns := []) (after_ok d hd.s n hnl 2001) rfl rfl rfl (en_flat eS eS_flat _) ⟨rfl, ?_⟩
      simp only [go_sem, e3, eH3, e1, e2, e6, eH6, e7, eH7, eHf, eHn, eHm, e8, en_len, k1]
      refine callL (ws := dkL 1001 _ 1002 _ 1003 _ (cutA keep d) ++ [(2001, .arr _ false 1 9 (en eS (aft d.names (d.moves.take n))))]) (ns := [1001, 1002, 1003, 2001]) (keep_ok (cutA keep d) hn.fine hn (aft d.names (d.moves.take n)) (by have := aft_len (d.moves.take n) d.names; rw [List.length_take] at this; omega) (fun x hx => DOk.aft_made (d := cutA keep d) (n := n) hx)) rfl (lendN (d := cutA keep d) (by exact eHf) (by exact eHn) (by exact eHm) rfl (by rw [Go.V.cutA, cutP_len]) rfl rfl rfl) rfl rfl ⟨?_, ?_⟩
      · simp only [go_sem]
      subst hn0
      simp only [go_sem, scalarT, scalarP, scalarC, e6, eH6, cutD, List.all_cons, Bool.false_and]
  have main : ∀ n, n = cutN m d → (m < 0 ∧ n = 0) ∨ (¬ m < 0 ∧ m > (d.moves.length : Int) ∧ n = d.moves.length) ∨ (¬ m < 0 ∧ ¬ m > (d.moves.length : Int) ∧ m = n) := by
    intro n hn; rw [cutN] at hn; omega
  have fin : ∀ (n : Nat) (X : Ctx) (t : Nat → T) (H : HMap) (c : Nat), (∃ u, t 3 = .c (.ptr 3 u 0) ∧ H 3 = some (.var u 29 [.v (.sl (en eF d.files)), .v (.sl (en eS d.names)), .v (.sl (en eM d.moves))])) → t 1 = .i n → t 2 = tL (en eI keep) → (∃ u, t 6 = .c (.ptr 6 u 0) ∧ H 6 = some (.var u 29 [.nil0, .nil0, .nil0])) → (∃ u v, t 7 = .c (.ptr 7 u 0) ∧ H 7 = some (.var u 29 [.own 1001 v d.files.length, .own 1002 v d.names.length, .own 1003 v d.moves.length]) ∧ H 1001 = some (.arr v true 3 92 (en eF d.files)) ∧ H 1002 = some (.arr v true 1 9 (en eS d.names)) ∧ H 1003 = some (.arr v true 2 94 (en eM d.moves))) → t 8 = .i 0 → inv46 d keep n 0 ⟨t, H, c⟩ := by
    intro n X t H c a1 a2 a3 a4 ⟨u, v, b1, b2, b3, b4, b5⟩ a6
    exact ⟨a1, a2, a3, a4, ⟨u, v, b1, b2, by rw [cutP_zero]; exact b3, b4, b5⟩, a6⟩
  have lz : (d.moves.length : Int) = ((d.moves.length : Nat) : Int) := rfl
  have l0 : (0 : Int) ≤ d.moves.length := by omega
  have n0 : ¬ (0 : Int) > d.moves.length := by omega
  rcases main _ rfl with ⟨c1, c2⟩ | ⟨c1, c2, c3⟩ | ⟨c1, c2, c3⟩
  · refine ACallsF.intro ok46 follows fun X c0 => ?_
    simp only [go_sem]
    refine callC hC rfl rfl rfl rfl ?_
    simp only [go_sem, c1, n0]
    refine callDk (ws := []) (ns := []) hcp rfl rfl rfl (by decide) ⟨rfl, ?_⟩
    simp only [go_sem]
    exact loop 0 c2.symm X _ _ _ (fin 0 X _ _ _ ⟨_, rfl, rfl⟩ rfl rfl ⟨_, rfl, rfl⟩ ⟨_, _, rfl, rfl, rfl, rfl, rfl⟩ rfl)
  · refine ACallsF.intro ok46 follows fun X c0 => ?_
    simp only [go_sem]
    refine callC hC rfl rfl rfl rfl ?_
    simp only [go_sem, en_len, c1, c2]
    refine callDk (ws := []) (ns := []) hcp rfl rfl rfl (by decide) ⟨rfl, ?_⟩
    simp only [go_sem]
    exact loop d.moves.length c3.symm X _ _ _ (fin _ X _ _ _ ⟨_, rfl, rfl⟩ rfl rfl ⟨_, rfl, rfl⟩ ⟨_, _, rfl, rfl, rfl, rfl, rfl⟩ rfl)
  · refine ACallsF.intro ok46 follows fun X c0 => ?_
    simp only [go_sem]
    refine callC hC rfl rfl rfl rfl ?_
    simp only [go_sem, en_len, c1, c2]
    refine callDk (ws := []) (ns := []) hcp rfl rfl rfl (by decide) ⟨rfl, ?_⟩
    simp only [go_sem]
    exact loop (cutN m d) rfl X _ _ _ (fin _ X _ _ _ ⟨_, rfl, rfl⟩ (congrArg T.i c3) rfl ⟨_, rfl, rfl⟩ ⟨_, _, rfl, rfl, rfl, rfl, rfl⟩ rfl)
end Go.V
set_option linter.unusedSimpArgs false
namespace Go.V
open Go.Proofs
/-! Writes, one behind the other, until power is lost. -/
def goS (a : LA) : Nat → Dk → List DW → Dk × Int
  | _, d, [] => if a.cuts then (cutD d a.moves a.keep, 6) else (d, 0)
  | i, d, w :: ws => if a.cuts = true ∧ (i : Int) ≥ a.after then (cutD d a.moves a.keep, 6) else if (doS d w).2 = 0 then goS a (i + 1) (doS d w).1 ws else ((doS d w).1, 4)
theorem drop_at {α : Type} {xs : List α} {i : Nat} {x : α} (h : xs[i]? = some x) : xs.drop i = x :: xs.drop (i + 1) := by
  obtain ⟨hi, he⟩ := List.getElem?_eq_some_iff.1 h
  rw [List.drop_eq_getElem_cons hi, he]
abbrev cDk (d : Dk) : List C := [.v (.sl (en eF d.files)), .v (.sl (en eS d.names)), .v (.sl (en eM d.moves))]
end Go.V
set_option linter.unusedSimpArgs false
set_option maxRecDepth 20000
namespace Go.V
open Go.Proofs
theorem fileOf_cut {d : Dk} (hD : DOk d) (keep : List Int) {x : ByteArray} (hx : x ∈ made d) : ∃ (j : Nat), fnd d.files x = j ∧ d.files[j]? = some (fileOf d.files x) ∧ (fileOf d.files x).name = x ∧ fileOf (cutA keep d).files x = cutF (keepAt keep j) (fileOf d.files x) := by
  obtain ⟨j, h1, h2, h3⟩ := hD.find hx
  obtain ⟨j', g1, g2, g3⟩ := (hD.cutA keep).find (x := x) hx
  refine ⟨j, h1, h2, h3, ?_⟩
  have hj : j' = j := by
    have hl := (List.getElem?_eq_some_iff.1 g2).1
    have hl' : j' < d.files.length := by simpa only [cutA, cutP_len] using hl
    obtain ⟨f', hf'⟩ : ∃ f', d.files[j']? = some f' := ⟨_, List.getElem?_eq_getElem hl'⟩
    have e : (cutA keep d).files[j']? = _ := cutP_at keep hf' d.files.length
    rw [g2, if_pos hl'] at e
    have e := Option.some.inj e
    have hn : f'.name = x := by rw [← g3, e]; rfl
    have := (hD.files j' f' hf').one
    rw [hn, h1] at this
    omega
  subst hj
  have e : (cutA keep d).files[j']? = _ := cutP_at keep h2 d.files.length
  rw [g2, if_pos (List.getElem?_eq_some_iff.1 h2).1] at e
  exact Option.some.inj e
theorem cutM_impl (k : Int) {f : DF} (h1 : f.kept ≤ f.data.size) : min (max k 0) ((f.data.size : Int) - f.kept) = cutM k f := by unfold cutM; split <;> omega
theorem cutM_none {f : DF} (h1 : f.kept ≤ f.data.size) : min 0 ((f.data.size : Int) - f.kept) = cutM 0 f := by unfold cutM; split <;> omega
def ok73 := okF.gu (P := Tryz.prog) tab Tryz.func73 Tryz.ntmps73 (by conv => lhs; cbv) (by kernel_rfl)
def inv73 (d : Dk) (keep : List Int) (ns rest : List ByteArray) (i : Nat) (σ : St) : Prop := (∃ u, σ.t 3 = .c (.ptr 3 u 0) ∧ σ.H 3 = some (.var u 29 [.v (.sl (en eF d.files)), .v (.sl (en eS d.names)), .v (.sl (en eM d.moves))])) ∧ σ.t 2 = tL (en eI keep) ∧ (∃ u, σ.t 6 = .c (.ptr 6 u 0) ∧ σ.H 6 = some (.var u 29 [.nil0, .nil0, .nil0])) ∧
  (∃ u v w, σ.t 7 = .c (.ptr 7 u 0) ∧ σ.H 7 = some (.var u 29 [.own 2005 v ((ns.take i).map (fileOf (cutA keep d).files)).length, .own 2001 w ns.length, .nil0]) ∧ σ.H 2005 = some (.arr v true 3 92 (en eF ((ns.take i).map (fileOf (cutA keep d).files)))) ∧ σ.H 2001 = some (.arr w true 1 9 (en eS (ns ++ rest))) ∧ σ.t 24 = .c (.own 2001 w ns.length)) ∧ σ.t 25 = .i ns.length ∧ σ.t 26 = .i i
set_option maxRecDepth 20000 in
set_option maxHeartbeats 1000000 in
theorem cutI_ok (d : Dk) (hD : DOk d) (m : Int) (keep : List Int) : ACallsF Tryz.prog 73 [tDk d, .i m, tL (en eI keep)] [] (tDk (cutD d m keep)) := by
  have hd := hD.fine
  have l1 := hD.f
  have l2 := hD.n
  have l3 := hD.m
  have hn : min (max m 0) (d.moves.length : Int) = ((cutN m d : Nat) : Int) := by rw [cutN]; omega
  have hcd : cutD d m keep = keepD (cutA keep d) (aft d.names (d.moves.take (cutN m d))) := rfl
  have hnl : cutN m d ≤ d.moves.length := by rw [cutN]; omega
  have hN := namesI_ok d hd.s (cutN m d) hnl
  rw [hD.nmI (cutN m d) hnl] at hN
  have hal := aft_len (d.moves.take (cutN m d)) d.names
  rw [List.length_take] at hal
  have hmade : ∀ x ∈ aft d.names (d.moves.take (cutN m d)), x ∈ made d := fun x hx => DOk.aft_made hx
  rw [hcd]
  generalize hns : aft d.names (d.moves.take (cutN m d)) = ns at *
  generalize hrest : (runI d.names (d.moves.take (cutN m d))).2 = rest at *
  refine ACallsF.intro ok73 follows fun X c0 => ?_
  simp only [go_sem, hn]
  refine callA1 (m := 2001) (ws := []) (ns := []) (hN 2001) rfl rfl rfl (en_flat eS eS_flat _) ⟨rfl, ?_⟩
  simp only [go_sem]
  refine AW.reify 7 0 2005 3 92 rfl rfl rfl (by decide) ?_
  refine AW.upto ns.length (inv73 d keep ns rest) ⟨⟨_, rfl, rfl⟩, rfl, ⟨_, rfl, rfl⟩, ⟨_, _, _, rfl, rfl, rfl, rfl, rfl⟩, rfl, rfl⟩ fun i t H c hi h => ?_
  obtain ⟨⟨u3, e3, eH3⟩, e2, ⟨u6, e6, eH6⟩, ⟨u7, v, w, e7, eH7, eHf, eHn, e24⟩, e25, e26⟩ := h
  simp only [T.c, T.i, T.s, tL] at e3 eH3 e2 e6 eH6 e7 eH7 eHf eHn e24 e25 e26
  by_cases hlt : i < ns.length
  · obtain ⟨x, hx⟩ : ∃ x, ns[i]? = some x := ⟨_, List.getElem?_eq_getElem hlt⟩
    have hxm := hmade x (List.mem_of_getElem? hx)
    obtain ⟨j, hj1, hj2, hj3, hj4⟩ := fileOf_cut hD keep hxm
    have hxr : (ns ++ rest)[i]? = some x := by rw [List.getElem?_append_left hlt]; exact hx
    have ex := en_at eS hxr
    have k1 : (i : Int) < ns.length := by omega
    have gz : (0 : Int) ≤ i := by omega
    have gj : (0 : Int) ≤ j := by omega
    have gl : ns.length ≤ ns.length + rest.length := Nat.le_add_right _ _
    have gw : IntKind.i64.wrap ((i : Int) + 1) = ((i + 1 : Nat) : Int) := wrap64 (x := (i : Int) + 1) ⟨by omega, by omega⟩
    have ht : (ns.take (i + 1)).map (fileOf (cutA keep d).files) = (ns.take i).map (fileOf (cutA keep d).files) ++ [fileOf (cutA keep d).files x] := by rw [List.take_add_one, hx]; simp
    have hl : ((ns.take i).map (fileOf (cutA keep d).files)).length ≤ 3000000 := by rw [List.length_map, List.length_take]; omega
    rw [hj4] at ht
    generalize hq : (ns.take i).map (fileOf (cutA keep d).files) = q at *
    have q3 : (q.length + 1) * 40 ≤ 140737488355328 := by omega
    have q4 : q.length + 1 ≤ 9223372036854775807 := by omega
    have hfo := fileAt_ok d x (by omega)
    rw [hj1] at hfo
    have hF := hD.files j _ hj2
    generalize hf : fileOf d.files x = f at *
    have g3 := hF.lo
    have g4 := hF.hi
    have g5 := hF.data
    have hM := cutM_le (k := keepAt keep j) g3 g4
    have hS := cut_size (k := keepAt keep j) g3 g4
    have ef := en_at eF hj2
    have gs : IntKind.i64.wrap ((f.data.size : Int) - f.kept) = (f.data.size : Int) - f.kept := wrap64 ⟨by omega, by omega⟩
    have gm : IntKind.i64.wrap (f.kept + cutM (keepAt keep j) f) = f.kept + cutM (keepAt keep j) f := wrap64 ⟨by omega, by omega⟩
    have gh : (0 : Int) ≤ f.kept + cutM (keepAt keep j) f := by omega
    have gh2 : f.kept + cutM (keepAt keep j) f ≤ f.data.size := hM.2
    have hsn : en eF q ++ [[.s (.string x), .s (.string (f.data.extract 0 (f.kept + cutM (keepAt keep j) f).toNat)), .s (.int .i64 (f.kept + cutM (keepAt keep j) f))]] = en eF (q ++ [cutF (keepAt keep j) f]) := by
      rw [en_snoc, ← hj3]; rfl
    by_cases hk : j < keep.length
    · obtain ⟨z, hz⟩ : ∃ z, keep[j]? = some z := ⟨_, List.getElem?_eq_getElem hk⟩
      have ez := en_at eI hz
      have hka : keepAt keep j = z := by rw [keepAt, hz]; rfl
      have k2 : (j : Int) < keep.length := by omega
      have hmi := cutM_impl z g4
      rw [hka] at gm gh gh2 hsn hS
      simp only [go_sem, e3, eH3, e2, e6, eH6, e7, eH7, eHf, eHn, e24, e25, e26, en_len, k1, gz, hlt, gl, ex, eS]
      refine callC hfo rfl rfl rfl rfl ?_
      simp only [go_sem, e3, eH3, e2, e6, eH6, e7, eH7, eHf, eHn, e24, e25, e26, en_len, k1, k2, gj, ef, eF, ez, eI, lohi, gs, hmi, gm, gh, gh2, hS, Int.le_refl, Int.toNat_zero, gw, q3, q4]
      unfold inv73
      rw [ht, hka, ← hsn, List.length_append]
      exact ⟨⟨u3, e3, eH3⟩, e2, ⟨u6, e6, eH6⟩, ⟨u7, _, w, e7, rfl, rfl, eHn, e24⟩, e25, rfl⟩
    · have hka : keepAt keep j = 0 := by rw [keepAt, List.getElem?_eq_none (by omega)]; rfl
      have k2 : ¬ (j : Int) < keep.length := by omega
      have hmi := cutM_none g4
      rw [hka] at gm gh gh2 hsn hS
      simp only [go_sem, e3, eH3, e2, e6, eH6, e7, eH7, eHf, eHn, e24, e25, e26, en_len, k1, gz, hlt, gl, ex, eS]
      refine callC hfo rfl rfl rfl rfl ?_
      simp only [go_sem, e3, eH3, e2, e6, eH6, e7, eH7, eHf, eHn, e24, e25, e26, en_len, k1, k2, gj, ef, eF, lohi, gs, hmi, gm, gh, gh2, hS, Int.le_refl, Int.toNat_zero, gw, q3, q4]
      unfold inv73
      rw [ht, hka, ← hsn, List.length_append]
      exact ⟨⟨u3, e3, eH3⟩, e2, ⟨u6, e6, eH6⟩, ⟨u7, _, w, e7, rfl, rfl, eHn, e24⟩, e25, rfl⟩
  · have k1 : ¬ (i : Int) < ns.length := by omega
    have hi2 : i = ns.length := by omega
    subst hi2
    rw [List.take_length] at eH7 eHf
    have ht2 := en_take2 eS ns rest
    have gl : ns.length ≤ ns.length + rest.length := Nat.le_add_right _ _
    simp only [go_sem, e3, eH3, e2, e6, eH6, e7, eH7, eHf, eHn, e24, e25, e26, en_len, k1, keepD, ht2, gl]
end Go.V
set_option linter.unusedSimpArgs false
namespace Go.V
open Go.Proofs
theorem recell2 {w : World} {imm : Imm} {H : HMap} {L : Locs} {U : Nat → Prop} (hH : HOk w imm H L U) {n v : Nat} {ty : TypeId} {cs ds : List C} (hn : H n = some (.var v ty cs)) (hc : ∀ g cur, L n = some g → w.heap[g]? = some (.cells cur ty (0, 0)) → CsRep w imm H L U cur.toList cs → CsRep w imm H L U cur.toList ds) :
    HOk w imm (upd H n (some (.var v ty ds))) L U ∧ Ext w H L U w (upd H n (some (.var v ty ds))) L U ∧ Step w imm (foot H L) w imm ∧ Near w (foot H L) (upd H n (some (.var v ty ds))) L := by
  have hb := hH.blk n _ hn
  obtain ⟨b1, g, cur, b2, b3, b4, b5⟩ := hb
  have := upd_all (w' := w) (imm' := imm) (U' := U) hH n (.var v ty ds) (L n) (L.sub n) rfl rfl rfl (Nat.le_refl _) (fun _ _ _ => rfl) (fun _ _ h => ⟨h, rfl⟩) (fun _ _ h => .inl h)
    (fun g hg => .inr ⟨by simp [hn], hg⟩) (fun g h => (hH.sub n g (by simp [hn]) h).2) (fun _ h => h) (.inr (.inl ⟨v, ty, ds, ty, cs, rfl, hn, rfl⟩)) (fun m he hm => by
      subst hm
      rw [Locs.up_self] at he ⊢
      exact ⟨b1, g, cur, b2, b3, (hc g cur b2 b3 b4).mono (fun _ _ h => ⟨h, rfl⟩) he, b5⟩)
  rw [Locs.up_self] at this
  exact this
/-- An own array in a variable is told by less: what stands behind its end is dropped. -/
theorem AW.trim0 {P : Program} {X : Ctx} {ac : ACode} {Q : Exit → St → Prop} {t : Nat → T} {H : HMap} {c : Nat} (n j id : Nat) {v vi k st : Nat} {ty aty : TypeId} {cs : List C} {es : List (List V)} (h1 : H n = some (.var v ty cs)) (h2 : cs[j]? = some (.own id vi k)) (h3 : H id = some (.arr vi true st aty es)) (hk : k ≤ es.length)
    (h : AW P X ac Q ⟨t, upd (upd H id (some (.arr c true st aty (es.take k)))) n (some (.var v ty (putC cs j [.own id c k]))), c + 1⟩) : AW P X ac Q ⟨t, H, c⟩ := by
  intro cd hcc hm a w hS
  refine h cd hcc hm a w ?_
  obtain ⟨imm, L, hS⟩ := hS
  have hne : n ≠ id := fun e => by rw [e, h3] at h1; cases h1
  obtain ⟨_, g0, cur0, hg0, hh0, hcs0, _⟩ := hS.hok.blk n _ h1
  have hjl : j < cs.length := (List.getElem?_eq_some_iff.1 h2).1
  obtain ⟨x, hx⟩ : ∃ x, cur0.toList[j]? = some x := ⟨_, List.getElem?_eq_getElem (by rw [hcs0.1]; exact hjl)⟩
  obtain ⟨hx1, hx2, hx3⟩ := (show CRep w imm H L (· < c) x (.own id vi k) from hcs0.2 j x _ hx h2)
  have hx4 := (hx3 _ _ _ _ h3).2
  have hg := goes_arr_same (w := w) (imm := imm) (L := L) hS.hok id vi c (by simp) true st aty es (es.take k) h3 k rfl hk (.inr rfl) x hx4
  have h1' : upd H id (some (.arr c true st aty (es.take k))) n = some (.var v ty cs) := by rw [upd_ne _ _ hne]; exact h1
  obtain ⟨k1, k2, k3, k4⟩ := recell2 (ds := putC cs j [.own id c k]) hg.hok h1' fun g cur hgl hcur hcr => by
    rw [hg0] at hgl; cases hgl
    rw [hh0] at hcur; cases hcur
    have hpl : (putC cs j [C.own id c k]).length = cs.length := by simp [putC]; omega
    refine ⟨by rw [hpl]; exact hcr.1, fun q u y hu hy => ?_⟩
    by_cases hq : q = j
    · subst hq
      have : y = .own id c k := by
        simp only [putC, List.append_assoc] at hy
        rw [List.getElem?_append_right (by simp; omega)] at hy
        have e0 : q - (cs.take q).length = 0 := by simp; omega
        rw [e0] at hy
        simpa using hy.symm
      subst this
      rw [hx] at hu; cases hu
      exact hg.val
    · refine hcr.2 q u y hu ?_
      rw [← hy]
      simp only [putC, List.append_assoc]
      rcases Nat.lt_or_ge q j with hlt | hge
      · rw [List.getElem?_append_left (by simp; omega), List.getElem?_take, if_pos hlt]
      · rw [List.getElem?_append_right (by simp; omega)]
        have e0 : q - (cs.take j).length = (q - j - 1) + 1 := by simp; omega
        rw [e0]
        simp only [List.singleton_append, List.getElem?_cons_succ, List.getElem?_drop, List.length_singleton]
        congr 1
        omega
  have hkk : ∀ b o, imm b o → imm b o ∧ w.cell? ⟨b, o, none⟩ = w.cell? ⟨b, o, none⟩ := fun _ _ h => ⟨h, rfl⟩
  obtain ⟨s1, s2⟩ := Step.trans hg.step hg.near k3 k4
  obtain ⟨s3, s4⟩ := Step.trans hS.step hS.near s1 s2
  have hu : ∀ v, with_ (· < c) c v → v < c + 1 := fun v hv => by rcases hv with hv | hv <;> omega
  have hext := (hg.ext.trans k2).trans (CRep.use (w := w) hu)
  exact ⟨imm, L, k1.use hu, fun i => (hS.tmp i).mono hkk hext, hS.size, hS.defers, s3, s4, hS.ext.trans hext⟩
/-- A nil slice in a variable, told as an own empty array, under a name that was used before. -/
theorem AW.reify20 {P : Program} {X : Ctx} {ac : ACode} {Q : Exit → St → Prop} {t : Nat → T} {H : HMap} {c : Nat} (n j id st : Nat) (aty : TypeId) {v : Nat} {ty : TypeId} {cs : List C} (h1 : H n = some (.var v ty cs)) (h2 : cs[j]? = some .nil0) (hne : n ≠ id) (hst : 0 < st)
    (h : AW P X ac Q ⟨t, upd (upd H id (some (.arr c true st aty []))) n (some (.var v ty (putC cs j [.own id c 0]))), c + 1⟩) : AW P X ac Q ⟨t, H, c⟩ := by
  intro cd hcc hm a w hS
  refine h cd hcc hm a w ?_
  obtain ⟨imm, L, hS⟩ := hS
  have hg := goes_arr_nil (w := w) (imm := imm) (L := L) hS.hok id c (by simp) true st aty hst none
  have h1' : upd H id (some (.arr c true st aty [])) n = some (.var v ty cs) := by rw [upd_ne _ _ hne]; exact h1
  have hjl : j < cs.length := (List.getElem?_eq_some_iff.1 h2).1
  obtain ⟨k1, k2, k3, k4⟩ := recell2 (ds := putC cs j [.own id c 0]) hg.hok h1' fun g cur hgl hcur hcr => by
    have hpl : (putC cs j [C.own id c 0]).length = cs.length := by simp [putC]; omega
    refine ⟨by rw [hpl]; exact hcr.1, fun k u y hu hy => ?_⟩
    by_cases hk : k = j
    · subst hk
      have : y = .own id c 0 := by
        simp only [putC, List.append_assoc] at hy
        rw [List.getElem?_append_right (by simp; omega)] at hy
        have e0 : k - (cs.take k).length = 0 := by simp; omega
        rw [e0] at hy
        simpa using hy.symm
      subst this
      obtain ⟨a0, rfl⟩ := hcr.2 k u .nil0 hu h2
      refine ⟨.inr rfl, ⟨a0, 0, rfl, Nat.le_refl _⟩, fun wr' st' ty' es' hH => ?_⟩
      simp only [upd_same, Option.some.injEq, Blk.arr.injEq] at hH
      obtain ⟨_, _, _, _, rfl⟩ := hH
      exact ⟨Nat.le_refl _, .inl ⟨a0, rfl, rfl⟩⟩
    · refine hcr.2 k u y hu ?_
      rw [← hy]
      simp only [putC, List.append_assoc]
      rcases Nat.lt_or_ge k j with hlt | hge
      · rw [List.getElem?_append_left (by simp; omega), List.getElem?_take, if_pos hlt]
      · rw [List.getElem?_append_right (by simp; omega)]
        have e0 : k - (cs.take j).length = (k - j - 1) + 1 := by simp; omega
        rw [e0]
        simp only [List.singleton_append, List.getElem?_cons_succ, List.getElem?_drop, List.length_singleton]
        congr 1
        omega
  have hk : ∀ b o, imm b o → imm b o ∧ w.cell? ⟨b, o, none⟩ = w.cell? ⟨b, o, none⟩ := fun _ _ h => ⟨h, rfl⟩
  obtain ⟨s1, s2⟩ := Step.trans hg.step hg.near k3 k4
  obtain ⟨s3, s4⟩ := Step.trans hS.step hS.near s1 s2
  have hu : ∀ v, with_ (· < c) c v → v < c + 1 := fun v hv => by rcases hv with hv | hv <;> omega
  have hext := (hg.ext.trans k2).trans (CRep.use (w := w) hu)
  exact ⟨imm, L.up id none noB, k1.use hu, fun i => (hS.tmp i).mono hk hext, hS.size, hS.defers, s3, s4, hS.ext.trans hext⟩
theorem lendK {H : HMap} {m1 m2 m3 v1 v2 v3 n1 n2 n3 : Nat} {w1 w2 w3 : Bool} {d : Dk} {xs : List T} (h1 : H m1 = some (.arr v1 w1 3 92 (en eF d.files))) (h2 : H m2 = some (.arr v2 w2 1 9 (en eS d.names))) (h3 : H m3 = some (.arr v3 w3 2 94 (en eM d.moves))) (e1 : n1 = d.files.length) (e2 : n2 = d.names.length) (e3 : n3 = d.moves.length) (hx : xs.all closedA = true) :
    lendTs H (tDk d :: xs) (.pt (.agg [.own m1 v1 n1, .own m2 v2 n2, .own m3 v3 n3]) :: xs) = some (tDk d :: xs, dkL m1 v1 m2 v2 m3 v3 d, [m1, m2, m3]) := by
  simp only [lendTs, lendDk h1 h2 h3 e1 e2 e3, (closed_As [] H xs hx).1, List.append_nil]
theorem AW.trim {P : Program} {X : Ctx} {ac : ACode} {Q : Exit → St → Prop} {t : Nat → T} {H : HMap} {c : Nat} (n j id : Nat) {v vi k st : Nat} {ty aty : TypeId} {cs : List C} {es : List (List V)} (h1 : H n = some (.var v ty cs)) (h2 : cs[j]? = some (.own id vi k)) (h3 : H id = some (.arr vi true st aty es)) (hk : k ≤ es.length)
    (h : oneW P X ac Q ⟨t, upd (upd H id (some (.arr c true st aty (es.take k)))) n (some (.var v ty (putC cs j [.own id c k]))), c + 1⟩) : oneW P X ac Q ⟨t, H, c⟩ :=
  oneW.re (fun _ _ => AW.trim0 n j id h1 h2 h3 hk) h
theorem AW.reify2 {P : Program} {X : Ctx} {ac : ACode} {Q : Exit → St → Prop} {t : Nat → T} {H : HMap} {c : Nat} (n j id st : Nat) (aty : TypeId) {v : Nat} {ty : TypeId} {cs : List C} (h1 : H n = some (.var v ty cs)) (h2 : cs[j]? = some .nil0) (hne : n ≠ id) (hst : 0 < st)
    (h : oneW P X ac Q ⟨t, upd (upd H id (some (.arr c true st aty []))) n (some (.var v ty (putC cs j [.own id c 0]))), c + 1⟩) : oneW P X ac Q ⟨t, H, c⟩ :=
  oneW.re (fun _ _ => AW.reify20 n j id st aty h1 h2 hne hst) h
end Go.V
set_option linter.unusedSimpArgs false
set_option maxRecDepth 20000
namespace Go.V
open Go.Proofs
def ok101 := okF.gu (P := Tryz.prog) tab Tryz.func101 Tryz.ntmps101 (by conv => lhs; cbv) (by kernel_rfl)
def com101 (ws : List DW) (a : LA) (i : Nat) (σ : St) : Prop := σ.t 13 = tL (en eW ws) ∧ σ.t 14 = .i ws.length ∧ σ.t 15 = .i i ∧ (∃ u, σ.t 5 = .c (.ptr 5 u 0) ∧ σ.H 5 = some (.var u 32 [.v (.s (.int .i64 a.kind)), .v (.s (.string a.data)), .v (.s (.bool a.cuts)), .v (.s (.int .i64 a.after)), .v (.s (.int .i64 a.moves)), .v (.sl (en eI a.keep))])) ∧ (∃ u, σ.t 6 = .c (.ptr 6 u 0) ∧ σ.H 6 = some (.var u 29 [.nil0, .nil0, .nil0]))
def invA (r : Dk × Int) (ws : List DW) (a : LA) (mF mN : Nat) (d : Dk) (i : Nat) (σ : St) : Prop := r = goS a i d (ws.drop i) ∧ com101 ws a i σ ∧ ∃ u v1 v2 v3, σ.t 8 = .c (.ptr 8 u 0) ∧ σ.H 8 = some (.var u 29 [.own mF v1 d.files.length, .own mN v2 d.names.length, .own 1003 v3 d.moves.length]) ∧ σ.H mF = some (.arr v1 true 3 92 (en eF d.files)) ∧ σ.H mN = some (.arr v2 true 1 9 (en eS d.names)) ∧ σ.H 1003 = some (.arr v3 true 2 94 (en eM d.moves))
def invB (r : Dk × Int) (ws : List DW) (a : LA) (mF mN : Nat) (d : Dk) (i : Nat) (σ : St) : Prop := r = goS a i d (ws.drop i) ∧ com101 ws a i σ ∧ d.moves = [] ∧ ∃ rest u v1 v2, σ.t 8 = .c (.ptr 8 u 0) ∧ σ.H 8 = some (.var u 29 [.own mF v1 d.files.length, .own mN v2 d.names.length, .nil0]) ∧ σ.H mF = some (.arr v1 true 3 92 (en eF d.files)) ∧ σ.H mN = some (.arr v2 true 1 9 (en eS (d.names ++ rest)))
def inv101 (r : Dk × Int) (ws : List DW) (a : LA) (i : Nat) (σ : St) : Prop := ∃ d, DOk d ∧ ∃ mF mN, (mF = 1001 ∧ mN = 1002 ∨ mF = 1010 ∧ mN = 1011) ∧ (invA r ws a mF mN d i σ ∨ invB r ws a mF mN d i σ)
set_option maxRecDepth 20000 in
set_option maxHeartbeats 2000000 in
theorem body101a (r : Dk × Int) (ws : List DW) (a : LA) (d : Dk) (hD : DOk d) (hw : ∀ w ∈ ws, fineDW w) (hl : ws.length ≤ 9000000000000000000) (X : Ctx) (i : Nat) (t : Nat → T) (H : HMap) (c : Nat) (hi : i ≤ ws.length) (h : invA r ws a 1001 1002 d i ⟨t, H, c⟩) :
    wpa Tryz.prog X (ok101.sub [1,1,0,1,0,0]) (thenA (fun σ => i < ws.length ∧ inv101 r ws a (i + 1) σ) (inW 0 (thenW Tryz.prog X (.seq (ok101.sub [1,1,1,0]) (.seq (ok101.sub [1,1,1,1,0]) .ret)) (endA (FinC ok101.res (tDkI r) []))))) ⟨t, H, c⟩ := by
  dsimp only [okF.sub, ACode.sub, okF.res]
  obtain ⟨hg, ⟨e13, e14, e15, ⟨u5, e5, eH5⟩, u6, e6, eH6⟩, u8, v1, v2, v3, e8, eH8, eF1, eN1, eM1⟩ := h
  simp only [T.c, T.i, tL] at e13 e14 e15 e5 eH5 e6 eH6 e8 eH8 eF1 eN1 eM1
  have hd := hD.fine
  have eH5o := eH5
  by_cases hlt : i < ws.length
  · obtain ⟨w, hw1⟩ : ∃ w, ws[i]? = some w := ⟨_, List.getElem?_eq_getElem hlt⟩
    have ew := en_at eW hw1
    have hww := hw w (List.mem_of_getElem? hw1)
    have k1 : (i : Int) < ws.length := by omega
    have gz : (0 : Int) ≤ i := by omega
    have gw : IntKind.i64.wrap ((i : Int) + 1) = ((i + 1 : Nat) : Int) := wrap64 (x := (i : Int) + 1) ⟨by omega, by omega⟩
    rw [drop_at hw1] at hg
    by_cases hcut : a.cuts = true ∧ (i : Int) ≥ a.after
    · have p1 := hcut.1
      have p2 := hcut.2
      have hg' : r = (cutD d a.moves a.keep, 6) := by rw [hg, goS, if_pos hcut]
      rw [hg']
      rw [p1] at eH5
      simp only [go_sem, e13, e14, e15, e5, eH5, e6, eH6, e8, eH8, eF1, eN1, eM1, en_len, k1, gz, ew, eW, p2]
      refine callL (ws := dkL 1001 _ 1002 _ 1003 _ d) (ns := [1001, 1002, 1003]) (cutI_ok d hD a.moves a.keep) rfl (lendK (by exact eF1) (by exact eN1) (by exact eM1) rfl rfl rfl rfl) rfl rfl ⟨?_, ?_⟩
      · simp only [go_sem]
      simp only [go_sem, scalarT, scalarP, scalarC, List.all_cons, Bool.false_and, e6, eH6]
    · have hg' : r = if (doS d w).2 = 0 then goS a (i + 1) (doS d w).1 (ws.drop (i + 1)) else ((doS d w).1, 4) := by rw [hg, goS, if_neg hcut]
      have hDq : DOk (doS d w).1 := hD.step w
      by_cases k5 : w.kind = 5
      · have hdo : doS d w = (keepD d (aft d.names d.moves), 0) := by
          have h51 : ¬ (5 : Int) = 1 := by omega
          simp only [doS, k5, h51, if_true, if_false]
        rw [hdo] at hg' hDq
        have hg' : r = goS a (i + 1) (keepD d (aft d.names d.moves)) (ws.drop (i + 1)) := hg'
        have n0 : ((0 : Int) != 0) = false := rfl
        have eF5 : (keepD d (aft d.names d.moves)).files.length = ((aft d.names d.moves).map (fileOf d.files)).length := rfl
        cases p1 : a.cuts with
        | false =>
          rw [p1] at eH5
          simp only [go_sem, e13, e14, e15, e5, eH5, e6, eH6, e8, eH8, eF1, eN1, eM1, en_len, k1, gz, ew, eW]
          refine callDd (m0 := 8) (m1 := 1001) (m2 := 1002) (m3 := 1003) (m4 := 1010) (m5 := 1011) (writeD_ok d w hd hww hD k5 8 1001 1002 1003 1010 1011 _ _ _ _) rfl (by simp only [go_sem, e8]; rfl) rfl rfl (by decide) (by exact eH8) (by exact eF1) (by exact eN1) (by exact eM1) ⟨?_, ?_⟩
          · simp only [go_sem]
          simp only [go_sem, e13, e14, e15, e5, eH5, e6, eH6, e8, eH8, eF1, eN1, eM1, gw, n0]
          exact ⟨hlt, keepD d (aft d.names d.moves), hDq, 1010, 1011, .inr ⟨rfl, rfl⟩, .inr ⟨hg', ⟨e13, e14, rfl, ⟨u5, e5, eH5o⟩, u6, e6, eH6⟩, rfl, (runI d.names d.moves).2, u8, _, _, e8, rfl, rfl, rfl⟩⟩
        | true =>
          have p2 : ¬ (i : Int) ≥ a.after := fun h => hcut ⟨p1, h⟩
          rw [p1] at eH5
          simp only [go_sem, e13, e14, e15, e5, eH5, e6, eH6, e8, eH8, eF1, eN1, eM1, en_len, k1, gz, ew, eW, p2]
          refine callDd (m0 := 8) (m1 := 1001) (m2 := 1002) (m3 := 1003) (m4 := 1010) (m5 := 1011) (writeD_ok d w hd hww hD k5 8 1001 1002 1003 1010 1011 _ _ _ _) rfl (by simp only [go_sem, e8]; rfl) rfl rfl (by decide) (by exact eH8) (by exact eF1) (by exact eN1) (by exact eM1) ⟨?_, ?_⟩
          · simp only [go_sem]
          simp only [go_sem, e13, e14, e15, e5, eH5, e6, eH6, e8, eH8, eF1, eN1, eM1, gw, n0]
          exact ⟨hlt, keepD d (aft d.names d.moves), hDq, 1010, 1011, .inr ⟨rfl, rfl⟩, .inr ⟨hg', ⟨e13, e14, rfl, ⟨u5, e5, eH5o⟩, u6, e6, eH6⟩, rfl, (runI d.names d.moves).2, u8, _, _, e8, rfl, rfl, rfl⟩⟩
      · have hqq : doS d w = ((doS d w).1, (doS d w).2) := rfl
        have hWr := write_ok d w hd hww hD k5 8 1001 1002 1003
        generalize hq1 : (doS d w).1 = qd at *
        generalize hq2 : (doS d w).2 = qc at *
        by_cases h0 : qc = 0
        · subst h0
          rw [if_pos rfl] at hg'
          have n0 : ((0 : Int) != 0) = false := rfl
          cases p1 : a.cuts with
          | false =>
            rw [p1] at eH5
            simp only [go_sem, e13, e14, e15, e5, eH5, e6, eH6, e8, eH8, eF1, eN1, eM1, en_len, k1, gz, ew, eW]
            refine callDw (m0 := 8) (m1 := 1001) (m2 := 1002) (m3 := 1003) (hWr _ _ _ _) rfl (by simp only [go_sem, e8]; rfl) rfl rfl (by decide) (by exact eH8) (by exact eF1) (by exact eN1) (by exact eM1) ⟨?_, ?_⟩
            · simp only [go_sem]
            simp only [go_sem, e13, e14, e15, e5, eH5, e6, eH6, e8, eH8, eF1, eN1, eM1, gw, n0]
            exact ⟨hlt, qd, hDq, 1001, 1002, .inl ⟨rfl, rfl⟩, .inl ⟨hg', ⟨e13, e14, rfl, ⟨u5, e5, eH5o⟩, u6, e6, eH6⟩, u8, _, _, _, e8, rfl, rfl, rfl, rfl⟩⟩
          | true =>
            have p2 : ¬ (i : Int) ≥ a.after := fun h => hcut ⟨p1, h⟩
            rw [p1] at eH5
            simp only [go_sem, e13, e14, e15, e5, eH5, e6, eH6, e8, eH8, eF1, eN1, eM1, en_len, k1, gz, ew, eW, p2]
            refine callDw (m0 := 8) (m1 := 1001) (m2 := 1002) (m3 := 1003) (hWr _ _ _ _) rfl (by simp only [go_sem, e8]; rfl) rfl rfl (by decide) (by exact eH8) (by exact eF1) (by exact eN1) (by exact eM1) ⟨?_, ?_⟩
            · simp only [go_sem]
            simp only [go_sem, e13, e14, e15, e5, eH5, e6, eH6, e8, eH8, eF1, eN1, eM1, gw, n0]
            exact ⟨hlt, qd, hDq, 1001, 1002, .inl ⟨rfl, rfl⟩, .inl ⟨hg', ⟨e13, e14, rfl, ⟨u5, e5, eH5o⟩, u6, e6, eH6⟩, u8, _, _, _, e8, rfl, rfl, rfl, rfl⟩⟩
        · rw [if_neg h0] at hg'
          have n0 : (qc != 0) = true := by simpa using h0
          rw [hg']
          cases p1 : a.cuts with
          | false =>
            rw [p1] at eH5
            simp only [go_sem, e13, e14, e15, e5, eH5, e6, eH6, e8, eH8, eF1, eN1, eM1, en_len, k1, gz, ew, eW]
            refine callDw (m0 := 8) (m1 := 1001) (m2 := 1002) (m3 := 1003) (hWr _ _ _ _) rfl (by simp only [go_sem, e8]; rfl) rfl rfl (by decide) (by exact eH8) (by exact eF1) (by exact eN1) (by exact eM1) ⟨?_, ?_⟩
            · simp only [go_sem]
            simp only [go_sem, e13, e14, e15, e5, eH5, e6, eH6, e8, eH8, eF1, eN1, eM1, n0]
          | true =>
            have p2 : ¬ (i : Int) ≥ a.after := fun h => hcut ⟨p1, h⟩
            rw [p1] at eH5
            simp only [go_sem, e13, e14, e15, e5, eH5, e6, eH6, e8, eH8, eF1, eN1, eM1, en_len, k1, gz, ew, eW, p2]
            refine callDw (m0 := 8) (m1 := 1001) (m2 := 1002) (m3 := 1003) (hWr _ _ _ _) rfl (by simp only [go_sem, e8]; rfl) rfl rfl (by decide) (by exact eH8) (by exact eF1) (by exact eN1) (by exact eM1) ⟨?_, ?_⟩
            · simp only [go_sem]
            simp only [go_sem, e13, e14, e15, e5, eH5, e6, eH6, e8, eH8, eF1, eN1, eM1, n0]
  · have hi2 : i = ws.length := by omega
    subst hi2
    have k1 : ¬ (ws.length : Int) < ws.length := by omega
    rw [List.drop_length] at hg
    cases p1 : a.cuts with
    | true =>
      have hg' : r = (cutD d a.moves a.keep, 6) := by rw [hg, goS, if_pos p1]
      rw [hg']
      rw [p1] at eH5
      simp only [go_sem, e13, e14, e15, e5, eH5, e6, eH6, e8, eH8, eF1, eN1, eM1, en_len, k1]
      refine callL (ws := dkL 1001 _ 1002 _ 1003 _ d) (ns := [1001, 1002, 1003]) (cutI_ok d hD a.moves a.keep) rfl (lendK (by exact eF1) (by exact eN1) (by exact eM1) rfl rfl rfl rfl) rfl rfl ⟨?_, ?_⟩
      · simp only [go_sem]
      simp only [go_sem, scalarT, scalarP, scalarC, List.all_cons, Bool.false_and, e6, eH6]
    | false =>
      have hg' : r = (d, 0) := by rw [hg, goS, if_neg (by rw [p1]; decide)]
      rw [hg']
      rw [p1] at eH5
      simp only [go_sem, e13, e14, e15, e5, eH5, e6, eH6, e8, eH8, eF1, eN1, eM1, en_len, k1]
set_option maxRecDepth 20000 in
set_option maxHeartbeats 2000000 in
theorem body101b (r : Dk × Int) (ws : List DW) (a : LA) (d : Dk) (hD : DOk d) (hw : ∀ w ∈ ws, fineDW w) (hl : ws.length ≤ 9000000000000000000) (X : Ctx) (i : Nat) (t : Nat → T) (H : HMap) (c : Nat) (hi : i ≤ ws.length) (h : invA r ws a 1010 1011 d i ⟨t, H, c⟩) :
    wpa Tryz.prog X (ok101.sub [1,1,0,1,0,0]) (thenA (fun σ => i < ws.length ∧ inv101 r ws a (i + 1) σ) (inW 0 (thenW Tryz.prog X (.seq (ok101.sub [1,1,1,0]) (.seq (ok101.sub [1,1,1,1,0]) .ret)) (endA (FinC ok101.res (tDkI r) []))))) ⟨t, H, c⟩ := by
  dsimp only [okF.sub, ACode.sub, okF.res]
  obtain ⟨hg, ⟨e13, e14, e15, ⟨u5, e5, eH5⟩, u6, e6, eH6⟩, u8, v1, v2, v3, e8, eH8, eF1, eN1, eM1⟩ := h
  simp only [T.c, T.i, tL] at e13 e14 e15 e5 eH5 e6 eH6 e8 eH8 eF1 eN1 eM1
  have hd := hD.fine
  have eH5o := eH5
  by_cases hlt : i < ws.length
  · obtain ⟨w, hw1⟩ : ∃ w, ws[i]? = some w := ⟨_, List.getElem?_eq_getElem hlt⟩
    have ew := en_at eW hw1
    have hww := hw w (List.mem_of_getElem? hw1)
    have k1 : (i : Int) < ws.length := by omega
    have gz : (0 : Int) ≤ i := by omega
    have gw : IntKind.i64.wrap ((i : Int) + 1) = ((i + 1 : Nat) : Int) := wrap64 (x := (i : Int) + 1) ⟨by omega, by omega⟩
    rw [drop_at hw1] at hg
    by_cases hcut : a.cuts = true ∧ (i : Int) ≥ a.after
    · have p1 := hcut.1
      have p2 := hcut.2
      have hg' : r = (cutD d a.moves a.keep, 6) := by rw [hg, goS, if_pos hcut]
      rw [hg']
      rw [p1] at eH5
      simp only [go_sem, e13, e14, e15, e5, eH5, e6, eH6, e8, eH8, eF1, eN1, eM1, en_len, k1, gz, ew, eW, p2]
      refine callL (ws := dkL 1010 _ 1011 _ 1003 _ d) (ns := [1010, 1011, 1003]) (cutI_ok d hD a.moves a.keep) rfl (lendK (by exact eF1) (by exact eN1) (by exact eM1) rfl rfl rfl rfl) rfl rfl ⟨?_, ?_⟩
      · simp only [go_sem]
      simp only [go_sem, scalarT, scalarP, scalarC, List.all_cons, Bool.false_and, e6, eH6]
    · have hg' : r = if (doS d w).2 = 0 then goS a (i + 1) (doS d w).1 (ws.drop (i + 1)) else ((doS d w).1, 4) := by rw [hg, goS, if_neg hcut]
      have hDq : DOk (doS d w).1 := hD.step w
      by_cases k5 : w.kind = 5
      · have hdo : doS d w = (keepD d (aft d.names d.moves), 0) := by
          have h51 : ¬ (5 : Int) = 1 := by omega
          simp only [doS, k5, h51, if_true, if_false]
        rw [hdo] at hg' hDq
        have hg' : r = goS a (i + 1) (keepD d (aft d.names d.moves)) (ws.drop (i + 1)) := hg'
        have n0 : ((0 : Int) != 0) = false := rfl
        have eF5 : (keepD d (aft d.names d.moves)).files.length = ((aft d.names d.moves).map (fileOf d.files)).length := rfl
        cases p1 : a.cuts with
        | false =>
          rw [p1] at eH5
          simp only [go_sem, e13, e14, e15, e5, eH5, e6, eH6, e8, eH8, eF1, eN1, eM1, en_len, k1, gz, ew, eW]
          refine callDd (m0 := 8) (m1 := 1010) (m2 := 1011) (m3 := 1003) (m4 := 1001) (m5 := 1002) (writeD_ok d w hd hww hD k5 8 1010 1011 1003 1001 1002 _ _ _ _) rfl (by simp only [go_sem, e8]; rfl) rfl rfl (by decide) (by exact eH8) (by exact eF1) (by exact eN1) (by exact eM1) ⟨?_, ?_⟩
          · simp only [go_sem]
          simp only [go_sem, e13, e14, e15, e5, eH5, e6, eH6, e8, eH8, eF1, eN1, eM1, gw, n0]
          exact ⟨hlt, keepD d (aft d.names d.moves), hDq, 1001, 1002, .inl ⟨rfl, rfl⟩, .inr ⟨hg', ⟨e13, e14, rfl, ⟨u5, e5, eH5o⟩, u6, e6, eH6⟩, rfl, (runI d.names d.moves).2, u8, _, _, e8, rfl, rfl, rfl⟩⟩
        | true =>
          have p2 : ¬ (i : Int) ≥ a.after := fun h => hcut ⟨p1, h⟩
          rw [p1] at eH5
          simp only [go_sem, e13, e14, e15, e5, eH5, e6, eH6, e8, eH8, eF1, eN1, eM1, en_len, k1, gz, ew, eW, p2]
          refine callDd (m0 := 8) (m1 := 1010) (m2 := 1011) (m3 := 1003) (m4 := 1001) (m5 := 1002) (writeD_ok d w hd hww hD k5 8 1010 1011 1003 1001 1002 _ _ _ _) rfl (by simp only [go_sem, e8]; rfl) rfl rfl (by decide) (by exact eH8) (by exact eF1) (by exact eN1) (by exact eM1) ⟨?_, ?_⟩
          · simp only [go_sem]
          simp only [go_sem, e13, e14, e15, e5, eH5, e6, eH6, e8, eH8, eF1, eN1, eM1, gw, n0]
          exact ⟨hlt, keepD d (aft d.names d.moves), hDq, 1001, 1002, .inl ⟨rfl, rfl⟩, .inr ⟨hg', ⟨e13, e14, rfl, ⟨u5, e5, eH5o⟩, u6, e6, eH6⟩, rfl, (runI d.names d.moves).2, u8, _, _, e8, rfl, rfl, rfl⟩⟩
      · have hqq : doS d w = ((doS d w).1, (doS d w).2) := rfl
        have hWr := write_ok d w hd hww hD k5 8 1010 1011 1003
        generalize hq1 : (doS d w).1 = qd at *
        generalize hq2 : (doS d w).2 = qc at *
        by_cases h0 : qc = 0
        · subst h0
          rw [if_pos rfl] at hg'
          have n0 : ((0 : Int) != 0) = false := rfl
          cases p1 : a.cuts with
          | false =>
            rw [p1] at eH5
            simp only [go_sem, e13, e14, e15, e5, eH5, e6, eH6, e8, eH8, eF1, eN1, eM1, en_len, k1, gz, ew, eW]
            refine callDw (m0 := 8) (m1 := 1010) (m2 := 1011) (m3 := 1003) (hWr _ _ _ _) rfl (by simp only [go_sem, e8]; rfl) rfl rfl (by decide) (by exact eH8) (by exact eF1) (by exact eN1) (by exact eM1) ⟨?_, ?_⟩
            · simp only [go_sem]
            simp only [go_sem, e13, e14, e15, e5, eH5, e6, eH6, e8, eH8, eF1, eN1, eM1, gw, n0]
            exact ⟨hlt, qd, hDq, 1010, 1011, .inr ⟨rfl, rfl⟩, .inl ⟨hg', ⟨e13, e14, rfl, ⟨u5, e5, eH5o⟩, u6, e6, eH6⟩, u8, _, _, _, e8, rfl, rfl, rfl, rfl⟩⟩
          | true =>
            have p2 : ¬ (i : Int) ≥ a.after := fun h => hcut ⟨p1, h⟩
            rw [p1] at eH5
            simp only [go_sem, e13, e14, e15, e5, eH5, e6, eH6, e8, eH8, eF1, eN1, eM1, en_len, k1, gz, ew, eW, p2]
            refine callDw (m0 := 8) (m1 := 1010) (m2 := 1011) (m3 := 1003) (hWr _ _ _ _) rfl (by simp only [go_sem, e8]; rfl) rfl rfl (by decide) (by exact eH8) (by exact eF1) (by exact eN1) (by exact eM1) ⟨?_, ?_⟩
            · simp only [go_sem]
            simp only [go_sem, e13, e14, e15, e5, eH5, e6, eH6, e8, eH8, eF1, eN1, eM1, gw, n0]
            exact ⟨hlt, qd, hDq, 1010, 1011, .inr ⟨rfl, rfl⟩, .inl ⟨hg', ⟨e13, e14, rfl, ⟨u5, e5, eH5o⟩, u6, e6, eH6⟩, u8, _, _, _, e8, rfl, rfl, rfl, rfl⟩⟩
        · rw [if_neg h0] at hg'
          have n0 : (qc != 0) = true := by simpa using h0
          rw [hg']
          cases p1 : a.cuts with
          | false =>
            rw [p1] at eH5
            simp only [go_sem, e13, e14, e15, e5, eH5, e6, eH6, e8, eH8, eF1, eN1, eM1, en_len, k1, gz, ew, eW]
            refine callDw (m0 := 8) (m1 := 1010) (m2 := 1011) (m3 := 1003) (hWr _ _ _ _) rfl (by simp only [go_sem, e8]; rfl) rfl rfl (by decide) (by exact eH8) (by exact eF1) (by exact eN1) (by exact eM1) ⟨?_, ?_⟩
            · simp only [go_sem]
            simp only [go_sem, e13, e14, e15, e5, eH5, e6, eH6, e8, eH8, eF1, eN1, eM1, n0]
          | true =>
            have p2 : ¬ (i : Int) ≥ a.after := fun h => hcut ⟨p1, h⟩
            rw [p1] at eH5
            simp only [go_sem, e13, e14, e15, e5, eH5, e6, eH6, e8, eH8, eF1, eN1, eM1, en_len, k1, gz, ew, eW, p2]
            refine callDw (m0 := 8) (m1 := 1010) (m2 := 1011) (m3 := 1003) (hWr _ _ _ _) rfl (by simp only [go_sem, e8]; rfl) rfl rfl (by decide) (by exact eH8) (by exact eF1) (by exact eN1) (by exact eM1) ⟨?_, ?_⟩
            · simp only [go_sem]
            simp only [go_sem, e13, e14, e15, e5, eH5, e6, eH6, e8, eH8, eF1, eN1, eM1, n0]
  · have hi2 : i = ws.length := by omega
    subst hi2
    have k1 : ¬ (ws.length : Int) < ws.length := by omega
    rw [List.drop_length] at hg
    cases p1 : a.cuts with
    | true =>
      have hg' : r = (cutD d a.moves a.keep, 6) := by rw [hg, goS, if_pos p1]
      rw [hg']
      rw [p1] at eH5
      simp only [go_sem, e13, e14, e15, e5, eH5, e6, eH6, e8, eH8, eF1, eN1, eM1, en_len, k1]
      refine callL (ws := dkL 1010 _ 1011 _ 1003 _ d) (ns := [1010, 1011, 1003]) (cutI_ok d hD a.moves a.keep) rfl (lendK (by exact eF1) (by exact eN1) (by exact eM1) rfl rfl rfl rfl) rfl rfl ⟨?_, ?_⟩
      · simp only [go_sem]
      simp only [go_sem, scalarT, scalarP, scalarC, List.all_cons, Bool.false_and, e6, eH6]
    | false =>
      have hg' : r = (d, 0) := by rw [hg, goS, if_neg (by rw [p1]; decide)]
      rw [hg']
      rw [p1] at eH5
      simp only [go_sem, e13, e14, e15, e5, eH5, e6, eH6, e8, eH8, eF1, eN1, eM1, en_len, k1]
set_option maxRecDepth 20000 in
set_option maxHeartbeats 2000000 in
theorem writes_ok (d : Dk) (ws : List DW) (a : LA) (hD : DOk d) (hl : ws.length ≤ 9000000000000000000) (hw : ∀ w ∈ ws, fineDW w) : ACallsF Tryz.prog 101 [tDk d, tL (en eW ws), tLA a] [] (tDkI (goS a 0 d ws)) := by
  have hd := hD.fine
  generalize hr : goS a 0 d ws = r
  refine ACallsF.intro ok101 follows fun X c0 => ?_
  simp only [go_sem]
  refine callDk (ws := []) (ns := []) (cloneDk_ok d hd.s 1001 1002 1003) rfl rfl rfl (by decide) ⟨rfl, ?_⟩
  simp only [go_sem]
  refine AW.uptoA ws.length (inv101 r ws a) ⟨d, hD, 1001, 1002, .inl ⟨rfl, rfl⟩, .inl ⟨hr.symm, ⟨rfl, rfl, rfl, ⟨_, rfl, rfl⟩, _, rfl, rfl⟩, _, _, _, _, rfl, rfl, rfl, rfl, rfl⟩⟩ fun i t H c hi h => ?_
  obtain ⟨d, hD, mF, mN, hm, h | h⟩ := h
  · rcases hm with ⟨rfl, rfl⟩ | ⟨rfl, rfl⟩
    · exact oneW.of (body101a r ws a d hD hw hl X i t H c hi h)
    · exact oneW.of (body101b r ws a d hD hw hl X i t H c hi h)
  · obtain ⟨hg, ⟨e13, e14, e15, ⟨u5, e5, eH5⟩, u6, e6, eH6⟩, hmv, rest, u8, v1, v2, e8, eH8, eF1, eN1⟩ := h
    have hle : d.names.length ≤ (en eS (d.names ++ rest)).length := by rw [en_len, List.length_append]; omega
    have ht := en_take2 eS d.names rest
    rcases hm with ⟨rfl, rfl⟩ | ⟨rfl, rfl⟩
    · refine AW.trim 8 1 1002 eH8 rfl eN1 hle ?_
      refine AW.reify2 8 2 1003 2 94 rfl rfl (by decide) (by decide) ?_
      refine oneW.of (body101a r ws a d hD hw hl X i t _ _ hi ?_)
      refine ⟨hg, ⟨e13, e14, e15, ⟨u5, e5, eH5⟩, u6, e6, eH6⟩, u8, v1, c, c + 1, e8, ?_, eF1, ?_, ?_⟩
      · rw [hmv]; rfl
      · rw [← ht]; rfl
      · rw [hmv]; rfl
    · refine AW.trim 8 1 1011 eH8 rfl eN1 hle ?_
      refine AW.reify2 8 2 1003 2 94 rfl rfl (by decide) (by decide) ?_
      refine oneW.of (body101b r ws a d hD hw hl X i t _ _ hi ?_)
      refine ⟨hg, ⟨e13, e14, e15, ⟨u5, e5, eH5⟩, u6, e6, eH6⟩, u8, v1, c, c + 1, e8, ?_, eF1, ?_, ?_⟩
      · rw [hmv]; rfl
      · rw [← ht]; rfl
      · rw [hmv]; rfl
end Go.V
set_option linter.unusedSimpArgs false
namespace Go.V
open Go.Proofs
theorem cutD_len {d : Dk} (hD : DOk d) (m : Int) (keep : List Int) : (cutD d m keep).files.length ≤ 1000 ∧ (cutD d m keep).names.length ≤ 1000 ∧ (cutD d m keep).moves.length ≤ 1000 := by
  have l2 := hD.n
  have l3 := hD.m
  have h := aft_len (d.moves.take (cutN m d)) d.names
  rw [List.length_take] at h
  simp only [cutD, keepD, List.length_map, List.length_nil]
  omega
theorem goS_len (a : LA) : ∀ (ws : List DW) (i : Nat) (d : Dk), DOk d → (goS a i d ws).1.files.length ≤ 1000 ∧ (goS a i d ws).1.names.length ≤ 1000 ∧ (goS a i d ws).1.moves.length ≤ 1000
  | [], i, d, hD => by
    have l1 := hD.f
    have l2 := hD.n
    have l3 := hD.m
    unfold goS
    split
    · exact cutD_len hD _ _
    · exact ⟨by simp only; omega, by simp only; omega, by simp only; omega⟩
  | w :: ws, i, d, hD => by
    have h1 := (small_do d w hD).2
    unfold goS
    split
    · exact cutD_len hD _ _
    · split
      · exact goS_len a ws (i + 1) _ (hD.step w)
      · exact h1
end Go.V

/- The program's StoreOpen returns what the reference's returns, for every disk: no condition but the ones of the given statement. -/
import Derived.Test.YtmcekakcogcckaaGreatDoorMX1
import Derived.Test.YtmcekakcogcckaaGreatDoorMK1
import Derived.Shelf.Slices.Delete
import Derived.Lib.RowBridge
set_option linter.unusedVariables false
set_option linter.unusedSimpArgs false
namespace Go.Proofs
open Go.Shelf
def laysDelete_ren : Go.Shelf.Ren := ⟨fun | 24 => 73 | n => n, fun | 24 => 23 | 9 => 9 | 3 => 3 | 4 => 4 | 0 => 0 | n => n, fun | n => n⟩
theorem laysDelete : Go.Proofs.Lays2.n24 Tryz.prog laysDelete_ren := {
  mixed := by kernel_rfl
  f24 := Tryz.func73.trans (congrArg some (by kernel_rfl))
  t0 := Tryz.underlying0
  a0 := Tryz.isAgg0
  z0 := Tryz.sizeOf0
  v0 := Tryz.zeroValue0
  t3 := Tryz.underlying3
  a3 := Tryz.isAgg3
  z3 := Tryz.sizeOf3
  v3 := Tryz.zeroValue3
  t4 := Tryz.underlying4
  a4 := Tryz.isAgg4
  z4 := Tryz.sizeOf4
  v4 := Tryz.zeroValue4
  t9 := Tryz.underlying9
  a9 := Tryz.isAgg9
  z9 := Tryz.sizeOf9
  v9 := Tryz.zeroValue9
  t24 := Tryz.underlying23
  a24 := Tryz.isAgg23
  z24 := Tryz.sizeOf23
  v24 := Tryz.zeroValue23
  i9 := by kernel_rfl }
end Go.Proofs
namespace Go.V
open Go.Proofs Go.Sort
def ofL (l : List UInt8) : ByteArray := ⟨l.toArray⟩
theorem ofL_data (b : ByteArray) : ofL b.data.toList = b := by simp [ofL]
theorem isFnDel : isFn Tryz.prog 73 = true := by kernel_rfl
/-- Names without the one at a place. -/
def del (ns : List ByteArray) (i : Nat) : List ByteArray := ns.take i ++ ns.drop (i + 1)
theorem row_world2 {w : World} {g q : Nat} {ty : TypeId} {cur : Array Value} {ss' : List ByteArray} (hc : w.heap[g]? = some (.cells cur ty (0, 0))) (hl : ss'.length ≤ cur.size) :
    ∃ cur', (putRow encStr (Go.Sort.ahead w q) g 0 (rowL ss').toArray).heap[g]? = some (.cells cur' ty (0, 0)) ∧ cur'.size = cur.size ∧ (∀ (j : Nat) s, ss'[j]? = some s → cur'[j]? = some (.string s)) ∧ (∀ j : Nat, ss'.length ≤ j → cur'[j]? = cur[j]?) ∧
      w.heap.size ≤ (putRow encStr (Go.Sort.ahead w q) g 0 (rowL ss').toArray).heap.size ∧
      ∀ b, b < w.heap.size → b ≠ g → (putRow encStr (Go.Sort.ahead w q) g 0 (rowL ss').toArray).heap[b]? = w.heap[b]? := by
  refine ⟨putCells encStr 0 (rowL ss').toArray cur, ?_, by simp [putCells], fun j s hs => ?_, fun j hj => ?_, ?_, fun b hb hne => ?_⟩
  · simp only [putRow, mapBlock, Go.Sort.ahead]
    rw [Array.getElem?_modify]
    simp [hc, onCells]
  · have hj : j < ss'.length := (List.getElem?_eq_some_iff.1 hs).1
    have hjc : j < cur.size := by omega
    simp only [putCells, Array.getElem?_mapIdx, Array.getElem?_eq_getElem hjc, Option.map_some]
    have e : (rowL ss').toArray[j]! = s.data.toList := by
      rw [getElem!_pos _ j (by simpa [rowL] using hj)]
      have := (List.getElem?_eq_some_iff.1 hs).2
      simp [rowL, this]
    have c1 : 0 ≤ j ∧ j < 0 + (rowL ss').toArray.size := ⟨Nat.zero_le _, by simpa [rowL] using hj⟩
    rw [if_pos c1, Nat.sub_zero, e]
  · simp only [putCells, Array.getElem?_mapIdx]
    have c1 : ¬ (0 ≤ j ∧ j < 0 + (rowL ss').toArray.size) := by simp [rowL]; omega
    cases hcj : cur[j]? with
    | none => rfl
    | some x => simp only [Option.map_some, if_neg c1]
  · simp [putRow, mapBlock, Go.Sort.ahead]
  · simp only [putRow, mapBlock, Go.Sort.ahead]
    rw [Array.getElem?_modify, if_neg (fun e => hne e.symm)]
theorem delete_ok (ss rest : List ByteArray) (i : Nat) (hi : i < ss.length) (n m v : Nat) :
    ACallsF Tryz.prog 73 [.c (.own n v ss.length), .i i, .i ((i + 1 : Nat) : Int)] [arH n m v 1 9 (en eS (ss ++ rest)) (en eS (del ss i ++ ([zS] ++ rest)))] (.c (.own n v (del ss i).length)) := by
  have hdl : (del ss i).length = ss.length - 1 := by simp [del]; omega
  have hl0 : (del ss i ++ [zS]).length = ss.length := by rw [List.length_append, hdl, List.length_singleton]; omega
  have hl : (del ss i ++ ([zS] ++ rest)).length = (ss ++ rest).length := by rw [← List.append_assoc, List.length_append, hl0, List.length_append]
  show ACallsF Tryz.prog 73 [.c (.own n v ss.length), .i i, .i ((i + 1 : Nat) : Int)] (rowH n m v 9 (ss ++ rest) (del ss i ++ ([zS] ++ rest))) (.c (.own n v (del ss i).length))
  refine ⟨isFnDel, fun w imm L c vs hH hT => ?_⟩
  obtain ⟨x, a, b, rfl⟩ : ∃ x a b, vs = [x, a, b] := by
    have := hT.1
    match vs, this with
    | [x, a, b], _ => exact ⟨x, a, b, rfl⟩
  have ha := rep_s (y := .int .i64 i) (hT.2 1 a (.i i) rfl rfl)
  have hb := rep_s (y := .int .i64 ((i + 1 : Nat) : Int)) (hT.2 2 b (.i ((i + 1 : Nat) : Int)) rfl rfl)
  subst ha hb
  have hx : TRep w imm (hinOf (rowH n m v 9 (ss ++ rest) (del ss i ++ ([zS] ++ rest)))) L (· < c) x (.c (.own n v ss.length)) := hT.2 0 x _ rfl rfl
  have hin : hinOf (rowH n m v 9 (ss ++ rest) (del ss i ++ ([zS] ++ rest))) n = some (.arr v true 1 9 (rowS (ss ++ rest))) := by rw [rowH_in]; simp
  have hx' : CRep w imm (hinOf (rowH n m v 9 (ss ++ rest) (del ss i ++ ([zS] ++ rest)))) L (· < c) x (.own n v ss.length) := hx
  obtain ⟨hu, -, h3⟩ := hx'
  obtain ⟨-, h4⟩ := h3 _ _ _ _ hin
  rcases h4 with ⟨a, h5, h6⟩ | ⟨g, cap, cur, h5, h6, h7, h8, h9, h10⟩
  · omega
  · have hgsz : g < w.heap.size := by
      rcases Nat.lt_or_ge g w.heap.size with h | h
      · exact h
      · rw [Array.getElem?_eq_none h] at h7; cases h7
    obtain ⟨-, -, -, hb⟩ := hH.blk n _ hin
    rcases hb with ⟨h, -⟩ | ⟨g', cur2, i1, i2, -, i4, -⟩
    · rw [h] at h5; cases h5
    rw [h5] at i1; cases i1
    rw [h7] at i2; cases i2
    have hcur : ∀ (j : Nat) s, (ss ++ rest)[j]? = some s → cur[j]? = some (.string s) := fun j s hs => VsRep_row (ss := ss ++ rest) i4 hs
    have hHolds : Holds encStr w g 0 (rowL ss).toArray := fun j hj => by
      have hj' : j < ss.length := by simpa [rowL] using hj
      have := hcur j ss[j] (by rw [List.getElem?_append_left hj']; simp [hj'])
      refine ⟨?_, by simp [World.frozen?, h7]⟩
      simp only [World.cell?, h7, Nat.zero_add, Option.isSome_none, Bool.false_eq_true, if_false]
      rw [this, getElem!_pos _ j hj]
      simp [rowL]
    subst h6
    have hD := Any.slices_Delete_string laysDelete g 0 cap i (i + 1) (rowL ss) w hHolds (by rw [rowL_len]; exact h8) h9 (by omega) (by rw [rowL_len]; omega)
    rw [rowL_len] at hD
    refine hD.mono ?_
    rintro e w' ⟨rfl, q, rfl⟩
    have hrow : (rowL ss).take i ++ (rowL ss).drop (i + 1) ++ List.replicate (i + 1 - i) [] = rowL (del ss i ++ [zS]) := by
      rw [show i + 1 - i = 1 by omega]
      simp [rowL, del, zS, List.map_take, List.map_drop]
    rw [hrow]
    obtain ⟨cur', j1, j2, j3, j3b, j4, j5⟩ := row_world2 (q := q) (ss' := del ss i ++ [zS]) h7 (by omega)
    obtain ⟨p1, p2, p3, p4⟩ := put_row (w' := putRow encStr (Go.Sort.ahead w q) g 0 (rowL (del ss i ++ [zS])).toArray) hH h5 h7 rfl rfl rfl j4 j5 j1 j2 hl (fun j s hs => by
      rw [← List.append_assoc] at hs
      rcases Nat.lt_or_ge j ss.length with hj | hj
      · rw [List.getElem?_append_left (by omega)] at hs; exact j3 j s hs
      · rw [List.getElem?_append_right (by omega), hl0] at hs
        rw [j3b j (by omega)]
        exact hcur j s (by rw [List.getElem?_append_right hj]; exact hs))
    refine ⟨_, .c (.own n v (del ss i).length), _, imm, L, c, rfl, row_left n m v 9 (ss ++ rest) (del ss i ++ ([zS] ++ rest)) _ rfl _ (by simp), ?_, p1, p2, p3, p4⟩
    refine ⟨hu, ⟨_, _, by rw [hdl, show i + 1 - i = 1 by omega], by omega⟩, fun wr st ty' es hes => ?_⟩
    simp only [if_true, Option.some.injEq, Blk.arr.injEq] at hes
    obtain ⟨-, rfl, rfl, rfl, rfl⟩ := hes
    exact ⟨by rw [rowS_len, hl, List.length_append]; omega, .inr ⟨g, cap, cur', h5, by rw [hdl, show i + 1 - i = 1 by omega], j1, by omega, h9, by rw [j2, h10]⟩⟩
end Go.V
set_option linter.unusedSimpArgs false
set_option maxRecDepth 20000
namespace Go.V
open Go.Proofs
/-- A call that cuts an array of the caller's. -/
theorem callCut {P : Program} {t : Nat → T} {H : HMap} {c : Nat} {f : Opd} {args : List Opd} {fid : FuncId} {n m v N N' st : Nat} {ty : TypeId} {es es' : List (List V)} {x y : T} {k : Nat} {d : Option Nat} {un : List Nat} {l : List AOper} {prev : List (Nat × List Nat × List Nat)} {K : St → Prop}
    (hC : ACallsF P fid [.c (.own n v N), x, y] [arH n m v st ty es es'] (.c (.own n v N'))) (hf : ev t f = .pt (.one (.fn fid []))) (hl : args.map (ev t) = [.c (.own m v N), x, y]) (hH : H m = some (.arr v true st ty es)) (hx : closedA x = true) (hy : closedA y = true)
    (hk : chk prev un ⟨.c (.own m v N'), [(m, .arr v true st ty es')], [m], [m]⟩ = true ∧ DRun P l ((k, [m], [m]) :: prev) K ⟨updD t d (.c (.own m v N')), upd H m (some (.arr v true st ty es')), c⟩) :
    step P k d un (.call f args) l prev K t H c := by
  have hN : renN [arH n m v st ty es es'] n = some (arH n m v st ty es es') := by simp [renN]
  obtain ⟨x1, x2⟩ := closed_A [arH n m v st ty es es'] H x hx
  obtain ⟨y1, y2⟩ := closed_A [arH n m v st ty es es'] H y hy
  refine callW (caps := []) («as» := [.c (.own m v N), x, y]) (ws := []) (ns := []) (r' := .c (.own m v N')) (ob := [(m, .arr v true st ty es')]) [arH n m v st ty es es'] hC hf ?_ ?_ ⟨?_, trivial⟩ (by simp) (by simp) ?_ ?_ ?_
  · rw [hl]
    have a1 : lendT H (T.c (.own n v N)) (T.c (.own m v N)) = some (T.c (.own m v N), [], []) := rfl
    simp only [List.map_nil, List.append_nil, lendTs, a1, x1, y1]
  · have a1 : renIT [arH n m v st ty es es'] (T.c (.own n v N)) = some (T.c (.own m v N)) := by simp only [T.c, renIT, renI, inN, hN, Option.bind_some, Option.map_some]
    simp only [renITs, a1, x2, y2]
  · show (match renIB [arH n m v st ty es es'] (.arr v true st ty es) with | some B => (updH H []) m = some B | none => False)
    simp only [renIB, updH]
    exact hH
  · simp only [T.c, renOT, renOP, renO, hN, Option.map_some, verOf, if_true, Blk.ver]
  · simp only [renOBs, renOB, verOf, if_true, Blk.ver]
  · have hq : quiet (.c (.own n v N')) [arH n m v st ty es es'] = false := by simp [quiet]
    simpa [hq, updH] using hk
/-- Names without the first that is this. -/
def er (ns : List ByteArray) (nm : ByteArray) : List ByteArray := match ns.findIdx? fun x => decide (x = nm) with
  | some i => del ns i
  | none => ns
theorem er_at {ns : List ByteArray} {nm : ByteArray} {i : Nat} (h : ix ns nm = i) : er ns nm = del ns i := by
  cases hq : ns.findIdx? fun x => decide (x = nm) with
  | none => simp only [ix, hq] at h; omega
  | some j => simp only [ix, hq] at h; simp only [er, hq]; congr 1; omega
theorem er_no {ns : List ByteArray} {nm : ByteArray} (h : ix ns nm = -1) : er ns nm = ns := by
  cases hq : ns.findIdx? fun x => decide (x = nm) with
  | none => simp only [er, hq]
  | some j => simp only [ix, hq] at h; omega
theorem er_len (ns : List ByteArray) (nm : ByteArray) : (er ns nm).length ≤ ns.length := by
  unfold er
  split
  · simp [del]; omega
  · exact Nat.le_refl _
def stI (p : List ByteArray × List ByteArray) (m : DM) : List ByteArray × List ByteArray :=
  if m.gone then (match p.1.findIdx? fun x => decide (x = m.name) with | some i => (del p.1 i, [zS] ++ p.2) | none => p) else (p.1 ++ [m.name], [])
def runI (ns : List ByteArray) (ms : List DM) : List ByteArray × List ByteArray := ms.foldl stI (ns, [])
abbrev nmI (ns : List ByteArray) (ms : List DM) : List ByteArray := (runI ns ms).1
theorem runI_take (ns : List ByteArray) {ms : List DM} {i : Nat} {m : DM} (h : ms[i]? = some m) : runI ns (ms.take (i + 1)) = stI (runI ns (ms.take i)) m := by
  rw [List.take_add_one, h, runI, List.foldl_append]; rfl
theorem stI_made (p : List ByteArray × List ByteArray) {m : DM} (h : m.gone = false) : stI p m = (p.1 ++ [m.name], []) := by unfold stI; rw [h]; rfl
theorem stI_at (p : List ByteArray × List ByteArray) {m : DM} (h : m.gone = true) {i : Nat} (hi : ix p.1 m.name = i) : stI p m = (del p.1 i, [zS] ++ p.2) := by
  unfold ix at hi
  unfold stI
  rw [h, if_pos rfl]
  split at hi
  · rename_i j hj; rw [hj]; have : j = i := by omega
    rw [this]
  · exact absurd hi (by omega)
theorem stI_no (p : List ByteArray × List ByteArray) {m : DM} (h : m.gone = true) (hi : ix p.1 m.name = -1) : stI p m = p := by
  unfold ix at hi
  unfold stI
  rw [h, if_pos rfl]
  split at hi
  · exact absurd hi (by omega)
  · rename_i hj; rw [hj]
theorem nmI_take (ns : List ByteArray) {ms : List DM} {i : Nat} {m : DM} (h : ms[i]? = some m) : nmI ns (ms.take (i + 1)) = if m.gone then er (nmI ns (ms.take i)) m.name else nmI ns (ms.take i) ++ [m.name] := by
  unfold nmI
  rw [runI_take ns h]
  cases hg : m.gone with
  | false => rw [stI_made _ hg]; rfl
  | true =>
    rcases ix_case (runI ns (ms.take i)).1 m.name with ⟨k, h1, _, _⟩ | ⟨h1, _⟩
    · rw [stI_at _ hg h1, if_pos rfl, er_at h1]
    · rw [stI_no _ hg h1, if_pos rfl, er_no h1]
theorem nmI_len (ns : List ByteArray) (ms : List DM) : ∀ i, i ≤ ms.length → (nmI ns (ms.take i)).length ≤ ns.length + i
  | 0, _ => Nat.le_refl _
  | i + 1, h => by
    obtain ⟨m, hm⟩ : ∃ m, ms[i]? = some m := ⟨_, List.getElem?_eq_getElem h⟩
    have := nmI_len ns ms i (by omega)
    rw [nmI_take ns hm]
    split
    · have h2 := er_len (nmI ns (ms.take i)) m.name; omega
    · rw [List.length_append, List.length_singleton]; omega
theorem en_take2 {α : Type} (f : α → List V) (xs ys : List α) : List.take xs.length (en f (xs ++ ys)) = en f xs := by
  rw [en_app, List.take_append_of_le_length (by rw [en_len]; exact Nat.le_refl _), en_take]
def ok45 := okF.gu (P := Tryz.prog) tab Tryz.func45 Tryz.ntmps45 (by conv => lhs; cbv) (by kernel_rfl)
def inv45 (d : Dk) (n : Nat) (i : Nat) (σ : St) : Prop := σ.t 15 = tL (en eM (d.moves.take n)) ∧ σ.t 16 = .i n ∧ σ.t 17 = .i i ∧ ∃ v, σ.t 5 = .c (.own 5 v (runI d.names (d.moves.take i)).1.length) ∧ σ.H 5 = some (.arr v true 1 9 (en eS ((runI d.names (d.moves.take i)).1 ++ (runI d.names (d.moves.take i)).2)))
theorem namesI_ok (d : Dk) (hd : smallDk d) (n : Nat) (hn : n ≤ d.moves.length) (m : Nat) : ACallsF Tryz.prog 45 [tDk d, .i n] [newH 5 m 1 9 (en eS (nmI d.names (d.moves.take n) ++ (runI d.names (d.moves.take n)).2))] (.c (.own 5 0 (nmI d.names (d.moves.take n)).length)) := by
  have h1 := hd.n
  have h2 := hd.m
  have hl0 : (d.moves.take n).length = n := by rw [List.length_take]; omega
  have g1 : (0 : Int) ≤ n := by omega
  have g2 : (n : Int) ≤ d.moves.length := by omega
  refine ACallsF.intro ok45 follows fun X c0 => ?_
  simp only [go_sem]
  refine callA1 (m := 5) (ws := []) (ns := []) (cloneS_ok d.names (by omega) 5) rfl rfl rfl (en_flat eS eS_flat _) ⟨rfl, ?_⟩
  simp only [go_sem, lohi, g1, g2, Int.le_refl, Int.toNat_zero, List.drop_zero, Nat.sub_zero, en_cut, hl0]
  refine AW.upto n (inv45 d n) ?_ fun i t H c hi h => ?_
  · unfold inv45
    have e0 : runI d.names (d.moves.take 0) = (d.names, []) := rfl
    rw [e0, List.append_nil]
    exact ⟨rfl, rfl, rfl, _, rfl, rfl⟩
  obtain ⟨e15, e16, e17, v, e5, eH⟩ := h
  simp only [T.c, T.i, T.s, tL] at e15 e16 e17 e5 eH
  by_cases hlt : i < n
  · obtain ⟨x, hx⟩ : ∃ x, d.moves[i]? = some x := ⟨_, List.getElem?_eq_getElem (by omega)⟩
    have hx2 : (d.moves.take n)[i]? = some x := by rw [List.getElem?_take, if_pos hlt]; exact hx
    have ex := en_at eM hx2
    have k1 : (i : Int) < n := by omega
    have gz : (0 : Int) ≤ i := by omega
    have gw : IntKind.i64.wrap ((i : Int) + 1) = ((i + 1 : Nat) : Int) := wrap64 (x := (i : Int) + 1) ⟨by omega, by omega⟩
    have hr := runI_take d.names hx
    have hwl := nmI_len d.names d.moves i (by omega)
    unfold nmI at hwl
    generalize hp : runI d.names (d.moves.take i) = p at *
    obtain ⟨ns, rest⟩ := p
    simp only at hwl e5 eH
    have q3 : (ns.length + 1) * 16 ≤ 140737488355328 := by omega
    have q4 : ns.length + 1 ≤ 9223372036854775807 := by omega
    have ht2 := en_take2 eS ns rest
    have hle : ns.length ≤ ns.length + rest.length := by omega
    cases hg : x.gone with
    | false =>
      rw [stI_made _ hg] at hr
      simp only [go_sem, e15, e16, e17, e5, eH, en_len, k1, gz, ex, eM, hg, gw, q3, q4, ht2, hle]
      unfold inv45
      rw [hr, List.append_nil, en_snoc, List.length_append]
      exact ⟨hlt, e15, e16, rfl, _, rfl, rfl⟩
    | true =>
      simp only [go_sem, e15, e16, e17, e5, eH, en_len, k1, gz, ex, eM, hg]
      refine callL (ws := [(5, .arr v false 1 9 (en eS (ns ++ rest)))]) (ns := [5]) (index_ok ns x.name (by omega)) rfl ?_ rfl rfl ⟨?_, ?_⟩
      · simp only [go_sem, lendTs, lendT, e5, eH, ht2, hle]
      · simp only [go_sem, scalarT, scalarP, scalarC]
      rcases ix_case ns x.name with ⟨k, a1, a2, a3⟩ | ⟨a1, a2⟩
      · have hkl := (List.getElem?_eq_some_iff.1 a2).1
        have gk : (0 : Int) ≤ k := by omega
        have gw2 : IntKind.i64.wrap ((k : Int) + 1) = ((k + 1 : Nat) : Int) := wrap64 (x := (k : Int) + 1) ⟨by omega, by omega⟩
        rw [stI_at _ hg a1] at hr
        simp only [go_sem, scalarT, scalarP, scalarC, a1, ge_iff_le, gk, gw2, e5]
        refine callCut (m := 5) (delete_ok ns rest k hkl 5 5 v) rfl rfl eH rfl rfl ⟨?_, ?_⟩
        · simp only [go_sem]
        simp only [go_sem, e17, gw]
        unfold inv45
        rw [hr]
        exact ⟨hlt, e15, e16, rfl, _, rfl, rfl⟩
      · have gk : ¬ (0 : Int) ≤ -1 := by omega
        rw [stI_no _ hg a1] at hr
        simp only [go_sem, scalarT, scalarP, scalarC, a1, ge_iff_le, gk, e17, gw]
        unfold inv45
        rw [hr]
        exact ⟨hlt, e15, e16, rfl, v, e5, eH⟩
  · have k1 : ¬ (i : Int) < n := by omega
    have hi2 : i = n := by omega
    subst hi2
    simp only [go_sem, e15, e16, e17, e5, eH, k1, imp_self]
def ok96 := okF.gu (P := Tryz.prog) tab Tryz.func96 Tryz.ntmps96 (by conv => lhs; cbv) (by kernel_rfl)
end Go.V
set_option linter.unusedSimpArgs false
set_option maxRecDepth 20000
namespace Go.V
open Go.Proofs
/-- As callL, where an argument may be a function. -/
theorem callLf {P : Program} {t : Nat → T} {H : HMap} {c : Nat} {f : Opd} {args : List Opd} {fid : FuncId} {argsC : List T} {ws : List (Nat × Blk)} {ns : List Nat} {r : T} {k : Nat} {d : Option Nat} {un : List Nat} {l : List AOper} {prev : List (Nat × List Nat × List Nat)} {K : St → Prop}
    (hC : ACallsF P fid argsC [] r) (hf : ev t f = .pt (.one (.fn fid []))) (hl : lendTs H argsC (args.map (ev t)) = some (argsC, ws, ns)) (ha : renITs [] argsC = some argsC) (hr : closedT r = true)
    (hk : chk prev un ⟨r, (if scalarT r then [] else ws), ns, (if scalarT r then [] else ns)⟩ = true ∧ DRun P l ((k, ns, if scalarT r then [] else ns) :: prev) K ⟨updD t d r, updH H (if scalarT r then [] else ws), c⟩) :
    step P k d un (.call f args) l prev K t H c := by
  refine callW (caps := []) [] hC hf (by simpa using hl) ha trivial (by simp) (by simp) (closed_T [] r hr _) rfl ?_
  simpa [quiet, closed_flat r hr] using hk
theorem er_wo {ns : List ByteArray} (h : ns.Nodup) (nm : ByteArray) : er ns nm = wo nm ns := by
  have self : ∀ l : List ByteArray, nm ∉ l → wo nm l = l := fun l hl => List.filter_eq_self.2 fun x hx => by
    have : x ≠ nm := fun e => hl (e ▸ hx)
    simpa using this
  rcases ix_case ns nm with ⟨i, h1, h2, h3⟩ | ⟨h1, h2⟩
  · rw [er_at h1]
    have hil := (List.getElem?_eq_some_iff.1 h2).1
    have hie := (List.getElem?_eq_some_iff.1 h2).2
    have hsp : ns = ns.take i ++ nm :: ns.drop (i + 1) := by
      have := List.take_append_drop i ns
      rw [List.drop_eq_getElem_cons hil, hie] at this
      exact this.symm
    have hn2 := h
    rw [hsp, List.nodup_append] at hn2
    have hb : nm ∉ ns.take i := fun hm => hn2.2.2 nm hm nm (by simp) rfl
    have hc : nm ∉ ns.drop (i + 1) := (List.nodup_cons.1 hn2.2.1).1
    have e : wo nm ns = wo nm (ns.take i) ++ wo nm (nm :: ns.drop (i + 1)) := by
      conv => lhs; rw [hsp]
      exact List.filter_append _ _
    have e2 : wo nm (nm :: ns.drop (i + 1)) = wo nm (ns.drop (i + 1)) := by simp [wo]
    rw [e, e2, self _ hb, self _ hc, del]
  · rw [er_no h1, self _ h2]
theorem nmI_aft {ns : List ByteArray} {ms : List DM} (h : (ns ++ mades ms).Nodup) : ∀ i, i ≤ ms.length → nmI ns (ms.take i) = aft ns (ms.take i) ∧ (aft ns (ms.take i) ++ mades (ms.drop i)).Nodup
  | 0, _ => ⟨rfl, h⟩
  | i + 1, hi => by
    obtain ⟨m, hm⟩ : ∃ m, ms[i]? = some m := ⟨_, List.getElem?_eq_getElem hi⟩
    obtain ⟨h1, h2⟩ := nmI_aft h i (by omega)
    have hd : ms.drop i = m :: ms.drop (i + 1) := by rw [List.drop_eq_getElem_cons hi, (List.getElem?_eq_some_iff.1 hm).2]
    rw [nmI_take ns hm, aft_take ns hm, h1]
    rw [hd] at h2
    cases hg : m.gone with
    | true =>
      have e : mades (m :: ms.drop (i + 1)) = mades (ms.drop (i + 1)) := by simp [mades, hg]
      rw [e] at h2
      rw [if_pos rfl, if_pos rfl]
      refine ⟨er_wo (List.nodup_append.1 h2).1 _, ?_⟩
      exact h2.sublist (List.Sublist.append List.filter_sublist (List.Sublist.refl _))
    | false =>
      have e : mades (m :: ms.drop (i + 1)) = m.name :: mades (ms.drop (i + 1)) := by simp [mades, hg]
      rw [e] at h2
      rw [if_neg (by simp), if_neg (by simp)]
      exact ⟨rfl, by simpa using h2⟩
theorem fnd_le {fs : List DF} {i : Nat} {f : DF} (h : fs[i]? = some f) : 0 ≤ fnd fs f.name ∧ fnd fs f.name ≤ i := by
  unfold fnd
  split
  · rename_i j hj
    rw [List.findIdx?_eq_some_iff_getElem] at hj
    obtain ⟨a1, a2, a3⟩ := hj
    refine ⟨by omega, ?_⟩
    rcases Nat.lt_or_ge i j with hlt | hge
    · have hie := (List.getElem?_eq_some_iff.1 h).2
      have := a3 i hlt
      rw [hie] at this
      simp at this
    · omega
  · rename_i hj
    rw [List.findIdx?_eq_none_iff] at hj
    have := hj f (List.mem_of_getElem? h)
    simp at this
theorem made_nodup {d : Dk} (hl : (made d).length = d.files.length) (h : ∀ (i : Nat) (f : DF), d.files[i]? = some f → (made d)[i]? = some f.name ∧ fnd d.files f.name = i) : (made d).Nodup := by
  rw [List.Nodup, List.pairwise_iff_getElem]
  intro i j hi hj hij e
  obtain ⟨f, hf⟩ : ∃ f, d.files[i]? = some f := ⟨_, List.getElem?_eq_getElem (by omega)⟩
  obtain ⟨g, hg⟩ : ∃ g, d.files[j]? = some g := ⟨_, List.getElem?_eq_getElem (by omega)⟩
  have a := h i f hf
  have b := h j g hg
  have a1 := a.1
  have b1 := b.1
  rw [List.getElem?_eq_getElem hi] at a1
  rw [List.getElem?_eq_getElem hj] at b1
  have e' : f.name = g.name := by rw [← Option.some.inj a1, ← Option.some.inj b1]; exact e
  have := a.2
  rw [e', b.2] at this
  omega
theorem DOk.nmI {d : Dk} (h : DOk d) (i : Nat) (hi : i ≤ d.moves.length) : nmI d.names (d.moves.take i) = aft d.names (d.moves.take i) :=
  (nmI_aft (made_nodup h.l fun i f hf => ⟨(h.files i f hf).made, (h.files i f hf).one⟩) i hi).1
def ok21 := okF.gu (P := Tryz.prog) tab Tryz.func21 Tryz.ntmps21 (by conv => lhs; cbv) (by kernel_rfl)
def inv21 (d : Dk) (u : Nat) (i : Nat) (σ : St) : Prop := (∀ (j : Nat) (m : DM), j < i → d.moves[j]? = some m → m.gone = true → m.name ∈ Go.V.nmI d.names (d.moves.take j)) ∧ (σ.t 1 = .c (.ptr 1 u 0) ∧ σ.H 1 = some (.var u 35 [.v (.sl (en eF d.files)), .v (.sl (en eS d.names)), .v (.sl (en eM d.moves))])) ∧ (∃ v, σ.t 3 = .c (.own 1005 v (d.names ++ mades (d.moves.take i)).length) ∧ σ.H 1005 = some (.arr v true 1 9 (en eS (d.names ++ mades (d.moves.take i))))) ∧
  σ.t 22 = tL (en eM d.moves) ∧ σ.t 23 = .i d.moves.length ∧ σ.t 24 = .i i
def inv21b (d : Dk) (u v : Nat) (i : Nat) (σ : St) : Prop := (∀ (j : Nat) (f : DF), j < i → d.files[j]? = some f → nameOk f.name = true ∧ f.data.size ≤ 20000 ∧ 0 ≤ f.kept ∧ f.kept ≤ f.data.size ∧ fnd d.files f.name = j) ∧ (σ.t 1 = .c (.ptr 1 u 0) ∧ σ.H 1 = some (.var u 35 [.v (.sl (en eF d.files)), .v (.sl (en eS d.names)), .v (.sl (en eM d.moves))])) ∧ (σ.t 3 = .c (.own 1005 v (made d).length) ∧ σ.H 1005 = some (.arr v true 1 9 (en eS (made d)))) ∧
  σ.t 46 = tL (en eF d.files) ∧ σ.t 47 = .i d.files.length ∧ σ.t 48 = .i i
set_option maxHeartbeats 1000000 in
theorem okI_ok (d : Dk) (hd : fineDk d) : ∃ b : Bool, (b = true ↔ DOk d) ∧ ACallsF Tryz.prog 21 [tDk d] [] (.b b) := by
  obtain ⟨b, hb⟩ : ∃ b : Bool, b = true ↔ DOk d := by
    by_cases h : DOk d
    · exact ⟨true, fun _ => h, fun _ => rfl⟩
    · exact ⟨false, fun e => (by cases e), fun e => absurd e h⟩
  refine ⟨b, hb, ?_⟩
  have no : ¬ DOk d → b = false := fun h => by cases hq : b with | false => rfl | true => exact absurd (hb.1 hq) h
  have s1 := hd.s.f
  have s2 := hd.s.n
  have s3 := hd.s.m
  refine ACallsF.intro ok21 follows fun X c0 => ?_
  by_cases hf : (d.files.length : Int) > 64
  · have hbf := no fun h => by have := h.f; omega
    simp only [go_sem, hf, hbf]
  by_cases hm : (d.moves.length : Int) > 128
  · have hbf := no fun h => by have := h.m; omega
    simp only [go_sem, hf, hm, hbf]
  simp only [go_sem, hf, hm]
  refine callA1 (m := 1005) (ws := []) (ns := []) (cloneS_ok d.names (by omega) 1005) rfl rfl rfl (en_flat eS eS_flat _) ⟨rfl, ?_⟩
  simp only [go_sem]
  refine AW.upto d.moves.length (inv21 d (c0 + 0)) ?_ fun i t H c hi h => ?_
  · unfold inv21
    have e0 : d.names ++ mades (d.moves.take 0) = d.names := by simp [mades]
    rw [e0]
    exact ⟨fun j f hj => absurd hj (Nat.not_lt_zero j), ⟨rfl, rfl⟩, ⟨_, rfl, rfl⟩, rfl, rfl, rfl⟩
  obtain ⟨g, ⟨e1, eH1⟩, ⟨v, e3, eH⟩, e22, e23, e24⟩ := h
  simp only [T.c, T.i, T.s, tL] at e1 eH1 e3 eH e22 e23 e24
  by_cases hlt : i < d.moves.length
  · obtain ⟨x, hx⟩ : ∃ x, d.moves[i]? = some x := ⟨_, List.getElem?_eq_getElem hlt⟩
    have ex := en_at eM hx
    have k1 : (i : Int) < d.moves.length := by omega
    have gz : (0 : Int) ≤ i := by omega
    have gw : IntKind.i64.wrap ((i : Int) + 1) = ((i + 1 : Nat) : Int) := wrap64 (x := (i : Int) + 1) ⟨by omega, by omega⟩
    have hwl := mades_len (d.moves.take i)
    rw [List.length_take] at hwl
    have hnext : (x.gone = true → x.name ∈ Go.V.nmI d.names (d.moves.take i)) → ∀ (j : Nat) (m : DM), j < i + 1 → d.moves[j]? = some m → m.gone = true → m.name ∈ Go.V.nmI d.names (d.moves.take j) := fun hh j m hj hm hgm => by
      rcases Nat.lt_succ_iff_lt_or_eq.1 hj with hj | rfl
      · exact g j m hj hm hgm
      · rw [hx] at hm; cases hm; exact hh hgm
    cases hg : x.gone with
    | false =>
      have ht2 : d.names ++ mades (d.moves.take (i + 1)) = d.names ++ mades (d.moves.take i) ++ [x.name] := by rw [mades_take hx, hg, if_neg (by simp), List.append_assoc]
      have hl : (d.names ++ mades (d.moves.take i)).length ≤ 3000000 := by rw [List.length_append]; omega
      generalize hq : d.names ++ mades (d.moves.take i) = q at *
      have q3 : (q.length + 1) * 16 ≤ 140737488355328 := by omega
      have q4 : q.length + 1 ≤ 9223372036854775807 := by omega
      simp only [go_sem, e22, e23, e24, e3, eH, en_len, k1, gz, ex, eM, hg, gw, q3, q4]
      unfold inv21
      rw [ht2, en_snoc, List.length_append]
      exact ⟨hlt, hnext fun h => (by rw [hg] at h; cases h), ⟨e1, eH1⟩, ⟨_, rfl, rfl⟩, e22, e23, rfl⟩
    | true =>
      have ht2 : mades (d.moves.take (i + 1)) = mades (d.moves.take i) := by rw [mades_take hx, hg, if_pos rfl]
      have hnl := nmI_len d.names d.moves i (by omega)
      have hle : (Go.V.nmI d.names (d.moves.take i)).length ≤ (Go.V.nmI d.names (d.moves.take i)).length + (runI d.names (d.moves.take i)).2.length := by omega
      simp only [go_sem, e1, eH1, e22, e23, e24, en_len, k1, gz, ex, eM, hg]
      refine callA1 (m := 1006) (ws := []) (ns := []) (namesI_ok d hd.s i (by omega) 1006) rfl rfl rfl (en_flat eS eS_flat _) ⟨?_, ?_⟩
      · simp only [go_sem]
      simp only [go_sem]
      refine callL (ws := [(1006, .arr (c + 1 + 6 + 3 + 2) false 1 9 (en eS (Go.V.nmI d.names (d.moves.take i) ++ (runI d.names (d.moves.take i)).2)))]) (ns := [1006]) (contains_ok (Go.V.nmI d.names (d.moves.take i)) x.name (by omega)) rfl ?_ rfl rfl ⟨?_, ?_⟩
      · simp only [go_sem, lendTs, lendT, en_take2, hle]
      · simp only [go_sem, scalarT, scalarP, scalarC]
      cases hh : has (Go.V.nmI d.names (d.moves.take i)) x.name with
      | true =>
        simp only [go_sem, scalarT, scalarP, scalarC, e24, gw]
        unfold inv21
        rw [ht2]
        exact ⟨hlt, hnext fun _ => has_true.1 hh, ⟨e1, eH1⟩, ⟨v, e3, eH⟩, e22, e23, rfl⟩
      | false =>
        have hbf := no fun hD => has_false.1 hh (by rw [hD.nmI i (by omega)]; exact hD.moves i x hx hg)
        simp only [go_sem, scalarT, scalarP, scalarC, hbf]
  · have k1 : ¬ (i : Int) < d.moves.length := by omega
    have hi2 : i = d.moves.length := by omega
    subst hi2
    rw [List.take_length] at e3 eH
    have hmade : d.names ++ mades d.moves = made d := rfl
    rw [hmade] at e3 eH
    simp only [go_sem, e1, eH1, e23, e24, en_len, k1]
    refine AW.upto d.files.length (inv21b d (c0 + 0) v) ⟨fun j f hj => absurd hj (Nat.not_lt_zero j), ⟨e1, eH1⟩, ⟨e3, eH⟩, rfl, rfl, rfl⟩ fun i t H c hi h => ?_
    clear e1 eH1 e3 eH e22 e23 e24
    obtain ⟨g2, ⟨e1, eH1⟩, ⟨e3, eH⟩, e46, e47, e48⟩ := h
    simp only [T.c, T.i, T.s, tL] at e1 eH1 e3 eH e46 e47 e48
    by_cases hlt : i < d.files.length
    · obtain ⟨f, hx⟩ : ∃ f, d.files[i]? = some f := ⟨_, List.getElem?_eq_getElem hlt⟩
      have ex := en_at eF hx
      have hfm := hd.f f (List.mem_of_getElem? hx)
      have k1 : (i : Int) < d.files.length := by omega
      have gz : (0 : Int) ≤ i := by omega
      have gw : IntKind.i64.wrap ((i : Int) + 1) = ((i + 1 : Nat) : Int) := wrap64 (x := (i : Int) + 1) ⟨by omega, by omega⟩
      have bad : ¬ FOk d i f → b = false := fun h => no fun hD => h (hD.files i f hx)
      obtain ⟨f0, f1⟩ := fnd_le hx
      simp only [go_sem, e46, e47, e48, en_len, k1, gz, ex, eF]
      refine callC (isName_ok f.name (by omega)) rfl rfl rfl rfl ?_
      cases p1 : nameOk f.name with
      | false =>
        have hbf := bad fun h => by have := h.name; rw [p1] at this; cases this
        simp only [go_sem, hbf]
      | true =>
        simp only [go_sem, e1, eH1]
        refine callC (fileAt_ok d f.name (by omega)) rfl rfl rfl rfl ?_
        by_cases p2 : fnd d.files f.name < i
        · have hbf := bad fun h => by have := h.one; omega
          simp only [go_sem, e48, p2, hbf]
        by_cases p3 : (f.data.size : Int) > 20000
        · have hbf := bad fun h => by have := h.data; omega
          simp only [go_sem, e48, p2, p3, hbf]
        simp only [go_sem, e48, p2, p3]
        refine callC (inRange_ok _ _ _) rfl rfl rfl rfl ?_
        by_cases p4 : (0 : Int) ≤ f.kept
        rotate_left
        · have hbf := bad fun h => p4 h.lo
          simp only [go_sem, p4, hbf]
        by_cases p5 : f.kept ≤ (f.data.size : Int)
        rotate_left
        · have hbf := bad fun h => p5 h.hi
          simp only [go_sem, p4, p5, hbf]
        simp only [go_sem, p4, p5, e48, gw]
        exact ⟨hlt, fun j f' hj hf' => (by rcases Nat.lt_succ_iff_lt_or_eq.1 hj with hj | rfl; exact g2 j f' hj hf'; rw [hx] at hf'; cases hf'; exact ⟨p1, by omega, p4, p5, by omega⟩), ⟨e1, eH1⟩, ⟨e3, eH⟩, e46, e47, rfl⟩
    · have k2 : ¬ (i : Int) < d.files.length := by omega
      obtain ⟨b', hb', hC'⟩ := equalF_ok d.files (made d) (by omega)
      have hbb : b' = b := by
        have hiff : b' = true ↔ b = true := by
          rw [hb', hb]
          constructor
          · rintro ⟨l1, l2⟩
            have gg : ∀ (j : Nat) (f : DF), d.files[j]? = some f → nameOk f.name = true ∧ f.data.size ≤ 20000 ∧ 0 ≤ f.kept ∧ f.kept ≤ f.data.size ∧ fnd d.files f.name = j := fun j f hf => g2 j f (by have := (List.getElem?_eq_some_iff.1 hf).1; omega) hf
            have hnd := made_nodup l1 fun j f hf => ⟨l2 j f hf, (gg j f hf).2.2.2.2⟩
            have hlen : (made d).length = d.names.length + (mades d.moves).length := List.length_append
            refine ⟨by omega, by omega, by omega, l1, fun j f hf => ?_, fun j m hm hgm => ?_⟩
            · obtain ⟨a1, a2, a3, a4, a5⟩ := gg j f hf
              exact ⟨a1, l2 j f hf, a2, a3, a4, a5⟩
            · have hjl := (List.getElem?_eq_some_iff.1 hm).1
              rw [← (nmI_aft hnd j (by omega)).1]
              exact g j m hjl hm hgm
          · intro hD
            exact ⟨hD.l, fun j f hf => (hD.files j f hf).made⟩
        cases b' <;> cases b <;> simp_all
      subst hbb
      simp only [go_sem, e1, eH1, e3, eH, e47, e48, k2]
      refine callLf (ws := [(1005, .arr v false 1 9 (en eS (made d)))]) (ns := [1005]) hC' rfl ?_ rfl rfl ⟨?_, ?_⟩
      · simp only [go_sem, lendTs, lendT, e3, eH]
      · simp only [go_sem, scalarT, scalarP, scalarC]
      simp only [go_sem, scalarT, scalarP, scalarC]
end Go.V
set_option linter.unusedSimpArgs false
namespace Go.V
open Go.Proofs
section
variable {P : Program} {t : Nat → T} {H : HMap} {c : Nat} {f : Opd} {args : List Opd} {fid : FuncId} {al : List T} {m0 m1 m2 m3 m4 m5 u v1 v2 v3 : Nat} {dk dk' : Dk} {F : List DF} {N rest : List ByteArray} {r : T} {k : Nat} {d : Option Nat} {un : List Nat} {l : List AOper} {prev : List (Nat × List Nat × List Nat)} {K : St → Prop}
end
end Go.V
set_option linter.unusedSimpArgs false
namespace Go.V
open Go.Proofs
/-- A disk's arrays, lent. -/
abbrev dkL (c1 v1 c2 v2 c3 v3 : Nat) (d : Dk) : List (Nat × Blk) := [(c1, .arr v1 false 3 89 (en eF d.files)), (c2, .arr v2 false 1 9 (en eS d.names)), (c3, .arr v3 false 2 91 (en eM d.moves))]
end Go.V
set_option linter.unusedSimpArgs false
namespace Go.V
open Go.Proofs
end Go.V
set_option linter.unusedSimpArgs false
namespace Go.V
open Go.Proofs
end Go.V
set_option linter.unusedSimpArgs false
namespace Go.V
open Go.Proofs
section
variable {P : Program} {t : Nat → T} {H : HMap} {c : Nat} {f : Opd} {args : List Opd} {fid : FuncId} {argsC : List T} {ws : List (Nat × Blk)} {ns : List Nat} {k : Nat} {d : Option Nat} {un : List Nat} {l : List AOper} {prev : List (Nat × List Nat × List Nat)} {K : St → Prop}
/-- A call that marks a disk of the caller's. -/
theorem callMk {m1 m2 m3 v1 v2 v3 : Nat} {dk dk' : Dk} {x r : T} (hC : ACallsF P fid [.pt (oDk 2001 v1 2002 v2 2003 v3 dk), x] (dkM m1 m2 m3 v1 v2 v3 dk dk') r) (hf : ev t f = .pt (.one (.fn fid []))) (hl : args.map (ev t) = [.pt (oDk m1 v1 m2 v2 m3 v3 dk), x]) (hx : closedA x = true) (hr : closedT r = true)
    (hm : m1 ≠ m2 ∧ m1 ≠ m3 ∧ m2 ≠ m3) (h1 : H m1 = some (.arr v1 true 3 89 (en eF dk.files))) (h2 : H m2 = some (.arr v2 true 1 9 (en eS dk.names))) (h3 : H m3 = some (.arr v3 true 2 91 (en eM dk.moves)))
    (hk : chk prev un ⟨r, [(m1, .arr v1 true 3 89 (en eF dk'.files)), (m2, .arr v2 true 1 9 (en eS dk'.names)), (m3, .arr v3 true 2 91 (en eM dk'.moves))], [m1, m2, m3], [m1, m2, m3]⟩ = true ∧
      DRun P l ((k, [m1, m2, m3], [m1, m2, m3]) :: prev) K ⟨updD t d r, upd (upd (upd H m1 (some (.arr v1 true 3 89 (en eF dk'.files)))) m2 (some (.arr v2 true 1 9 (en eS dk'.names)))) m3 (some (.arr v3 true 2 91 (en eM dk'.moves))), c⟩) :
    step P k d un (.call f args) l prev K t H c := by
  generalize hhs : dkM m1 m2 m3 v1 v2 v3 dk dk' = hs at hC
  have R1 : renN hs 2001 = some (arH 2001 m1 v1 3 89 (en eF dk.files) (en eF dk'.files)) := by rw [← hhs]; rfl
  have R2 : renN hs 2002 = some (arH 2002 m2 v2 1 9 (en eS dk.names) (en eS dk'.names)) := by rw [← hhs]; rfl
  have R3 : renN hs 2003 = some (arH 2003 m3 v3 2 91 (en eM dk.moves) (en eM dk'.moves)) := by rw [← hhs]; rfl
  have I1 : inN hs 2001 = some m1 := by simp [inN, R1]
  have I2 : inN hs 2002 = some m2 := by simp [inN, R2]
  have I3 : inN hs 2003 = some m3 := by simp [inN, R3]
  obtain ⟨x1, x2⟩ := closed_A hs H x hx
  obtain ⟨g1, g2, g3⟩ := hm
  refine callW (caps := []) («as» := [.pt (oDk m1 v1 m2 v2 m3 v3 dk), x]) (ws := []) (ns := []) (r' := r) (ob := [(m1, .arr v1 true 3 89 (en eF dk'.files)), (m2, .arr v2 true 1 9 (en eS dk'.names)), (m3, .arr v3 true 2 91 (en eM dk'.moves))]) hs hC hf ?_ ?_ ?_ (by rw [← hhs]; simp [g1, g2, g3]) (by rw [← hhs]; simp) (closed_T _ r hr _) ?_ ?_
  · have a1 : lendT H (.pt (oDk 2001 v1 2002 v2 2003 v3 dk)) (.pt (oDk m1 v1 m2 v2 m3 v3 dk)) = some (.pt (oDk m1 v1 m2 v2 m3 v3 dk), [], []) := rfl
    rw [hl]
    simp only [List.map_nil, List.append_nil, lendTs, a1, x1]
  · have a1 : renIT hs (.pt (oDk 2001 v1 2002 v2 2003 v3 dk)) = some (.pt (oDk m1 v1 m2 v2 m3 v3 dk)) := by simp only [renIT, renIs, renI, I1, I2, I3, Option.map_some]
    simp only [renITs, a1, x2]
  · have B1 : ∀ v wr st ty es, renIB hs (.arr v wr st ty es) = some (.arr v wr st ty es) := fun _ _ _ _ _ => rfl
    have key : handsIn (updH H []) hs (dkM m1 m2 m3 v1 v2 v3 dk dk') := by
      simp only [handsIn, B1, updH, h1, h2, h3, and_self]
    rw [hhs] at key
    exact key
  · have key : renOBs hs (c + k) (dkM m1 m2 m3 v1 v2 v3 dk dk') = some [(m1, .arr v1 true 3 89 (en eF dk'.files)), (m2, .arr v2 true 1 9 (en eS dk'.names)), (m3, .arr v3 true 2 91 (en eM dk'.moves))] := by
      simp only [renOBs, renOB, verOf, if_true, Blk.ver]
    rw [hhs] at key
    exact key
  · have hq : quiet r hs = false := by rw [← hhs]; simp [quiet]
    have hms : hs.map (·.m) = [m1, m2, m3] := by rw [← hhs]; rfl
    rw [hq, hms]
    simpa [updH] using hk
end
theorem lendDk {H : HMap} {m1 m2 m3 v1 v2 v3 n1 n2 n3 : Nat} {w1 w2 w3 : Bool} {d : Dk} (h1 : H m1 = some (.arr v1 w1 3 89 (en eF d.files))) (h2 : H m2 = some (.arr v2 w2 1 9 (en eS d.names))) (h3 : H m3 = some (.arr v3 w3 2 91 (en eM d.moves))) (e1 : n1 = d.files.length) (e2 : n2 = d.names.length) (e3 : n3 = d.moves.length) :
    lendT H (tDk d) (.pt (.agg [.own m1 v1 n1, .own m2 v2 n2, .own m3 v3 n3])) = some (tDk d, dkL m1 v1 m2 v2 m3 v3 d, [m1, m2, m3]) := by
  subst e1 e2 e3
  simp only [lendT, lendCs, lendC, sealC, h1, h2, h3, en_len, en_take, Nat.le_refl, and_self, if_true, Option.map_some, List.cons_append, List.nil_append]
theorem lend2 {H : HMap} {m1 m2 m3 v1 v2 v3 l1 l2 l3 u1 u2 u3 : Nat} {w1 w2 w3 x1 x2 x3 : Bool} {d d' : Dk} (h1 : H m1 = some (.arr v1 w1 3 89 (en eF d.files))) (h2 : H m2 = some (.arr v2 w2 1 9 (en eS d.names))) (h3 : H m3 = some (.arr v3 w3 2 91 (en eM d.moves)))
    (g1 : H l1 = some (.arr u1 x1 3 89 (en eF d'.files))) (g2 : H l2 = some (.arr u2 x2 1 9 (en eS d'.names))) (g3 : H l3 = some (.arr u3 x3 2 91 (en eM d'.moves))) :
    lendTs H [tDk d, tDk d'] [.pt (oDk m1 v1 m2 v2 m3 v3 d), .pt (oDk l1 u1 l2 u2 l3 u3 d')] = some ([tDk d, tDk d'], dkL m1 v1 m2 v2 m3 v3 d ++ dkL l1 u1 l2 u2 l3 u3 d', [m1, m2, m3, l1, l2, l3]) := by
  simp only [lendTs, lendDk h1 h2 h3 rfl rfl rfl, lendDk g1 g2 g3 rfl rfl rfl, List.append_nil, List.cons_append, List.nil_append]
/-- A disk as an argument may be. -/
structure argDk (d : Dk) : Prop where
  f : d.files.length ≤ 9223372036854775807 ∧ ∀ x ∈ d.files, okDF x
  n : d.names.length ≤ 9223372036854775807 ∧ ∀ x ∈ d.names, okS x
  m : d.moves.length ≤ 9223372036854775807 ∧ ∀ x ∈ d.moves, okDM x
theorem fine_of {d : Dk} (h : ((d.files.length + wsum wF d.files + (d.names.length + wsum wS d.names) + (d.moves.length + wsum wM d.moves) : Nat) : Int) ≤ 1048576) : fineDk d := by
  refine ⟨⟨by omega, by omega, by omega⟩, fun f hf => ?_, fun x hx => ?_, fun m hm => ?_⟩
  · have := wsum_mem wF hf
    have e : wF f = f.name.size + f.data.size := rfl
    omega
  · have := wsum_mem wS hx
    have e : wS x = x.size := rfl
    omega
  · have := wsum_mem wM hm
    have e : wM m = m.name.size := rfl
    omega
end Go.V
set_option linter.unusedSimpArgs false
set_option maxRecDepth 20000
namespace Go.V
open Go.Proofs
theorem encS_snoc (ss : List ByteArray) (s : ByteArray) : encS (ss ++ [s]) = encS ss ++ [[.s (.string s)]] := by simp [encS]
theorem take_encS (ss : List ByteArray) : (encS ss).take ss.length = encS ss := by rw [← encS_len ss, List.take_length]
/-- Ascending names. -/
def RiseP (ss : List ByteArray) : Prop := ∀ i s, ss[i]? = some s → nameOk s = true ∧ ∀ s', 0 < i → ss[i - 1]? = some s' → Op.bytesLess s'.toList s.toList = true
noncomputable def rise (ss : List ByteArray) : Bool := @decide (RiseP ss) (Classical.propDecidable _)
theorem rise_true {ss : List ByteArray} : rise ss = true ↔ RiseP ss := by simp [rise]
theorem rise_false {ss : List ByteArray} : rise ss = false ↔ ¬ RiseP ss := by simp [rise]
def ok155 := okF.gu (P := Tryz.prog) tab Tryz.func155 Tryz.ntmps155 (by conv => lhs; cbv) (by kernel_rfl)
def inv155 (ss : List ByteArray) (i : Nat) (σ : St) : Prop := (∀ j s, j < i → ss[j]? = some s → nameOk s = true ∧ ∀ s', 0 < j → ss[j - 1]? = some s' → Op.bytesLess s'.toList s.toList = true) ∧ σ.t 0 = .c (.v (.sl (encS ss))) ∧ σ.t 3 = .i i
theorem rise_ok (ss : List ByteArray) (hl : ss.length ≤ 4611686018427387904) (hs : ∀ s ∈ ss, s.size ≤ 4611686018427387904) : ACallsF Tryz.prog 155 [.c (.v (.sl (encS ss)))] [] (.b (rise ss)) := by
  refine ACallsF.intro ok155 follows fun X c0 => ?_
  simp only [go_sem]
  refine AW.upto ss.length (inv155 ss) ⟨fun j _ hj => absurd hj (Nat.not_lt_zero j), rfl, rfl⟩ fun i t H c hi h => ?_
  obtain ⟨g0, e0, e3⟩ := h
  simp only [T.c, T.i, T.s] at e0 e3
  by_cases hlt : i < ss.length
  · have g1 : (i : Int) < ss.length := by omega
    have gz : (0 : Int) ≤ i := by omega
    have gw : IntKind.i64.wrap ((i : Int) + 1) = ((i + 1 : Nat) : Int) := wrap64 (x := (i : Int) + 1) ⟨by omega, by omega⟩
    obtain ⟨s, hs1⟩ : ∃ s, ss[i]? = some s := ⟨_, List.getElem?_eq_getElem hlt⟩
    have es := encS_at hs1
    have hC := nameOk_ok s (hs s (List.mem_of_getElem? hs1))
    have key : nameOk s = true → (∀ s', 0 < i → ss[i - 1]? = some s' → Op.bytesLess s'.toList s.toList = true) → ∀ j s, j < i + 1 → ss[j]? = some s → nameOk s = true ∧ ∀ s', 0 < j → ss[j - 1]? = some s' → Op.bytesLess s'.toList s.toList = true := by
      intro k1 k2 j s2 hj hj2
      rcases Nat.lt_succ_iff_lt_or_eq.1 hj with hj | rfl
      · exact g0 j s2 hj hj2
      · rw [hs1] at hj2; cases hj2; exact ⟨k1, k2⟩
    simp only [go_sem, e0, e3, g1, gz, encS_len, es, Int.toNat_natCast]
    refine callC hC rfl rfl rfl rfl ?_
    cases hn : nameOk s with
    | false =>
      have hm : rise ss = false := rise_false.2 fun h => by rw [(h i s hs1).1] at hn; cases hn
      simp only [go_sem, hm]
    | true =>
      by_cases hi0 : i = 0
      · have k1 : ¬ (i : Int) > 0 := by omega
        simp only [go_sem, e0, e3, k1, gw]
        exact ⟨hlt, key hn (fun s' h => by omega), e0, rfl⟩
      · have k1 : (i : Int) > 0 := by omega
        have k2 : IntKind.i64.wrap ((i : Int) - 1) = ((i - 1 : Nat) : Int) := (wrap64 (x := (i : Int) - 1) ⟨by omega, by omega⟩).trans (by omega)
        have k3 : (0 : Int) ≤ ((i - 1 : Nat) : Int) := by omega
        obtain ⟨s', hs2⟩ : ∃ s, ss[i - 1]? = some s := ⟨_, List.getElem?_eq_getElem (by omega)⟩
        have es2 := encS_at hs2
        cases hb : Op.bytesLess s'.toList s.toList with
        | false =>
          have hm : rise ss = false := rise_false.2 fun h => by rw [(h i s hs1).2 s' (by omega) hs2] at hb; cases hb
          simp only [go_sem, e0, e3, k1, k2, k3, es, es2, gz, Int.toNat_natCast, sStr, hb, hm]
        | true =>
          simp only [go_sem, e0, e3, k1, k2, k3, es, es2, gz, Int.toNat_natCast, sStr, hb, gw]
          exact ⟨hlt, key hn (fun s2 _ h2 => by rw [hs2] at h2; cases h2; exact hb), e0, rfl⟩
  · have g1 : ¬ (i : Int) < ss.length := by omega
    have hm : rise ss = true := rise_true.2 fun j s hj => g0 j s (by have := (List.getElem?_eq_some_iff.1 hj).1; omega) hj
    simp only [go_sem, e0, e3, g1, encS_len, hm]
def ok192 := okF.gu (P := Tryz.prog) tab Tryz.func192 Tryz.ntmps192 (by conv => lhs; cbv) (by kernel_rfl)
def inv192 (ss : List ByteArray) (i : Nat) (σ : St) : Prop := (∀ j s, j < i → ss[j]? = some s → nameOk s = true ∧ ∀ s', 0 < j → ss[j - 1]? = some s' → Op.bytesLess s'.toList s.toList = true) ∧ σ.t 0 = .c (.v (.sl (encS ss))) ∧ σ.t 5 = .c (.v (.sl (encS ss))) ∧ σ.t 6 = .i ss.length ∧ σ.t 7 = .i i
theorem areNames_ok (ss : List ByteArray) (hl : ss.length ≤ 4611686018427387904) (hs : ∀ s ∈ ss, s.size ≤ 4611686018427387904) : ACallsF Tryz.prog 192 [.c (.v (.sl (encS ss)))] [] (.b (rise ss)) := by
  refine ACallsF.intro ok192 follows fun X c0 => ?_
  simp only [go_sem, encS_len]
  refine AW.upto ss.length (inv192 ss) ⟨fun j _ hj => absurd hj (Nat.not_lt_zero j), rfl, rfl, rfl, rfl⟩ fun i t H c hi h => ?_
  obtain ⟨g0, e0, e5, e6, e7⟩ := h
  simp only [T.c, T.i, T.s] at e0 e5 e6 e7
  by_cases hlt : i < ss.length
  · have g1 : (i : Int) < ss.length := by omega
    have gz : (0 : Int) ≤ i := by omega
    have gw : IntKind.i64.wrap ((i : Int) + 1) = ((i + 1 : Nat) : Int) := wrap64 (x := (i : Int) + 1) ⟨by omega, by omega⟩
    obtain ⟨s, hs1⟩ : ∃ s, ss[i]? = some s := ⟨_, List.getElem?_eq_getElem hlt⟩
    have es := encS_at hs1
    have hC := isName_ok s (hs s (List.mem_of_getElem? hs1))
    have key : nameOk s = true → (∀ s', 0 < i → ss[i - 1]? = some s' → Op.bytesLess s'.toList s.toList = true) → ∀ j s, j < i + 1 → ss[j]? = some s → nameOk s = true ∧ ∀ s', 0 < j → ss[j - 1]? = some s' → Op.bytesLess s'.toList s.toList = true := by
      intro k1 k2 j s2 hj hj2
      rcases Nat.lt_succ_iff_lt_or_eq.1 hj with hj | rfl
      · exact g0 j s2 hj hj2
      · rw [hs1] at hj2; cases hj2; exact ⟨k1, k2⟩
    simp only [go_sem, e0, e5, e6, e7, g1, gz, encS_len, es, Int.toNat_natCast]
    refine callC hC rfl rfl rfl rfl ?_
    cases hn : nameOk s with
    | false =>
      have hm : rise ss = false := rise_false.2 fun h => by rw [(h i s hs1).1] at hn; cases hn
      simp only [go_sem, hm]
    | true =>
      by_cases hi0 : i = 0
      · have k1 : ¬ (i : Int) > 0 := by omega
        simp only [go_sem, e0, e5, e6, e7, k1, gw]
        exact ⟨hlt, key hn (fun s' h => by omega), e0, e5, e6, rfl⟩
      · have k1 : (i : Int) > 0 := by omega
        have k2 : IntKind.i64.wrap ((i : Int) - 1) = ((i - 1 : Nat) : Int) := (wrap64 (x := (i : Int) - 1) ⟨by omega, by omega⟩).trans (by omega)
        have k3 : (0 : Int) ≤ ((i - 1 : Nat) : Int) := by omega
        obtain ⟨s', hs2⟩ : ∃ s, ss[i - 1]? = some s := ⟨_, List.getElem?_eq_getElem (by omega)⟩
        have es2 := encS_at hs2
        cases hb : Op.bytesLess s'.toList s.toList with
        | false =>
          have hm : rise ss = false := rise_false.2 fun h => by rw [(h i s hs1).2 s' (by omega) hs2] at hb; cases hb
          simp only [go_sem, e0, e5, e6, e7, k1, k2, k3, es, es2, gz, Int.toNat_natCast, sStr, hb, hm]
        | true =>
          simp only [go_sem, e0, e5, e6, e7, k1, k2, k3, es, es2, gz, Int.toNat_natCast, sStr, hb, gw]
          exact ⟨hlt, key hn (fun s2 _ h2 => by rw [hs2] at h2; cases h2; exact hb), e0, e5, e6, rfl⟩
  · have g1 : ¬ (i : Int) < ss.length := by omega
    have hm : rise ss = true := rise_true.2 fun j s hj => g0 j s (by have := (List.getElem?_eq_some_iff.1 hj).1; omega) hj
    simp only [go_sem, e0, e6, e7, g1, encS_len, hm]
inductive Tr where
  | mk (sort num : Int) (text : ByteArray) (names : List ByteArray) (kids : List Tr)
mutual
def encT : Tr → List V
  | .mk s n x ns ks => [.s (.int .i64 s), .s (.int .i64 n), .s (.string x), .sl (encS ns), .sl (encTs ks)]
def encTs : List Tr → List (List V)
  | [] => []
  | k :: ks => encT k :: encTs ks
end
theorem encTs_eq : ∀ ks, encTs ks = ks.map encT
  | [] => by simp [encTs]
  | k :: ks => by simp [encTs, encTs_eq ks]
theorem encT_mk (s n : Int) (x : ByteArray) (ns : List ByteArray) (ks : List Tr) : encT (.mk s n x ns ks) = [.s (.int .i64 s), .s (.int .i64 n), .s (.string x), .sl (encS ns), .sl (encTs ks)] := by simp [encT]
theorem encT_len (k : Tr) : (encT k).length = 5 := by cases k; simp [encT]
theorem encTs_len (ks : List Tr) : (encTs ks).length = ks.length := by simp [encTs_eq]
theorem encTs_at {ks : List Tr} {i : Nat} {k : Tr} (h : ks[i]? = some k) : (encTs ks)[i]? = some (encT k) := by simp [encTs_eq, h]
theorem encTs_all (ks : List Tr) : ∀ e ∈ encTs ks, e.length = 5 := by
  intro e he
  rw [encTs_eq, List.mem_map] at he
  obtain ⟨k, _, rfl⟩ := he
  exact encT_len k
theorem encTs_snoc (ks : List Tr) (k : Tr) : encTs (ks ++ [k]) = encTs ks ++ [encT k] := by simp [encTs_eq]
theorem take_encTs (ks : List Tr) : (encTs ks).take ks.length = encTs ks := by rw [← encTs_len ks, List.take_length]
theorem takeT (k : Tr) : List.take 5 (List.map C.v (encT k)) = List.map C.v (encT k) := by
  have h : (List.map C.v (encT k)).length = 5 := by rw [List.length_map, encT_len]
  rw [← h, List.take_length]
abbrev tT (k : Tr) : T := .pt (.agg ((encT k).map .v))
/-- No list and no text is longer than n. -/
inductive TB (n : Nat) : Tr → Prop
  | mk (s m : Int) (x : ByteArray) (ns : List ByteArray) (ks : List Tr) (h0 : x.size ≤ n) (h1 : ns.length ≤ n) (h2 : ks.length ≤ n) (h3 : ∀ x ∈ ns, x.size ≤ n) (h4 : ∀ k ∈ ks, TB n k) : TB n (.mk s m x ns ks)
theorem TB.inv {n : Nat} {s m : Int} {x : ByteArray} {ns : List ByteArray} {ks : List Tr} (h : TB n (.mk s m x ns ks)) : x.size ≤ n ∧ ns.length ≤ n ∧ ks.length ≤ n ∧ (∀ x ∈ ns, x.size ≤ n) ∧ ∀ k ∈ ks, TB n k := by
  cases h with
  | mk _ _ _ _ _ h0 h1 h2 h3 h4 => exact ⟨h0, h1, h2, h3, h4⟩
theorem Tr.ind {P : Tr → Prop} (h : ∀ s n x ns ks, (∀ k ∈ ks, P k) → P (.mk s n x ns ks)) : ∀ k, P k
  | .mk s n x ns ks => h s n x ns ks fun k _hk => Tr.ind h k
termination_by k => SizeOf.sizeOf k
decreasing_by
  have := List.sizeOf_lt_of_mem _hk
  simp
  omega
theorem encTs_nil : encTs [] = [] := by simp [encTs]
theorem encS_all1 (ns : List ByteArray) : (∀ e ∈ encS ns, e.length = 1) = True := eq_true fun e he => by simp only [encS, List.mem_map] at he; obtain ⟨_, _, rfl⟩ := he; rfl
theorem encTs_all5 (ks : List Tr) : (∀ e ∈ encTs ks, e.length = 5) = True := eq_true (encTs_all ks)
theorem take_encS1 (ns : List ByteArray) (e : List V) : List.take (ns.length + 1) (encS ns ++ [e]) = encS ns ++ [e] := List.take_of_length_le (by simp [encS_len])
theorem take_encTs1 (ks : List Tr) (e : List V) : List.take (ks.length + 1) (encTs ks ++ [e]) = encTs ks ++ [e] := List.take_of_length_le (by simp [encTs_len])
theorem drop5T (k : Tr) : List.drop 5 (encT k) = [] := List.drop_of_length_le (by rw [encT_len]; exact Nat.le_refl _)
theorem set_encTs (ks : List Tr) (i : Nat) (k : Tr) : (encTs ks).set i (encT k) = encTs (ks.set i k) := by rw [encTs_eq, encTs_eq, List.map_set]
theorem toVs_map : ∀ xs : List V, toVs (xs.map C.v) = some xs
  | [] => rfl
  | x :: xs => by simp only [List.map_cons, toVs, toVs_map xs, Option.map_some]
theorem encS_nil' : encS [] = [] := rfl
attribute [go_sem] take_encTs toVs_map drop5T set_encTs List.length_set take_encS1 take_encTs1 encS_snoc encTs_snoc encTs_nil encS_all1 encTs_all5 Nat.zero_add encS_nil'
end Go.V
set_option linter.unusedSimpArgs false
set_option maxRecDepth 20000
namespace Go.V
open Go.Proofs
def ok190 := okF.gu (P := Tryz.prog) tab Tryz.func190 Tryz.ntmps190 (by conv => lhs; cbv) (by kernel_rfl)
theorem isNum_ok (n : Int) : ACallsF Tryz.prog 190 [.i n] [] (.b (decide (-999999999 ≤ n) && decide (n ≤ 999999999))) := by
  refine ACallsF.intro ok190 follows fun X c0 => ?_
  simp only [go_sem]
  refine callC (inRange_ok n (-999999999) 999999999) rfl rfl rfl rfl ?_
  simp only [go_sem]
def printB (b : UInt8) : Prop := ¬ (b.toNat : Int) < 32 ∧ ¬ (b.toNat : Int) > 126 ∧ (b.toNat : Int) ≠ 34
def printP (s : ByteArray) : Prop := ∀ (j : Nat) b, s.data[j]? = some b → printB b
noncomputable def textOk (s : ByteArray) : Bool := @decide (printP s ∧ s.size ≤ 60) (Classical.propDecidable _)
theorem textOk_true {s : ByteArray} : textOk s = true ↔ printP s ∧ s.size ≤ 60 := by simp [textOk]
theorem textOk_false {s : ByteArray} : textOk s = false ↔ ¬ (printP s ∧ s.size ≤ 60) := by simp [textOk]
def ok191 := okF.gu (P := Tryz.prog) tab Tryz.func191 Tryz.ntmps191 (by conv => lhs; cbv) (by kernel_rfl)
def inv191 (s : ByteArray) (i : Nat) (σ : St) : Prop := (∀ (j : Nat) b, j < i → s.data[j]? = some b → printB b) ∧ σ.t 0 = .s (.string s) ∧ σ.t 5 = .i s.size ∧ σ.t 6 = .i i
theorem isText_ok (s : ByteArray) (hs : s.size ≤ 4611686018427387904) : ACallsF Tryz.prog 191 [.s (.string s)] [] (.b (textOk s)) := by
  refine ACallsF.intro ok191 follows fun X c0 => ?_
  simp only [go_sem]
  refine AW.upto s.size (inv191 s) ⟨fun j _ hj => absurd hj (Nat.not_lt_zero j), rfl, rfl, rfl⟩ fun i t H c hi h => ?_
  obtain ⟨g0, e0, e5, e6⟩ := h
  simp only [T.c, T.i, T.s] at e0 e5 e6
  by_cases hlt : i < s.size
  · have g1 : (i : Int) < s.size := by omega
    have gz : (0 : Int) ≤ i := by omega
    have gw : IntKind.i64.wrap ((i : Int) + 1) = ((i + 1 : Nat) : Int) := wrap64 (x := (i : Int) + 1) ⟨by omega, by omega⟩
    obtain ⟨b, hb⟩ : ∃ b, s.data[i]? = some b := ⟨_, Array.getElem?_eq_getElem (by rw [← size_data]; omega)⟩
    have hbad : ¬ printB b → textOk s = false := fun h => textOk_false.2 fun h2 => h (h2.1 i b hb)
    by_cases k1 : (b.toNat : Int) < 32
    · have hm := hbad fun h => h.1 k1
      simp only [go_sem, e0, e5, e6, g1, gz, hb, Int.toNat_natCast, k1, hm]
    by_cases k2 : (b.toNat : Int) > 126
    · have hm := hbad fun h => h.2.1 k2
      simp only [go_sem, e0, e5, e6, g1, gz, hb, Int.toNat_natCast, k1, k2, hm]
    by_cases k3 : (b.toNat : Int) = 34
    · have hm := hbad fun h => h.2.2 k3
      have k3b : ((b.toNat : Int) == 34) = true := beq_iff_eq.2 k3
      simp only [go_sem, e0, e5, e6, g1, gz, hb, Int.toNat_natCast, k1, k2, k3b, hm]
    · have k3b : ((b.toNat : Int) == 34) = false := beq_eq_false_iff_ne.2 k3
      simp only [go_sem, e0, e5, e6, g1, gz, hb, Int.toNat_natCast, k1, k2, k3b, gw]
      refine ⟨hlt, fun j b' hj hj2 => ?_, e0, e5, rfl⟩
      rcases Nat.lt_succ_iff_lt_or_eq.1 hj with hj | rfl
      · exact g0 j b' hj hj2
      · rw [hb] at hj2; cases hj2; exact ⟨k1, k2, k3⟩
  · have g1 : ¬ (i : Int) < s.size := by omega
    have hp : printP s := fun j b hj => g0 j b (by have := (Array.getElem?_eq_some_iff.1 hj).1; rw [size_data] at hlt; omega) hj
    have hm : textOk s = decide ((s.size : Int) ≤ 60) := by
      by_cases h : s.size ≤ 60
      · rw [textOk_true.2 ⟨hp, h⟩]; exact (decide_eq_true (by omega)).symm
      · rw [textOk_false.2 fun h2 => h h2.2]; exact (decide_eq_false (by omega)).symm
    simp only [go_sem, e0, e5, e6, g1, hm]
def ok189 := okF.gu (P := Tryz.prog) tab Tryz.func189 Tryz.ntmps189 (by conv => lhs; cbv) (by kernel_rfl)
noncomputable def tshape (s n : Int) (x : ByteArray) (ns : List ByteArray) (m : Nat) : Bool :=
  if s = 1 then (decide (-999999999 ≤ n) && decide (n ≤ 999999999)) && (decide (x = ⟨#[]⟩) && ((ns.length : Int) + (m : Int) == 0))
  else if s = 2 then (n == 0) && (textOk x && ((ns.length : Int) + (m : Int) == 0))
  else if s = 3 then (decide (0 ≤ n) && decide (n ≤ 1)) && (decide (x = ⟨#[]⟩) && ((ns.length : Int) + (m : Int) == 0))
  else if s = 4 then (n == 0) && (decide (x = ⟨#[]⟩) && (((ns.length : Int) == 0) && decide ((m : Int) ≤ 20)))
  else if s = 5 then (n == 0) && (decide (x = ⟨#[]⟩) && (rise ns && ((ns.length : Int) == (m : Int))))
  else if s = 6 then (n == 0) && (decide (x = ⟨#[]⟩) && (((ns.length : Int) == 0) && decide ((m : Int) ≤ 1)))
  else false
theorem tshape_ok (s n : Int) (x : ByteArray) (ns : List ByteArray) (ks : List Tr) (hx : x.size ≤ 2000000) (hl : ns.length ≤ 2000000 ∧ ks.length ≤ 2000000) (hs : ∀ s ∈ ns, s.size ≤ 2000000) : ACallsF Tryz.prog 189 [tT (.mk s n x ns ks)] [] (.b (tshape s n x ns ks.length)) := by
  have w1 : IntKind.i64.wrap ((ns.length : Int) + (ks.length : Int)) = (ns.length : Int) + (ks.length : Int) := wrap64 ⟨by omega, by omega⟩
  refine ACallsF.intro ok189 follows fun X c0 => ?_
  by_cases h1 : s = 1
  · subst h1
    have hm : tshape 1 n x ns ks.length = ((decide (-999999999 ≤ n) && decide (n ≤ 999999999)) && (decide (x = ⟨#[]⟩) && ((ns.length : Int) + (ks.length : Int) == 0))) := if_pos rfl
    simp only [go_sem, encT_mk, encTs_len, encS_len, Int.reduceBEq]
    refine callC (isNum_ok n) rfl rfl rfl rfl ?_
    rw [hm]
    generalize (decide (-999999999 ≤ n) && decide (n ≤ 999999999)) = A
    cases A
    · simp only [go_sem, encT_mk, encTs_len, encS_len]
    by_cases hx0 : x = ⟨#[]⟩
    · simp only [go_sem, encT_mk, encTs_len, encS_len, sStr, str_beq, hx0, w1]
    · simp only [go_sem, encT_mk, encTs_len, encS_len, sStr, str_beq, hx0, w1]
  have b1 : (s == 1) = false := beq_eq_false_iff_ne.2 h1
  by_cases h2 : s = 2
  · subst h2
    have hm : tshape 2 n x ns ks.length = ((n == 0) && (textOk x && ((ns.length : Int) + (ks.length : Int) == 0))) := rfl
    rw [hm]
    cases hn : (n == 0) with
    | false => simp only [go_sem, encT_mk, encTs_len, encS_len, Int.reduceBEq, hn]
    | true =>
      simp only [go_sem, encT_mk, encTs_len, encS_len, Int.reduceBEq, hn]
      refine callC (isText_ok x (by omega)) rfl rfl rfl rfl ?_
      cases ht : textOk x with
      | false => simp only [go_sem, encT_mk, encTs_len, encS_len]
      | true => simp only [go_sem, encT_mk, encTs_len, encS_len, w1]
  have b2 : (s == 2) = false := beq_eq_false_iff_ne.2 h2
  by_cases h3 : s = 3
  · subst h3
    have hm : tshape 3 n x ns ks.length = ((decide (0 ≤ n) && decide (n ≤ 1)) && (decide (x = ⟨#[]⟩) && ((ns.length : Int) + (ks.length : Int) == 0))) := rfl
    simp only [go_sem, encT_mk, encTs_len, encS_len, Int.reduceBEq]
    refine callC (inRange_ok n 0 1) rfl rfl rfl rfl ?_
    rw [hm]
    generalize (decide (0 ≤ n) && decide (n ≤ 1)) = A
    cases A
    · simp only [go_sem, encT_mk, encTs_len, encS_len]
    by_cases hx0 : x = ⟨#[]⟩
    · simp only [go_sem, encT_mk, encTs_len, encS_len, sStr, str_beq, hx0, w1]
    · simp only [go_sem, encT_mk, encTs_len, encS_len, sStr, str_beq, hx0, w1]
  have b3 : (s == 3) = false := beq_eq_false_iff_ne.2 h3
  by_cases h4 : s = 4
  · subst h4
    have hm : tshape 4 n x ns ks.length = ((n == 0) && (decide (x = ⟨#[]⟩) && (((ns.length : Int) == 0) && decide ((ks.length : Int) ≤ 20)))) := rfl
    rw [hm]
    cases hn : (n == 0) with
    | false => simp only [go_sem, encT_mk, encTs_len, encS_len, Int.reduceBEq, hn]
    | true =>
      by_cases hx0 : x = ⟨#[]⟩
      · cases hl0 : ((ns.length : Int) == 0) with
        | false => simp only [go_sem, encT_mk, encTs_len, encS_len, Int.reduceBEq, hn, sStr, str_beq, hx0, hl0]
        | true => simp only [go_sem, encT_mk, encTs_len, encS_len, Int.reduceBEq, hn, sStr, str_beq, hx0, hl0]
      · simp only [go_sem, encT_mk, encTs_len, encS_len, Int.reduceBEq, hn, sStr, str_beq, hx0]
  have b4 : (s == 4) = false := beq_eq_false_iff_ne.2 h4
  by_cases h5 : s = 5
  · subst h5
    have hm : tshape 5 n x ns ks.length = ((n == 0) && (decide (x = ⟨#[]⟩) && (rise ns && ((ns.length : Int) == (ks.length : Int))))) := rfl
    rw [hm]
    cases hn : (n == 0) with
    | false => simp only [go_sem, encT_mk, encTs_len, encS_len, Int.reduceBEq, hn]
    | true =>
      by_cases hx0 : x = ⟨#[]⟩
      · simp only [go_sem, encT_mk, encTs_len, encS_len, Int.reduceBEq, hn, sStr, str_beq, hx0]
        refine callC (areNames_ok ns (by omega) (fun s h => by have := hs s h; omega)) rfl rfl rfl rfl ?_
        cases hr : rise ns with
        | false => simp only [go_sem, encT_mk, encTs_len, encS_len]
        | true => simp only [go_sem, encT_mk, encTs_len, encS_len]
      · simp only [go_sem, encT_mk, encTs_len, encS_len, Int.reduceBEq, hn, sStr, str_beq, hx0]
  have b5 : (s == 5) = false := beq_eq_false_iff_ne.2 h5
  by_cases h6 : s = 6
  · subst h6
    have hm : tshape 6 n x ns ks.length = ((n == 0) && (decide (x = ⟨#[]⟩) && (((ns.length : Int) == 0) && decide ((ks.length : Int) ≤ 1)))) := rfl
    rw [hm]
    cases hn : (n == 0) with
    | false => simp only [go_sem, encT_mk, encTs_len, encS_len, Int.reduceBEq, hn]
    | true =>
      by_cases hx0 : x = ⟨#[]⟩
      · cases hl0 : ((ns.length : Int) == 0) with
        | false => simp only [go_sem, encT_mk, encTs_len, encS_len, Int.reduceBEq, hn, sStr, str_beq, hx0, hl0]
        | true => simp only [go_sem, encT_mk, encTs_len, encS_len, Int.reduceBEq, hn, sStr, str_beq, hx0, hl0]
      · simp only [go_sem, encT_mk, encTs_len, encS_len, Int.reduceBEq, hn, sStr, str_beq, hx0]
  have b6 : (s == 6) = false := beq_eq_false_iff_ne.2 h6
  have hm : tshape s n x ns ks.length = false := by simp [tshape, h1, h2, h3, h4, h5, h6]
  simp only [go_sem, encT_mk, encTs_len, encS_len, b1, b2, b3, b4, b5, b6, hm]
abbrev lH (m v : Nat) (p p' : Int) : Hand := ⟨1001, m, some (.var v 3 ([.s (.int .i64 p)].map .v)), .var v 3 ([.s (.int .i64 p')].map .v), true⟩
theorem lendT_closed (hs : List Hand) (H : HMap) {x : T} (h : closedA x = true) : lendT H x x = some (x, [], []) ∧ renIT hs x = some x := by
  cases x with
  | pt p =>
    cases p with
    | one c => obtain ⟨h1, h2, _⟩ := closed_C hs H c h; exact ⟨by simp [lendT, h1], by simp [renIT, h2]⟩
    | agg cs => obtain ⟨h1, h2, _⟩ := closed_Cs hs H cs h; exact ⟨by simp [lendT, h1], by simp [renIT, h2]⟩
  | junk => simp [closedA] at h
  | undef => simp [closedA] at h
  | tup ps => simp [closedA] at h
theorem lendTs_snoc (hs : List Hand) (H : HMap) (n m v j : Nat) (hI : inN hs n = some m) : ∀ (ac : List T), ac.all closedA = true → lendTs H (ac ++ [.c (.ptr n v j)]) (ac ++ [.c (.ptr m v j)]) = some (ac ++ [.c (.ptr m v j)], [], []) ∧ renITs hs (ac ++ [.c (.ptr n v j)]) = some (ac ++ [.c (.ptr m v j)])
  | [], _ => ⟨by simp [lendTs, lendT, lendC, T.c], by simp [renITs, renIT, renI, hI, T.c]⟩
  | x :: ac, h => by
    simp only [List.all_cons, Bool.and_eq_true] at h
    obtain ⟨h1, h2⟩ := lendT_closed hs H h.1
    obtain ⟨h3, h4⟩ := lendTs_snoc hs H n m v j hI ac h.2
    exact ⟨by simp only [List.cons_append, lendTs, h1, h3, List.nil_append], by simp only [List.cons_append, renITs, h2, h4]⟩
/-- A call that hands on a variable by a pointer to it, the last argument, beside closed values. -/
theorem callP {P : Program} {t : Nat → T} {H : HMap} {c : Nat} {f : Opd} {args : List Opd} {fid : FuncId} {n m v : Nat} {ty : TypeId} {xs ys : List V} {argsC : List T} {r : T} {k : Nat} {d : Option Nat} {un : List Nat} {l : List AOper} {prev : List (Nat × List Nat × List Nat)} {K : St → Prop}
    (hC : ACallsF P fid (argsC ++ [.c (.ptr n v 0)]) [⟨n, m, some (.var v ty (xs.map .v)), .var v ty (ys.map .v), true⟩] r) (hf : ev t f = .pt (.one (.fn fid []))) (hl : args.map (ev t) = argsC ++ [.c (.ptr m v 0)])
    (ha : argsC.all closedA = true) (hr : closedT r = true) (hH : H m = some (.var v ty (xs.map .v)))
    (hk : chk prev un ⟨r, [(m, .var v ty (ys.map .v))], [m], [m]⟩ = true ∧ DRun P l ((k, [m], [m]) :: prev) K ⟨updD t d r, upd H m (some (.var v ty (ys.map .v))), c⟩) :
    step P k d un (.call f args) l prev K t H c := by
  let hs : List Hand := [⟨n, m, some (.var v ty (xs.map .v)), .var v ty (ys.map .v), true⟩]
  have hcl : ∀ xs : List V, (xs.map C.v).all closedC = true := by intro xs; simp [closedC]
  have hN : renN hs n = some ⟨n, m, some (.var v ty (xs.map .v)), .var v ty (ys.map .v), true⟩ := by simp [hs, renN]
  have hI : inN hs n = some m := by simp [inN, hN]
  obtain ⟨h1, h2⟩ := lendTs_snoc hs H n m v 0 hI argsC ha
  refine callW (caps := []) (ws := []) (ns := []) hs hC hf (by rw [hl]; simpa using h1) h2 ⟨?_, trivial⟩ (by simp [hs]) (by simp [hs]) (closed_T hs r hr _) (ob := [(m, .var v ty (ys.map .v))]) ?_ ?_
  · simp only [renIB, (closed_Cs hs H (xs.map .v) (hcl _)).2.1, Option.map_some]
    exact hH
  · simp only [hs, renOBs, renOB, verOf, Blk.ver]
    rw [(closed_Cs _ H (ys.map .v) (hcl _)).2.2]
    rfl
  · have hq : quiet r hs = false := by simp [quiet, hs]
    simpa [hq, hs, updH] using hk
mutual
def tparts : Tr → Nat
  | .mk _ _ _ _ ks => 1 + tpartsL ks
def tpartsL : List Tr → Nat
  | [] => 0
  | k :: ks => tparts k + tpartsL ks
end
theorem tpartsL_snoc (ks : List Tr) (k : Tr) : tpartsL (ks ++ [k]) = tpartsL ks + tparts k := by
  induction ks with
  | nil => simp [tpartsL]
  | cons x xs ih => simp [tpartsL, ih]; omega
theorem tparts_pos (k : Tr) : 1 ≤ tparts k := by cases k; simp [tparts]
theorem tpartsL_take_le (ks : List Tr) (i : Nat) : tpartsL (ks.take i) ≤ tpartsL ks := by
  induction ks generalizing i with
  | nil => simp
  | cons k ks ih => cases i with
    | zero => simp [tpartsL]
    | succ i => simp only [List.take_succ_cons, tpartsL]; have := ih i; omega
/-- A tree's shapes and depth. -/
inductive TOk : Nat → Tr → Prop
  | mk (d : Nat) (s n : Int) (x : ByteArray) (ns : List ByteArray) (ks : List Tr) (h1 : d ≤ 6) (h2 : tshape s n x ns ks.length = true) (h3 : ∀ k ∈ ks, TOk (d + 1) k) : TOk d (.mk s n x ns ks)
theorem TOk.inv {d : Nat} {s n : Int} {x : ByteArray} {ns : List ByteArray} {ks : List Tr} (h : TOk d (.mk s n x ns ks)) : d ≤ 6 ∧ tshape s n x ns ks.length = true ∧ ∀ k ∈ ks, TOk (d + 1) k := by
  cases h with
  | mk _ _ _ _ _ _ h1 h2 h3 => exact ⟨h1, h2, h3⟩
def ok184 := okF.gu (P := Tryz.prog) tab Tryz.func184 Tryz.ntmps184 (by conv => lhs; cbv) (by kernel_rfl)
def LookT (d : Nat) (k : Tr) (p : Nat) (p' : Int) (b : Bool) : Prop := (TOk d k ∧ p + tparts k ≤ 120 ∧ b = true ∧ p' = (p + tparts k : Nat)) ∨ (¬ (TOk d k ∧ p + tparts k ≤ 120) ∧ b = false)
def inv184 (v d : Nat) (p : Nat) (ks : List Tr) (i : Nat) (σ : St) : Prop :=
  σ.t 1 = .i d ∧ σ.t 2 = .c (.ptr 1001 v 0) ∧ σ.t 28 = .c (.v (.sl (encTs ks))) ∧ σ.t 29 = .i ks.length ∧ σ.t 30 = .i i ∧ σ.H 1001 = some (.var v 3 [.v (.s (.int .i64 ((p + 1 + tpartsL (ks.take i) : Nat) : Int)))])
theorem lookT_ok : ∀ k : Tr, TB 2000000 k → ∀ d p : Nat, d ≤ 100 → p ≤ 2000000 → ∃ (p' : Int) (b : Bool), LookT d k p p' b ∧ ∀ m v, ACallsF Tryz.prog 184 [tT k, .i d, .c (.ptr 1001 v 0)] [lH m v p p'] (.b b) := by
  intro k
  induction k using Tr.ind with
  | _ s nn x ns ks ih =>
    intro hB d p hd hp
    obtain ⟨hB0, hB1, hB2, hB3, hB4⟩ := hB.inv
    have gw : IntKind.i64.wrap ((p : Int) + 1) = ((p + 1 : Nat) : Int) := (wrap64 ⟨by omega, by omega⟩).trans (by omega)
    have hCs := tshape_ok s nn x ns ks hB0 ⟨hB1, hB2⟩ hB3
    simp only [tT, encT_mk, List.map_cons, List.map_nil] at hCs
    have htake : ∀ i k, ks[i]? = some k → tpartsL (ks.take (i + 1)) = tpartsL (ks.take i) + tparts k := fun i k hk => by
      rw [List.take_add_one, hk]; exact tpartsL_snoc _ _
    by_cases hgood : d ≤ 6 ∧ p + 1 ≤ 120 ∧ tshape s nn x ns ks.length = true
    · obtain ⟨hd6, hp120, hS⟩ := hgood
      have k1 : ¬ (d : Int) > 6 := by omega
      have k2 : ¬ ((p + 1 : Nat) : Int) > 120 := by omega
      have hsb := hS
      obtain ⟨N, p', b, hN, hok, hR, hend⟩ : ∃ (N : Nat) (p' : Int) (b : Bool), N ≤ ks.length ∧ (∀ i k, i < N → ks[i]? = some k → TOk (d + 1) k ∧ p + 1 + tpartsL (ks.take (i + 1)) ≤ 120) ∧ LookT d (.mk s nn x ns ks) p p' b ∧
          ((N = ks.length ∧ b = true ∧ p' = ((p + 1 + tpartsL (ks.take N) : Nat) : Int)) ∨ ∃ k, ks[N]? = some k ∧ b = false ∧ ∀ m v, ACallsF Tryz.prog 184 [tT k, .i (d + 1 : Nat), .c (.ptr 1001 v 0)] [lH m v ((p + 1 + tpartsL (ks.take N) : Nat) : Int) p'] (.b false)) := by
        by_cases hbad : ∃ i, ∃ k, ks[i]? = some k ∧ ¬ (TOk (d + 1) k ∧ p + 1 + tpartsL (ks.take (i + 1)) ≤ 120)
        · obtain ⟨N, ⟨k, hk, hno⟩, hmin⟩ := least hbad
          have hlt := (List.getElem?_eq_some_iff.1 hk).1
          have hmem := List.mem_of_getElem? hk
          have hpre : ∀ i k, i < N → ks[i]? = some k → TOk (d + 1) k ∧ p + 1 + tpartsL (ks.take (i + 1)) ≤ 120 := fun i k2 hi hk2 => by
            by_cases h : TOk (d + 1) k2 ∧ p + 1 + tpartsL (ks.take (i + 1)) ≤ 120
            · exact h
            · have := hmin i ⟨k2, hk2, h⟩; omega
          have hq : p + 1 + tpartsL (ks.take N) ≤ 120 := by
            cases N with
            | zero => simp [tpartsL]; omega
            | succ n => exact (hpre n _ (by omega) (List.getElem?_eq_getElem (by omega))).2
          obtain ⟨p2, b2, hR2, hC2⟩ := ih k hmem (hB4 k hmem) (d + 1) (p + 1 + tpartsL (ks.take N)) (by omega) (by omega)
          rcases hR2 with ⟨r1, r2, _⟩ | ⟨_, rfl⟩
          · exact absurd ⟨r1, by rw [htake N k hk]; omega⟩ hno
          · refine ⟨N, p2, false, by omega, hpre, .inr ⟨fun h => hno ?_, rfl⟩, .inr ⟨k, hk, rfl, hC2⟩⟩
            obtain ⟨h1, h2⟩ := h
            refine ⟨h1.inv.2.2 k hmem, ?_⟩
            have := tpartsL_take_le ks (N + 1)
            simp only [tparts] at h2
            omega
        · have hall : ∀ i k, ks[i]? = some k → TOk (d + 1) k ∧ p + 1 + tpartsL (ks.take (i + 1)) ≤ 120 := fun i k hk => by
            by_cases h : TOk (d + 1) k ∧ p + 1 + tpartsL (ks.take (i + 1)) ≤ 120
            · exact h
            · exact absurd ⟨i, k, hk, h⟩ hbad
          refine ⟨ks.length, ((p + 1 + tpartsL (ks.take ks.length) : Nat) : Int), true, Nat.le_refl _, fun i k _ hk => hall i k hk, .inl ⟨.mk _ _ _ _ _ _ hd6 hS fun k hk => ?_, ?_, rfl, ?_⟩, .inl ⟨rfl, rfl, rfl⟩⟩
          · obtain ⟨i, hi⟩ := List.mem_iff_getElem?.1 hk
            exact (hall i k hi).1
          · simp only [tparts]
            cases hk0 : ks.length with
            | zero => rw [List.length_eq_zero_iff] at hk0; subst hk0; simp [tpartsL]; omega
            | succ n =>
              have := (hall n _ (List.getElem?_eq_getElem (by omega))).2
              rw [← hk0, List.take_length] at this
              omega
          · rw [List.take_length]; simp only [tparts]; omega
      refine ⟨p', b, hR, fun m v => ACallsF.intro ok184 follows fun X c0 => ?_⟩
      simp only [go_sem, encT_mk, encTs_len, gw, k1, k2]
      refine callC hCs rfl rfl (by simp [closedA, closedP, closedC]) rfl ?_
      simp only [go_sem, encT_mk, encTs_len, hsb]
      refine AW.upto N (inv184 v d p ks) ⟨rfl, rfl, rfl, rfl, rfl, by simp [tpartsL]⟩ fun i t H c hi h => ?_
      obtain ⟨e1, e2, e28, e29, e30, eH⟩ := h
      simp only [T.c, T.i] at e1 e2 e28 e29 e30 eH
      have gz : (0 : Int) ≤ i := by omega
      have gw2 : IntKind.i64.wrap ((i : Int) + 1) = ((i + 1 : Nat) : Int) := wrap64 (x := (i : Int) + 1) ⟨by omega, by omega⟩
      have gd : IntKind.i64.wrap ((d : Int) + 1) = ((d + 1 : Nat) : Int) := wrap64 (x := (d : Int) + 1) ⟨by omega, by omega⟩
      by_cases hlt : i < N
      · have k3 : (i : Int) < ks.length := by omega
        obtain ⟨k, hk⟩ : ∃ k, ks[i]? = some k := ⟨_, List.getElem?_eq_getElem (by omega)⟩
        have hmem := List.mem_of_getElem? hk
        have ek := encTs_at hk
        obtain ⟨o1, o2⟩ := hok i k hlt hk
        have ht := htake i k hk
        obtain ⟨p2, b2, hR2, hC2⟩ := ih k hmem (hB4 k hmem) (d + 1) (p + 1 + tpartsL (ks.take i)) (by omega) (by omega)
        rcases hR2 with ⟨_, _, rfl, rfl⟩ | ⟨r1, _⟩
        · simp only [go_sem, e1, e2, e28, e29, e30, k3, gz, ek, Int.toNat_natCast, gd, List.length_map, encT_len, takeT, Nat.le_refl]
          refine callP (argsC := [tT k, .i (d + 1 : Nat)]) (hC2 1001 v) rfl rfl (by simp [closedA, closedP, closedC]) rfl eH ⟨rfl, ?_⟩
          simp only [go_sem, e30, gw2]
          exact ⟨hlt, e1, e2, e28, e29, rfl, by rw [ht, ← Nat.add_assoc]; rfl⟩
        · exact absurd ⟨o1, by rw [ht] at o2; omega⟩ r1
      · have hiN : i = N := by omega
        subst hiN
        rcases hend with ⟨rfl, rfl, rfl⟩ | ⟨k, hk, rfl, hC2⟩
        · have k3 : ¬ ((ks.length : Nat) : Int) < ks.length := by omega
          simp only [go_sem, e29, e30, k3, eH]
        · have hlt2 := (List.getElem?_eq_some_iff.1 hk).1
          have k3 : (i : Int) < ks.length := by omega
          have ek := encTs_at hk
          simp only [go_sem, e1, e2, e28, e29, e30, k3, gz, ek, Int.toNat_natCast, gd, List.length_map, encT_len, takeT, Nat.le_refl]
          refine callP (argsC := [tT k, .i (d + 1 : Nat)]) (hC2 1001 v) rfl rfl (by simp [closedA, closedP, closedC]) rfl eH ⟨rfl, ?_⟩
          simp only [go_sem]
    · refine ⟨((p + 1 : Nat) : Int), false, .inr ⟨fun h => hgood ⟨h.1.inv.1, by have := tparts_pos (.mk s nn x ns ks); omega, h.1.inv.2.1⟩, rfl⟩, fun m v => ACallsF.intro ok184 follows fun X c0 => ?_⟩
      by_cases h1 : (d : Int) > 6
      · simp only [go_sem, encT_mk, encTs_len, gw, h1]
      · by_cases h2 : ((p + 1 : Nat) : Int) > 120
        · simp only [go_sem, encT_mk, encTs_len, gw, h1, h2]
        · have hsb : tshape s nn x ns ks.length = false := by
            cases h : tshape s nn x ns ks.length with
            | false => rfl
            | true => exact absurd ⟨by omega, by omega, h⟩ hgood
          simp only [go_sem, encT_mk, encTs_len, gw, h1, h2]
          refine callC hCs rfl rfl (by simp [closedA, closedP, closedC]) rfl ?_
          simp only [go_sem, encT_mk, encTs_len, hsb]
def ok172 := okF.gu (P := Tryz.prog) tab Tryz.func172 Tryz.ntmps172 (by conv => lhs; cbv) (by kernel_rfl)
/-- What TreeParts tells. -/
def PartsT (t : Tr) (q : Int) : Prop := (TOk 1 t ∧ tparts t ≤ 120 ∧ q = tparts t) ∨ (¬ (TOk 1 t ∧ tparts t ≤ 120) ∧ q = 0)
theorem treeParts_ok (t : Tr) (hB : TB 2000000 t) : ∃ q, PartsT t q ∧ ACallsF Tryz.prog 172 [tT t] [] (.i q) := by
  obtain ⟨p', b, hR, hC⟩ := lookT_ok t hB 1 0 (by omega) (by omega)
  rcases hR with ⟨h1, h2, rfl, rfl⟩ | ⟨h1, rfl⟩
  · refine ⟨_, .inl ⟨h1, by omega, rfl⟩, ACallsF.intro ok172 follows fun X c0 => ?_⟩
    simp only [go_sem, List.length_map, encT_len, takeT, Nat.le_refl]
    refine callP (argsC := [tT t, .i (1 : Nat)]) (hC 3 _) rfl rfl (by simp [closedA, closedP, closedC]) rfl rfl ⟨rfl, ?_⟩
    simp only [go_sem]
  · refine ⟨_, .inr ⟨fun h => h1 ⟨h.1, by omega⟩, rfl⟩, ACallsF.intro ok172 follows fun X c0 => ?_⟩
    simp only [go_sem, List.length_map, encT_len, takeT, Nat.le_refl]
    refine callP (argsC := [tT t, .i (1 : Nat)]) (hC 3 _) rfl rfl (by simp [closedA, closedP, closedC]) rfl rfl ⟨rfl, ?_⟩
    simp only [go_sem]
noncomputable def okT (t : Tr) : Bool := @decide (TOk 1 t ∧ tparts t ≤ 120) (Classical.propDecidable _)
theorem okT_true {t : Tr} : okT t = true ↔ TOk 1 t ∧ tparts t ≤ 120 := by simp [okT]
theorem okT_false {t : Tr} : okT t = false ↔ ¬ (TOk 1 t ∧ tparts t ≤ 120) := by simp [okT]
def ok152 := okF.gu (P := Tryz.prog) tab Tryz.func152 Tryz.ntmps152 (by conv => lhs; cbv) (by kernel_rfl)
theorem treeOk_ok (t : Tr) (hB : TB 2000000 t) : ACallsF Tryz.prog 152 [tT t] [] (.b (okT t)) := by
  obtain ⟨q, hq, hC⟩ := treeParts_ok t hB
  refine ACallsF.intro ok152 follows fun X c0 => ?_
  simp only [go_sem, List.length_map, encT_len, takeT, Nat.le_refl]
  refine callC hC rfl rfl (by simp [closedA, closedP, closedC]) rfl ?_
  rcases hq with ⟨h1, h2, rfl⟩ | ⟨h1, rfl⟩
  · have hm : okT t = true := okT_true.2 ⟨h1, h2⟩
    have k1 : (tparts t : Int) > 0 := by have := tparts_pos t; omega
    simp only [go_sem, hm, k1]
  · have hm : okT t = false := okT_false.2 h1
    have k1 : ¬ (0 : Int) > 0 := by omega
    simp only [go_sem, hm, k1]
end Go.V
set_option linter.unusedSimpArgs false
set_option maxRecDepth 20000
namespace Go.V
open Go.Proofs
theorem tpartsL_mem {ks : List Tr} {k : Tr} (h : k ∈ ks) : tparts k ≤ tpartsL ks := by
  induction ks with
  | nil => cases h
  | cons x xs ih =>
    simp only [tpartsL]
    rcases List.mem_cons.1 h with rfl | h
    · omega
    · have := ih h; omega
def ok154 := okF.gu (P := Tryz.prog) tab Tryz.func154 Tryz.ntmps154 (by conv => lhs; cbv) (by kernel_rfl)
def inv154 (s : ByteArray) (i : Nat) (σ : St) : Prop := (∀ (j : Nat) b, j < i → s.data[j]? = some b → printB b) ∧ σ.t 0 = .s (.string s) ∧ σ.t 3 = .i i
theorem textOkS_ok (s : ByteArray) (hs : s.size ≤ 4611686018427387904) : ACallsF Tryz.prog 154 [.s (.string s)] [] (.b (textOk s)) := by
  refine ACallsF.intro ok154 follows fun X c0 => ?_
  by_cases h60 : (s.size : Int) > 60
  · have hm : textOk s = false := textOk_false.2 fun h => by have := h.2; omega
    simp only [go_sem, h60, hm]
  simp only [go_sem, h60]
  refine AW.upto s.size (inv154 s) ⟨fun j _ hj => absurd hj (Nat.not_lt_zero j), rfl, rfl⟩ fun i t H c hi h => ?_
  obtain ⟨g0, e0, e3⟩ := h
  simp only [T.c, T.i, T.s] at e0 e3
  by_cases hlt : i < s.size
  · have g1 : (i : Int) < s.size := by omega
    have gz : (0 : Int) ≤ i := by omega
    have gw : IntKind.i64.wrap ((i : Int) + 1) = ((i + 1 : Nat) : Int) := wrap64 (x := (i : Int) + 1) ⟨by omega, by omega⟩
    obtain ⟨b, hb⟩ : ∃ b, s.data[i]? = some b := ⟨_, Array.getElem?_eq_getElem (by rw [← size_data]; omega)⟩
    have hbad : ¬ printB b → textOk s = false := fun h => textOk_false.2 fun h2 => h (h2.1 i b hb)
    by_cases k1 : (b.toNat : Int) < 32
    · have hm := hbad fun h => h.1 k1
      simp only [go_sem, e0, e3, g1, gz, hb, Int.toNat_natCast, k1, hm]
    by_cases k2 : (b.toNat : Int) > 126
    · have hm := hbad fun h => h.2.1 k2
      simp only [go_sem, e0, e3, g1, gz, hb, Int.toNat_natCast, k1, k2, hm]
    by_cases k3 : (b.toNat : Int) = 34
    · have hm := hbad fun h => h.2.2 k3
      have k3b : ((b.toNat : Int) == 34) = true := beq_iff_eq.2 k3
      simp only [go_sem, e0, e3, g1, gz, hb, Int.toNat_natCast, k1, k2, k3b, hm]
    · have k3b : ((b.toNat : Int) == 34) = false := beq_eq_false_iff_ne.2 k3
      simp only [go_sem, e0, e3, g1, gz, hb, Int.toNat_natCast, k1, k2, k3b, gw]
      refine ⟨hlt, fun j b' hj hj2 => ?_, e0, rfl⟩
      rcases Nat.lt_succ_iff_lt_or_eq.1 hj with hj | rfl
      · exact g0 j b' hj hj2
      · rw [hb] at hj2; cases hj2; exact ⟨k1, k2, k3⟩
  · have g1 : ¬ (i : Int) < s.size := by omega
    have hp : printP s := fun j b hj => g0 j b (by have := (Array.getElem?_eq_some_iff.1 hj).1; rw [size_data] at hlt; omega) hj
    have hm : textOk s = true := textOk_true.2 ⟨hp, by omega⟩
    simp only [go_sem, e0, e3, g1, hm]
def ok138 := okF.gu (P := Tryz.prog) tab Tryz.func138 Tryz.ntmps138 (by conv => lhs; cbv) (by kernel_rfl)
theorem add0 (a b : Nat) : ((a : Int) + (b : Int) == 0) = (((a : Int) == 0) && ((b : Int) == 0)) := by
  by_cases h1 : a = 0 <;> by_cases h2 : b = 0
  · subst h1 h2; rfl
  · rw [beq_eq_false_iff_ne.2 (show (a : Int) + (b : Int) ≠ 0 by omega), beq_eq_false_iff_ne.2 (show (b : Int) ≠ 0 by omega), Bool.and_false]
  · rw [beq_eq_false_iff_ne.2 (show (a : Int) + (b : Int) ≠ 0 by omega), beq_eq_false_iff_ne.2 (show (a : Int) ≠ 0 by omega), Bool.false_and]
  · rw [beq_eq_false_iff_ne.2 (show (a : Int) + (b : Int) ≠ 0 by omega), beq_eq_false_iff_ne.2 (show (a : Int) ≠ 0 by omega), Bool.false_and]
set_option maxHeartbeats 2000000 in
theorem alone_ok (s n : Int) (x : ByteArray) (ns : List ByteArray) (ks : List Tr) (hx : x.size ≤ 2000000) (hl : ns.length ≤ 2000000 ∧ ks.length ≤ 2000000) (hs : ∀ s ∈ ns, s.size ≤ 2000000) : ACallsF Tryz.prog 138 [tT (.mk s n x ns ks)] [] (.b (tshape s n x ns ks.length)) := by
  refine ACallsF.intro ok138 follows fun X c0 => ?_
  by_cases h1 : s = 1
  · subst h1
    have hm : tshape 1 n x ns ks.length = ((decide (-999999999 ≤ n) && decide (n ≤ 999999999)) && (decide (x = ⟨#[]⟩) && (((ns.length : Int) == 0) && ((ks.length : Int) == 0)))) := by rw [← add0]; exact if_pos rfl
    simp only [go_sem, encT_mk, encTs_len, encS_len, Int.reduceBEq]
    refine callC (l6In_ok n (-999999999) 999999999) rfl rfl rfl rfl ?_
    rw [hm]
    generalize (decide (-999999999 ≤ n) && decide (n ≤ 999999999)) = A
    cases A
    · simp only [go_sem, encT_mk, encTs_len, encS_len]
    by_cases hx0 : x = ⟨#[]⟩
    · cases hn0 : ((ns.length : Int) == 0) <;> simp only [go_sem, encT_mk, encTs_len, encS_len, sStr, str_beq, hx0, hn0]
    · simp only [go_sem, encT_mk, encTs_len, encS_len, sStr, str_beq, hx0]
  have b1 : (s == 1) = false := beq_eq_false_iff_ne.2 h1
  by_cases h2 : s = 2
  · subst h2
    have hm : tshape 2 n x ns ks.length = ((n == 0) && (textOk x && (((ns.length : Int) == 0) && ((ks.length : Int) == 0)))) := by rw [← add0]; rfl
    rw [hm]
    cases hn : (n == 0) with
    | false => simp only [go_sem, encT_mk, encTs_len, encS_len, Int.reduceBEq, hn]
    | true =>
      simp only [go_sem, encT_mk, encTs_len, encS_len, Int.reduceBEq, hn]
      refine callC (textOkS_ok x (by omega)) rfl rfl rfl rfl ?_
      cases ht : textOk x with
      | false => simp only [go_sem, encT_mk, encTs_len, encS_len]
      | true => cases hn0 : ((ns.length : Int) == 0) <;> simp only [go_sem, encT_mk, encTs_len, encS_len, hn0]
  have b2 : (s == 2) = false := beq_eq_false_iff_ne.2 h2
  by_cases h3 : s = 3
  · subst h3
    have hm : tshape 3 n x ns ks.length = ((decide (0 ≤ n) && decide (n ≤ 1)) && (decide (x = ⟨#[]⟩) && (((ns.length : Int) == 0) && ((ks.length : Int) == 0)))) := by rw [← add0]; rfl
    simp only [go_sem, encT_mk, encTs_len, encS_len, Int.reduceBEq]
    refine callC (l6In_ok n 0 1) rfl rfl rfl rfl ?_
    rw [hm]
    generalize (decide (0 ≤ n) && decide (n ≤ 1)) = A
    cases A
    · simp only [go_sem, encT_mk, encTs_len, encS_len]
    by_cases hx0 : x = ⟨#[]⟩
    · cases hn0 : ((ns.length : Int) == 0) <;> simp only [go_sem, encT_mk, encTs_len, encS_len, sStr, str_beq, hx0, hn0]
    · simp only [go_sem, encT_mk, encTs_len, encS_len, sStr, str_beq, hx0]
  have b3 : (s == 3) = false := beq_eq_false_iff_ne.2 h3
  by_cases h4 : s = 4
  · subst h4
    have hm : tshape 4 n x ns ks.length = ((n == 0) && (decide (x = ⟨#[]⟩) && (((ns.length : Int) == 0) && decide ((ks.length : Int) ≤ 20)))) := rfl
    rw [hm]
    cases hn : (n == 0) with
    | false => simp only [go_sem, encT_mk, encTs_len, encS_len, Int.reduceBEq, hn]
    | true =>
      by_cases hx0 : x = ⟨#[]⟩
      · cases hl0 : ((ns.length : Int) == 0) <;> simp only [go_sem, encT_mk, encTs_len, encS_len, Int.reduceBEq, hn, sStr, str_beq, hx0, hl0]
      · simp only [go_sem, encT_mk, encTs_len, encS_len, Int.reduceBEq, hn, sStr, str_beq, hx0]
  have b4 : (s == 4) = false := beq_eq_false_iff_ne.2 h4
  by_cases h5 : s = 5
  · subst h5
    have hm : tshape 5 n x ns ks.length = ((n == 0) && (decide (x = ⟨#[]⟩) && (((ns.length : Int) == (ks.length : Int)) && rise ns))) := by rw [Bool.and_comm ((ns.length : Int) == (ks.length : Int)) (rise ns)]; rfl
    rw [hm]
    cases hn : (n == 0) with
    | false => simp only [go_sem, encT_mk, encTs_len, encS_len, Int.reduceBEq, hn]
    | true =>
      by_cases hx0 : x = ⟨#[]⟩
      · cases hl0 : ((ns.length : Int) == (ks.length : Int)) with
        | false => simp only [go_sem, encT_mk, encTs_len, encS_len, Int.reduceBEq, hn, sStr, str_beq, hx0, hl0]
        | true =>
          simp only [go_sem, encT_mk, encTs_len, encS_len, Int.reduceBEq, hn, sStr, str_beq, hx0, hl0]
          refine callC (rise_ok ns (by omega) (fun s h => by have := hs s h; omega)) rfl rfl rfl rfl ?_
          simp only [go_sem]
      · simp only [go_sem, encT_mk, encTs_len, encS_len, Int.reduceBEq, hn, sStr, str_beq, hx0]
  have b5 : (s == 5) = false := beq_eq_false_iff_ne.2 h5
  by_cases h6 : s = 6
  · subst h6
    have hm : tshape 6 n x ns ks.length = ((n == 0) && (decide (x = ⟨#[]⟩) && (((ns.length : Int) == 0) && decide ((ks.length : Int) ≤ 1)))) := rfl
    rw [hm]
    cases hn : (n == 0) with
    | false => simp only [go_sem, encT_mk, encTs_len, encS_len, Int.reduceBEq, hn]
    | true =>
      by_cases hx0 : x = ⟨#[]⟩
      · cases hl0 : ((ns.length : Int) == 0) <;> simp only [go_sem, encT_mk, encTs_len, encS_len, Int.reduceBEq, hn, sStr, str_beq, hx0, hl0]
      · simp only [go_sem, encT_mk, encTs_len, encS_len, Int.reduceBEq, hn, sStr, str_beq, hx0]
  have b6 : (s == 6) = false := beq_eq_false_iff_ne.2 h6
  have hm : tshape s n x ns ks.length = false := by simp [tshape, h1, h2, h3, h4, h5, h6]
  simp only [go_sem, encT_mk, encTs_len, encS_len, b1, b2, b3, b4, b5, b6, hm]
def ok124 := okF.gu (P := Tryz.prog) tab Tryz.func124 Tryz.ntmps124 (by conv => lhs; cbv) (by kernel_rfl)
def PartsS (d : Nat) (k : Tr) (q : Int) : Prop := (TOk d k ∧ tparts k ≤ 120 ∧ q = tparts k) ∨ (¬ (TOk d k ∧ tparts k ≤ 120) ∧ q = -1)
def inv124 (d : Nat) (s n : Int) (x : ByteArray) (ns : List ByteArray) (ks : List Tr) (i : Nat) (σ : St) : Prop :=
  (∀ j k, j < i → ks[j]? = some k → TOk (d + 1) k) ∧ tpartsL (ks.take i) ≤ 119 ∧ σ.t 1 = .i d ∧ σ.t 5 = .i ((1 + tpartsL (ks.take i) : Nat) : Int) ∧ σ.t 6 = .i i ∧
  ∃ u, σ.t 2 = .c (.ptr 2 u 0) ∧ σ.H 2 = some (.var u 118 [.v (.s (.int .i64 s)), .v (.s (.int .i64 n)), .v (.s (.string x)), .v (.sl (encS ns)), .v (.sl (encTs ks))])
theorem partsS_ok : ∀ (k : Tr), TB 2000000 k → ∀ d : Nat, d ≤ 100 → ∃ q, PartsS d k q ∧ ACallsF Tryz.prog 124 [tT k, .i d] [] (.i q) := by
  intro k
  induction k using Tr.ind with
  | _ s n x ns ks ih =>
    intro hB d hd
    obtain ⟨hB0, hB1, hB2, hB3, hB4⟩ := hB.inv
    have hq : ∃ q, PartsS d (.mk s n x ns ks) q := by
      by_cases h : TOk d (.mk s n x ns ks) ∧ tparts (.mk s n x ns ks) ≤ 120
      · exact ⟨_, .inl ⟨h.1, h.2, rfl⟩⟩
      · exact ⟨_, .inr ⟨h, rfl⟩⟩
    obtain ⟨q, hq⟩ := hq
    refine ⟨q, hq, ACallsF.intro ok124 follows fun X c0 => ?_⟩
    have hno : ¬ (TOk d (.mk s n x ns ks) ∧ tparts (.mk s n x ns ks) ≤ 120) → q = -1 := fun h => by
      rcases hq with ⟨h1, h2, _⟩ | ⟨_, h⟩
      · exact absurd ⟨h1, h2⟩ h
      · exact h
    by_cases hd6 : (d : Int) > 6
    · have hm := hno fun h => by have := h.1.inv.1; omega
      simp only [go_sem, encT_mk, encTs_len, hd6, hm]
    have hCs := alone_ok s n x ns ks hB0 ⟨hB1, hB2⟩ hB3
    simp only [tT, encT_mk, List.map_cons, List.map_nil] at hCs
    simp only [go_sem, encT_mk, encTs_len, hd6]
    refine callC hCs rfl rfl (by simp [closedA, closedP, closedC]) rfl ?_
    cases hsh : tshape s n x ns ks.length with
    | false =>
      have hm := hno fun h => by have := h.1.inv.2.1; rw [hsh] at this; cases this
      simp only [go_sem, hm]
    | true =>
      simp only [go_sem]
      refine AW.upto ks.length (inv124 d s n x ns ks) ⟨fun j _ hj => absurd hj (Nat.not_lt_zero j), by simp [tpartsL], rfl, by simp [tpartsL]; rfl, rfl, ⟨_, rfl, rfl⟩⟩ fun i t H c hi h => ?_
      obtain ⟨g0, g1, e1, e5, e6, ⟨u2, e2, eH⟩⟩ := h
      simp only [T.c, T.i] at e1 e5 e6 e2 eH
      by_cases hlt : i < ks.length
      · have k1 : (i : Int) < ks.length := by omega
        have gz : (0 : Int) ≤ i := by omega
        have gw : IntKind.i64.wrap ((i : Int) + 1) = ((i + 1 : Nat) : Int) := wrap64 (x := (i : Int) + 1) ⟨by omega, by omega⟩
        have gd : IntKind.i64.wrap ((d : Int) + 1) = ((d + 1 : Nat) : Int) := wrap64 (x := (d : Int) + 1) ⟨by omega, by omega⟩
        obtain ⟨kd, hk⟩ : ∃ kd, ks[i]? = some kd := ⟨_, List.getElem?_eq_getElem hlt⟩
        have hmem := List.mem_of_getElem? hk
        have ek := encTs_at hk
        obtain ⟨y, hy, hC⟩ := ih kd hmem (hB4 kd hmem) (d + 1) (by omega)
        have htake : tpartsL (ks.take (i + 1)) = tpartsL (ks.take i) + tparts kd := by
          rw [List.take_add_one, hk]; exact tpartsL_snoc _ _
        have hle := tpartsL_take_le ks (i + 1)
        have hpos := tparts_pos kd
        simp only [go_sem, e1, e2, eH, e6, encTs_len, k1, gz, ek, Int.toNat_natCast, List.length_map, encT_len, takeT, Nat.le_refl, gd]
        refine callC hC rfl rfl (by simp [closedA, closedP, closedC]) rfl ?_
        rcases hy with ⟨x1, x2, rfl⟩ | ⟨x1, rfl⟩
        · have k2 : ¬ (tparts kd : Int) < 0 := by omega
          by_cases k3 : ((1 + tpartsL (ks.take i) : Nat) : Int) + (tparts kd : Int) > 120
          · have hm := hno fun h => by have := h.2; simp only [tparts] at this; omega
            have kw : IntKind.i64.wrap (((1 + tpartsL (ks.take i) : Nat) : Int) + (tparts kd : Int)) = ((1 + tpartsL (ks.take i) : Nat) : Int) + (tparts kd : Int) := wrap64 ⟨by omega, by omega⟩
            simp only [go_sem, e5, k2, kw, k3, hm]
          · have kw : IntKind.i64.wrap (((1 + tpartsL (ks.take i) : Nat) : Int) + (tparts kd : Int)) = ((1 + tpartsL (ks.take (i + 1)) : Nat) : Int) := (wrap64 (x := ((1 + tpartsL (ks.take i) : Nat) : Int) + (tparts kd : Int)) ⟨by omega, by omega⟩).trans (by rw [htake]; omega)
            have k4 : ¬ ((1 + tpartsL (ks.take (i + 1)) : Nat) : Int) > 120 := by rw [htake]; omega
            simp only [go_sem, e5, e6, k2, kw, k4, gw]
            exact ⟨hlt, fun j k hj hj2 => by
              rcases Nat.lt_succ_iff_lt_or_eq.1 hj with hj | rfl
              · exact g0 j k hj hj2
              · rw [hk] at hj2; cases hj2; exact x1, by rw [htake]; omega, e1, rfl, rfl, ⟨u2, e2, eH⟩⟩
        · have hm := hno fun h => x1 ⟨h.1.inv.2.2 kd hmem, by have := h.2; simp only [tparts] at this; have := tpartsL_mem hmem; omega⟩
          have k2 : (-1 : Int) < 0 := by omega
          simp only [go_sem, k2, hm]
      · have hi2 : i = ks.length := by omega
        subst hi2
        have k1 : ¬ ((ks.length : Nat) : Int) < ks.length := by omega
        rw [List.take_length] at g1 e5
        have hm : q = ((1 + tpartsL ks : Nat) : Int) := by
          rcases hq with ⟨_, _, h⟩ | ⟨h, _⟩
          · rw [h]; simp [tparts]
          · refine absurd ⟨.mk _ _ _ _ _ _ (by omega) hsh fun k hk => ?_, by simp only [tparts]; omega⟩ h
            obtain ⟨j, hj⟩ := List.getElem?_of_mem hk
            exact g0 j k (List.getElem?_eq_some_iff.1 hj).1 hj
        simp only [go_sem, e2, eH, e5, e6, encTs_len, k1, hm]
def ok110 := okF.gu (P := Tryz.prog) tab Tryz.func110 Tryz.ntmps110 (by conv => lhs; cbv) (by kernel_rfl)
theorem treeOkS_ok (t : Tr) (hB : TB 2000000 t) : ACallsF Tryz.prog 110 [tT t] [] (.b (okT t)) := by
  obtain ⟨q, hq, hC⟩ := partsS_ok t hB 1 (by omega)
  refine ACallsF.intro ok110 follows fun X c0 => ?_
  have e1 : ((1 : Nat) : Int) = 1 := rfl
  rw [e1] at hC
  simp only [go_sem, List.length_map, encT_len, takeT, Nat.le_refl]
  refine callC hC rfl rfl (by simp [closedA, closedP, closedC]) rfl ?_
  rcases hq with ⟨h1, h2, rfl⟩ | ⟨h1, rfl⟩
  · have hm : okT t = true := okT_true.2 ⟨h1, h2⟩
    have k1 : (tparts t : Int) > 0 := by have := tparts_pos t; omega
    simp only [go_sem, hm, k1]
  · have hm : okT t = false := okT_false.2 h1
    have k1 : ¬ (-1 : Int) > 0 := by omega
    simp only [go_sem, hm, k1]
end Go.V
set_option linter.unusedSimpArgs false
namespace Go.V
open Go.Proofs
/-! Bytes of trees, events and records. -/
def byt (n : Int) : UInt8 := UInt8.ofNat (n % 256).toNat
theorem byt_nat {n : Nat} (h : n ≤ 255) : (byt n).toNat = n := by
  have e : ((n : Int) % 256).toNat = n := by omega
  rw [byt, e, UInt8.toNat_ofNat']; omega
theorem byt_lt (b : UInt8) : b.toNat ≤ 255 := by have := b.toNat_lt; omega
def pkX (s : ByteArray) : List UInt8 := byt s.size :: s.data.toList
/-- So many bytes of a size say that it goes on. -/
def lebN (n : Nat) : Nat := if n < 128 then 0 else if n < 16384 then 1 else if n < 2097152 then 2 else if n < 268435456 then 3 else 4
def lebB (n j : Nat) : UInt8 := byt ((n / 128 ^ j % 128 + 128 : Nat) : Int)
def pkL (n : Nat) : List UInt8 := (List.range (lebN n)).map (lebB n) ++ [byt ((n / 128 ^ lebN n : Nat) : Int)]
def pkN (n : Int) : List UInt8 := byt (if n < 0 then 1 else 0) :: pkL n.natAbs
mutual
def pkT : Tr → List UInt8
  | .mk s n x ns ks => byt s :: (if s = 1 then pkN n else if s = 2 then pkX x else if s = 3 then [byt n] else byt ks.length :: pkK (decide (s = 5)) ns ks)
def pkK (f5 : Bool) : List ByteArray → List Tr → List UInt8
  | _, [] => []
  | ns, k :: ks => (if f5 then pkX (ns.headD ⟨#[]⟩) else []) ++ (pkT k ++ pkK f5 ns.tail ks)
end
theorem pkT_mk (s n : Int) (x : ByteArray) (ns : List ByteArray) (ks : List Tr) : pkT (.mk s n x ns ks) = byt s :: (if s = 1 then pkN n else if s = 2 then pkX x else if s = 3 then [byt n] else byt ks.length :: pkK (decide (s = 5)) ns ks) := by rw [pkT]
theorem pkK_nil (f5 : Bool) (ns : List ByteArray) : pkK f5 ns [] = [] := by rw [pkK]
theorem pkK_cons (f5 : Bool) (ns : List ByteArray) (k : Tr) (ks : List Tr) : pkK f5 ns (k :: ks) = (if f5 then pkX (ns.headD ⟨#[]⟩) else []) ++ (pkT k ++ pkK f5 ns.tail ks) := by rw [pkK]
theorem pkK_snoc (f5 : Bool) : ∀ (ks : List Tr) (ns : List ByteArray) (i : Nat) (k : Tr) (x : ByteArray), ks[i]? = some k → (f5 = true → ns[i]? = some x) → pkK f5 ns (ks.take (i + 1)) = pkK f5 ns (ks.take i) ++ ((if f5 then pkX x else []) ++ pkT k)
  | [], _, _, _, _, h, _ => by simp at h
  | k0 :: ks, ns, 0, k, x, h, hx => by
    simp only [List.getElem?_cons_zero, Option.some.injEq] at h
    subst h
    simp only [Nat.zero_add, List.take_succ_cons, List.take_zero, pkK_cons, pkK_nil, List.append_nil, List.nil_append]
    cases f5 with
    | false => rfl
    | true =>
      have := hx rfl
      cases ns with
      | nil => simp at this
      | cons n ns => simp only [List.getElem?_cons_zero, Option.some.injEq] at this; subst this; rfl
  | k0 :: ks, ns, i + 1, k, x, h, hx => by
    simp only [List.getElem?_cons_succ] at h
    have hx' : f5 = true → ns.tail[i]? = some x := fun h => by
      have := hx h
      cases ns with
      | nil => simp at this
      | cons n ns => simpa using this
    have ih := pkK_snoc f5 ks ns.tail i k x h hx'
    simp only [List.take_succ_cons, pkK_cons] at ih ⊢
    rw [ih]
    simp only [List.append_assoc]
/-- A reader of bytes. -/
structure Rd (σ : Type) where
  fail : σ → Bool
  one : σ → Nat × σ
  text : σ → ByteArray × σ
  num : σ → Int × σ
  bad : σ → σ
structure KSt (σ : Type) where
  ns : List ByteArray
  ks : List Tr
  p : σ
section
variable {σ : Type} (R : Rd σ)
def kdS (g : σ → Tr × σ) (f5 : Bool) (x : KSt σ) : KSt σ :=
  if R.fail x.p = true then x else
    if f5 then ⟨x.ns ++ [(R.text x.p).1], x.ks ++ [(g (R.text x.p).2).1], (g (R.text x.p).2).2⟩ else ⟨x.ns, x.ks ++ [(g x.p).1], (g x.p).2⟩
def kdF (g : σ → Tr × σ) (f5 : Bool) : Nat → KSt σ → KSt σ
  | 0, x => x
  | n + 1, x => kdF g f5 n (kdS R g f5 x)
/-- A tree, so deep at most. -/
def trF : Nat → σ → Tr × σ
  | 0, p => (.mk (R.one p).1 0 ⟨#[]⟩ [] [], R.bad (R.one p).2)
  | f + 1, p => if R.fail (R.one p).2 = true then (.mk (R.one p).1 0 ⟨#[]⟩ [] [], R.bad (R.one p).2)
    else if (R.one p).1 = 1 then (.mk 1 (R.num (R.one p).2).1 ⟨#[]⟩ [] [], (R.num (R.one p).2).2)
    else if (R.one p).1 = 2 then (.mk 2 0 (R.text (R.one p).2).1 [] [], (R.text (R.one p).2).2)
    else if (R.one p).1 = 3 then (.mk 3 (R.one (R.one p).2).1 ⟨#[]⟩ [] [], (R.one (R.one p).2).2)
    else (.mk (R.one p).1 0 ⟨#[]⟩ (kdF R (trF f) (decide ((R.one p).1 = 5)) (R.one (R.one p).2).1 ⟨[], [], (R.one (R.one p).2).2⟩).ns (kdF R (trF f) (decide ((R.one p).1 = 5)) (R.one (R.one p).2).1 ⟨[], [], (R.one (R.one p).2).2⟩).ks, (kdF R (trF f) (decide ((R.one p).1 = 5)) (R.one (R.one p).2).1 ⟨[], [], (R.one (R.one p).2).2⟩).p)
theorem kdF_snoc (g : σ → Tr × σ) (f5 : Bool) : ∀ (n : Nat) (x : KSt σ), kdF R g f5 (n + 1) x = kdS R g f5 (kdF R g f5 n x)
  | 0, _ => rfl
  | n + 1, x => by rw [kdF, kdF_snoc g f5 n, ← kdF]
theorem kdF_fail (g : σ → Tr × σ) (f5 : Bool) {i : Nat} {x : KSt σ} (h : R.fail (kdF R g f5 i x).p = true) : ∀ j, kdF R g f5 (i + j) x = kdF R g f5 i x
  | 0 => rfl
  | j + 1 => by
    have ih := kdF_fail g f5 h j
    rw [← Nat.add_assoc, kdF_snoc, ih, kdS, if_pos h]
theorem kdF_len (g : σ → Tr × σ) (f5 : Bool) (x : KSt σ) : ∀ n, (kdF R g f5 n x).ks.length ≤ x.ks.length + n ∧ (kdF R g f5 n x).ns.length ≤ x.ns.length + n
  | 0 => by simp [kdF]
  | n + 1 => by
    have ih := kdF_len g f5 x n
    rw [kdF_snoc, kdS]
    split
    · omega
    · split
      · simp only [List.length_append, List.length_singleton]; omega
      · simp only [List.length_append, List.length_singleton]; omega
/-- What a reader's parts owe. -/
structure RdB : Prop where
  one : ∀ p, (R.one p).1 ≤ 255
  text : ∀ p, (R.text p).1.size ≤ 255
theorem kdF_TB (hR : RdB R) (g : σ → Tr × σ) (hg : ∀ p, TB 300 (g p).1) (f5 : Bool) (x : KSt σ) (h1 : ∀ s ∈ x.ns, s.size ≤ 300) (h2 : ∀ k ∈ x.ks, TB 300 k) : ∀ n, (∀ s ∈ (kdF R g f5 n x).ns, s.size ≤ 300) ∧ ∀ k ∈ (kdF R g f5 n x).ks, TB 300 k
  | 0 => ⟨h1, h2⟩
  | n + 1 => by
    obtain ⟨i1, i2⟩ := kdF_TB hR g hg f5 x h1 h2 n
    rw [kdF_snoc, kdS]
    have ht : ∀ p, (R.text p).1.size ≤ 300 := fun p => by have := hR.text p; omega
    split
    · exact ⟨i1, i2⟩
    · split
      · refine ⟨fun s hs => ?_, fun k hk => ?_⟩
        · rcases List.mem_append.1 hs with h | h
          · exact i1 s h
          · rw [List.mem_singleton.1 h]; exact ht _
        · rcases List.mem_append.1 hk with h | h
          · exact i2 k h
          · rw [List.mem_singleton.1 h]; exact hg _
      · refine ⟨i1, fun k hk => ?_⟩
        rcases List.mem_append.1 hk with h | h
        · exact i2 k h
        · rw [List.mem_singleton.1 h]; exact hg _
theorem leafTB (s n : Int) (x : ByteArray) (h : x.size ≤ 255) : TB 300 (.mk s n x [] []) := .mk _ _ _ _ _ (by omega) (by simp) (by simp) (fun _ h => by cases h) fun _ h => by cases h
theorem trF_TB (hR : RdB R) : ∀ f p, TB 300 (trF R f p).1
  | 0, p => leafTB _ _ _ (by simp [ByteArray.size])
  | f + 1, p => by
    rw [trF]
    split
    · exact leafTB _ _ _ (by simp [ByteArray.size])
    split
    · exact leafTB _ _ _ (by simp [ByteArray.size])
    split
    · exact leafTB _ _ _ (hR.text _)
    split
    · exact leafTB _ _ _ (by simp [ByteArray.size])
    · have hb := kdF_TB R hR (trF R f) (trF_TB hR f) (decide ((R.one p).1 = 5)) ⟨[], [], (R.one (R.one p).2).2⟩ (fun _ h => by cases h) (fun _ h => by cases h) (R.one (R.one p).2).1
      have hl := kdF_len R (trF R f) (decide ((R.one p).1 = 5)) ⟨[], [], (R.one (R.one p).2).2⟩ (R.one (R.one p).2).1
      have := hR.one (R.one p).2
      simp only [List.length_nil, Nat.zero_add] at hl
      exact .mk _ _ _ _ _ (by simp [ByteArray.size]) (by omega) (by omega) hb.1 hb.2
/-- What a reader does where bytes lie. -/
structure RdOk (Has : σ → List UInt8 → Prop) : Prop where
  fail : ∀ {p l}, Has p l → R.fail p = false
  one : ∀ {p b l}, Has p (b :: l) → (R.one p).1 = b.toNat ∧ Has (R.one p).2 l
  text : ∀ {p} {x : ByteArray} {l}, x.size ≤ 255 → Has p (pkX x ++ l) → (R.text p).1 = x ∧ Has (R.text p).2 l
  num : ∀ {p} {n : Int} {l}, -999999999 ≤ n → n ≤ 999999999 → Has p (pkN n ++ l) → (R.num p).1 = n ∧ Has (R.num p).2 l
theorem kdF_ok {R : Rd σ} {Has : σ → List UInt8 → Prop} (hR : RdOk R Has) (g : σ → Tr × σ) (f5 : Bool) : ∀ (ks : List Tr) (ns ns0 : List ByteArray) (ks0 : List Tr) (p : σ) (l : List UInt8), (f5 = true → ns.length = ks.length) → (∀ x ∈ ns, x.size ≤ 255) →
    (∀ k ∈ ks, ∀ p l, Has p (pkT k ++ l) → (g p).1 = k ∧ Has (g p).2 l) → Has p (pkK f5 ns ks ++ l) →
    (kdF R g f5 ks.length ⟨ns0, ks0, p⟩).ns = ns0 ++ (if f5 then ns else []) ∧ (kdF R g f5 ks.length ⟨ns0, ks0, p⟩).ks = ks0 ++ ks ∧ Has (kdF R g f5 ks.length ⟨ns0, ks0, p⟩).p l
  | [], ns, ns0, ks0, p, l, hl, _, _, h => by
    rw [pkK_nil] at h
    refine ⟨?_, by simp [kdF], h⟩
    cases f5 with
    | false => simp [kdF]
    | true =>
      have := List.length_eq_zero_iff.1 (hl rfl)
      subst this
      simp [kdF]
  | k :: ks, ns, ns0, ks0, p, l, hl, hx, hg, h => by
    rw [pkK_cons] at h
    rw [List.length_cons, kdF, kdS, if_neg (by rw [hR.fail h]; decide)]
    cases f5 with
    | false =>
      simp only [Bool.false_eq_true, if_false, List.nil_append, List.append_assoc] at h ⊢
      obtain ⟨h1, h2⟩ := hg k (by simp) p _ h
      obtain ⟨i1, i2, i3⟩ := kdF_ok hR g false ks ns.tail ns0 (ks0 ++ [(g p).1]) (g p).2 l (fun h => by cases h) (fun x hm => hx x (List.mem_of_mem_tail hm)) (fun k hk => hg k (by simp [hk])) h2
      simp only [Bool.false_eq_true, if_false] at i1
      exact ⟨i1, by rw [i2, h1]; simp, i3⟩
    | true =>
      cases ns with
      | nil => have := hl rfl; simp at this
      | cons n ns =>
        simp only [if_true, List.headD_cons, List.tail_cons, List.append_assoc] at h ⊢
        obtain ⟨t1, t2⟩ := hR.text (hx n (by simp)) h
        obtain ⟨h1, h2⟩ := hg k (by simp) _ _ t2
        obtain ⟨i1, i2, i3⟩ := kdF_ok hR g true ks ns (ns0 ++ [(R.text p).1]) (ks0 ++ [(g (R.text p).2).1]) (g (R.text p).2).2 l (fun _ => by have := hl rfl; simpa using this) (fun x hm => hx x (by simp [hm])) (fun k hk => hg k (by simp [hk])) h2
        refine ⟨by rw [i1, t1]; simp, by rw [i2, h1]; simp, i3⟩
theorem tpartsL_len (ks : List Tr) : ks.length ≤ tpartsL ks := by
  induction ks with
  | nil => simp [tpartsL]
  | cons k ks ih => simp only [tpartsL, List.length_cons]; have := tparts_pos k; omega
theorem nameOk_size {s : ByteArray} (h : nameOk s = true) : s.size ≤ 8 := by
  simp only [nameOk, Bool.and_eq_true, decide_eq_true_eq] at h
  exact h.1.1.2
/-- What a tree's shape says of each sort. -/
theorem shape_cases {s n : Int} {x : ByteArray} {ns : List ByteArray} {m : Nat} (h : tshape s n x ns m = true) :
    (s = 1 ∧ -999999999 ≤ n ∧ n ≤ 999999999 ∧ x = ⟨#[]⟩ ∧ ns = [] ∧ m = 0) ∨ (s = 2 ∧ n = 0 ∧ x.size ≤ 60 ∧ ns = [] ∧ m = 0) ∨ (s = 3 ∧ 0 ≤ n ∧ n ≤ 1 ∧ x = ⟨#[]⟩ ∧ ns = [] ∧ m = 0) ∨
    (s = 4 ∧ n = 0 ∧ x = ⟨#[]⟩ ∧ ns = []) ∨ (s = 5 ∧ n = 0 ∧ x = ⟨#[]⟩ ∧ (∀ y ∈ ns, y.size ≤ 8) ∧ ns.length = m) ∨ (s = 6 ∧ n = 0 ∧ x = ⟨#[]⟩ ∧ ns = []) := by
  have z : ∀ a b : Nat, ((a : Int) + (b : Int) == 0) = true → a = 0 ∧ b = 0 := fun a b h => by have := beq_iff_eq.1 h; omega
  have z1 : ∀ a : Nat, ((a : Int) == 0) = true → a = 0 := fun a h => by have := beq_iff_eq.1 h; omega
  unfold tshape at h
  by_cases h1 : s = 1
  · rw [if_pos h1] at h
    simp only [Bool.and_eq_true, decide_eq_true_eq] at h
    obtain ⟨z2, z3⟩ := z _ _ h.2.2
    exact .inl ⟨h1, h.1.1, h.1.2, h.2.1, List.length_eq_zero_iff.1 z2, z3⟩
  rw [if_neg h1] at h
  by_cases h2 : s = 2
  · rw [if_pos h2] at h
    simp only [Bool.and_eq_true, beq_iff_eq] at h
    obtain ⟨z2, z3⟩ := z _ _ (beq_iff_eq.2 h.2.2)
    exact .inr (.inl ⟨h2, h.1, (textOk_true.1 h.2.1).2, List.length_eq_zero_iff.1 z2, z3⟩)
  rw [if_neg h2] at h
  by_cases h3 : s = 3
  · rw [if_pos h3] at h
    simp only [Bool.and_eq_true, decide_eq_true_eq] at h
    obtain ⟨z2, z3⟩ := z _ _ h.2.2
    exact .inr (.inr (.inl ⟨h3, h.1.1, h.1.2, h.2.1, List.length_eq_zero_iff.1 z2, z3⟩))
  rw [if_neg h3] at h
  by_cases h4 : s = 4
  · rw [if_pos h4] at h
    simp only [Bool.and_eq_true, beq_iff_eq, decide_eq_true_eq] at h
    exact .inr (.inr (.inr (.inl ⟨h4, h.1, h.2.1, List.length_eq_zero_iff.1 (by have := h.2.2.1; omega)⟩)))
  rw [if_neg h4] at h
  by_cases h5 : s = 5
  · rw [if_pos h5] at h
    simp only [Bool.and_eq_true, beq_iff_eq, decide_eq_true_eq] at h
    refine .inr (.inr (.inr (.inr (.inl ⟨h5, h.1, h.2.1, fun y hy => ?_, by have := h.2.2.2; omega⟩))))
    obtain ⟨i, hi⟩ := List.getElem?_of_mem hy
    exact nameOk_size (rise_true.1 h.2.2.1 i y hi).1
  rw [if_neg h5] at h
  by_cases h6 : s = 6
  · rw [if_pos h6] at h
    simp only [Bool.and_eq_true, beq_iff_eq, decide_eq_true_eq] at h
    exact .inr (.inr (.inr (.inr (.inr ⟨h6, h.1, h.2.1, List.length_eq_zero_iff.1 (by have := h.2.2.1; omega)⟩))))
  rw [if_neg h6] at h
  cases h
/-- A tree that is ok is read back from its bytes. -/
theorem trF_ok {R : Rd σ} {Has : σ → List UInt8 → Prop} (hR : RdOk R Has) : ∀ (t : Tr) (f d : Nat), f + d = 7 → TOk d t → tparts t ≤ 255 → ∀ p l, Has p (pkT t ++ l) → (trF R f p).1 = t ∧ Has (trF R f p).2 l := by
  intro t
  induction t using Tr.ind with
  | _ s n x ns ks ih =>
    intro f d hf hT hp p l h
    obtain ⟨hd, hsh, hk⟩ := hT.inv
    cases f with
    | zero => omega
    | succ f =>
      simp only [tparts] at hp
      have hkl := tpartsL_len ks
      rw [pkT_mk, List.cons_append] at h
      obtain ⟨o1, o2⟩ := hR.one h
      rw [trF, if_neg (by rw [hR.fail o2]; decide)]
      have hs : 1 ≤ s ∧ s ≤ 6 := by rcases shape_cases hsh with h | h | h | h | h | h <;> omega
      obtain ⟨s', rfl⟩ : ∃ m : Nat, s = m := ⟨s.toNat, by omega⟩
      rw [byt_nat (by omega)] at o1
      rcases shape_cases hsh with ⟨e, a1, a2, rfl, rfl, a3⟩ | ⟨e, rfl, a1, rfl, a3⟩ | ⟨e, a1, a2, rfl, rfl, a3⟩ | ⟨e, rfl, rfl, rfl⟩ | ⟨e, rfl, rfl, a1, a2⟩ | ⟨e, rfl, rfl, rfl⟩
      · obtain rfl : s' = 1 := by omega
        obtain rfl := List.length_eq_zero_iff.1 a3
        rw [if_pos o1]
        simp only [Int.natCast_one, if_true] at o2
        obtain ⟨q1, q2⟩ := hR.num a1 a2 o2
        exact ⟨by rw [q1]; rfl, q2⟩
      · obtain rfl : s' = 2 := by omega
        obtain rfl := List.length_eq_zero_iff.1 a3
        rw [if_neg (by omega), if_pos o1]
        have o2 : Has (R.one p).2 (pkX x ++ l) := o2
        obtain ⟨q1, q2⟩ := hR.text (by omega) o2
        exact ⟨by rw [q1]; rfl, q2⟩
      · obtain rfl : s' = 3 := by omega
        obtain rfl := List.length_eq_zero_iff.1 a3
        rw [if_neg (by omega), if_neg (by omega), if_pos o1]
        have o2 : Has (R.one p).2 (byt n :: l) := o2
        obtain ⟨q1, q2⟩ := hR.one o2
        obtain ⟨n', rfl⟩ : ∃ m : Nat, n = m := ⟨n.toNat, by omega⟩
        rw [byt_nat (by omega)] at q1
        exact ⟨by rw [q1]; rfl, q2⟩
      all_goals
        rw [if_neg (by omega), if_neg (by omega), if_neg (by omega)]
        rw [if_neg (by omega), if_neg (by omega), if_neg (by omega), List.cons_append] at o2
        obtain ⟨q1, q2⟩ := hR.one o2
        rw [byt_nat (by omega)] at q1
        have hg : ∀ k ∈ ks, ∀ p l, Has p (pkT k ++ l) → (trF R f p).1 = k ∧ Has (trF R f p).2 l := fun k hm => ih k hm f (d + 1) (by omega) (hk k hm) (by have := tpartsL_mem hm; omega)
        rw [q1, o1]
        obtain rfl : s' = _ := Int.ofNat.inj e
      · obtain ⟨i1, i2, i3⟩ := kdF_ok hR (trF R f) false ks [] [] [] (R.one (R.one p).2).2 l (fun h => by cases h) (fun _ h => by cases h) hg q2
        simp only [List.nil_append, Bool.false_eq_true, if_false] at i1 i2
        exact ⟨by show Tr.mk _ _ _ (kdF R (trF R f) false _ _).ns (kdF R (trF R f) false _ _).ks = _; rw [i1, i2], i3⟩
      · obtain ⟨i1, i2, i3⟩ := kdF_ok hR (trF R f) true ks ns [] [] (R.one (R.one p).2).2 l (fun _ => a2) (fun y hy => by have := a1 y hy; omega) hg q2
        simp only [List.nil_append, if_true] at i1 i2
        exact ⟨by show Tr.mk _ _ _ (kdF R (trF R f) true _ _).ns (kdF R (trF R f) true _ _).ks = _; rw [i1, i2], i3⟩
      · obtain ⟨i1, i2, i3⟩ := kdF_ok hR (trF R f) false ks [] [] [] (R.one (R.one p).2).2 l (fun h => by cases h) (fun _ h => by cases h) hg q2
        simp only [List.nil_append, Bool.false_eq_true, if_false] at i1 i2
        exact ⟨by show Tr.mk _ _ _ (kdF R (trF R f) false _ _).ns (kdF R (trF R f) false _ _).ks = _; rw [i1, i2], i3⟩
end
end Go.V
set_option linter.unusedSimpArgs false
set_option maxRecDepth 20000
namespace Go.V
open Go.Proofs
/-- A loop with a measure that goes down. -/
theorem AW.loopM {P : Program} {X : Ctx} {Q : Exit → St → Prop} {σ0 : St} {x : ACode} {ι : Type} (I : ι → St → Prop) (μ : ι → Nat) (i0 : ι) (h0 : I i0 σ0)
    (round : ∀ i σ, I i σ → oneW P X x (thenA (fun σ' => ∃ i', μ i' < μ i ∧ I i' σ') Q) σ) : oneW P X (.loop x) Q σ0 := by
  have key : ∀ k i σ, μ i ≤ k → I i σ → ∃ m e s, Q e s ∧ LTr P x e s m σ := by
    intro k
    induction k with
    | zero =>
      intro i σ hk hI
      obtain ⟨e, s, h1, h2⟩ := round i σ hI
      cases e with
      | normal => obtain ⟨i', h3, _⟩ := (show ∃ i', μ i' < μ i ∧ I i' s from h1); omega
      | _ => exact ⟨0, _, s, h1, .stop σ (by simp) h2⟩
    | succ k ih =>
      intro i σ hk hI
      obtain ⟨e, s, h1, h2⟩ := round i σ hI
      cases e with
      | normal =>
        obtain ⟨i', h3, h4⟩ := (show ∃ i', μ i' < μ i ∧ I i' s from h1)
        obtain ⟨m, e2, s2, h5, h6⟩ := ih i' s (by omega) h4
        exact ⟨m + 1, e2, s2, h5, .go m σ s h2 h6⟩
      | _ => exact ⟨0, _, s, h1, .stop σ (by simp) h2⟩
  obtain ⟨m, e, s, h1, h2⟩ := key _ i0 _ (Nat.le_refl _) h0
  exact ⟨e, s, h1, fun X => h2.aw X⟩
section
variable {P : Program} {t : Nat → T} {H : HMap} {c : Nat} {f : Opd} {args : List Opd} {fid : FuncId} {n m v : Nat} {ty : TypeId} {xs ys : List V} {argsC : List T} {r r' : T} {k : Nat} {d : Option Nat} {un : List Nat} {l : List AOper} {prev : List (Nat × List Nat × List Nat)} {K : St → Prop}
/-- A call that hands on a variable by a pointer to it, ahead of closed values. -/
theorem callQ (hC : ACallsF P fid (.c (.ptr n v 0) :: argsC) [⟨n, m, some (.var v ty (xs.map .v)), .var v ty (ys.map .v), true⟩] r) (hf : ev t f = .pt (.one (.fn fid []))) (hl : args.map (ev t) = .c (.ptr m v 0) :: argsC)
    (ha : argsC.all closedA = true) (hr : closedT r = true) (hH : H m = some (.var v ty (xs.map .v)))
    (hk : chk prev un ⟨r, [(m, .var v ty (ys.map .v))], [m], [m]⟩ = true ∧ DRun P l ((k, [m], [m]) :: prev) K ⟨updD t d r, upd H m (some (.var v ty (ys.map .v))), c⟩) :
    step P k d un (.call f args) l prev K t H c := by
  let hs : List Hand := [⟨n, m, some (.var v ty (xs.map .v)), .var v ty (ys.map .v), true⟩]
  have hcl : ∀ xs : List V, (xs.map C.v).all closedC = true := by intro xs; simp [closedC]
  have hN : renN hs n = some ⟨n, m, some (.var v ty (xs.map .v)), .var v ty (ys.map .v), true⟩ := by simp [hs, renN]
  have hI : inN hs n = some m := by simp [inN, hN]
  refine callW (caps := []) (ws := []) (ns := []) («as» := .c (.ptr m v 0) :: argsC) hs hC hf ?_ ?_ ⟨?_, trivial⟩ (by simp [hs]) (by simp [hs]) (closed_T hs r hr _) (ob := [(m, .var v ty (ys.map .v))]) ?_ ?_
  · rw [hl]
    simp only [List.map_nil, T.c, lendTs, lendT, lendC, Option.map_some, List.append_nil, (closed_As hs H argsC ha).1]
  · simp only [List.map_nil, List.append_nil, T.c, renITs, renIT, renI, hI, Option.map_some, (closed_As hs H argsC ha).2]
  · simp only [renIB, (closed_Cs hs H (xs.map .v) (hcl _)).2.1, Option.map_some]
    exact hH
  · simp only [hs, renOBs, renOB, verOf, Blk.ver]
    rw [(closed_Cs _ H (ys.map .v) (hcl _)).2.2]
    rfl
  · have hq : quiet r hs = false := by simp [quiet, hs]
    simpa [hq, hs, updH] using hk
end
def encB (bs : List UInt8) : List (List V) := bs.map fun b => [.s (.int .u8 b.toNat)]
theorem eBs_enc (s : ByteArray) : eBs s = encB s.data.toList := rfl
theorem encB_len (bs : List UInt8) : (encB bs).length = bs.length := by simp [encB]
theorem encB_at {bs : List UInt8} {i : Nat} {b : UInt8} (h : bs[i]? = some b) : (encB bs)[i]? = some [.s (.int .u8 b.toNat)] := by simp [encB, h]
theorem encB_app (a b : List UInt8) : encB (a ++ b) = encB a ++ encB b := by simp [encB]
theorem encB_one (b : UInt8) : encB [b] = [[.s (.int .u8 b.toNat)]] := rfl
theorem encB_nil : encB [] = [] := rfl
theorem encB_take (a : List UInt8) (n : Nat) : (encB a).take n = encB (a.take n) := by simp [encB, List.map_take]
theorem encB_drop (a : List UInt8) (n : Nat) : (encB a).drop n = encB (a.drop n) := by simp [encB, List.map_drop]
theorem encB_all1 (bs : List UInt8) : (∀ e ∈ encB bs, e.length = 1) = True := eq_true fun e he => by simp only [encB, List.mem_map] at he; obtain ⟨_, _, rfl⟩ := he; rfl
theorem encB_flat (bs : List UInt8) : ((encB bs).all fun e => e.all flatV) = true := by simp [encB, flatV]
theorem bytesOf_enc : ∀ bs : List UInt8, bytesOf (encB bs) = some (bs.map fun b => (b.toNat : Int))
  | [] => rfl
  | b :: bs => by
    have ih := bytesOf_enc bs
    simp only [encB, List.map_cons] at ih ⊢
    simp only [bytesOf, ih, Option.map_some]
theorem pushB_fold (r : ByteArray) : ∀ bs : List UInt8, (bs.map fun b => (b.toNat : Int)).foldl (fun r n => r.push (UInt8.ofNat n.toNat)) r = ⟨r.data ++ bs.toArray⟩
  | [] => by simp
  | b :: bs => by
    rw [List.map_cons, List.foldl_cons, pushB_fold _ bs]
    simp [ByteArray.push]
theorem pushB_enc (bs : List UInt8) : pushB (bs.map fun b => (b.toNat : Int)) = ofL bs := by
  rw [pushB, pushB_fold]
  simp [ofL, ByteArray.empty, ByteArray.emptyWithCapacity]; try rfl
theorem wrapb (n : Int) : IntKind.u8.wrap n = ((byt n).toNat : Int) := by
  have h : (byt n).toNat = (n % 256).toNat := by
    rw [byt, UInt8.toNat_ofNat']; omega
  rw [h]
  have : IntKind.u8.wrap n = n % 256 := by simp [IntKind.wrap, IntKind.bits, IntKind.signed]
  rw [this]; omega
/-! The reference's reader. -/
def oneS (bs : List UInt8) (p : Nat × Bool) : Nat × (Nat × Bool) := match bs[p.1]? with
  | some b => (b.toNat, (p.1 + 1, p.2))
  | none => (0, (p.1, true))
def textS (bs : List UInt8) (p : Nat × Bool) : ByteArray × (Nat × Bool) :=
  if (oneS bs p).1 ≤ bs.length - (oneS bs p).2.1 then (ofL ((bs.drop (oneS bs p).2.1).take (oneS bs p).1), ((oneS bs p).2.1 + (oneS bs p).1, (oneS bs p).2.2)) else (⟨#[]⟩, ((oneS bs p).2.1, true))
def szS (bs : List UInt8) : Nat → Nat → Nat → Nat × Bool → Nat × (Nat × Bool)
  | 0, _, acc, p => (acc, p)
  | k + 1, i, acc, p => if (oneS bs p).1 < 128 then (acc + (oneS bs p).1 % 128 * 128 ^ i, (oneS bs p).2) else szS bs k (i + 1) (acc + (oneS bs p).1 % 128 * 128 ^ i) (oneS bs p).2
def numS (bs : List UInt8) (p : Nat × Bool) : Int × (Nat × Bool) :=
  (if (oneS bs p).1 = 1 then -((szS bs 5 0 0 (oneS bs p).2).1 : Int) else ((szS bs 5 0 0 (oneS bs p).2).1 : Int), (szS bs 5 0 0 (oneS bs p).2).2)
def RS (bs : List UInt8) : Rd (Nat × Bool) := ⟨fun p => p.2, oneS bs, textS bs, numS bs, fun p => (p.1, true)⟩
theorem oneS_le (bs : List UInt8) (p : Nat × Bool) (h : p.1 ≤ bs.length) : (oneS bs p).2.1 ≤ bs.length ∧ (oneS bs p).1 ≤ 255 := by
  unfold oneS
  split
  · rename_i b hb
    have := (List.getElem?_eq_some_iff.1 hb).1
    exact ⟨this, byt_lt b⟩
  · exact ⟨h, by simp⟩
theorem textS_le (bs : List UInt8) (p : Nat × Bool) (h : p.1 ≤ bs.length) : (textS bs p).2.1 ≤ bs.length := by
  have := oneS_le bs p h
  unfold textS
  split
  · show _ + _ ≤ _; omega
  · exact this.1
theorem szS_le (bs : List UInt8) : ∀ k i acc p, p.1 ≤ bs.length → (szS bs k i acc p).2.1 ≤ bs.length
  | 0, _, _, _, h => h
  | k + 1, i, acc, p, h => by
    have := oneS_le bs p h
    rw [szS]
    split
    · exact this.1
    · exact szS_le bs k _ _ _ this.1
theorem numS_le (bs : List UInt8) (p : Nat × Bool) (h : p.1 ≤ bs.length) : (numS bs p).2.1 ≤ bs.length := szS_le bs _ _ _ _ (oneS_le bs p h).1
theorem kdF_le (bs : List UInt8) (g : Nat × Bool → Tr × (Nat × Bool)) (hg : ∀ p, p.1 ≤ bs.length → (g p).2.1 ≤ bs.length) (f5 : Bool) : ∀ n (x : KSt (Nat × Bool)), x.p.1 ≤ bs.length → (kdF (RS bs) g f5 n x).p.1 ≤ bs.length
  | 0, _, h => h
  | n + 1, x, h => by
    rw [kdF]
    refine kdF_le bs g hg f5 n _ ?_
    unfold kdS
    split
    · exact h
    · split
      · exact hg _ (textS_le bs _ h)
      · exact hg _ h
theorem trS_le (bs : List UInt8) : ∀ f p, p.1 ≤ bs.length → (trF (RS bs) f p).2.1 ≤ bs.length
  | 0, p, h => (oneS_le bs p h).1
  | f + 1, p, h => by
    have h1 : ((RS bs).one p).2.1 ≤ bs.length := (oneS_le bs p h).1
    rw [trF]
    split
    · exact h1
    split
    · exact numS_le bs _ h1
    split
    · exact textS_le bs _ h1
    split
    · exact (oneS_le bs _ h1).1
    · exact kdF_le bs _ (trS_le bs f) _ _ _ (oneS_le bs _ h1).1
abbrev rcS (bs : List UInt8) (p : Nat × Bool) : List V := [.sl (encB bs), .s (.int .i64 p.1), .s (.bool p.2)]
abbrev rsH (m v : Nat) (bs : List UInt8) (p p' : Nat × Bool) : Hand := ⟨1000, m, some (.var v 113 ((rcS bs p).map .v)), .var v 113 ((rcS bs p').map .v), true⟩
abbrev rp (v : Nat) : T := .c (.ptr 1000 v 0)
def ok69 := okF.gu (P := Tryz.prog) tab Tryz.func69 Tryz.ntmps69 (by conv => lhs; cbv) (by kernel_rfl)
theorem oneS_ok (bs : List UInt8) (hb : bs.length ≤ 1000000) (p : Nat × Bool) (hp : p.1 ≤ bs.length) (m v : Nat) : ACallsF Tryz.prog 69 [rp v] [rsH m v bs p (oneS bs p).2] (.i ((oneS bs p).1 : Int)) := by
  refine ACallsF.intro ok69 follows fun X c0 => ?_
  cases hq : bs[p.1]? with
  | none =>
    have hle := List.getElem?_eq_none_iff.1 hq
    have k0 : (p.1 : Int) ≥ bs.length := by omega
    have e : oneS bs p = (0, (p.1, true)) := by simp only [oneS, hq]
    rw [e]
    simp only [go_sem, encB_len, k0]
    rfl
  | some b =>
    have hlt := (List.getElem?_eq_some_iff.1 hq).1
    have k0 : ¬ (p.1 : Int) ≥ bs.length := by omega
    have gw : IntKind.i64.wrap ((p.1 : Int) + 1) = ((p.1 + 1 : Nat) : Int) := wrap64 (x := (p.1 : Int) + 1) ⟨by omega, by omega⟩
    have gs : IntKind.i64.wrap (((p.1 + 1 : Nat) : Int) - 1) = (p.1 : Int) := (wrap64 (x := ((p.1 + 1 : Nat) : Int) - 1) ⟨by omega, by omega⟩).trans (by omega)
    have gz : (0 : Int) ≤ p.1 := by omega
    have gb : IntKind.i64.wrap (b.toNat : Int) = b.toNat := wrap64 ⟨by omega, by have := byt_lt b; omega⟩
    have e : oneS bs p = (b.toNat, (p.1 + 1, p.2)) := by simp only [oneS, hq]
    have hlt' : (p.1 : Int) < bs.length := by omega
    have ev := encB_at hq
    rw [e]
    simp only [go_sem, encB_len, k0, gw, gs, gz, gb, hlt', ev, Int.toNat_natCast]
def ok68 := okF.gu (P := Tryz.prog) tab Tryz.func68 Tryz.ntmps68 (by conv => lhs; cbv) (by kernel_rfl)
theorem textS_ok (bs : List UInt8) (hb : bs.length ≤ 1000000) (p : Nat × Bool) (hp : p.1 ≤ bs.length) (m v : Nat) : ACallsF Tryz.prog 68 [rp v] [rsH m v bs p (textS bs p).2] (tS (textS bs p).1) := by
  have hC := oneS_ok bs hb p hp 1000 v
  obtain ⟨h1, h2⟩ := oneS_le bs p hp
  refine ACallsF.intro ok68 follows fun X c0 => ?_
  simp only [go_sem]
  refine callQ (m := 1000) hC rfl rfl rfl rfl rfl ⟨?_, ?_⟩
  · simp only [go_sem]
  unfold textS
  generalize oneS bs p = q at *
  obtain ⟨n, at_, bad⟩ := q
  simp only at h1 h2
  have g1 : IntKind.i64.wrap ((bs.length : Int) - at_) = ((bs.length - at_ : Nat) : Int) := (wrap64 (x := (bs.length : Int) - at_) ⟨by omega, by omega⟩).trans (by omega)
  by_cases hn : n ≤ bs.length - at_
  · have k0 : ¬ (n : Int) > ((bs.length - at_ : Nat) : Int) := by omega
    have g2 : IntKind.i64.wrap ((at_ : Int) + n) = ((at_ + n : Nat) : Int) := wrap64 (x := (at_ : Int) + n) ⟨by omega, by omega⟩
    have g3 : IntKind.i64.wrap (((at_ + n : Nat) : Int) - n) = (at_ : Int) := (wrap64 (x := ((at_ + n : Nat) : Int) - n) ⟨by omega, by omega⟩).trans (by omega)
    have j0 : (0 : Int) ≤ at_ := by omega
    have j1 : (at_ : Int) ≤ ((at_ + n : Nat) : Int) := by omega
    have j2 : ((at_ + n : Nat) : Int) ≤ bs.length := by omega
    have j3 : at_ + n - at_ = n := by omega
    simp only [go_sem, encB_len, g1, k0, g2, g3, hn, List.map_cons, List.map_nil, lohi, j0, j1, j2, j3, Int.toNat_natCast, encB_all1, encB_drop, encB_take, bytesOf_enc, pushB_enc]
  · have k0 : (n : Int) > ((bs.length - at_ : Nat) : Int) := by omega
    simp only [go_sem, encB_len, g1, k0, hn, List.map_cons, List.map_nil]
end Go.V
set_option linter.unusedSimpArgs false
set_option maxRecDepth 20000
namespace Go.V
open Go.Proofs
def ok109 := okF.gu (P := Tryz.prog) tab Tryz.func109 Tryz.ntmps109 (by conv => lhs; cbv) (by kernel_rfl)
theorem szS_lt (bs : List UInt8) : ∀ k i acc p, k + i = 5 → acc < 128 ^ i → (szS bs k i acc p).1 < 34359738368
  | 0, i, acc, p, hk, ha => by
    have : i = 5 := by omega
    subst this
    exact ha
  | k + 1, i, acc, p, hk, ha => by
    have h1 : (oneS bs p).1 % 128 * 128 ^ i ≤ 127 * 128 ^ i := Nat.mul_le_mul_right _ (by omega)
    have h2 : 128 ^ (i + 1) = 128 * 128 ^ i := by rw [Nat.pow_succ, Nat.mul_comm]
    have h3 : 128 ^ (i + 1) ≤ 128 ^ 5 := Nat.pow_le_pow_right (by omega) (by omega)
    have h4 : (128 : Nat) ^ 5 = 34359738368 := by decide
    rw [szS]
    split
    · show acc + _ < _; omega
    · exact szS_lt bs k (i + 1) _ _ (by omega) (by omega)
def inv109 (bs : List UInt8) (v : Nat) (neg : Nat) (R : Nat × (Nat × Bool)) (k : Nat) (σ : St) : Prop :=
  ∃ (i acc : Nat) (p : Nat × Bool), k + i = 5 ∧ acc < 128 ^ i ∧ p.1 ≤ bs.length ∧ szS bs k i acc p = R ∧ σ.t 0 = rp v ∧ σ.t 3 = .i neg ∧ σ.t 4 = .i acc ∧ σ.t 5 = .i ((128 ^ i : Nat) : Int) ∧ σ.t 6 = .i i ∧ σ.H 1000 = some (.var v 113 ((rcS bs p).map .v))
theorem numS_ok (bs : List UInt8) (hb : bs.length ≤ 1000000) (p : Nat × Bool) (hp : p.1 ≤ bs.length) (m v : Nat) : ACallsF Tryz.prog 109 [rp v] [rsH m v bs p (numS bs p).2] (.i (numS bs p).1) := by
  have hC := oneS_ok bs hb p hp 1000 v
  obtain ⟨h1, h2⟩ := oneS_le bs p hp
  unfold numS
  generalize oneS bs p = q at *
  obtain ⟨neg, p0⟩ := q
  simp only at h1 h2 hC
  have hlt := szS_lt bs 5 0 0 p0 (by omega) (by simp)
  refine ACallsF.intro ok109 follows fun X c0 => ?_
  simp only [go_sem]
  refine callQ (m := 1000) hC rfl rfl rfl rfl rfl ⟨?_, ?_⟩
  · simp only [go_sem]
  simp only [go_sem]
  generalize hR : szS bs 5 0 0 p0 = R at *
  have loop : ∀ (Q : Exit → St → Prop) (t : Nat → T) (H : HMap) (c : Nat), inv109 bs v neg R 5 ⟨t, H, c⟩ → (∀ t H c, t 0 = rp v → t 3 = .i neg → t 4 = .i R.1 → H 1000 = some (.var v 113 ((rcS bs R.2).map .v)) → Q (.exit 0) ⟨t, H, c⟩) → oneW Tryz.prog X (ok109.sub [1, 1, 1, 1, 0, 1, 0]) Q ⟨t, H, c⟩ := by
    intro Q t0 H0 c0' h0 hQ
    dsimp only [okF.sub, ACode.sub]
    refine AW.loopM (inv109 bs v neg R) (fun k => k) 5 h0 fun k σ hI => ?_
    obtain ⟨t, H, c⟩ := σ
    obtain ⟨i, acc, p1, hk, hacc, hp1, hsz, e0, e3, e4, e5, e6, eH⟩ := hI
    simp only [T.c, T.i] at e0 e3 e4 e5 e6
    have hP3 : 128 ^ i ≤ 128 ^ 5 := Nat.pow_le_pow_right (by omega) (by omega)
    have hP4 : (128 : Nat) ^ 5 = 34359738368 := by decide
    cases k with
    | zero =>
      have k0 : ¬ (i : Int) < 5 := by omega
      rw [szS] at hsz
      subst hsz
      refine oneW.of ?_
      simp only [go_sem, e6, k0]
      exact hQ _ _ _ e0 e3 e4 eH
    | succ k =>
      have k0 : (i : Int) < 5 := by omega
      have hP2 : 128 ^ (i + 1) = 128 * 128 ^ i := by rw [Nat.pow_succ, Nat.mul_comm]
      have hP5 : 128 ^ (i + 1) ≤ 128 ^ 5 := Nat.pow_le_pow_right (by omega) (by omega)
      have hC1 := oneS_ok bs hb p1 hp1 1000 v
      obtain ⟨h3, h4⟩ := oneS_le bs p1 hp1
      rw [szS] at hsz
      generalize oneS bs p1 = q at *
      obtain ⟨x, p2⟩ := q
      simp only at h3 h4 hC1 hsz
      have hm : x % 128 * 128 ^ i ≤ 127 * 128 ^ i := Nat.mul_le_mul_right _ (by omega)
      have g1 : IntKind.i64.wrap (((x : Int).tmod 128) * ((128 ^ i : Nat) : Int)) = ((x % 128 * 128 ^ i : Nat) : Int) := by
        have : ((x : Int).tmod 128) * ((128 ^ i : Nat) : Int) = ((x % 128 * 128 ^ i : Nat) : Int) := by rw [Int.natCast_mul]; rfl
        rw [this]; exact wrap64 ⟨by omega, by omega⟩
      have g2 : IntKind.i64.wrap ((acc : Int) + ((x % 128 * 128 ^ i : Nat) : Int)) = ((acc + x % 128 * 128 ^ i : Nat) : Int) := wrap64 (x := (acc : Int) + ((x % 128 * 128 ^ i : Nat) : Int)) ⟨by omega, by omega⟩
      have g3 : IntKind.i64.wrap (((128 ^ i : Nat) : Int) * 128) = ((128 ^ (i + 1) : Nat) : Int) := by
        have : ((128 ^ i : Nat) : Int) * 128 = ((128 ^ (i + 1) : Nat) : Int) := by omega
        rw [this]; exact wrap64 ⟨by omega, by omega⟩
      have g4 : IntKind.i64.wrap ((i : Int) + 1) = ((i + 1 : Nat) : Int) := wrap64 (x := (i : Int) + 1) ⟨by omega, by omega⟩
      have hz : ¬ (128 : Int) = 0 := by omega
      refine oneW.of ?_
      simp only [go_sem, e6, k0, e0]
      refine callQ (m := 1000) hC1 rfl rfl rfl rfl eH ⟨?_, ?_⟩
      · simp only [go_sem]
      by_cases hx : x < 128
      · rw [if_pos hx] at hsz
        subst hsz
        have k1 : (x : Int) < 128 := by omega
        simp only [go_sem, e4, e5, hz, g1, g2, g3, k1]
        exact hQ _ _ _ e0 e3 rfl rfl
      · rw [if_neg hx] at hsz
        have k1 : ¬ (x : Int) < 128 := by omega
        simp only [go_sem, e4, e5, e6, hz, g1, g2, g3, k1, g4]
        exact ⟨k, Nat.lt_succ_self _, i + 1, _, p2, by omega, by omega, h3, hsz, e0, e3, rfl, rfl, rfl, rfl⟩
  refine loop _ _ _ _ ⟨0, 0, p0, rfl, by simp, h1, hR, rfl, rfl, rfl, rfl, rfl, rfl⟩ fun t H c e0 e3 e4 eH => ?_
  simp only [T.c, T.i] at e0 e3 e4
  by_cases hn : neg = 1
  · have k0 : ((neg : Int) == 1) = true := beq_iff_eq.2 (by omega)
    have gn : IntKind.i64.wrap (0 - (R.1 : Int)) = -(R.1 : Int) := (wrap64 (x := 0 - (R.1 : Int)) ⟨by omega, by omega⟩).trans (by omega)
    rw [if_pos hn]
    simp only [go_sem, e0, e3, e4, k0, gn, eH]
  · have k0 : ((neg : Int) == 1) = false := beq_eq_false_iff_ne.2 (by omega)
    rw [if_neg hn]
    simp only [go_sem, e0, e3, e4, k0, eH]
end Go.V
set_option linter.unusedSimpArgs false
set_option maxRecDepth 20000
namespace Go.V
open Go.Proofs
section
variable (bs : List UInt8)
theorem trS_zero (p : Nat × Bool) : trF (RS bs) 0 p = (.mk (oneS bs p).1 0 ⟨#[]⟩ [] [], ((oneS bs p).2.1, true)) := rfl
theorem trS_succ (f : Nat) (p : Nat × Bool) : trF (RS bs) (f + 1) p = if (oneS bs p).2.2 = true then (.mk (oneS bs p).1 0 ⟨#[]⟩ [] [], ((oneS bs p).2.1, true))
    else if (oneS bs p).1 = 1 then (.mk 1 (numS bs (oneS bs p).2).1 ⟨#[]⟩ [] [], (numS bs (oneS bs p).2).2)
    else if (oneS bs p).1 = 2 then (.mk 2 0 (textS bs (oneS bs p).2).1 [] [], (textS bs (oneS bs p).2).2)
    else if (oneS bs p).1 = 3 then (.mk 3 (oneS bs (oneS bs p).2).1 ⟨#[]⟩ [] [], (oneS bs (oneS bs p).2).2)
    else (.mk (oneS bs p).1 0 ⟨#[]⟩ (kdF (RS bs) (trF (RS bs) f) (decide ((oneS bs p).1 = 5)) (oneS bs (oneS bs p).2).1 ⟨[], [], (oneS bs (oneS bs p).2).2⟩).ns (kdF (RS bs) (trF (RS bs) f) (decide ((oneS bs p).1 = 5)) (oneS bs (oneS bs p).2).1 ⟨[], [], (oneS bs (oneS bs p).2).2⟩).ks, (kdF (RS bs) (trF (RS bs) f) (decide ((oneS bs p).1 = 5)) (oneS bs (oneS bs p).2).1 ⟨[], [], (oneS bs (oneS bs p).2).2⟩).p) := rfl
theorem kdR_succ (g : Nat × Bool → Tr × (Nat × Bool)) (f5 : Bool) (n : Nat) (x : KSt (Nat × Bool)) : kdF (RS bs) g f5 (n + 1) x = kdF (RS bs) g f5 n (if x.p.2 = true then x else
    if f5 then ⟨x.ns ++ [(textS bs x.p).1], x.ks ++ [(g (textS bs x.p).2).1], (g (textS bs x.p).2).2⟩ else ⟨x.ns, x.ks ++ [(g x.p).1], (g x.p).2⟩) := rfl
theorem RS_B : ∀ p, (textS bs p).1.size ≤ 255 := fun p => by
  have h : (oneS bs p).1 ≤ 255 := by unfold oneS; split; exact byt_lt _; simp
  unfold textS
  split
  · simp only [ofL, ByteArray.size, List.size_toArray, List.length_take, List.length_drop]; omega
  · simp [ByteArray.size]
theorem RS_RdB : RdB (RS bs) := ⟨fun p => by show (oneS bs p).1 ≤ 255; unfold oneS; split; exact byt_lt _; simp, RS_B bs⟩
end
def ok90 := okF.gu (P := Tryz.prog) tab Tryz.func90 Tryz.ntmps90 (by conv => lhs; cbv) (by kernel_rfl)
def inv90 (bs : List UInt8) (v d : Nat) (s : Nat) (g : Nat × Bool → Tr × (Nat × Bool)) (R : KSt (Nat × Bool)) (n : Nat) (σ : St) : Prop :=
  ∃ x : KSt (Nat × Bool), kdF (RS bs) g (decide (s = 5)) n x = R ∧ x.p.1 ≤ bs.length ∧ x.ns.length + n ≤ 255 ∧ x.ks.length + n ≤ 255 ∧ (∀ y ∈ x.ns, y.size ≤ 255) ∧ σ.t 0 = rp v ∧ σ.t 1 = .i d ∧ σ.t 6 = .i n ∧ σ.H 1000 = some (.var v 113 ((rcS bs x.p).map .v)) ∧
    (∃ u, σ.t 4 = .c (.ptr 4 u 0) ∧ σ.H 4 = some (.var u 118 [.v (.s (.int .i64 0)), .v (.s (.int .i64 0)), .v (.s (.string ⟨#[]⟩)), .nil0, .nil0])) ∧
    ∃ u a b, σ.t 5 = .c (.ptr 5 u 0) ∧ σ.H 5 = some (.var u 118 [.v (.s (.int .i64 s)), .v (.s (.int .i64 0)), .v (.s (.string ⟨#[]⟩)), .own 2005 a x.ns.length, .own 2004 b x.ks.length]) ∧ σ.H 2005 = some (.arr a true 1 9 (encS x.ns)) ∧ σ.H 2004 = some (.arr b true 5 118 (encTs x.ks))
set_option maxHeartbeats 4000000 in
theorem treeS_ok (bs : List UInt8) (hb : bs.length ≤ 1000000) : ∀ f d : Nat, f + d = 7 → ∀ p : Nat × Bool, p.1 ≤ bs.length → ∀ m v, ACallsF Tryz.prog 90 [rp v, .i d] [rsH m v bs p (trF (RS bs) f p).2] (tT (trF (RS bs) f p).1) := by
  intro f
  induction f with
  | zero =>
    intro d hd p hp m v
    have hC := oneS_ok bs hb p hp 1000 v
    rw [trS_zero]
    generalize oneS bs p = q at *
    obtain ⟨s, at_, bad⟩ := q
    have k0 : (d : Int) > 6 := by omega
    refine ACallsF.intro ok90 follows fun X c0 => ?_
    simp only [go_sem]
    refine callQ (m := 1000) hC rfl rfl rfl rfl rfl ⟨?_, ?_⟩
    · simp only [go_sem]
    cases bad <;> simp only [go_sem, List.map_cons, List.map_nil, k0, encT_mk]
  | succ f ih =>
    intro d hd p hp m v
    have hC := oneS_ok bs hb p hp 1000 v
    obtain ⟨h1, h2⟩ := oneS_le bs p hp
    rw [trS_succ]
    generalize oneS bs p = q at *
    obtain ⟨s, p1⟩ := q
    simp only at h1 h2 hC ⊢
    have k6 : ¬ (d : Int) > 6 := by omega
    obtain ⟨at1, bad1⟩ := p1
    cases bad1 with
    | true =>
      rw [if_pos rfl]
      refine ACallsF.intro ok90 follows fun X c0 => ?_
      simp only [go_sem]
      refine callQ (m := 1000) hC rfl rfl rfl rfl rfl ⟨?_, ?_⟩
      · simp only [go_sem]
      simp only [go_sem, List.map_cons, List.map_nil, encT_mk]
    | false =>
    rw [if_neg (by simp)]
    by_cases s1 : s = 1
    · rw [if_pos s1]
      have hN := numS_ok bs hb (at1, false) h1 1000 v
      generalize numS bs (at1, false) = q at *
      obtain ⟨nn, p2⟩ := q
      have q1 : ((s : Int) == 1) = true := beq_iff_eq.2 (by omega)
      refine ACallsF.intro ok90 follows fun X c0 => ?_
      simp only [go_sem]
      refine callQ (m := 1000) hC rfl rfl rfl rfl rfl ⟨?_, ?_⟩
      · simp only [go_sem]
      simp only [go_sem, List.map_cons, List.map_nil, k6, q1]
      refine callQ (m := 1000) hN rfl rfl rfl rfl rfl ⟨?_, ?_⟩
      · simp only [go_sem]
      simp only [go_sem, encT_mk, s1]
      rfl
    rw [if_neg s1]
    have q1 : ((s : Int) == 1) = false := beq_eq_false_iff_ne.2 (by omega)
    by_cases s2 : s = 2
    · rw [if_pos s2]
      have hN := textS_ok bs hb (at1, false) h1 1000 v
      generalize textS bs (at1, false) = q at *
      obtain ⟨xx, p2⟩ := q
      have q2 : ((s : Int) == 2) = true := beq_iff_eq.2 (by omega)
      refine ACallsF.intro ok90 follows fun X c0 => ?_
      simp only [go_sem]
      refine callQ (m := 1000) hC rfl rfl rfl rfl rfl ⟨?_, ?_⟩
      · simp only [go_sem]
      simp only [go_sem, List.map_cons, List.map_nil, k6, q1, q2]
      refine callQ (m := 1000) hN rfl rfl rfl rfl rfl ⟨?_, ?_⟩
      · simp only [go_sem]
      simp only [go_sem, encT_mk, s2]
      rfl
    rw [if_neg s2]
    have q2 : ((s : Int) == 2) = false := beq_eq_false_iff_ne.2 (by omega)
    by_cases s3 : s = 3
    · rw [if_pos s3]
      have hN := oneS_ok bs hb (at1, false) h1 1000 v
      generalize oneS bs (at1, false) = q at *
      obtain ⟨xx, p2⟩ := q
      have q3 : ((s : Int) == 3) = true := beq_iff_eq.2 (by omega)
      refine ACallsF.intro ok90 follows fun X c0 => ?_
      simp only [go_sem]
      refine callQ (m := 1000) hC rfl rfl rfl rfl rfl ⟨?_, ?_⟩
      · simp only [go_sem]
      simp only [go_sem, List.map_cons, List.map_nil, k6, q1, q2, q3]
      refine callQ (m := 1000) hN rfl rfl rfl rfl rfl ⟨?_, ?_⟩
      · simp only [go_sem]
      simp only [go_sem, encT_mk, s3]
      rfl
    rw [if_neg s3]
    have q3 : ((s : Int) == 3) = false := beq_eq_false_iff_ne.2 (by omega)
    have hN := oneS_ok bs hb (at1, false) h1 1000 v
    obtain ⟨h3, h4⟩ := oneS_le bs (at1, false) h1
    generalize oneS bs (at1, false) = q at *
    obtain ⟨n0, p2⟩ := q
    simp only at h3 h4 hN ⊢
    have hlen := kdF_len (RS bs) (trF (RS bs) f) (decide (s = 5)) ⟨[], [], p2⟩ n0
    generalize hR : kdF (RS bs) (trF (RS bs) f) (decide (s = 5)) n0 ⟨[], [], p2⟩ = R at *
    simp only [List.length_nil, Nat.zero_add] at hlen
    refine ACallsF.intro ok90 follows fun X c0 => ?_
    have loop : ∀ (Q : Exit → St → Prop) (t : Nat → T) (H : HMap) (c : Nat), inv90 bs v d s (trF (RS bs) f) R n0 ⟨t, H, c⟩ → (∀ t H c u4 u a b, H 1000 = some (.var v 113 ((rcS bs R.p).map .v)) → t 4 = .c (.ptr 4 u4 0) → H 4 = some (.var u4 118 [.v (.s (.int .i64 0)), .v (.s (.int .i64 0)), .v (.s (.string ⟨#[]⟩)), .nil0, .nil0]) →
        t 5 = .c (.ptr 5 u 0) → H 5 = some (.var u 118 [.v (.s (.int .i64 s)), .v (.s (.int .i64 0)), .v (.s (.string ⟨#[]⟩)), .own 2005 a R.ns.length, .own 2004 b R.ks.length]) → H 2005 = some (.arr a true 1 9 (encS R.ns)) → H 2004 = some (.arr b true 5 118 (encTs R.ks)) → Q (.exit 1) ⟨t, H, c⟩) →
        oneW Tryz.prog X (ok90.sub [1, 1, 1, 1, 0, 1, 0]) Q ⟨t, H, c⟩ := by
      intro Q t0 H0 c0' h0 hQ
      dsimp only [okF.sub, ACode.sub]
      refine AW.loopM (inv90 bs v d s (trF (RS bs) f) R) (fun k => k) n0 h0 fun n σ hI => ?_
      obtain ⟨t, H, c⟩ := σ
      obtain ⟨x, hx, hxp, hl1, hl2, hys, e0, e1, e6, eH, ⟨u4, e4, eH4⟩, u5, a, b, e5, eH5, eHa, eHb⟩ := hI
      obtain ⟨ns, ks, at_, bad⟩ := x
      simp only [T.c, T.i, List.map_cons, List.map_nil] at e0 e1 e6 eH e4 eH4 e5 eH5 eHa eHb hxp hl1 hl2 hys
      cases n with
      | zero =>
        rw [kdF] at hx
        subst hx
        have k0 : ¬ ((0 : Nat) : Int) > 0 := by omega
        refine oneW.of ?_
        simp only [go_sem, e6, k0]
        exact hQ _ _ _ _ _ _ _ eH e4 eH4 e5 eH5 eHa eHb
      | succ n =>
        have k0 : ((n + 1 : Nat) : Int) > 0 := by omega
        rw [kdR_succ] at hx
        cases bad with
        | true =>
          rw [if_pos rfl] at hx
          have hx2 : (⟨ns, ks, (at_, true)⟩ : KSt (Nat × Bool)) = R := by
            rw [← hx]
            have := kdF_fail (RS bs) (trF (RS bs) f) (decide (s = 5)) (i := 0) (x := ⟨ns, ks, (at_, true)⟩) rfl n
            rw [Nat.zero_add] at this
            exact this.symm
          subst hx2
          refine oneW.of ?_
          simp only [go_sem, e6, k0, e0, eH]
          exact hQ _ _ _ _ _ _ _ eH e4 eH4 e5 eH5 eHa eHb
        | false =>
          rw [if_neg (by simp)] at hx
          have gw : IntKind.i64.wrap ((d : Int) + 1) = ((d + 1 : Nat) : Int) := wrap64 (x := (d : Int) + 1) ⟨by omega, by omega⟩
          have gn : IntKind.i64.wrap (((n + 1 : Nat) : Int) - 1) = (n : Int) := (wrap64 (x := ((n + 1 : Nat) : Int) - 1) ⟨by omega, by omega⟩).trans (by omega)
          have w1 : (ks.length + 1) * 80 ≤ 140737488355328 := by omega
          have w2 : ks.length + 1 ≤ 9223372036854775807 := by omega
          have w3 : (ns.length + 1) * 16 ≤ 140737488355328 := by omega
          have w4 : ns.length + 1 ≤ 9223372036854775807 := by omega
          have tn : List.take ns.length (encS ns) = encS ns := take_encS ns
          have tk : List.take ks.length (encTs ks) = encTs ks := take_encTs ks
          have ll1 : (encS ns).length = ns.length := encS_len ns
          have ll2 : (encTs ks).length = ks.length := encTs_len ks
          by_cases s5 : s = 5
          · have q5 : ((s : Int) == 5) = true := beq_iff_eq.2 (by omega)
            have d5 : decide (s = 5) = true := decide_eq_true s5
            simp only [d5, if_true] at hx
            have hT := textS_ok bs hb (at_, false) hxp 1000 v
            have hTl := textS_le bs (at_, false) hxp
            have hTb := RS_B bs (at_, false)
            generalize textS bs (at_, false) = q at *
            obtain ⟨xx, p3⟩ := q
            simp only at hTl hTb hT hx
            have hC3 := ih (d + 1) (by omega) p3 hTl 1000 v
            have hl3 := trS_le bs f p3 hTl
            generalize trF (RS bs) f p3 = q at *
            obtain ⟨kk, p4⟩ := q
            simp only at hC3 hl3 hx
            refine oneW.of ?_
            simp only [go_sem, e6, k0, e0, eH, e5, eH5, q5]
            refine callQ (m := 1000) hT rfl rfl rfl rfl eH ⟨?_, ?_⟩
            · simp only [go_sem]
            simp only [go_sem, e5, eH5, eHa, ll1, tn, w3, w4, e0, e1, gw]
            refine callQ (m := 1000) hC3 rfl rfl rfl (by simp [closedT, closedP, closedC]) rfl ⟨?_, ?_⟩
            · simp only [go_sem]
            simp only [go_sem, e5, eHb, ll2, tk, w1, w2, List.length_map, encT_len, takeT, e6, gn]
            have hys2 : ∀ y ∈ ns ++ [xx], y.size ≤ 255 := fun y hy => by
              rcases List.mem_append.1 hy with h | h
              · exact hys y h
              · rw [List.mem_singleton.1 h]; exact hTb
            refine ⟨n, Nat.lt_succ_self _, ⟨ns ++ [xx], ks ++ [kk], p4⟩, ?_⟩
            simp only [List.length_append, List.length_singleton, encS_snoc, encTs_snoc]
            exact ⟨by rw [d5]; exact hx, hl3, by omega, by omega, hys2, e0, e1, rfl, rfl, ⟨u4, e4, eH4⟩, u5, _, _, e5, rfl, rfl, rfl⟩
          · have q5 : ((s : Int) == 5) = false := beq_eq_false_iff_ne.2 (by omega)
            have d5 : decide (s = 5) = false := decide_eq_false s5
            simp only [d5, Bool.false_eq_true, if_false] at hx
            have hC3 := ih (d + 1) (by omega) (at_, false) hxp 1000 v
            have hl3 := trS_le bs f (at_, false) hxp
            generalize trF (RS bs) f (at_, false) = q at *
            obtain ⟨kk, p4⟩ := q
            simp only at hC3 hl3 hx
            refine oneW.of ?_
            simp only [go_sem, e6, k0, e0, eH, e5, eH5, q5, eHb, e1, gw]
            refine callQ (m := 1000) hC3 rfl rfl rfl (by simp [closedT, closedP, closedC]) eH ⟨?_, ?_⟩
            · simp only [go_sem]
            simp only [go_sem, e5, eH5, eHb, ll2, tk, w1, w2, List.length_map, encT_len, takeT, e6, gn]
            refine ⟨n, Nat.lt_succ_self _, ⟨ns, ks ++ [kk], p4⟩, ?_⟩
            simp only [List.length_append, List.length_singleton, encTs_snoc]
            exact ⟨by rw [d5]; exact hx, hl3, by omega, by omega, hys, e0, e1, rfl, rfl, ⟨u4, e4, eH4⟩, u5, _, _, e5, rfl, eHa, rfl⟩
    simp only [go_sem]
    refine callQ (m := 1000) hC rfl rfl rfl rfl rfl ⟨?_, ?_⟩
    · simp only [go_sem]
    simp only [go_sem, List.map_cons, List.map_nil, k6, q1, q2, q3]
    refine callQ (m := 1000) hN rfl rfl rfl rfl rfl ⟨?_, ?_⟩
    · simp only [go_sem]
    simp only [go_sem]
    refine AW.reify 5 3 2005 1 9 rfl rfl rfl (by decide) ?_
    refine AW.reify 5 4 2004 5 118 rfl rfl rfl (by decide) ?_
    refine loop _ _ _ _ ⟨⟨[], [], p2⟩, hR, h3, by simp only [List.length_nil]; omega, by simp only [List.length_nil]; omega, (fun _ h => by cases h), rfl, rfl, rfl, rfl, ⟨_, rfl, rfl⟩, _, _, _, rfl, rfl, rfl, rfl⟩ fun t H c u4 u a b eH e4 eH4 e5 eH5 eHa eHb => ?_
    obtain ⟨ns, ks, p3⟩ := R
    simp only [T.c, T.i, List.map_cons, List.map_nil] at e4 eH4 e5 eH5 eHa eHb hlen eH
    have l1 : ns.length ≤ (encS ns).length := by rw [encS_len]; omega
    have l2 : ks.length ≤ (encTs ks).length := by rw [encTs_len]; omega
    have tn : List.take ns.length (encS ns) = encS ns := take_encS ns
    have tk : List.take ks.length (encTs ks) = encTs ks := take_encTs ks
    simp only [go_sem, eH, e4, eH4, e5, eH5, eHa, eHb, encT_mk, l1, l2, tn, tk, encS_len, encTs_len, List.map_cons, List.map_nil]
end Go.V
set_option linter.unusedSimpArgs false
namespace Go.V
open Go.Proofs
/-! A nil slice that is returned is an array, or a tree, of the call's own, too. -/
def P1.put (j : Nat) (c : C) : P1 → P1
  | .one _ => .one c
  | .agg cs => .agg (cs.set j c)
def P1.at (j : Nat) : P1 → Option C
  | .one c => some c
  | .agg cs => cs[j]?
def T.put (i j : Nat) (c : C) : T → T
  | .pt p => .pt (p.put j c)
  | .tup ps => .tup (ps.modify i (P1.put j c))
  | x => x
def T.at (i j : Nat) : T → Option C
  | .pt p => p.at j
  | .tup ps => (ps[i]?).bind (P1.at j)
  | _ => none
section
variable {w : World} {imm : Imm} {H : HMap} {L : Locs} {U : Nat → Prop}
theorem CsRep.put {c : C} (hc : ∀ a, CRep w imm H L U (.slice a 0 0) c) {xs : List Value} {cs : List C} {j : Nat} (h : CsRep w imm H L U xs cs) (hn : cs[j]? = some .nil0) : CsRep w imm H L U xs (cs.set j c) := by
  refine ⟨by rw [List.length_set]; exact h.1, fun k u y hu hy => ?_⟩
  by_cases hk : k = j
  · subst hk
    have hl := (List.getElem?_eq_some_iff.1 hn).1
    rw [List.getElem?_set_self hl] at hy
    cases hy
    obtain ⟨a, rfl⟩ : ∃ a, u = .slice a 0 0 := h.2 k u .nil0 hu hn
    exact hc a
  · rw [List.getElem?_set_ne (Ne.symm hk)] at hy
    exact h.2 k u y hu hy
theorem PRep.put {c : C} (hc : ∀ a, CRep w imm H L U (.slice a 0 0) c) {x : Value} {p : P1} {j : Nat} (h : PRep w imm H L U x p) (hn : p.at j = some .nil0) : PRep w imm H L U x (p.put j c) := by
  cases p with
  | one y =>
    simp only [P1.at, Option.some.injEq] at hn
    subst hn
    obtain ⟨a, rfl⟩ : ∃ a, x = .slice a 0 0 := h
    exact hc a
  | agg cs =>
    obtain ⟨xs, hx, h⟩ := h
    exact ⟨xs, hx, h.put hc hn⟩
theorem TRep.put {c : C} (hc : ∀ a, CRep w imm H L U (.slice a 0 0) c) {x : Value} {r : T} {i j : Nat} (h : TRep w imm H L U x r) (hn : r.at i j = some .nil0) : TRep w imm H L U x (r.put i j c) := by
  cases r with
  | junk => simp [T.at] at hn
  | undef => simp [T.at] at hn
  | pt p => exact PRep.put hc (show PRep w imm H L U x p from h) hn
  | tup ps =>
    obtain ⟨xs, hx, hl, h⟩ := h
    refine ⟨xs, hx, by rw [List.length_modify]; exact hl, fun k u y hu hy => ?_⟩
    rw [List.getElem?_modify] at hy
    by_cases hk : i = k
    · subst hk
      cases hp : ps[i]? with
      | none => rw [hp] at hy; simp at hy
      | some p =>
      rw [hp] at hy
      have hy' : P1.put j c p = y := by simpa using hy
      subst hy'
      have hn' : p.at j = some .nil0 := by simpa [T.at, hp] using hn
      exact (h i u p hu hp).put hc hn'
    · cases hp : ps[k]? with
      | none => rw [hp] at hy; simp at hy
      | some p =>
      rw [hp] at hy
      have hy' : p = y := by simpa [hk] using hy
      subst hy'
      exact h k u p hu hp
end
theorem P1.ver_put (ν : Nat → Nat) (p : P1) (j : Nat) (c : C) : verP ν (p.put j c) = (verP ν p).put j (verC ν c) := by
  cases p <;> simp [P1.put, verP, List.map_set]
theorem P1.ver_at {ν : Nat → Nat} {p : P1} {j : Nat} (h : p.at j = some .nil0) : (verP ν p).at j = some .nil0 := by
  cases p with
  | one c => simp only [P1.at, Option.some.injEq] at h; subst h; rfl
  | agg cs =>
    have h' : cs[j]? = some .nil0 := h
    show (cs.map (verC ν))[j]? = _
    rw [List.getElem?_map, h']; rfl
theorem T.ver_put (ν : Nat → Nat) (r : T) (i j : Nat) (c : C) : verT ν (r.put i j c) = (verT ν r).put i j (verC ν c) := by
  cases r with
  | junk => rfl
  | undef => rfl
  | pt p => simp only [T.put, verT, P1.ver_put]
  | tup ps =>
    simp only [T.put, verT]
    congr 1
    apply List.ext_getElem?
    intro k
    simp only [List.getElem?_map, List.getElem?_modify]
    by_cases hk : i = k
    · simp only [if_pos hk]
      cases ps[k]? with
      | none => rfl
      | some p => simp [P1.ver_put]
    · simp only [if_neg hk]
      cases ps[k]? <;> simp
theorem T.ver_at {ν : Nat → Nat} {r : T} {i j : Nat} (h : r.at i j = some .nil0) : (verT ν r).at i j = some .nil0 := by
  cases r with
  | junk => simp [T.at] at h
  | undef => simp [T.at] at h
  | pt p => exact P1.ver_at h
  | tup ps =>
    simp only [T.at, Option.bind_eq_some_iff] at h
    obtain ⟨p, hp, h⟩ := h
    simp only [verT, T.at, List.getElem?_map, hp, Option.map_some, Option.bind_some]
    exact P1.ver_at h
/-- What stands is told anew: an empty array, or tree, of one more name. -/
theorem gh_zero (H : HMap) (c n st : Nat) (ty : TypeId) (hst : 0 < st) (tr : Bool) : ∀ (w : World) (imm : Imm) (L : Locs), HOk w imm H L (· < c) → ∃ L', HOk w imm (upd H n (some (if tr then .tree (c + 1) true st ty [] none else .arr (c + 1) true st ty []))) L' (· < c + 2) ∧
    Ext w H L (· < c) w (upd H n (some (if tr then .tree (c + 1) true st ty [] none else .arr (c + 1) true st ty []))) L' (· < c + 2) ∧ Step w imm (foot H L) w imm ∧ Near w (foot H L) (upd H n (some (if tr then .tree (c + 1) true st ty [] none else .arr (c + 1) true st ty []))) L' ∧ L' n = none := by
  intro w imm L hH
  have hH1 : HOk w imm H L (· < c + 1) := hH.use fun v h => Nat.lt_succ_of_lt h
  have hu : ∀ v, with_ (· < c + 1) (c + 1) v → v < c + 2 := fun v hv => by rcases hv with hv | hv <;> omega
  have hu0 : ∀ v, v < c → v < c + 1 := fun v h => by omega
  cases tr with
  | false =>
    have hg := goes_arr_nil (w := w) (imm := imm) (L := L) hH1 n (c + 1) (by simp) true st ty hst none
    exact ⟨L.up n none noB, hg.hok.use hu, ((CRep.use (w := w) hu0).trans hg.ext).trans (CRep.use (w := w) hu), hg.step, hg.near, Locs.up_at _ _ _ _⟩
  | true =>
    have hg := goes_arr_nil (w := w) (imm := imm) (L := L) hH n c (by simp) true st ty hst none
    have hk1 : HOk w imm (upd H n (some (.arr c true st ty []))) (L.up n none noB) (· < c + 1) := hg.hok.use fun v hv => by rcases hv with hv | hv <;> omega
    obtain ⟨a1, a2, a3, a4, _⟩ := plant_ok hk1 (upd_same _ _ _) (fun e he => by cases he)
    have e1 : upd (upd H n (some (.arr c true st ty []))) n (some (.tree (c + 1) true st ty [] none)) = upd H n (some (.tree (c + 1) true st ty [] none)) := by
      funext k; unfold upd; split <;> rfl
    rw [e1] at a1 a2 a4
    obtain ⟨s1, s2⟩ := Step.trans hg.step hg.near a3 a4
    exact ⟨_, a1, (hg.ext.trans (CRep.use (w := w) fun v hv => by rcases hv with hv | hv <;> omega)).trans a2, s1, s2, by rw [Locs.up_at, Locs.up_at]⟩
/-- A nil slice in a result as an own array (a tree). -/
theorem own0 {P : Program} {f : FuncId} {args : List T} {hs : List Hand} {r : T} (tr : Bool) (i j n m st : Nat) (ty : TypeId) (hst : 0 < st) (hn : r.at i j = some .nil0) (hc : renN hs n = none) (hv : ∀ ν ν' : Nat → Nat, (∀ k, k ≠ n → ν k = ν' k) → verT ν r = verT ν' r)
    (hb : ∀ ν ν' : Nat → Nat, (∀ k, k ≠ n → ν k = ν' k) → ∀ h ∈ hs, ∀ v, verB ν v h.b' = verB ν' v h.b') (h : ACallsF P f args hs r) :
    ACallsF P f args (⟨n, m, none, if tr then .tree 0 true st ty [] none else .arr 0 true st ty [], false⟩ :: hs) (r.put i j (if tr then .tr n 0 0 else .own n 0 0)) := by
  refine ⟨h.1, fun w imm L c vs hH hT => ?_⟩
  have e0 : hinOf (⟨n, m, none, if tr then .tree 0 true st ty [] none else .arr 0 true st ty [], false⟩ :: hs) = hinOf hs := by
    funext k; rw [hinOf_cons]
    split
    · rename_i e; subst e; simp [hinOf, hc]
    · rfl
  rw [e0] at hH hT ⊢
  refine (h.2 w imm L c vs hH hT).mono ?_
  rintro e w' ⟨x, r0, h', imm', L', c', he, ⟨ν, hr, hB⟩, hx, hHo, hS, hN, hE⟩
  subst hr
  obtain ⟨L2, k1, k2, k3, k4, k5⟩ := gh_zero h' c' n st ty hst tr w' imm' L' hHo
  obtain ⟨s1, s2⟩ := Step.trans hS hN k3 k4
  let ν' : Nat → Nat := fun k => if k = n then c' + 1 else ν k
  have hνn : ν' n = c' + 1 := if_pos rfl
  have hν : ∀ k, k ≠ n → ν k = ν' k := fun k hk => (if_neg hk).symm
  refine ⟨x, verT ν' (r.put i j (if tr then .tr n 0 0 else .own n 0 0)), _, imm', L2, c' + 2, he, ⟨ν', rfl, fun k hd hh => ?_⟩, ?_, k1, s1, s2, hE.trans k2⟩
  · by_cases hk : k = n
    · subst hk
      have : hd = ⟨k, m, none, if tr then .tree 0 true st ty [] none else .arr 0 true st ty [], false⟩ := by
        simp [renN] at hh; exact hh.symm
      subst this
      refine ⟨?_, fun h => by cases h⟩
      rw [upd_same, hνn]
      cases tr <;> rfl
    · have hh' : renN hs k = some hd := by
        rw [← hh]; simp [renN, List.find?_cons, Ne.symm hk]
      obtain ⟨b1, b2⟩ := hB k hd hh'
      rw [upd_ne _ _ hk, b1, ← hν k hk, hb ν ν' hν hd (renN_mem hh').1]
      exact ⟨rfl, b2⟩
  · rw [T.ver_put, ← hv ν ν' hν]
    refine TRep.put (fun a => ?_) (hx.mono (fun _ _ h => ⟨h, rfl⟩) k2) (T.ver_at hn)
    cases tr with
    | false =>
      show CRep w' imm' _ L2 _ (.slice a 0 0) (.own n (ν' n) 0)
      rw [hνn]
      exact ⟨by omega, ⟨a, 0, rfl, Nat.le_refl _⟩, fun wr st' ty' es hes => ⟨Nat.zero_le _, .inl ⟨a, rfl, rfl⟩⟩⟩
    | true =>
      show CRep w' imm' _ L2 _ (.slice a 0 0) (.tr n (ν' n) 0)
      rw [hνn]
      exact ⟨by omega, ⟨a, 0, rfl, Nat.le_refl _⟩, fun wr st' ty' es op hes => ⟨Nat.zero_le _, .inl ⟨a, rfl, rfl⟩⟩⟩
/-! Schemas and trees, given with all that they hold. -/
def Tr.s : Tr → Int | .mk s _ _ _ _ => s
def Tr.m : Tr → Int | .mk _ m _ _ _ => m
def Tr.x : Tr → ByteArray | .mk _ _ x _ _ => x
def Tr.n : Tr → List ByteArray | .mk _ _ _ n _ => n
def Tr.k : Tr → List Tr | .mk _ _ _ _ k => k
theorem encT_eta (t : Tr) : encT t = [.s (.int .i64 t.s), .s (.int .i64 t.m), .s (.string t.x), .sl (encS t.n), .sl (encTs t.k)] := by cases t; exact encT_mk _ _ _ _ _
theorem flatS (ss : List ByteArray) : (∀ e ∈ encS ss, flatFrom 9 0 e = true) = True := eq_true fun e he => by
  simp only [encS, List.mem_map] at he
  obtain ⟨x, _, rfl⟩ := he
  rfl
abbrev trH2 (c1 c2 m1 m2 : Nat) (t : Tr) : List Hand := [newH c1 m1 1 9 (encS t.n), newT c2 m2 5 118 (encTs t.k)]
abbrev oTr (c1 v1 c2 v2 : Nat) (t : Tr) : P1 := .agg [.v (.s (.int .i64 t.s)), .v (.s (.int .i64 t.m)), .v (.s (.string t.x)), .own c1 v1 t.n.length, .tr c2 v2 t.k.length]
theorem Tr.mk_s (s m : Int) (x : ByteArray) (n : List ByteArray) (k : List Tr) : (Tr.mk s m x n k).s = s := rfl
theorem Tr.mk_m (s m : Int) (x : ByteArray) (n : List ByteArray) (k : List Tr) : (Tr.mk s m x n k).m = m := rfl
theorem Tr.mk_x (s m : Int) (x : ByteArray) (n : List ByteArray) (k : List Tr) : (Tr.mk s m x n k).x = x := rfl
theorem Tr.mk_n (s m : Int) (x : ByteArray) (n : List ByteArray) (k : List Tr) : (Tr.mk s m x n k).n = n := rfl
theorem Tr.mk_k (s m : Int) (x : ByteArray) (n : List ByteArray) (k : List Tr) : (Tr.mk s m x n k).k = k := rfl
attribute [go_sem] false_and and_false and_self not_false_eq_true ne_eq
attribute [go_sem] Tr.mk_s Tr.mk_m Tr.mk_x Tr.mk_n Tr.mk_k flatS encS_len encTs_len
section
variable {P : Program} {t : Nat → T} {H : HMap} {c : Nat} {f : Opd} {args : List Opd} {fid : FuncId} {argsC : List T} {ws : List (Nat × Blk)} {ns : List Nat} {k : Nat} {d : Option Nat} {un : List Nat} {l : List AOper} {prev : List (Nat × List Nat × List Nat)} {K : St → Prop}
end
section
variable {H : HMap} {m1 v1 m2 v2 n1 n2 : Nat} {w1 w2 : Bool}
end
abbrev trL (m1 v1 m2 v2 : Nat) (t : Tr) : List (Nat × Blk) := [(m1, .arr v1 false 1 9 (encS t.n)), (m2, .tree v2 false 5 118 (encTs t.k) none)]
/-- A nil slice in a variable's cell becomes an own array of nothing. -/
theorem gh_reify2 {H : HMap} {c n j id st v : Nat} {aty ty : TypeId} {cs : List C} (h1 : H n = some (.var v ty cs)) (h2 : cs[j]? = some .nil0) (hne : n ≠ id) (hst : 0 < st) :
    Gh H c (upd (upd H id (some (.arr c true st aty []))) n (some (.var v ty (putC cs j [.own id c 0])))) (c + 1) := by
  refine ⟨Nat.le_succ c, fun w imm L hH => ?_⟩
  have hg := goes_arr_nil (w := w) (imm := imm) (L := L) hH id c (by simp) true st aty hst none
  have h1' : upd H id (some (.arr c true st aty [])) n = some (.var v ty cs) := by rw [upd_ne _ _ hne]; exact h1
  have hjl : j < cs.length := (List.getElem?_eq_some_iff.1 h2).1
  have hre : ∀ xs, CsRep w imm (upd H id (some (.arr c true st aty []))) (L.up id none noB) (with_ (· < c) c) xs cs → CsRep w imm (upd H id (some (.arr c true st aty []))) (L.up id none noB) (with_ (· < c) c) xs (putC cs j [.own id c 0]) := by
    intro xs hx
    have hpl : (putC cs j [C.own id c 0]).length = cs.length := by simp [putC]; omega
    refine ⟨by rw [hpl]; exact hx.1, fun k u y hu hy => ?_⟩
    by_cases hk : k = j
    · subst hk
      have : y = .own id c 0 := by
        simp only [putC, List.append_assoc] at hy
        rw [List.getElem?_append_right (by simp; omega)] at hy
        have e0 : k - (cs.take k).length = 0 := by simp; omega
        rw [e0] at hy
        simpa using hy.symm
      subst this
      obtain ⟨a0, rfl⟩ := hx.2 k u .nil0 hu h2
      refine ⟨.inr rfl, ⟨a0, 0, rfl, Nat.le_refl _⟩, fun wr' st' ty' es' hH => ?_⟩
      simp only [upd_same, Option.some.injEq, Blk.arr.injEq] at hH
      obtain ⟨_, _, _, _, rfl⟩ := hH
      exact ⟨Nat.le_refl _, .inl ⟨a0, rfl, rfl⟩⟩
    · refine hx.2 k u y hu ?_
      rw [← hy]
      simp only [putC, List.append_assoc]
      rcases Nat.lt_or_ge k j with hlt | hge
      · rw [List.getElem?_append_left (by simp; omega), List.getElem?_take, if_pos hlt]
      · rw [List.getElem?_append_right (by simp; omega)]
        have e0 : k - (cs.take j).length = (k - j - 1) + 1 := by simp; omega
        rw [e0]
        simp only [List.singleton_append, List.getElem?_cons_succ, List.getElem?_drop, List.length_singleton]
        congr 1
        omega
  obtain ⟨k1, k2, k3, k4⟩ := recell hg.hok h1' hre
  obtain ⟨s1, s2⟩ := Step.trans hg.step hg.near k3 k4
  have hu : ∀ v, with_ (· < c) c v → v < c + 1 := fun v hv => by rcases hv with hv | hv <;> omega
  exact ⟨L.up id none noB, k1.use hu, (hg.ext.trans k2).trans (CRep.use (w := w) hu), s1, s2⟩
/-- A piece of code behind another one, told as a state of its own. -/
def thenO (P : Program) (X : Ctx) (b : ACode) (Q : Exit → St → Prop) : Exit → St → Prop := thenA (oneW P X b Q) Q
section
variable {P : Program} {X : Ctx} {Q : Exit → St → Prop} {σ σ' : St} {t : Nat → T} {H : HMap} {c : Nat}
theorem thenO_n (b : ACode) : thenO P X b Q .normal ⟨t, H, c⟩ = oneW P X b Q ⟨t, H, c⟩ := rfl
theorem thenO_e (b : ACode) (id : Nat) (σ : St) : thenO P X b Q (.exit id) σ = Q (.exit id) σ := rfl
theorem thenO_r (b : ACode) (σ : St) : thenO P X b Q .ret σ = Q .ret σ := rfl
theorem thenO_cg (x : ACode) (e : Exit) (h : σ = σ') : thenO P X x Q e σ = thenO P X x Q e σ' := by rw [h]
/-- a is run; what comes behind is told anew. -/
theorem oneW.run {a b : ACode} (h : wpa P X a (thenO P X b Q) σ) : oneW P X (.seq a b) Q σ := oneW.seq (oneW.of h)
theorem oneW.blk {a : ACode} {id : Nat} (h : oneW P X a (inW id Q) σ) : oneW P X (.block id a) Q σ := oneW.block h
end
attribute [go_sem] thenO_n thenO_e thenO_r
attribute [congr] thenO_cg
end Go.V
set_option linter.unusedSimpArgs false
set_option maxRecDepth 20000
namespace Go.V
open Go.Proofs
theorem lebB_succ (n j : Nat) : lebB n (j + 1) = lebB (n / 128) j := by
  rw [lebB, lebB, Nat.pow_succ, Nat.mul_comm (128 ^ j), Nat.div_div_eq_div_mul]
theorem pkL_small {n : Nat} (h : n < 128) : pkL n = [byt n] := by
  have : lebN n = 0 := if_pos h
  simp only [pkL, this, List.range_zero, List.map_nil, List.nil_append, Nat.pow_zero, Nat.div_one]
theorem lebN_big {n : Nat} (h : 128 ≤ n) (h2 : n < 34359738368) : lebN n = lebN (n / 128) + 1 := by
  unfold lebN
  rw [if_neg (by omega)]
  by_cases h3 : n < 16384
  · rw [if_pos h3, if_pos (by omega)]
  rw [if_neg h3]
  by_cases h4 : n < 2097152
  · rw [if_pos h4, if_neg (by omega), if_pos (by omega)]
  rw [if_neg h4]
  by_cases h5 : n < 268435456
  · rw [if_pos h5, if_neg (by omega), if_neg (by omega), if_pos (by omega)]
  rw [if_neg h5, if_neg (by omega), if_neg (by omega), if_neg (by omega), if_pos (by omega)]
theorem pkL_big {n : Nat} (h : 128 ≤ n) (h2 : n < 34359738368) : pkL n = byt ((n % 128 + 128 : Nat) : Int) :: pkL (n / 128) := by
  rw [pkL, lebN_big h h2, List.range_succ_eq_map, List.map_cons, List.map_map, pkL, List.cons_append]
  have e1 : lebB n 0 = byt ((n % 128 + 128 : Nat) : Int) := by rw [lebB, Nat.pow_zero, Nat.div_one]
  have e2 : (lebB n ∘ Nat.succ) = lebB (n / 128) := by funext j; exact lebB_succ n j
  rw [e1, e2, Nat.pow_succ, Nat.mul_comm, ← Nat.div_div_eq_div_mul]
theorem pkL_len (n : Nat) : (pkL n).length ≤ 5 := by
  rw [pkL, List.length_append, List.length_map, List.length_range]
  have : lebN n ≤ 4 := by unfold lebN; (repeat' split) <;> omega
  simp only [List.length_singleton]; omega
theorem pkX_len (s : ByteArray) : (pkX s).length = s.size + 1 := by simp only [pkX, List.length_cons, Array.length_toList]; rfl
theorem pkN_len (n : Int) : (pkN n).length ≤ 6 := by have := pkL_len n.natAbs; simp only [pkN, List.length_cons]; omega
theorem pkK_le (f5 : Bool) : ∀ (ks : List Tr) (ns : List ByteArray), (∀ k ∈ ks, (pkT k).length + 9 ≤ 72 * tparts k) → (∀ y ∈ ns, y.size ≤ 8) → (pkK f5 ns ks).length ≤ 72 * tpartsL ks
  | [], ns, _, _ => by simp [pkK_nil]
  | k :: ks, ns, h, hn => by
    have h1 := h k (by simp)
    have h2 := pkK_le f5 ks ns.tail (fun k hk => h k (by simp [hk])) fun y hy => hn y (List.mem_of_mem_tail hy)
    have h3 : (if f5 = true then pkX (ns.headD ⟨#[]⟩) else []).length ≤ 9 := by
      split
      · rw [pkX_len]
        cases ns with
        | nil => simp [ByteArray.size]
        | cons n ns => have := hn n (by simp); simp only [List.headD_cons]; omega
      · simp
    simp only [pkK_cons, List.length_append, tpartsL]
    omega
/-- How long a tree's bytes are. -/
theorem pkT_le : ∀ (t : Tr) (d : Nat), TOk d t → (pkT t).length + 9 ≤ 72 * tparts t := by
  intro t
  induction t using Tr.ind with
  | _ s n x ns ks ih =>
    intro d h
    obtain ⟨_, hsh, hk⟩ := h.inv
    have hks := fun f5 hn => pkK_le f5 ks ns (fun k hm => ih k hm (d + 1) (hk k hm)) hn
    rw [pkT_mk, List.length_cons, tparts]
    rcases shape_cases hsh with ⟨e, _⟩ | ⟨e, _, a1, _⟩ | ⟨e, _⟩ | ⟨e, _, _, rfl⟩ | ⟨e, _, _, a1, _⟩ | ⟨e, _, _, rfl⟩
    · subst e
      have := pkN_len n
      rw [if_pos rfl]; omega
    · subst e
      have := pkX_len x
      rw [if_neg (by decide), if_pos rfl]; omega
    · subst e
      rw [if_neg (by decide), if_neg (by decide), if_pos rfl]
      simp only [List.length_singleton]; omega
    · subst e
      have := hks (decide ((4 : Int) = 5)) (fun y hy => by cases hy)
      rw [if_neg (by decide), if_neg (by decide), if_neg (by decide), List.length_cons]; omega
    · subst e
      have := hks (decide ((5 : Int) = 5)) a1
      rw [if_neg (by decide), if_neg (by decide), if_neg (by decide), List.length_cons]; omega
    · subst e
      have := hks (decide ((6 : Int) = 5)) (fun y hy => by cases hy)
      rw [if_neg (by decide), if_neg (by decide), if_neg (by decide), List.length_cons]; omega
theorem encB_pkX (s : ByteArray) : encB (pkX s) = [.s (.int .u8 (byt s.size).toNat)] :: eBs s := rfl
def ok111 := okF.gu (P := Tryz.prog) tab Tryz.func111 Tryz.ntmps111 (by conv => lhs; cbv) (by kernel_rfl)
theorem shortS_ok (s : ByteArray) (hs : s.size ≤ 1000000) : ACallsF Tryz.prog 111 [tS s] [] (tL (encB (pkX s))) := by
  have q1 : (1 + s.size) * 1 ≤ 140737488355328 := by omega
  have q2 : 1 + s.size ≤ 9223372036854775807 := by omega
  have e1 := encB_all1 s.data.toList
  refine ACallsF.intro ok111 follows fun X c0 => ?_
  have w0 : 1 + s.size ≤ s.size + 1 := by omega
  have w1 : ∀ x : List V, List.take (1 + s.size) (x :: encB s.data.toList) = x :: encB s.data.toList := fun x => List.take_of_length_le (by rw [List.length_cons, encB_len, Array.length_toList, ← size_data]; omega)
  simp only [go_sem, eBs_enc, wrapb, e1, encB_len, q1, q2, encB_pkX, eBs_len, ← size_data, Array.length_toList, w0, w1]
def inv125 (bs : List UInt8) (n : Nat) (σ : St) : Prop :=
  n < 34359738368 ∧ σ.t 0 = .i n ∧ ∃ (out : List UInt8) (v : Nat), out ++ pkL n = bs ∧ σ.t 3 = .c (.own 4 v out.length) ∧ σ.H 4 = some (.arr v true 1 5 (encB out))
def ok125 := okF.gu (P := Tryz.prog) tab Tryz.func125 Tryz.ntmps125 (by conv => lhs; cbv) (by kernel_rfl)
theorem numW_ok (n : Int) (hn : -999999999 ≤ n ∧ n ≤ 999999999) : ACallsF Tryz.prog 125 [.i n] [] (tL (encB (pkN n))) := by
  have hlen := pkN_len n
  refine ACallsF.intro ok125 follows fun X c0 => ?_
  have loop : ∀ (Q : Exit → St → Prop) (t : Nat → T) (H : HMap) (c : Nat), inv125 (pkN n) n.natAbs ⟨t, H, c⟩ → (∀ t H c (q : Nat) out v, q < 128 → out ++ [byt q] = pkN n → t 0 = .i q → t 3 = .c (.own 4 v out.length) → H 4 = some (.arr v true 1 5 (encB out)) → Q (.exit 0) ⟨t, H, c⟩) → oneW Tryz.prog X (ok125.sub [1, 1, 1, 0, 0]) Q ⟨t, H, c⟩ := by
    intro Q t0 H0 c0' h0 hQ
    dsimp only [okF.sub, ACode.sub]
    refine AW.loopM (inv125 (pkN n)) (fun k => k) n.natAbs h0 fun q σ hI => ?_
    obtain ⟨t, H, c⟩ := σ
    obtain ⟨hq, e0, out, v, hout, e3, eH⟩ := hI
    simp only [T.c, T.i] at e0 e3 eH
    by_cases hb : q < 128
    · have k0 : ¬ (q : Int) > 127 := by omega
      rw [pkL_small hb] at hout
      refine oneW.of ?_
      simp only [go_sem, e0, k0]
      exact hQ _ _ _ _ _ _ hb hout e0 e3 eH
    · have k0 : (q : Int) > 127 := by omega
      rw [pkL_big (by omega) hq] at hout
      have hol : out.length + 1 ≤ 6 := by
        have := congrArg List.length hout
        simp only [List.length_append, List.length_cons] at this
        omega
      have hz : ¬ (128 : Int) = 0 := by omega
      have g1 : (q : Int).tmod 128 = ((q % 128 : Nat) : Int) := rfl
      have g2 : IntKind.i64.wrap (128 + ((q % 128 : Nat) : Int)) = ((q % 128 + 128 : Nat) : Int) := (wrap64 (x := 128 + ((q % 128 : Nat) : Int)) ⟨by omega, by omega⟩).trans (by omega)
      have g3 : IntKind.i64.wrap ((q : Int).tdiv 128) = ((q / 128 : Nat) : Int) := wrap64 (x := ((q / 128 : Nat) : Int)) ⟨by omega, by omega⟩
      have q1 : (out.length + 1) * 1 ≤ 140737488355328 := by omega
      have q2 : out.length + 1 ≤ 9223372036854775807 := by omega
      have q3 : out.length ≤ (encB out).length := by rw [encB_len]; omega
      have tk : List.take out.length (encB out) = encB out := List.take_of_length_le (by rw [encB_len]; omega)
      refine oneW.of ?_
      simp only [go_sem, e0, e3, eH, k0, hz, g1, g2, g3, q1, q2, q3, tk, wrapb]
      refine ⟨q / 128, by omega, by omega, rfl, out ++ [byt ((q % 128 + 128 : Nat) : Int)], ?_⟩
      simp only [List.length_append, List.length_singleton, encB_app, encB_one, List.append_assoc, List.cons_append, List.nil_append]
      exact ⟨_, hout, rfl, rfl⟩
  have fin : ∀ (t : Nat → T) (H : HMap) (c q : Nat) (out : List UInt8) (v : Nat), q < 128 → out ++ [byt q] = pkN n → t 0 = .i q → t 3 = .c (.own 4 v out.length) → H 4 = some (.arr v true 1 5 (encB out)) → inW 0 (thenW Tryz.prog X (ok125.sub [1, 1, 1, 1]) (endA (FinC ok125.res (tL (encB (pkN n))) []))) (.exit 0) ⟨t, H, c⟩ := by
    intro t H c q out v hb hout e0 e3 eH
    simp only [T.c, T.i] at e0 e3 eH
    have hol : out.length + 1 ≤ 6 := by
      have := congrArg List.length hout
      simp only [List.length_append, List.length_singleton] at this
      omega
    have q1 : (out.length + 1) * 1 ≤ 140737488355328 := by omega
    have q2 : out.length + 1 ≤ 9223372036854775807 := by omega
    have q3 : out.length ≤ (encB out).length := by rw [encB_len]; omega
    have tk : List.take out.length (encB out) = encB out := List.take_of_length_le (by rw [encB_len]; omega)
    have hres : encB (pkN n) = encB out ++ [[.s (.int .u8 (byt q).toNat)]] := by rw [← hout, encB_app, encB_one]
    have q4 : out.length + 1 ≤ (encB out ++ [[V.s (.int .u8 (byt q).toNat)]]).length := by rw [List.length_append, encB_len]; exact Nat.le_refl _
    have tk2 : List.take (out.length + 1) (encB out ++ [[V.s (.int .u8 (byt q).toNat)]]) = encB out ++ [[V.s (.int .u8 (byt q).toNat)]] := List.take_of_length_le (by rw [List.length_append, encB_len]; exact Nat.le_refl _)
    dsimp only [okF.sub, ACode.sub, okF.res]
    simp only [go_sem, e0, e3, eH, q1, q2, q3, tk, wrapb, hres, q4, tk2, encB_len]
  by_cases h0 : n < 0
  · have gn : IntKind.i64.wrap (0 - n) = (n.natAbs : Int) := (wrap64 (x := 0 - n) ⟨by omega, by omega⟩).trans (by omega)
    have k1 : (0 : Int) < ((1 : Nat) : Int) := by omega
    have k2 : ((0 : Int) ≤ 0) = True := eq_true (Int.le_refl 0)
    simp only [go_sem, h0, gn, k1, k2, Int.toNat_zero, List.getElem?_cons_zero, List.set_cons_zero]
    refine loop _ _ _ _ ⟨by omega, rfl, [byt 1], _, by rw [pkN, if_pos h0]; rfl, rfl, rfl⟩ fun t H c q out v hb hout e0 e3 eH => ?_
    exact fin t H c q out v hb hout e0 e3 eH
  · have gn : n = (n.natAbs : Int) := by omega
    simp only [go_sem, h0]
    refine loop _ _ _ _ ⟨by omega, by rw [← gn]; rfl, [byt 0], _, by rw [pkN, if_neg h0]; rfl, rfl, rfl⟩ fun t H c q out v hb hout e0 e3 eH => ?_
    exact fin t H c q out v hb hout e0 e3 eH
end Go.V
set_option linter.unusedSimpArgs false
set_option maxRecDepth 20000
namespace Go.V
open Go.Proofs
def ok112 := okF.gu (P := Tryz.prog) tab Tryz.func112 Tryz.ntmps112 (by conv => lhs; cbv) (by kernel_rfl)
def inv112 (s : Int) (ns : List ByteArray) (ks : List Tr) (i : Nat) (σ : St) : Prop :=
  (∃ u, σ.t 1 = .c (.ptr 1 u 0) ∧ σ.H 1 = some (.var u 118 [.v (.s (.int .i64 s)), .v (.s (.int .i64 0)), .v (.s (.string ⟨#[]⟩)), .v (.sl (encS ns)), .v (.sl (encTs ks))])) ∧ σ.t 4 = .i i ∧
  ∃ (out : List UInt8) (v : Nat), out = byt s :: byt ks.length :: pkK (decide (s = 5)) ns (ks.take i) ∧ σ.t 3 = .c (.own 8 v out.length) ∧ σ.H 8 = some (.arr v true 1 5 (encB out))
theorem take_own (out : List UInt8) : List.take out.length (encB out) = encB out := List.take_of_length_le (by rw [encB_len]; omega)
theorem pkK_take (f5 : Bool) {ks : List Tr} {ns : List ByteArray} {d : Nat} (hk : ∀ k ∈ ks, TOk d k) (hn : ∀ y ∈ ns, y.size ≤ 8) (i : Nat) : (pkK f5 ns (ks.take i)).length ≤ 72 * tpartsL ks := by
  have h1 := pkK_le f5 (ks.take i) ns (fun k hm => pkT_le k d (hk k (List.mem_of_mem_take hm))) hn
  have h2 := tpartsL_take_le ks i
  omega
set_option maxHeartbeats 2000000 in
theorem treeW_ok : ∀ (t : Tr) (d : Nat), TOk d t → tparts t ≤ 120 → ACallsF Tryz.prog 112 [tT t] [] (tL (encB (pkT t))) := by
  intro t
  induction t using Tr.ind with
  | _ s n x ns ks ih =>
    intro d hT hp
    obtain ⟨hd, hsh, hk⟩ := hT.inv
    have hlen := pkT_le _ d hT
    have hkl := tpartsL_len ks
    simp only [tparts] at hp hlen
    have one : ∀ l : List UInt8, l.length ≤ 9000 → (1 + l.length) * 1 ≤ 140737488355328 ∧ 1 + l.length ≤ 9223372036854775807 ∧ 1 + l.length ≤ l.length + 1 ∧ ∀ x : List V, List.take (1 + l.length) (x :: encB l) = x :: encB l := fun l h => ⟨by omega, by omega, by omega, fun x => List.take_of_length_le (by rw [List.length_cons, encB_len]; omega)⟩
    rcases shape_cases hsh with ⟨rfl, a1, a2, rfl, rfl, a3⟩ | ⟨rfl, rfl, a1, rfl, a3⟩ | ⟨rfl, a1, a2, rfl, rfl, a3⟩ | hh
    · obtain rfl := List.length_eq_zero_iff.1 a3
      have hC := numW_ok n ⟨a1, a2⟩
      have hres : encB (pkT (.mk 1 n ⟨#[]⟩ [] [])) = [.s (.int .u8 (byt 1).toNat)] :: encB (pkN n) := by rw [pkT_mk, if_pos rfl]; rfl
      obtain ⟨w1, w2, w3, w4⟩ := one (pkN n) (by have := pkN_len n; omega)
      have w5 := encB_all1 (pkN n)
      refine ACallsF.intro ok112 follows fun X c0 => ?_
      simp only [go_sem, encT_mk, wrapb, Int.reduceBEq]
      refine callC hC rfl rfl rfl rfl ?_
      simp only [go_sem, encB_len, w1, w2, w3, w4, w5, hres]
    · obtain rfl := List.length_eq_zero_iff.1 a3
      have hC := shortS_ok x (by omega)
      have hres : encB (pkT (.mk 2 0 x [] [])) = [.s (.int .u8 (byt 2).toNat)] :: encB (pkX x) := by rw [pkT_mk, if_neg (by decide), if_pos rfl]; rfl
      obtain ⟨w1, w2, w3, w4⟩ := one (pkX x) (by have := pkX_len x; omega)
      have w5 := encB_all1 (pkX x)
      refine ACallsF.intro ok112 follows fun X c0 => ?_
      simp only [go_sem, encT_mk, wrapb, Int.reduceBEq]
      refine callC hC rfl rfl rfl rfl ?_
      simp only [go_sem, encB_len, w1, w2, w3, w4, w5, hres]
    · obtain rfl := List.length_eq_zero_iff.1 a3
      have hres : encB (pkT (.mk 3 n ⟨#[]⟩ [] [])) = [[.s (.int .u8 (byt 3).toNat)], [.s (.int .u8 (byt n).toNat)]] := by rw [pkT_mk, if_neg (by decide), if_neg (by decide), if_pos rfl]; rfl
      have w1 : ((1 + 1) * 1 ≤ 140737488355328) = True := eq_true (by decide)
      have w2 : (1 + 1 ≤ 9223372036854775807) = True := eq_true (by decide)
      refine ACallsF.intro ok112 follows fun X c0 => ?_
      simp only [go_sem, encT_mk, wrapb, Int.reduceBEq, w1, w2, hres]
    · obtain ⟨b1, b2, b3, rfl, rfl, hn, hf⟩ : (s == 1) = false ∧ (s == 2) = false ∧ (s == 3) = false ∧ n = 0 ∧ x = ⟨#[]⟩ ∧ (∀ y ∈ ns, y.size ≤ 8) ∧ (s = 5 → ns.length = ks.length) := by
        rcases hh with ⟨rfl, rfl, rfl, rfl⟩ | ⟨rfl, rfl, rfl, a1, a2⟩ | ⟨rfl, rfl, rfl, rfl⟩
        · exact ⟨rfl, rfl, rfl, rfl, rfl, (fun _ h => by cases h), fun h => by omega⟩
        · exact ⟨rfl, rfl, rfl, rfl, rfl, a1, fun _ => a2⟩
        · exact ⟨rfl, rfl, rfl, rfl, rfl, (fun _ h => by cases h), fun h => by omega⟩
      have n1 : s ≠ 1 := by simpa using b1
      have n2 : s ≠ 2 := by simpa using b2
      have n3 : s ≠ 3 := by simpa using b3
      have hres : pkT (.mk s 0 ⟨#[]⟩ ns ks) = byt s :: byt ks.length :: pkK (decide (s = 5)) ns (ks.take ks.length) := by rw [pkT_mk, if_neg n1, if_neg n2, if_neg n3, List.take_length]
      have hpk := pkK_take (decide (s = 5)) hk hn
      have w1 : ((1 + 1) * 1 ≤ 140737488355328) = True := eq_true (by decide)
      have w2 : (1 + 1 ≤ 9223372036854775807) = True := eq_true (by decide)
      refine ACallsF.intro ok112 follows fun X c0 => ?_
      have loop : ∀ (Q : Exit → St → Prop) (t : Nat → T) (H : HMap) (c : Nat), inv112 s ns ks 0 ⟨t, H, c⟩ → (∀ t H c, inv112 s ns ks ks.length ⟨t, H, c⟩ → Q (.exit 1) ⟨t, H, c⟩) → oneW Tryz.prog X (ok112.sub [1, 1, 1, 1, 0, 1, 0]) Q ⟨t, H, c⟩ := by
        intro Q t0 H0 c0' h0 hQ
        dsimp only [okF.sub, ACode.sub]
        refine AW.uptoA ks.length (inv112 s ns ks) h0 fun i t H c hi hI => ?_
        have hI0 := hI
        obtain ⟨⟨u1, e1, eH1⟩, e4, out, v, hout, e3, eH⟩ := hI
        simp only [T.c, T.i] at e1 eH1 e4 e3 eH
        by_cases hlt : i < ks.length
        · have k0 : (i : Int) < ks.length := by omega
          have gz : (0 : Int) ≤ i := by omega
          have gw : IntKind.i64.wrap ((i : Int) + 1) = ((i + 1 : Nat) : Int) := wrap64 (x := (i : Int) + 1) ⟨by omega, by omega⟩
          obtain ⟨k, hkk⟩ : ∃ k, ks[i]? = some k := ⟨_, List.getElem?_eq_getElem hlt⟩
          have hm := List.mem_of_getElem? hkk
          have hC := ih k hm (d + 1) (hk k hm) (by have := tpartsL_mem hm; omega)
          have ek := encTs_at hkk
          have hkle := pkT_le k (d + 1) (hk k hm)
          have hkp := tpartsL_mem hm
          have hol : out.length ≤ 2 + 72 * tpartsL ks := by have := hpk i; rw [hout]; simp only [List.length_cons]; omega
          have q3 : out.length ≤ (encB out).length := by rw [encB_len]; omega
          have tk := take_own out
          by_cases s5 : s = 5
          · have q5 : (s == 5) = true := beq_iff_eq.2 s5
            have hnl := hf s5
            obtain ⟨y, hy⟩ : ∃ y, ns[i]? = some y := ⟨_, List.getElem?_eq_getElem (by omega)⟩
            have hys := hn y (List.mem_of_getElem? hy)
            have hC2 := shortS_ok y (by omega)
            have ey := encS_at hy
            have k1 : (i : Int) < ns.length := by omega
            have hxl := pkX_len y
            have q1 : (out.length + (pkX y).length) * 1 ≤ 140737488355328 := by omega
            have q2 : out.length + (pkX y).length ≤ 9223372036854775807 := by omega
            have q4 : out.length + (pkX y).length ≤ (encB out ++ encB (pkX y)).length := by rw [List.length_append, encB_len, encB_len]; exact Nat.le_refl _
            have tk2 : List.take (out.length + (pkX y).length) (encB out ++ encB (pkX y)) = encB out ++ encB (pkX y) := List.take_of_length_le (by rw [List.length_append, encB_len, encB_len]; exact Nat.le_refl _)
            have q6 : (out.length + (pkX y).length + (pkT k).length) * 1 ≤ 140737488355328 := by omega
            have q7 : out.length + (pkX y).length + (pkT k).length ≤ 9223372036854775807 := by omega
            have a1 := encB_all1 (pkX y)
            have a2 := encB_all1 (pkT k)
            have hnew : byt s :: byt ks.length :: pkK (decide (s = 5)) ns (ks.take (i + 1)) = out ++ (pkX y ++ pkT k) := by
              rw [hout, pkK_snoc _ ks ns i k y hkk (fun _ => hy), decide_eq_true s5]; rfl
            refine oneW.of ?_
            simp only [go_sem, e1, eH1, e4, k0, encTs_len, q5, gz, k1, encS_len, ey, Int.toNat_natCast]
            refine callC hC2 rfl rfl rfl rfl ?_
            simp only [go_sem, e3, eH, encB_len, q1, q2, q3, tk, a1, e1, eH1, e4, k0, gz, ek, encTs_len, Int.toNat_natCast, List.length_map, encT_len, takeT]
            refine callC hC rfl rfl (by simp [closedA, closedP, closedC]) rfl ?_
            simp only [go_sem, encB_len, q6, q7, q4, tk2, a2, e4, gw]
            refine ⟨hlt, ⟨u1, e1, eH1⟩, rfl, out ++ (pkX y ++ pkT k), ?_⟩
            simp only [List.length_append, encB_app, ← List.append_assoc, ← Nat.add_assoc]
            refine ⟨_, ?_, rfl, rfl⟩
            rw [hnew, List.append_assoc]
          · have q5 : (s == 5) = false := beq_eq_false_iff_ne.2 s5
            have q1 : (out.length + (pkT k).length) * 1 ≤ 140737488355328 := by omega
            have q2 : out.length + (pkT k).length ≤ 9223372036854775807 := by omega
            have a2 := encB_all1 (pkT k)
            have hnew : byt s :: byt ks.length :: pkK (decide (s = 5)) ns (ks.take (i + 1)) = out ++ pkT k := by
              rw [hout, pkK_snoc _ ks ns i k ⟨#[]⟩ hkk (fun h => by rw [decide_eq_false s5] at h; cases h), decide_eq_false s5]; rfl
            refine oneW.of ?_
            simp only [go_sem, e1, eH1, e4, k0, encTs_len, q5, gz, ek, Int.toNat_natCast, List.length_map, encT_len, takeT]
            refine callC hC rfl rfl (by simp [closedA, closedP, closedC]) rfl ?_
            simp only [go_sem, e3, eH, encB_len, q1, q2, q3, tk, a2, e4, gw]
            refine ⟨hlt, ⟨u1, e1, eH1⟩, rfl, out ++ pkT k, ?_⟩
            simp only [List.length_append, encB_app]
            exact ⟨_, hnew.symm, rfl, rfl⟩
        · have hi2 : i = ks.length := by omega
          have k0 : ¬ (i : Int) < ks.length := by omega
          refine oneW.of ?_
          simp only [go_sem, e1, eH1, e4, k0, encTs_len]
          exact hQ _ _ _ (hi2 ▸ hI0)
      simp only [go_sem, encT_mk, wrapb, b1, b2, b3, w1, w2, encTs_len]
      refine loop _ _ _ _ ⟨⟨_, rfl, rfl⟩, rfl, [byt s, byt ks.length], _, by rw [List.take_zero, pkK_nil], rfl, rfl⟩ fun t H c hI => ?_
      obtain ⟨_, e4, out, v, hout, e3, eH⟩ := hI
      simp only [T.c, T.i] at e4 e3 eH
      rw [← hres] at hout
      subst hout
      have q3 : (pkT (.mk s 0 ⟨#[]⟩ ns ks)).length ≤ (encB (pkT (.mk s 0 ⟨#[]⟩ ns ks))).length := by rw [encB_len]; omega
      have tk := take_own (pkT (.mk s 0 ⟨#[]⟩ ns ks))
      simp only [go_sem, e3, eH, q3, tk, encB_len]
end Go.V
set_option linter.unusedSimpArgs false
namespace Go.V
open Go.Proofs
theorem TB.le {n m : Nat} (h : n ≤ m) {k : Tr} (hk : TB n k) : TB m k := by
  induction k using Tr.ind with
  | _ s a x ns ks ih =>
    obtain ⟨h0, h1, h2, h3, h4⟩ := hk.inv
    exact .mk _ _ _ _ _ (by omega) (by omega) (by omega) (fun x hx => by have := h3 x hx; omega) fun k hk => ih k hk (h4 k hk)
/-- An event. -/
structure Ev where
  typ : ByteArray
  ver : Int
  body : Tr
abbrev cE (e : Ev) : List V := [.s (.string e.typ), .s (.int .i64 e.ver), .s (.int .i64 e.body.s), .s (.int .i64 e.body.m), .s (.string e.body.x), .sl (encS e.body.n), .sl (encTs e.body.k)]
abbrev tE (e : Ev) : T := .pt (.agg ((cE e).map .v))
def pkE (e : Ev) : List UInt8 := pkX e.typ ++ byt e.ver :: pkT e.body
noncomputable def evOk (e : Ev) : Bool := nameOk e.typ && ((decide (1 ≤ e.ver) && decide (e.ver ≤ 12)) && ((e.body.s == 5) && okT e.body))
theorem pkE_le {e : Ev} (h : evOk e = true) : (pkE e).length ≤ 9000 := by
  simp only [evOk, Bool.and_eq_true] at h
  obtain ⟨h1, h2⟩ := okT_true.1 h.2.2.2
  have h3 := pkT_le _ _ h1
  have h4 := nameOk_size h.1
  simp only [pkE, List.length_append, List.length_cons, pkX_len]
  omega
def zE : Ev := ⟨⟨#[]⟩, 0, .mk 0 0 ⟨#[]⟩ [] []⟩
/-- The event whose bytes these are. -/
noncomputable def evU (bs : List UInt8) : Ev × Bool := @dite _ (∃ e, evOk e = true ∧ pkE e = bs) (Classical.propDecidable _) (fun h => (h.choose, true)) fun _ => (zE, false)
/-! The reference's reader reads what lies there. -/
def HasS (bs : List UInt8) (p : Nat × Bool) (l : List UInt8) : Prop := p.2 = false ∧ p.1 ≤ bs.length ∧ bs.drop p.1 = l
theorem HasS.one {bs : List UInt8} {p : Nat × Bool} {b : UInt8} {l : List UInt8} (h : HasS bs p (b :: l)) : oneS bs p = (b.toNat, (p.1 + 1, false)) ∧ HasS bs (p.1 + 1, false) l := by
  obtain ⟨h1, h2, h3⟩ := h
  have hlt : p.1 < bs.length := by
    have := congrArg List.length h3
    simp only [List.length_drop, List.length_cons] at this
    omega
  have hb : bs[p.1]? = some b := by
    have : (bs.drop p.1)[0]? = some b := by rw [h3]; rfl
    rw [List.getElem?_drop, Nat.add_zero] at this
    exact this
  refine ⟨by simp only [oneS, hb, h1], rfl, hlt, ?_⟩
  show bs.drop (p.1 + 1) = l
  rw [← List.drop_drop, h3]; rfl
theorem HasS.text {bs : List UInt8} {p : Nat × Bool} {x : ByteArray} {l : List UInt8} (hx : x.size ≤ 255) (h : HasS bs p (pkX x ++ l)) : textS bs p = (x, (p.1 + 1 + x.size, false)) ∧ HasS bs (p.1 + 1 + x.size, false) l := by
  have h0 : HasS bs p (byt x.size :: (x.data.toList ++ l)) := h
  obtain ⟨e, h1, h2, h3⟩ := h0.one
  rw [byt_nat hx] at e
  have hxl : x.data.toList.length = x.size := by rw [Array.length_toList]; rfl
  have hle : x.size ≤ bs.length - (p.1 + 1) := by
    have := congrArg List.length h3
    simp only [List.length_drop, List.length_append, hxl] at this
    omega
  have htk : List.take x.size (bs.drop (p.1 + 1)) = x.data.toList := by
    simp only at h3
    rw [h3, List.take_append_of_le_length (by omega), List.take_of_length_le (by omega)]
  refine ⟨?_, rfl, by show p.1 + 1 + x.size ≤ _; simp only at h2; omega, ?_⟩
  · simp only [textS, e, hle, if_true, htk, ofL_data]
  · show bs.drop (p.1 + 1 + x.size) = l
    simp only at h3
    rw [← List.drop_drop, h3, List.drop_append_of_le_length (by omega), List.drop_of_length_le (by omega), List.nil_append]
theorem HasS.size {bs : List UInt8} : ∀ (k i acc n : Nat) (p : Nat × Bool) (l : List UInt8), 0 < k → n < 128 ^ k → k ≤ 5 → HasS bs p (pkL n ++ l) → (szS bs k i acc p).1 = acc + n * 128 ^ i ∧ HasS bs (szS bs k i acc p).2 l
  | 0, _, _, _, _, _, hk, _, _, _ => by omega
  | k + 1, i, acc, n, p, l, _, hn, h5, h => by
    have hn5 : n < 34359738368 := Nat.lt_of_lt_of_le hn (Nat.le_trans (Nat.pow_le_pow_right (by omega) h5) (by decide))
    by_cases hs : n < 128
    · rw [pkL_small hs] at h
      obtain ⟨e, h2⟩ := HasS.one (b := byt n) (l := l) h
      rw [byt_nat (by omega)] at e
      rw [szS, e]
      simp only [hs, if_true, Nat.mod_eq_of_lt hs]
      exact ⟨trivial, h2⟩
    · rw [pkL_big (by omega) hn5] at h
      obtain ⟨e, h2⟩ := HasS.one (l := pkL (n / 128) ++ l) h
      rw [byt_nat (by omega)] at e
      have hk : 0 < k := by
        rcases Nat.eq_zero_or_pos k with rfl | h
        · simp at hn; omega
        · exact h
      have hd : n / 128 < 128 ^ k := by
        rw [Nat.pow_succ] at hn
        exact Nat.div_lt_of_lt_mul (by rw [Nat.mul_comm]; exact hn)
      obtain ⟨i1, i2⟩ := HasS.size k (i + 1) (acc + (n % 128 + 128) % 128 * 128 ^ i) (n / 128) _ l hk hd (by omega) h2
      rw [szS, e]
      simp only [show ¬ n % 128 + 128 < 128 from by omega, if_false]
      refine ⟨?_, i2⟩
      rw [i1, show (n % 128 + 128) % 128 = n % 128 from by omega, Nat.pow_succ, Nat.add_assoc]
      congr 1
      rw [Nat.mul_comm (128 ^ i), ← Nat.mul_assoc, ← Nat.add_mul]
      congr 1
      omega
theorem RS_ok (bs : List UInt8) : RdOk (RS bs) (HasS bs) where
  fail h := h.1
  one h := by
    obtain ⟨e, h2⟩ := h.one
    show (oneS _ _).1 = _ ∧ HasS _ (oneS _ _).2 _
    rw [e]; exact ⟨rfl, h2⟩
  text hx h := by
    obtain ⟨e, h2⟩ := HasS.text hx h
    show (textS _ _).1 = _ ∧ HasS _ (textS _ _).2 _
    rw [e]; exact ⟨rfl, h2⟩
  num {p n l} h1 h2 h := by
    show (numS _ _).1 = _ ∧ HasS _ (numS _ _).2 _
    obtain ⟨e, h3⟩ := HasS.one (b := byt (if n < 0 then 1 else 0)) (l := pkL n.natAbs ++ l) h
    have hn : n.natAbs < 128 ^ 5 := Nat.lt_of_lt_of_le (show n.natAbs < 1000000000 by omega) (by decide)
    obtain ⟨s1, s2⟩ := HasS.size 5 0 0 n.natAbs _ l (by omega) hn (by omega) h3
    simp only [Nat.pow_zero, Nat.mul_one, Nat.zero_add] at s1
    unfold numS
    rw [e]
    by_cases h0 : n < 0
    · have : (byt (if n < 0 then 1 else 0)).toNat = 1 := by rw [if_pos h0]; rfl
      refine ⟨?_, s2⟩
      simp only [this, if_true, s1]
      omega
    · have : (byt (if n < 0 then 1 else 0)).toNat = 0 := by rw [if_neg h0]; rfl
      refine ⟨?_, s2⟩
      simp only [this, s1, show ¬ (0 = 1) from by decide, if_false]
      omega
/-- An event is read back from its bytes. -/
theorem ev_back {σ : Type} {R : Rd σ} {Has : σ → List UInt8 → Prop} (hR : RdOk R Has) {e : Ev} (he : evOk e = true) {p : σ} {l : List UInt8} (h : Has p (pkE e ++ l)) :
    (R.text p).1 = e.typ ∧ ((R.one (R.text p).2).1 : Int) = e.ver ∧ (trF R 6 (R.one (R.text p).2).2).1 = e.body ∧ Has (trF R 6 (R.one (R.text p).2).2).2 l := by
  simp only [evOk, Bool.and_eq_true, decide_eq_true_eq] at he
  obtain ⟨h1, h2⟩ := okT_true.1 he.2.2.2
  have h4 := nameOk_size he.1
  rw [pkE, List.append_assoc, List.cons_append] at h
  obtain ⟨t1, t2⟩ := hR.text (by omega) h
  obtain ⟨o1, o2⟩ := hR.one t2
  obtain ⟨k1, k2⟩ := trF_ok hR e.body 6 1 rfl h1 (by omega) _ _ o2
  refine ⟨t1, ?_, k1, k2⟩
  rw [o1]
  obtain ⟨n, hn⟩ : ∃ n : Nat, e.ver = n := ⟨e.ver.toNat, by omega⟩
  rw [hn, byt_nat (by omega)]
theorem pkE_inj {e e' : Ev} (h : evOk e = true) (h' : evOk e' = true) (hp : pkE e = pkE e') : e = e' := by
  have h0 : HasS (pkE e) (0, false) (pkE e ++ []) := ⟨rfl, Nat.zero_le _, by rw [List.append_nil]; rfl⟩
  have h1 : HasS (pkE e) (0, false) (pkE e' ++ []) := by rw [← hp]; exact h0
  obtain ⟨a1, a2, a3, _⟩ := ev_back (RS_ok _) h h0
  obtain ⟨b1, b2, b3, _⟩ := ev_back (RS_ok _) h' h1
  have t := a1.symm.trans b1
  have v := a2.symm.trans b2
  have d := a3.symm.trans b3
  clear a1 a2 a3 b1 b2 b3 h0 h1 hp h h'
  obtain ⟨x1, x2, x3⟩ := e
  obtain ⟨y1, y2, y3⟩ := e'
  simp only at t v d
  subst t v d
  rfl
theorem evU_pk {e : Ev} (h : evOk e = true) : evU (pkE e) = (e, true) := by
  have hx : ∃ e', evOk e' = true ∧ pkE e' = pkE e := ⟨e, h, rfl⟩
  unfold evU
  rw [dif_pos hx, pkE_inj hx.choose_spec.1 h hx.choose_spec.2]
theorem evU_no {bs : List UInt8} (h : ∀ e, evOk e = true → pkE e ≠ bs) : evU bs = (zE, false) := by
  unfold evU
  rw [dif_neg]
  rintro ⟨e, h1, h2⟩
  exact h e h1 h2
theorem evU_true {bs : List UInt8} (h : (evU bs).2 = true) : evOk (evU bs).1 = true ∧ pkE (evU bs).1 = bs := by
  by_cases hx : ∃ e, evOk e = true ∧ pkE e = bs
  · obtain ⟨e, h1, rfl⟩ := hx
    rw [evU_pk h1]; exact ⟨h1, rfl⟩
  · rw [evU_no fun e h1 h2 => hx ⟨e, h1, h2⟩] at h; cases h
end Go.V
set_option linter.unusedSimpArgs false
namespace Go.V
open Go.Proofs
end Go.V
set_option linter.unusedSimpArgs false
namespace Go.V
open Go.Proofs
end Go.V
set_option linter.unusedSimpArgs false
namespace Go.V
open Go.Proofs
/-! What a write leaves ok. -/
structure DOk2 (d : Dk) : Prop where
  f : d.files.length ≤ 64
  n : d.names.length ≤ 64
  m : d.moves.length ≤ 128
  l : d.files.map DF.name = made d
  nd : (made d).Nodup
  good : ∀ f ∈ d.files, nameOk f.name = true ∧ f.data.size ≤ 20000 ∧ 0 ≤ f.kept ∧ f.kept ≤ f.data.size
  moves : ∀ (i : Nat) (m : DM), d.moves[i]? = some m → m.gone = true → m.name ∈ aft d.names (d.moves.take i)
theorem DOk.two {d : Dk} (h : DOk d) : DOk2 d := by
  refine ⟨h.f, h.n, h.m, List.ext_getElem? fun i => ?_, made_nodup h.l fun i f hf => ⟨(h.files i f hf).made, (h.files i f hf).one⟩, fun f hf => ?_, h.moves⟩
  · rw [List.getElem?_map]
    cases hi : d.files[i]? with
    | none =>
      have := h.l
      rw [List.getElem?_eq_none_iff] at hi
      exact (List.getElem?_eq_none (by omega)).symm
    | some f => exact (h.files i f hi).made.symm
  · obtain ⟨i, hi⟩ := List.mem_iff_getElem?.1 hf
    have := h.files i f hi
    exact ⟨this.name, this.data, this.lo, this.hi⟩
theorem DOk2.ok {d : Dk} (h : DOk2 d) : DOk d := by
  have hat : ∀ (i : Nat) (f : DF), d.files[i]? = some f → (made d)[i]? = some f.name := fun i f hf => by rw [← h.l, List.getElem?_map, hf]; rfl
  refine ⟨h.f, h.n, h.m, by rw [← h.l, List.length_map], fun i f hf => ?_, h.moves⟩
  obtain ⟨g1, g2, g3, g4⟩ := h.good f (List.mem_of_getElem? hf)
  refine ⟨g1, hat i f hf, g2, g3, g4, fnd_at hf rfl fun j hj g hg e => ?_⟩
  have a := hat i f hf
  have b := hat j g hg
  rw [e] at b
  obtain ⟨hi, ha⟩ := List.getElem?_eq_some_iff.1 a
  obtain ⟨hj2, hb⟩ := List.getElem?_eq_some_iff.1 b
  have := (List.pairwise_iff_getElem.1 h.nd) j i hj2 hi hj
  exact this (by rw [ha, hb])
theorem aft_len2 : ∀ (ms : List DM) (ns : List ByteArray), (aft ns ms).length ≤ ns.length + (mades ms).length
  | [], ns => by simp [aft, mades]
  | m :: ms, ns => by
    cases hg : m.gone with
    | true =>
      have h1 := aft_len2 ms (wo m.name ns)
      have h2 := wo_len m.name ns
      have e : mades (m :: ms) = mades ms := by simp [mades, hg]
      rw [e]
      simp only [aft, hg, if_true]
      omega
    | false =>
      have h1 := aft_len2 ms (ns ++ [m.name])
      have e : mades (m :: ms) = m.name :: mades ms := by simp [mades, hg]
      rw [e]
      simp only [aft, hg, Bool.false_eq_true, if_false]
      simp at h1 ⊢
      omega
theorem aft_moves {ns : List ByteArray} {ms : List DM} {m : DM} (h : ∀ (i : Nat) (x : DM), ms[i]? = some x → x.gone = true → x.name ∈ aft ns (ms.take i)) (hm : m.gone = true → m.name ∈ aft ns ms) : ∀ (i : Nat) (x : DM), (ms ++ [m])[i]? = some x → x.gone = true → x.name ∈ aft ns ((ms ++ [m]).take i) := by
  intro i x hx hg
  by_cases hi : i < ms.length
  · rw [List.getElem?_append_left hi] at hx
    rw [List.take_append_of_le_length (by omega)]
    exact h i x hx hg
  · have hlt := (List.getElem?_eq_some_iff.1 hx).1
    simp at hlt
    have e : i = ms.length := by omega
    subst e
    rw [List.getElem?_append_right (Nat.le_refl _)] at hx
    simp at hx
    subst hx
    rw [List.take_left' rfl]
    exact hm hg
theorem map_set_same {fs : List DF} {i : Nat} {f g : DF} (h : fs[i]? = some f) (hn : g.name = f.name) : (fs.set i g).map DF.name = fs.map DF.name := by
  rw [List.map_set]
  obtain ⟨hi, he⟩ := List.getElem?_eq_some_iff.1 h
  refine List.ext_getElem? fun j => ?_
  rw [List.getElem?_set]
  split
  · rename_i e
    subst e
    rw [if_pos (by simpa using hi), List.getElem?_map, h, hn]; rfl
  · rfl
theorem set_good {fs : List DF} {i : Nat} {g : DF} {Q : DF → Prop} (h : ∀ f ∈ fs, Q f) (hg : Q g) : ∀ f ∈ fs.set i g, Q f := fun f hf => by
  rcases List.mem_or_eq_of_mem_set hf with hf | rfl
  · exact h f hf
  · exact hg
/-- A write that is done leaves an ok disk. -/
theorem DOk.step {d : Dk} (w : DW) (h : DOk d) : DOk (doS d w).1 := by
  have h2 := h.two
  have hdone : DOk2 (doS d w).1 → DOk (doS d w).1 := DOk2.ok
  apply hdone
  unfold doS
  split
  · rename_i hk
    split
    · exact h2
    · rename_i hN
      split
      · exact h2
      · rename_i hL
        have hn : nameOk w.name = true := by
          cases hq : nameOk w.name with
          | true => rfl
          | false => exact absurd (.inl hq) hN
        have hmade : made ⟨d.files ++ [⟨w.name, ⟨#[]⟩, 0⟩], d.names, d.moves ++ [⟨false, w.name⟩]⟩ = made d ++ [w.name] := by simp [made, mades]
        have hnew : w.name ∉ made d := fun hm => by
          rw [← h2.l, List.mem_map] at hm
          obtain ⟨f, hf, e⟩ := hm
          obtain ⟨i, hi⟩ := List.mem_iff_getElem?.1 hf
          have := (fnd_le hi).1
          rw [e] at this
          exact hN (.inr this)
        refine ⟨by simp; omega, h2.n, by simp; omega, ?_, ?_, ?_, aft_moves h2.moves (by simp)⟩
        · rw [hmade, ← h2.l]; simp
        · rw [hmade, List.nodup_append]
          exact ⟨h2.nd, by simp, fun a ha b hb => by rw [List.mem_singleton] at hb; subst hb; intro e; subst e; exact hnew ha⟩
        · intro f hf
          rcases List.mem_append.1 hf with hf | hf
          · exact h2.good f hf
          · rw [List.mem_singleton] at hf
            subst hf
            exact ⟨hn, Nat.zero_le _, Int.le_refl _, Int.le_refl _⟩
  · rename_i hk
    split
    · have hnm : ∀ x ∈ aft d.names d.moves, x ∈ made d := fun x hx => DOk.aft_made (n := d.moves.length) (by rw [List.take_length]; exact hx)
      have hN := (nmI_aft h2.nd d.moves.length (Nat.le_refl _)).2
      rw [List.take_length, List.drop_length] at hN
      have hmade : made (keepD d (aft d.names d.moves)) = aft d.names d.moves := by simp [made, keepD, mades]
      have hl := aft_len2 d.moves d.names
      have hml : (made d).length = d.files.length := h.l
      have hm2 : (made d).length = d.names.length + (mades d.moves).length := by simp [made]
      have hf := h2.f
      refine ⟨by simp only [keepD, List.length_map]; omega, by simp only [keepD]; omega, by simp [keepD], ?_, ?_, ?_, fun i m hm => by simp [keepD] at hm⟩
      · rw [hmade]
        simp only [keepD, List.map_map]
        have : (aft d.names d.moves).map (DF.name ∘ fileOf d.files) = (aft d.names d.moves).map id := List.map_congr_left fun x hx => by
          obtain ⟨_, _, _, h4⟩ := h.find (hnm x hx)
          exact h4
        rw [this, List.map_id]
      · rw [hmade]; simpa [mades] using hN
      · intro f hf
        simp only [keepD, List.mem_map] at hf
        obtain ⟨x, hx, rfl⟩ := hf
        obtain ⟨i, _, h3, _⟩ := h.find (hnm x hx)
        exact h2.good _ (List.mem_of_getElem? h3)
    · rename_i hk5
      split
      · exact h2
      · rename_i hr
        split
        · exact h2
        · rename_i hh
          have hin : w.name ∈ aft d.names d.moves := has_true.1 (by cases hq : has (aft d.names d.moves) w.name with | true => rfl | false => exact absurd hq hh)
          obtain ⟨i, h3, h4, h5⟩ := h.find (DOk.aft_made (n := d.moves.length) (by rw [List.take_length]; exact hin))
          have hgd := h2.good _ (List.mem_of_getElem? h4)
          rw [h3, Int.toNat_natCast]
          split
          · split
            · exact h2
            · rename_i hsz
              refine ⟨by simp only [List.length_set]; exact h2.f, h2.n, h2.m, ?_, h2.nd, set_good h2.good ⟨hgd.1, ?_, hgd.2.2.1, ?_⟩, h2.moves⟩
              · exact (map_set_same (g := ⟨(fileOf d.files w.name).name, (fileOf d.files w.name).data ++ w.data, (fileOf d.files w.name).kept⟩) h4 rfl).trans h2.l
              · simp only [ByteArray.size_append]; omega
              · simp only [ByteArray.size_append]; have := hgd.2.2.2; omega
          · split
            · refine ⟨by simp only [List.length_set]; exact h2.f, h2.n, h2.m, ?_, h2.nd, set_good h2.good ⟨hgd.1, hgd.2.1, by simp, by simp⟩, h2.moves⟩
              exact (map_set_same (g := ⟨(fileOf d.files w.name).name, (fileOf d.files w.name).data, (fileOf d.files w.name).data.size⟩) h4 rfl).trans h2.l
            · split
              · exact h2
              · rename_i hL
                have hmade : made ⟨d.files, d.names, d.moves ++ [⟨true, w.name⟩]⟩ = made d := by simp [made, mades]
                refine ⟨h2.f, h2.n, by simp; omega, by rw [hmade]; exact h2.l, by rw [hmade]; exact h2.nd, h2.good, aft_moves h2.moves fun _ => hin⟩
theorem nameOk_len {s : ByteArray} (h : nameOk s = true) : s.size ≤ 8 := by
  simp only [nameOk, Bool.and_eq_true, decide_eq_true_eq] at h
  exact h.1.1.2
theorem DOk.fine {d : Dk} (h : DOk d) : fineDk d := by
  have h2 := h.two
  have l1 := h2.f
  have l2 := h2.n
  have l3 := h2.m
  have hm : ∀ x ∈ made d, x.size ≤ 8 := fun x hx => by
    rw [← h2.l, List.mem_map] at hx
    obtain ⟨f, hf, rfl⟩ := hx
    exact nameOk_len (h2.good f hf).1
  refine ⟨⟨by omega, by omega, by omega⟩, fun f hf => ?_, fun x hx => ?_, fun m hmm => ?_⟩
  · have a := h2.good f hf
    have b := nameOk_len a.1
    omega
  · have := hm x (List.mem_append.2 (.inl hx)); omega
  · have : m.name ∈ made d := by
      cases hg : m.gone with
      | false => exact List.mem_append.2 (.inr (List.mem_map.2 ⟨m, List.mem_filter.2 ⟨hmm, by simp [hg]⟩, rfl⟩))
      | true =>
        obtain ⟨i, hi⟩ := List.mem_iff_getElem?.1 hmm
        exact DOk.aft_made (h2.moves i m hi hg)
    have := hm _ this; omega
end Go.V
set_option linter.unusedSimpArgs false
namespace Go.V
open Go.Proofs
end Go.V
set_option linter.unusedSimpArgs false
namespace Go.V
open Go.Proofs
theorem drop_at {α : Type} {xs : List α} {i : Nat} {x : α} (h : xs[i]? = some x) : xs.drop i = x :: xs.drop (i + 1) := by
  obtain ⟨hi, he⟩ := List.getElem?_eq_some_iff.1 h
  rw [List.drop_eq_getElem_cons hi, he]
abbrev cDk (d : Dk) : List C := [.v (.sl (en eF d.files)), .v (.sl (en eS d.names)), .v (.sl (en eM d.moves))]
end Go.V
set_option linter.unusedSimpArgs false
namespace Go.V
open Go.Proofs
end Go.V
set_option linter.unusedSimpArgs false
namespace Go.V
open Go.Proofs
end Go.V
set_option linter.unusedSimpArgs false
namespace Go.V
open Go.Proofs
end Go.V
set_option linter.unusedSimpArgs false
namespace Go.V
open Go.Proofs
end Go.V

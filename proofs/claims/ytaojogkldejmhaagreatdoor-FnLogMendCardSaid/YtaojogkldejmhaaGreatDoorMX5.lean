/- The Go function laws.FnLogMend returns true for every input, in the program's own Lean form: however power was lost, the log can be mended, and goes on. Conditions: those of the given row and card. -/
import Derived.Test.YtaojogkldejmhaaGreatDoorMX4
import Derived.Test.YtaojogkldejmhaaGreatDoorMK1
set_option linter.unusedVariables false
set_option linter.unusedSimpArgs false
set_option maxRecDepth 20000
namespace Go.V
open Go.Proofs
/-! The greatest number of a file. -/
theorem numOf_head {l : UInt8} {s : ByteArray} (h : numOf l s ≠ 0) : s.data[0]? = some l := by
  unfold numOf at h
  split at h
  · rename_i g; exact g.1
  · exact absurd rfl h
theorem cons_ext (c : UInt8) (x : ByteArray) : ((⟨#[c]⟩ : ByteArray) ++ x).extract 1 ((⟨#[c]⟩ : ByteArray) ++ x).size = x := by
  apply ByteArray.ext
  apply Array.ext_getElem?
  intro i
  rw [ByteArray.data_extract, Array.getElem?_extract, ByteArray.data_append, ByteArray.size_append]
  have h1 : (⟨#[c]⟩ : ByteArray).size = 1 := rfl
  have h2 : (#[c] ++ x.data).size = 1 + x.data.size := by rw [Array.size_append]; rfl
  have h3 : (#[c] : Array UInt8).size = 1 := rfl
  have h4 : x.data.size = x.size := rfl
  rw [h1, h2, h4, Nat.min_self, Nat.add_sub_cancel_left]
  split
  · rw [Array.getElem?_append_right (by rw [h3]; omega), h3, Nat.add_sub_cancel_left]
  · exact (Array.getElem?_eq_none (by rw [h4]; omega)).symm
theorem cons_head (c : UInt8) (x : ByteArray) : ((⟨#[c]⟩ : ByteArray) ++ x).data[0]? = some c := by
  rw [ByteArray.data_append, Array.getElem?_append_left (show 0 < (#[c] : Array UInt8).size from Nat.one_pos)]; rfl
theorem numOf_same (c : UInt8) {n : Int} (h : 1 ≤ n ∧ n ≤ 999999) : numOf c ((⟨#[c]⟩ : ByteArray) ++ dc n) = n := by
  have h1 := rn_dL n ⟨by omega, by omega⟩
  rw [dL_dc] at h1
  rw [numOf_rn (cons_head c _), cons_ext, h1.1, h1.2, if_pos ⟨rfl, h⟩]
theorem numOf_diff {c l : UInt8} (x : ByteArray) (h : c ≠ l) : numOf l ((⟨#[c]⟩ : ByteArray) ++ x) = 0 := by
  apply Classical.byContradiction
  intro hn
  have := numOf_head hn
  rw [cons_head] at this
  cases this
  exact h rfl
/-- A name's number. -/
def vN (nm : ByteArray) : Int := max (numOf 115 nm) (numOf 109 nm)
theorem vN_sum (nm : ByteArray) : numOf 109 nm + numOf 115 nm = vN nm := by
  have h1 := numOf_le 109 nm
  have h2 := numOf_le 115 nm
  unfold vN
  by_cases h : numOf 109 nm = 0
  · omega
  · by_cases g : numOf 115 nm = 0
    · omega
    · have a := numOf_head h
      have b := numOf_head g
      rw [a] at b; cases b
theorem vN_le (nm : ByteArray) : 0 ≤ vN nm ∧ vN nm ≤ 999999 := by
  have h1 := numOf_le 109 nm
  have h2 := numOf_le 115 nm
  unfold vN; omega
theorem vN_seg {n : Int} (h : 1 ≤ n ∧ n ≤ 999999) : vN (seg n) = n := by
  rw [vN, seg, numOf_same 115 h, numOf_diff _ (by decide)]; omega
theorem vN_pln {n : Int} (h : 1 ≤ n ∧ n ≤ 999999) : vN (pln n) = n := by
  rw [vN, pln, numOf_same 109 h, numOf_diff _ (by decide)]; omega
def topN (ns : List ByteArray) : Int := ns.foldl (fun m nm => max m (vN nm)) 0
theorem topN_take {ns : List ByteArray} {i : Nat} {x : ByteArray} (h : ns[i]? = some x) : topN (ns.take (i + 1)) = max (topN (ns.take i)) (vN x) := by
  rw [topN, take_snoc h, List.foldl_append]; rfl
theorem fold_max : ∀ (ns : List ByteArray) (m : Int), m ≤ ns.foldl (fun m nm => max m (vN nm)) m ∧ (∀ nm ∈ ns, vN nm ≤ ns.foldl (fun m nm => max m (vN nm)) m) ∧ (ns.foldl (fun m nm => max m (vN nm)) m = m ∨ ∃ nm ∈ ns, ns.foldl (fun m nm => max m (vN nm)) m = vN nm)
  | [], m => ⟨Int.le_refl m, fun _ h => absurd h (by simp), .inl rfl⟩
  | x :: ns, m => by
    obtain ⟨h1, h2, h3⟩ := fold_max ns (max m (vN x))
    simp only [List.foldl_cons]
    refine ⟨by omega, fun nm hm => ?_, ?_⟩
    · rcases List.mem_cons.1 hm with rfl | hm
      · omega
      · exact h2 nm hm
    · rcases h3 with h3 | ⟨nm, h4, h5⟩
      · by_cases hx : vN x ≤ m
        · exact .inl (by rw [h3]; omega)
        · exact .inr ⟨x, by simp, by rw [h3]; omega⟩
      · exact .inr ⟨nm, by simp [h4], h5⟩
theorem topN_ge {ns : List ByteArray} {nm : ByteArray} (h : nm ∈ ns) : vN nm ≤ topN ns := (fold_max ns 0).2.1 nm h
theorem topN_le (ns : List ByteArray) : 0 ≤ topN ns ∧ topN ns ≤ 999999 := by
  obtain ⟨h1, h2, h3⟩ := fold_max ns 0
  refine ⟨h1, ?_⟩
  show topN ns ≤ 999999
  rcases h3 with h3 | ⟨nm, _, h5⟩
  · have : topN ns = 0 := h3
    omega
  · have : topN ns = vN nm := h5
    have := vN_le nm
    omega
theorem topN_mono {ns ms : List ByteArray} (h : ∀ x ∈ ns, x ∈ ms) : topN ns ≤ topN ms := by
  have h0 := topN_le ms
  rcases (fold_max ns 0).2.2 with h3 | ⟨nm, h4, h5⟩
  · have : topN ns = 0 := h3
    omega
  · have : topN ns = vN nm := h5
    have := topN_ge (h nm h4)
    omega
abbrev nmsOf (d : Dk) : List ByteArray := d.files.map DF.name
def ok124 := okF.gu (P := Tryz.prog) tab Tryz.func124 Tryz.ntmps124 (by conv => lhs; cbv) (by kernel_rfl)
def inv124 (d : Dk) (i : Nat) (σ : St) : Prop := (∃ u, σ.t 1 = .c (.ptr 1 u 0) ∧ σ.H 1 = some (.var u 29 (cDk d))) ∧ σ.t 4 = .i i ∧ σ.t 3 = .i (topN ((nmsOf d).take i))
set_option maxHeartbeats 1000000 in
theorem topS_ok (d : Dk) (hl : d.files.length ≤ 9000000000000000000) (hn : ∀ f ∈ d.files, f.name.size ≤ 1000000) : ACallsF Tryz.prog 124 [tDk d] [] (.i (topN (nmsOf d))) := by
  refine ACallsF.intro ok124 follows fun X c0 => ?_
  simp only [go_sem]
  refine AW.upto d.files.length (inv124 d) ⟨⟨_, rfl, rfl⟩, rfl, rfl⟩ fun i t H c hi h => ?_
  obtain ⟨⟨u1, e1, eH1⟩, e4, e3⟩ := h
  simp only [T.c, T.i] at e1 eH1 e4 e3
  by_cases hlt : i < d.files.length
  · obtain ⟨f, hf⟩ : ∃ f, d.files[i]? = some f := ⟨_, List.getElem?_eq_getElem hlt⟩
    have ef := en_at eF hf
    have gx : (0 : Int) ≤ i := by omega
    have k5 : (i : Int) < d.files.length := by omega
    have gw : IntKind.i64.wrap ((i : Int) + 1) = ((i + 1 : Nat) : Int) := wrap64 (x := (i : Int) + 1) ⟨by omega, by omega⟩
    have hs := hn f (List.mem_of_getElem? hf)
    have ht := topN_take (ns := nmsOf d) (i := i) (x := f.name) (by rw [List.getElem?_map, hf]; rfl)
    have hv := vN_le f.name
    have hC1 := num43_ok f.name 109 (by omega)
    have hC2 := num43_ok f.name 115 (by omega)
    have gs : IntKind.i64.wrap (numOf 109 f.name + numOf 115 f.name) = vN f.name := by rw [vN_sum]; exact wrap64 ⟨by omega, by omega⟩
    simp only [go_sem, e1, eH1, e4, e3, k5, gx, ef, eF]
    refine callC hC1 rfl rfl rfl rfl ?_
    simp only [go_sem, e1, eH1, e4, e3, k5, gx, ef, eF]
    refine callC hC2 rfl rfl rfl rfl ?_
    by_cases k6 : vN f.name > topN ((nmsOf d).take i)
    · simp only [go_sem, gs, e3, e4, k6, gw]
      exact ⟨hlt, ⟨u1, e1, eH1⟩, rfl, by rw [ht, Int.max_eq_right (by omega)]; rfl⟩
    · simp only [go_sem, gs, e3, e4, k6, gw]
      exact ⟨hlt, ⟨u1, e1, eH1⟩, rfl, by rw [ht, Int.max_eq_left (by omega)]; exact e3⟩
  · have hi2 : i = d.files.length := by omega
    subst hi2
    have k5 : ¬ (d.files.length : Int) < d.files.length := by omega
    have htk : List.take d.files.length (nmsOf d) = nmsOf d := List.take_of_length_le (by rw [List.length_map]; exact Nat.le_refl _)
    rw [htk] at e3
    simp only [go_sem, e1, eH1, e4, e3, k5]
def ok149 := okF.gu (P := Tryz.prog) tab Tryz.func149 Tryz.ntmps149 (by conv => lhs; cbv) (by kernel_rfl)
def inv149 (ns : List ByteArray) (i : Nat) (σ : St) : Prop := σ.t 6 = tL (en eS ns) ∧ σ.t 7 = .i ns.length ∧ σ.t 8 = .i i ∧ σ.t 3 = .i (topN (ns.take i))
set_option maxHeartbeats 1000000 in
theorem topI_ok (ns : List ByteArray) (hl : ns.length ≤ 9000000000000000000) (hn : ∀ x ∈ ns, x.size ≤ 1000000) : ACallsF Tryz.prog 149 [tL (en eS ns)] [] (.i (topN ns)) := by
  refine ACallsF.intro ok149 follows fun X c0 => ?_
  simp only [go_sem]
  refine AW.upto ns.length (inv149 ns) ⟨rfl, rfl, rfl, rfl⟩ fun i t H c hi h => ?_
  obtain ⟨e6, e7, e8, e3⟩ := h
  simp only [T.c, T.i, tL] at e6 e7 e8 e3
  by_cases hlt : i < ns.length
  · obtain ⟨x, hx⟩ : ∃ x, ns[i]? = some x := ⟨_, List.getElem?_eq_getElem hlt⟩
    have ex := en_at eS hx
    have gx : (0 : Int) ≤ i := by omega
    have k5 : (i : Int) < ns.length := by omega
    have gw : IntKind.i64.wrap ((i : Int) + 1) = ((i + 1 : Nat) : Int) := wrap64 (x := (i : Int) + 1) ⟨by omega, by omega⟩
    have hs := hn x (List.mem_of_getElem? hx)
    have ht := topN_take hx
    have hC1 := numI_ok x 109 (by omega)
    have hC2 := numI_ok x 115 (by omega)
    simp only [go_sem, e6, e7, e8, e3, k5, gx, ex, eS]
    refine callC hC2 rfl rfl rfl rfl ?_
    simp only [go_sem]
    refine callC hC1 rfl rfl rfl rfl ?_
    simp only [go_sem, e8, gw, e3, core.eq_36]
    refine ⟨hlt, e6, e7, rfl, ?_⟩
    rw [ht, vN, ← Int.max_assoc]; rfl
  · have hi2 : i = ns.length := by omega
    subst hi2
    have k5 : ¬ (ns.length : Int) < ns.length := by omega
    rw [List.take_length] at e3
    simp only [go_sem, e6, e7, e8, e3, k5]
def ok133 := okF.gu (P := Tryz.prog) tab Tryz.func133 Tryz.ntmps133 (by conv => lhs; cbv) (by kernel_rfl)
def inv133 (d : Dk) (i : Nat) (σ : St) : Prop := σ.t 8 = tL (en eF d.files) ∧ σ.t 9 = .i d.files.length ∧ σ.t 10 = .i i ∧ ∃ v, σ.t 3 = .c (.own 6 v i) ∧ σ.H 6 = some (.arr v true 1 9 (en eS ((nmsOf d).take i)))
set_option maxHeartbeats 1000000 in
theorem fnames_ok (d : Dk) (hl : d.files.length ≤ 1000) : ACallsF Tryz.prog 133 [tDk d] [] (tL (en eS (nmsOf d))) := by
  refine ACallsF.intro ok133 follows fun X c0 => ?_
  simp only [go_sem]
  refine AW.upto d.files.length (inv133 d) ⟨rfl, rfl, rfl, _, rfl, rfl⟩ fun i t H c hi h => ?_
  obtain ⟨e8, e9, e10, v, e3, eH⟩ := h
  simp only [T.c, T.i, tL] at e8 e9 e10 e3 eH
  have hlen : (en eS ((nmsOf d).take i)).length = i := by rw [en_len, List.length_take, List.length_map]; omega
  by_cases hlt : i < d.files.length
  · obtain ⟨f, hf⟩ : ∃ f, d.files[i]? = some f := ⟨_, List.getElem?_eq_getElem hlt⟩
    have ef := en_at eF hf
    have gx : (0 : Int) ≤ i := by omega
    have k5 : (i : Int) < d.files.length := by omega
    have gw : IntKind.i64.wrap ((i : Int) + 1) = ((i + 1 : Nat) : Int) := wrap64 (x := (i : Int) + 1) ⟨by omega, by omega⟩
    have ht : (nmsOf d).take (i + 1) = (nmsOf d).take i ++ [f.name] := take_snoc (by rw [List.getElem?_map, hf]; rfl)
    have hT : List.take i (en eS ((nmsOf d).take i)) = en eS ((nmsOf d).take i) := List.take_of_length_le (by rw [hlen]; exact Nat.le_refl _)
    have q1 : (i + 1) * 16 ≤ 140737488355328 := by omega
    have q2 : i + 1 ≤ 9223372036854775807 := by omega
    simp only [go_sem, e8, e9, e10, e3, eH, k5, gx, ef, eF, hT, hlen, q1, q2, gw]
    unfold inv133
    rw [ht, en_snoc]
    exact ⟨hlt, e8, e9, rfl, _, rfl, rfl⟩
  · have hi2 : i = d.files.length := by omega
    subst hi2
    have k5 : ¬ (d.files.length : Int) < d.files.length := by omega
    have htk : List.take d.files.length (nmsOf d) = nmsOf d := List.take_of_length_le (by rw [List.length_map]; exact Nat.le_refl _)
    rw [htk] at eH hlen
    have hT : List.take d.files.length (en eS (nmsOf d)) = en eS (nmsOf d) := List.take_of_length_le (by rw [hlen]; exact Nat.le_refl _)
    simp only [go_sem, e8, e9, e10, e3, eH, k5, hlen, hT]
def ok148 := okF.gu (P := Tryz.prog) tab Tryz.func148 Tryz.ntmps148 (by conv => lhs; cbv) (by kernel_rfl)
theorem room_ok (ns : List ByteArray) (hl : ns.length ≤ 9000000000000000000) (hn : ∀ x ∈ ns, x.size ≤ 1000000) : ACallsF Tryz.prog 148 [tL (en eS ns)] [] (.b (decide (topN ns < 999999) && decide ((ns.length : Int) ≤ 62))) := by
  refine ACallsF.intro ok148 follows fun X c0 => ?_
  simp only [go_sem]
  refine callC (topI_ok ns hl hn) rfl rfl rfl rfl ?_
  by_cases k1 : topN ns < 999999
  · simp only [go_sem, k1]
  · simp only [go_sem, k1]
end Go.V
set_option linter.unusedSimpArgs false
set_option maxRecDepth 20000
namespace Go.V
open Go.Proofs
/-! Raw writes that are gathered. -/
abbrev wgH (m0 m1 u v : Nat) (ws ws' : List DW) : List Hand := [⟨4001, m0, some (.var u 170 [.own 1001 v ws.length]), .var u 170 [.own 1001 0 ws'.length], true⟩, ⟨1001, m1, some (.arr v true 3 89 (en eW ws)), .arr 0 true 3 89 (en eW ws'), false⟩]
abbrev wg0 (m0 m1 u : Nat) (ws' : List DW) : List Hand := [⟨4001, m0, some (.var u 170 [.nil0]), .var u 170 [.own 18 0 ws'.length], true⟩, newH 18 m1 3 89 (en eW ws')]
section
variable {P : Program} {t : Nat → T} {H : HMap} {c : Nat} {f : Opd} {args : List Opd} {fid : FuncId} {al al0 : List T} {lw : List (Nat × Blk)} {ns : List Nat} {m0 m1 u v : Nat} {ws ws' : List DW} {r : T} {k : Nat} {d : Option Nat} {un : List Nat} {l : List AOper} {prev : List (Nat × List Nat × List Nat)} {K : St → Prop}
theorem callWl (hC : ACallsF P fid (.c (.ptr 4001 u 0) :: al) (wgH m0 m1 u v ws ws') r) (hf : ev t f = .pt (.one (.fn fid []))) (hl : args.map (ev t) = .c (.ptr m0 u 0) :: al0) (hll : lendTs H al al0 = some (al, lw, ns)) (ha : al.all closedA = true) (hr : closedT r = true)
    (hm : m0 ≠ m1) {nn : Nat} (h0 : updH H lw m0 = some (.var u 170 [.own m1 v nn])) (hn : nn = ws.length) (h1 : updH H lw m1 = some (.arr v true 3 89 (en eW ws)))
    (hk : chk prev un ⟨r, lw ++ [(m0, .var u 170 [.own m1 (c + k) ws'.length]), (m1, .arr (c + k) true 3 89 (en eW ws'))], ns ++ [m0, m1], ns ++ [m0, m1]⟩ = true ∧
      DRun P l ((k, ns ++ [m0, m1], ns ++ [m0, m1]) :: prev) K ⟨updD t d r, updH H (lw ++ [(m0, .var u 170 [.own m1 (c + k) ws'.length]), (m1, .arr (c + k) true 3 89 (en eW ws'))]), c⟩) :
    step P k d un (.call f args) l prev K t H c := by
  subst hn
  generalize hhs : wgH m0 m1 u v ws ws' = hs at hC
  have R0 : renN hs 4001 = some ⟨4001, m0, some (.var u 170 [.own 1001 v ws.length]), .var u 170 [.own 1001 0 ws'.length], true⟩ := by rw [← hhs]; rfl
  have R1 : renN hs 1001 = some ⟨1001, m1, some (.arr v true 3 89 (en eW ws)), .arr 0 true 3 89 (en eW ws'), false⟩ := by rw [← hhs]; rfl
  have I0 : inN hs 4001 = some m0 := by simp [inN, R0]
  have I1 : inN hs 1001 = some m1 := by simp [inN, R1]
  obtain ⟨x1, x2⟩ := closed_As hs H al ha
  refine callW (caps := []) («as» := .c (.ptr m0 u 0) :: al) (ws := lw) (ns := ns) (r' := r) (ob := [(m0, .var u 170 [.own m1 (c + k) ws'.length]), (m1, .arr (c + k) true 3 89 (en eW ws'))]) hs hC hf ?_ ?_ ?_ (by rw [← hhs]; simp [hm]) (by rw [← hhs]; simp) (closed_T _ r hr _) ?_ ?_
  · have a1 : lendT H (T.c (.ptr 4001 u 0)) (T.c (.ptr m0 u 0)) = some (T.c (.ptr m0 u 0), [], []) := rfl
    rw [hl]
    simp only [List.map_nil, List.append_nil, lendTs, a1, hll, List.nil_append]
  · have a1 : renIT hs (T.c (.ptr 4001 u 0)) = some (T.c (.ptr m0 u 0)) := by simp only [T.c, renIT, renI, I0, Option.map_some]
    simp only [renITs, a1, x2]
  · have B0 : renIB hs (.var u 170 [.own 1001 v ws.length]) = some (.var u 170 [.own m1 v ws.length]) := by simp only [renIB, renIs, renI, I1, Option.map_some]
    have B1 : ∀ v wr st ty es, renIB hs (.arr v wr st ty es) = some (.arr v wr st ty es) := fun _ _ _ _ _ => rfl
    have key : handsIn (updH H lw) hs (wgH m0 m1 u v ws ws') := by
      simp only [handsIn, B0, B1, h0, h1, and_self]
    rw [hhs] at key
    exact key
  · have key : renOBs hs (c + k) (wgH m0 m1 u v ws ws') = some [(m0, .var u 170 [.own m1 (c + k) ws'.length]), (m1, .arr (c + k) true 3 89 (en eW ws'))] := by
      simp only [renOBs, renOB, renOs, renO, R1, Option.map_some, verOf, if_true, Bool.false_eq_true, if_false, Blk.ver]
    rw [hhs] at key
    exact key
  · have hq : quiet r hs = false := by rw [← hhs]; simp [quiet]
    have hms : hs.map (·.m) = [m0, m1] := by rw [← hhs]; rfl
    rw [hq, hms]
    exact hk
theorem callWc (hC : ACallsF P fid (.c (.ptr 4001 u 0) :: al) (wgH m0 m1 u v ws ws') r) (hf : ev t f = .pt (.one (.fn fid []))) (hl : args.map (ev t) = .c (.ptr m0 u 0) :: al) (ha : al.all closedA = true) (hr : closedT r = true)
    (hm : m0 ≠ m1) {nn : Nat} (h0 : H m0 = some (.var u 170 [.own m1 v nn])) (hn : nn = ws.length) (h1 : H m1 = some (.arr v true 3 89 (en eW ws)))
    (hk : chk prev un ⟨r, [(m0, .var u 170 [.own m1 (c + k) ws'.length]), (m1, .arr (c + k) true 3 89 (en eW ws'))], [m0, m1], [m0, m1]⟩ = true ∧
      DRun P l ((k, [m0, m1], [m0, m1]) :: prev) K ⟨updD t d r, upd (upd H m0 (some (.var u 170 [.own m1 (c + k) ws'.length]))) m1 (some (.arr (c + k) true 3 89 (en eW ws'))), c⟩) :
    step P k d un (.call f args) l prev K t H c :=
  callWl (lw := []) (ns := []) hC hf hl (closed_As [] H al ha).1 ha hr hm h0 hn h1 (by simpa [updH] using hk)
theorem callWz (hC : ACallsF P fid (.c (.ptr 4001 u 0) :: al) (wg0 m0 m1 u ws') r) (hf : ev t f = .pt (.one (.fn fid []))) (hl : args.map (ev t) = .c (.ptr m0 u 0) :: al) (ha : al.all closedA = true) (hr : closedT r = true)
    (hm : m0 ≠ m1) (h0 : H m0 = some (.var u 170 [.nil0]))
    (hk : chk prev un ⟨r, [(m0, .var u 170 [.own m1 (c + k) ws'.length]), (m1, .arr (c + k) true 3 89 (en eW ws'))], [m0, m1], [m0, m1]⟩ = true ∧
      DRun P l ((k, [m0, m1], [m0, m1]) :: prev) K ⟨updD t d r, upd (upd H m0 (some (.var u 170 [.own m1 (c + k) ws'.length]))) m1 (some (.arr (c + k) true 3 89 (en eW ws'))), c⟩) :
    step P k d un (.call f args) l prev K t H c := by
  generalize hhs : wg0 m0 m1 u ws' = hs at hC
  have R0 : renN hs 4001 = some ⟨4001, m0, some (.var u 170 [.nil0]), .var u 170 [.own 18 0 ws'.length], true⟩ := by rw [← hhs]; rfl
  have R1 : renN hs 18 = some (newH 18 m1 3 89 (en eW ws')) := by rw [← hhs]; rfl
  have I0 : inN hs 4001 = some m0 := by simp [inN, R0]
  obtain ⟨x1, x2⟩ := closed_As hs H al ha
  refine callW (caps := []) («as» := .c (.ptr m0 u 0) :: al) (ws := []) (ns := []) (r' := r) (ob := [(m0, .var u 170 [.own m1 (c + k) ws'.length]), (m1, .arr (c + k) true 3 89 (en eW ws'))]) hs hC hf ?_ ?_ ?_ (by rw [← hhs]; simp [hm]) (by rw [← hhs]; simp) (closed_T _ r hr _) ?_ ?_
  · have a1 : lendT H (T.c (.ptr 4001 u 0)) (T.c (.ptr m0 u 0)) = some (T.c (.ptr m0 u 0), [], []) := rfl
    rw [hl]
    simp only [List.map_nil, List.append_nil, lendTs, a1, x1]
  · have a1 : renIT hs (T.c (.ptr 4001 u 0)) = some (T.c (.ptr m0 u 0)) := by simp only [T.c, renIT, renI, I0, Option.map_some]
    simp only [renITs, a1, x2]
  · have B0 : renIB hs (.var u 170 [.nil0]) = some (.var u 170 [.nil0]) := by simp only [renIB, renIs, renI, Option.map_some]
    have key : handsIn (updH H []) hs (wg0 m0 m1 u ws') := by
      simp only [handsIn, B0, updH, h0, and_self]
    rw [hhs] at key
    exact key
  · have key : renOBs hs (c + k) (wg0 m0 m1 u ws') = some [(m0, .var u 170 [.own m1 (c + k) ws'.length]), (m1, .arr (c + k) true 3 89 (en eW ws'))] := by
      simp only [renOBs, renOB, renOs, renO, R1, Option.map_some, verOf, if_true, Bool.false_eq_true, if_false, Blk.ver]
    rw [hhs] at key
    exact key
  · have hq : quiet r hs = false := by rw [← hhs]; simp [quiet]
    have hms : hs.map (·.m) = [m0, m1] := by rw [← hhs]; rfl
    rw [hq, hms]
    simpa [updH] using hk
end
def ok130 := okF.gu (P := Tryz.prog) tab Tryz.func130 Tryz.ntmps130 (by conv => lhs; cbv) (by kernel_rfl)
theorem add_ok (ws : List DW) (hl : ws.length ≤ 2000) (k : Int) (nm dt : ByteArray) (m0 m1 u v : Nat) : ACallsF Tryz.prog 130 [.c (.ptr 4001 u 0), .i k, tS nm, tS dt] (wgH m0 m1 u v ws (ws ++ [⟨k, nm, dt⟩])) (.tup []) := by
  have q3 : (ws.length + 1) * 40 ≤ 140737488355328 := by omega
  have q4 : ws.length + 1 ≤ 9223372036854775807 := by omega
  refine ACallsF.intro ok130 follows fun X c0 => ?_
  simp only [go_sem, q3, q4, en_snoc, eW, false_implies, and_self]
theorem add0_ok (k : Int) (nm dt : ByteArray) (m0 m1 u : Nat) : ACallsF Tryz.prog 130 [.c (.ptr 4001 u 0), .i k, tS nm, tS dt] (wg0 m0 m1 u [⟨k, nm, dt⟩]) (.tup []) := by
  refine ACallsF.intro ok130 follows fun X c0 => ?_
  have q1 : 1 * 40 ≤ 140737488355328 := by decide
  simp only [go_sem, q1, en, eW, false_implies, and_self]
def ok150 := okF.gu (P := Tryz.prog) tab Tryz.func150 Tryz.ntmps150 (by conv => lhs; cbv) (by kernel_rfl)
abbrev e0 : ByteArray := ⟨#[]⟩
abbrev plL (num : Int) (txt : ByteArray) : List DW := [⟨1, pln num, e0⟩, ⟨2, pln num, txt⟩, ⟨3, pln num, e0⟩, ⟨5, e0, e0⟩]
set_option maxHeartbeats 1000000 in
theorem plan_ok (ws : List DW) (hl : ws.length ≤ 1900) (num : Int) (hn : i64 num) (p : Pl) (hp : okPl p) (m0 m1 u v : Nat) : ACallsF Tryz.prog 150 [.c (.ptr 4001 u 0), .i num, tPl p] (wgH m0 m1 u v ws (ws ++ plL num (planT p))) (.tup []) := by
  refine ACallsF.intro ok150 follows fun X c0 => ?_
  simp only [go_sem]
  refine callC (pln_ok num hn) rfl rfl rfl rfl ?_
  simp only [go_sem]
  refine callWc (m0 := 4001) (m1 := 1001) (add_ok ws (by omega) 1 (pln num) e0 4001 1001 _ _) rfl rfl rfl rfl (by decide) rfl (by simp) rfl ⟨rfl, ?_⟩
  simp only [go_sem]
  refine callC (pln_ok num hn) rfl rfl rfl rfl ?_
  simp only [go_sem]
  refine callC (planText_ok p hp) rfl rfl rfl rfl ?_
  simp only [go_sem]
  refine callWc (m0 := 4001) (m1 := 1001) (add_ok _ (by simp; omega) 2 (pln num) (planT p) 4001 1001 _ _) rfl rfl rfl rfl (by decide) rfl (by simp) rfl ⟨rfl, ?_⟩
  simp only [go_sem]
  refine callC (pln_ok num hn) rfl rfl rfl rfl ?_
  simp only [go_sem]
  refine callWc (m0 := 4001) (m1 := 1001) (add_ok _ (by simp; omega) 3 (pln num) e0 4001 1001 _ _) rfl rfl rfl rfl (by decide) rfl (by simp) rfl ⟨rfl, ?_⟩
  simp only [go_sem]
  refine callWc (m0 := 4001) (m1 := 1001) (add_ok _ (by simp; omega) 5 e0 e0 4001 1001 _ _) rfl rfl rfl rfl (by decide) rfl (by simp) rfl ⟨rfl, ?_⟩
  simp only [go_sem, List.append_assoc, false_implies, and_self]
end Go.V
set_option linter.unusedSimpArgs false
set_option maxRecDepth 20000
namespace Go.V
open Go.Proofs
/-! A segment is closed. -/
def nxP (s : Ls) (t : Int) : Pl := ⟨s.plan.parts ++ [⟨s.plan.opn, s.plan.first, s.next, s.size⟩], t + 1, s.next⟩
structure Gs (s : Ls) : Prop where
  plan : planOk s.plan = true
  num : 1 ≤ s.num ∧ s.num ≤ 999999
  next : s.plan.first ≤ s.next ∧ s.next ≤ 1000000
  size : 0 ≤ s.size ∧ s.size ≤ 20000
structure Ge (s : Ls) (t : Int) : Prop where
  opn : s.plan.opn ≤ t
  parts : ∀ p ∈ s.plan.parts, p.num ≤ t
abbrev clL (t : Int) (s : Ls) : List DW := ⟨1, seg (t + 1), e0⟩ :: (plL (t + 1) (planT (nxP s t)) ++ [⟨4, pln s.num, e0⟩, ⟨5, e0, e0⟩])
def cl (n : Nat) (t : Int) (s : Ls) : Option (List DW) := if t < 999999 ∧ n ≤ 62 ∧ s.plan.parts.length < 40 then some (clL t s) else none
theorem plGo_snoc (T opn f : Int) (x : LP) (hx : x.num = opn) (ho : 1 ≤ opn ∧ opn ≤ 999999) (hf : x.first = f) (hn : x.first ≤ x.next ∧ x.next ≤ 1000000) (hs : 0 ≤ x.size ∧ x.size ≤ 20000) : ∀ (xs : List LP) (seen seen' : List Int) (nx : Int), plGo seen nx xs = some f → (∀ y ∈ seen', y ∈ seen ∨ y = T) → (∀ y ∈ xs, y.num ≠ T) → opn ∈ seen → opn ∉ seen' → plGo seen' nx (xs ++ [x]) = some x.next
  | [], seen, seen', nx, h, h1, h2, h3, h4 => by
    rw [plGo] at h
    cases h
    rw [List.nil_append, plGo, if_pos ⟨by rw [hx]; exact ho, by rw [hx]; exact h4, hf, hn.1, hn.2, hs⟩, plGo]
  | y :: ys, seen, seen', nx, h, h1, h2, h3, h4 => by
    rw [plGo] at h
    split at h
    · rename_i hp
      obtain ⟨p1, p2, p3⟩ := hp
      have hyT := h2 y (by simp)
      have hyo : y.num ≠ opn := fun e => p2 (e ▸ h3)
      have hns : y.num ∉ seen' := fun hm => by
        rcases h1 _ hm with h | h
        · exact p2 h
        · exact hyT h
      rw [List.cons_append, plGo, if_pos ⟨p1, hns, p3⟩]
      refine plGo_snoc T opn f x hx ho hf hn hs ys _ _ _ h (fun z hz => ?_) (fun z hz => h2 z (by simp [hz])) (by simp [h3]) ?_
      · rcases List.mem_append.1 hz with hz | hz
        · rcases h1 z hz with h | h
          · exact .inl (by simp [h])
          · exact .inr h
        · exact .inl (by simp at hz; simp [hz])
      · intro hm
        rcases List.mem_append.1 hm with hm | hm
        · exact h4 hm
        · simp at hm; exact hyo hm.symm
    · cases h
theorem nxP_ok {s : Ls} {t : Int} (hg : Gs s) (he : Ge s t) (ht : 0 ≤ t ∧ t < 999999) (hl : s.plan.parts.length < 40) : planOk (nxP s t) = true := by
  obtain ⟨h1, h2, h3⟩ := (planOk_iff _).1 hg.plan
  refine (planOk_iff _).2 ⟨?_, ?_, ?_⟩
  · rw [nxP, List.length_append, List.length_singleton]; omega
  · simp only [nxP]; omega
  · have ho := he.opn
    refine plGo_snoc (t + 1) s.plan.opn s.plan.first ⟨s.plan.opn, s.plan.first, s.next, s.size⟩ rfl h2 rfl hg.next hg.size s.plan.parts [s.plan.opn] [t + 1] 1 h3 (fun y hy => .inr (by simpa using hy)) (fun y hy e => ?_) (by simp) ?_
    · have := he.parts y hy
      omega
    · intro hm
      simp at hm
      omega
theorem nxP_pl {s : Ls} {t : Int} (hg : Gs s) (ht : 0 ≤ t ∧ t < 999999) : okPl (nxP s t) := by
  obtain ⟨h1, h2, h3, h4⟩ := planOk_pl hg.plan
  have g1 := hg.next
  have g2 := hg.size
  obtain ⟨h5, h6, h7, h8, h9⟩ := planOk_ok hg.plan
  refine ⟨?_, fun x hx => ?_, ⟨by simp only [nxP]; omega, by simp only [nxP]; omega⟩, ⟨by simp only [nxP]; omega, by simp only [nxP]; omega⟩⟩
  · rw [nxP, List.length_append, List.length_singleton]; omega
  · rcases List.mem_append.1 hx with hx | hx
    · exact h2 x hx
    · simp at hx
      subst hx
      exact ⟨h3, h4, ⟨by simp only; omega, by simp only; omega⟩, ⟨by simp only; omega, by simp only; omega⟩⟩
def ok152 := okF.gu (P := Tryz.prog) tab Tryz.func152 Tryz.ntmps152 (by conv => lhs; cbv) (by kernel_rfl)
theorem cloneP_ok (xs : List LP) (hl : xs.length ≤ 2000000) (m : Nat) : ACallsF Tryz.prog 152 [tL (en eP xs)] [newH 5 m 4 100 (en eP xs)] (.c (.own 5 0 xs.length)) := by
  have q1 : xs.length * 32 ≤ 140737488355328 := by omega
  have q2 : xs.length ≤ 9223372036854775807 := by omega
  have hb1 : (true != false) = true := rfl
  have hb2 : (false != false) = false := rfl
  cases xs with
  | nil =>
    refine nilArgH fun ad c => ?_
    cases ad with
    | none =>
      refine ownNil (by decide) (ACallsF.intro ok152 follows fun X c0 => ?_)
      simp only [go_sem, Option.isNone_none, hb1]
    | some a =>
      refine ACallsF.intro ok152 follows fun X c0 => ?_
      simp only [go_sem, Option.isNone_some, hb2, Nat.zero_mul, Nat.zero_le, List.not_mem_nil, false_implies, implies_true, imp_self]
  | cons y ys =>
    refine ACallsF.intro ok152 follows fun X c0 => ?_
    obtain ⟨x, es, he⟩ : ∃ x es, en eP (y :: ys) = x :: es := ⟨_, _, rfl⟩
    have hall := en_all eP eP_len (y :: ys)
    have hlen := en_len eP (y :: ys)
    rw [he] at hall hlen ⊢
    simp only [List.length_cons] at hlen q1 q2
    have hlen' : es.length = ys.length := by omega
    simp only [go_sem, hall, hlen', q1, q2, Nat.zero_add, imp_self]
theorem lendP1 {H : HMap} {m v n : Nat} {w1 : Bool} {p : Pl} {num : Int} (h1 : H m = some (.arr v w1 4 100 (en eP p.parts))) (e1 : n = p.parts.length) :
    lendTs H [.i num, tPl p] [.i num, .pt (.agg [.own m v n, .v (.s (.int .i64 p.opn)), .v (.s (.int .i64 p.first))])] = some ([.i num, tPl p], [(m, .arr v false 4 100 (en eP p.parts))], [m]) := by
  have h0 := lendPlan1 (p := p) h1 e1
  have h2 : lendT H (T.i num) (T.i num) = some (T.i num, [], []) := (closed_A [] H (.i num) rfl).1
  rw [lendTs, h2, h0]
  rfl
def ok132 := okF.gu (P := Tryz.prog) tab Tryz.func132 Tryz.ntmps132 (by conv => lhs; cbv) (by kernel_rfl)
set_option maxHeartbeats 2000000 in
set_option maxRecDepth 20000 in
theorem closeI_ok (ns : List ByteArray) (hl : ns.length ≤ 1000) (hn : ∀ x ∈ ns, x.size ≤ 1000000) (s : Ls) (hg : Gs s) (ws : List DW) (hws : ws.length ≤ 1800) (m0 m1 u v : Nat) :
    ACallsF Tryz.prog 132 [.c (.ptr 4001 u 0), tL (en eS ns), tLs s] (wgH m0 m1 u v ws (ws ++ (cl ns.length (topN ns) s).getD [])) (.b (cl ns.length (topN ns) s).isSome) := by
  obtain ⟨h5, h6, h7, h8, h9⟩ := planOk_ok hg.plan
  have ht := topN_le ns
  have fail : (cl ns.length (topN ns) s = none → ACallsF Tryz.prog 132 [.c (.ptr 4001 u 0), tL (en eS ns), tLs s] (wgH m0 m1 u v ws ws) (.b false)) → ¬ (topN ns < 999999 ∧ ns.length ≤ 62 ∧ s.plan.parts.length < 40) → ACallsF Tryz.prog 132 [.c (.ptr 4001 u 0), tL (en eS ns), tLs s] (wgH m0 m1 u v ws (ws ++ (cl ns.length (topN ns) s).getD [])) (.b (cl ns.length (topN ns) s).isSome) := fun h hc => by
    have e : cl ns.length (topN ns) s = none := if_neg hc
    have := h e
    rw [e, Option.getD_none, List.append_nil]
    exact this
  by_cases k1 : topN ns < 999999
  case neg =>
    refine fail (fun _ => ?_) (fun h => k1 h.1)
    refine ACallsF.intro ok132 follows fun X c0 => ?_
    simp only [go_sem]
    refine callC (room_ok ns (by omega) hn) rfl rfl rfl rfl ?_
    simp only [go_sem, k1, false_implies, and_self]
  by_cases k2 : (ns.length : Int) ≤ 62
  case neg =>
    refine fail (fun _ => ?_) (fun h => k2 (by omega))
    refine ACallsF.intro ok132 follows fun X c0 => ?_
    simp only [go_sem]
    refine callC (room_ok ns (by omega) hn) rfl rfl rfl rfl ?_
    simp only [go_sem, k1, k2, false_implies, and_self]
  by_cases k3 : s.plan.parts.length = 40
  · have k3' : ((s.plan.parts.length : Int) == 40) = true := by rw [k3]; rfl
    refine fail (fun _ => ?_) (fun h => by omega)
    refine ACallsF.intro ok132 follows fun X c0 => ?_
    simp only [go_sem]
    refine callC (room_ok ns (by omega) hn) rfl rfl rfl rfl ?_
    simp only [go_sem, k1, k2, k3', false_implies, and_self]
  have k3' : ((s.plan.parts.length : Int) == 40) = false := beq_eq_false_iff_ne.2 (by omega)
  have e : cl ns.length (topN ns) s = some (clL (topN ns) s) := if_pos ⟨k1, by omega, by omega⟩
  rw [e, Option.getD_some, Option.isSome_some]
  have gt : IntKind.i64.wrap (topN ns + 1) = topN ns + 1 := wrap64 ⟨by omega, by omega⟩
  have hpl := nxP_pl (t := topN ns) hg ⟨by omega, k1⟩
  have q1 : (s.plan.parts.length + 1) * 32 ≤ 140737488355328 := by omega
  have q2 : s.plan.parts.length + 1 ≤ 9223372036854775807 := by omega
  have hT : List.take s.plan.parts.length (en eP s.plan.parts) = en eP s.plan.parts := en_take eP _
  refine ACallsF.intro ok132 follows fun X c0 => ?_
  simp only [go_sem]
  refine callC (room_ok ns (by omega) hn) rfl rfl rfl rfl ?_
  simp only [go_sem, k1, k2, k3']
  refine callC (topI_ok ns (by omega) hn) rfl rfl rfl rfl ?_
  simp only [go_sem, gt]
  refine callC (seg_ok _ ⟨by omega, by omega⟩) rfl rfl rfl rfl ?_
  simp only [go_sem]
  refine callWc (m0 := 4001) (m1 := 1001) (add_ok ws (by omega) 1 (seg (topN ns + 1)) e0 4001 1001 _ _) rfl rfl rfl rfl (by decide) rfl (by simp) rfl ⟨rfl, ?_⟩
  simp only [go_sem]
  refine callA1 (m := 2042) (ws := []) (ns := []) (cloneP_ok s.plan.parts (by omega) 2042) rfl rfl rfl (en_flat eP eP_flat _) ⟨rfl, ?_⟩
  have hen : en eP s.plan.parts ++ [[.s (.int .i64 s.plan.opn), .s (.int .i64 s.plan.first), .s (.int .i64 s.next), .s (.int .i64 s.size)]] = en eP (nxP s (topN ns)).parts := (en_snoc eP s.plan.parts ⟨s.plan.opn, s.plan.first, s.next, s.size⟩).symm
  have hnl : s.plan.parts.length + 1 = (nxP s (topN ns)).parts.length := by rw [nxP, List.length_append, List.length_singleton]
  simp only [go_sem, hT, q1, q2, hen]
  refine callWl (m0 := 4001) (m1 := 1001) (lw := [(2042, .arr _ false 4 100 (en eP (nxP s (topN ns)).parts))]) (ns := [2042]) (plan_ok (ws ++ [⟨1, seg (topN ns + 1), e0⟩]) (by simp; omega) (topN ns + 1) ⟨by omega, by omega⟩ (nxP s (topN ns)) hpl 4001 1001 _ _) rfl rfl (lendP1 rfl hnl) rfl rfl (by decide) rfl (by simp) rfl ⟨rfl, ?_⟩
  simp only [go_sem]
  refine callC (pln_ok s.num ⟨by have := hg.num; omega, by have := hg.num; omega⟩) rfl rfl rfl rfl ?_
  simp only [go_sem]
  refine callWc (m0 := 4001) (m1 := 1001) (add_ok _ (by simp; omega) 4 (pln s.num) e0 4001 1001 _ _) rfl rfl rfl rfl (by decide) rfl (by simp) rfl ⟨rfl, ?_⟩
  simp only [go_sem]
  refine callWc (m0 := 4001) (m1 := 1001) (add_ok _ (by simp; omega) 5 e0 e0 4001 1001 _ _) rfl rfl rfl rfl (by decide) rfl (by simp) rfl ⟨rfl, ?_⟩
  simp only [go_sem, List.append_assoc, false_implies, and_self]
  rfl
end Go.V
set_option linter.unusedSimpArgs false
set_option maxRecDepth 20000
namespace Go.V
open Go.Proofs
abbrev tWI (l : List DW) (c : Int) : T := .tup [.one (.v (.sl (en eW l))), .one (.v (.s (.int .i64 c)))]
abbrev tWo (o : Option (List DW)) : T := tWI (o.getD []) (if o.isSome = true then 0 else 4)
abbrev tWII (l : List DW) (p c : Int) : T := .tup [.one (.v (.sl (en eW l))), .one (.v (.s (.int .i64 p))), .one (.v (.s (.int .i64 c)))]
def ok95 := okF.gu (P := Tryz.prog) tab Tryz.func95 Tryz.ntmps95 (by conv => lhs; cbv) (by kernel_rfl)
set_option maxHeartbeats 2000000 in
set_option maxRecDepth 20000 in
theorem closeS_ok (d : Dk) (hdl : d.files.length ≤ 1000) (hn : ∀ f ∈ d.files, f.name.size ≤ 1000000) (s : Ls) (hg : Gs s) (he : Ge s (topN (nmsOf d))) : ACallsF Tryz.prog 95 [tDk d, tLs s] [] (tWo (cl d.files.length (topN (nmsOf d)) s)) := by
  obtain ⟨h5, h6, h7, h8, h9⟩ := planOk_ok hg.plan
  have ht := topN_le (nmsOf d)
  have hC := topS_ok d (by omega) hn
  generalize topN (nmsOf d) = t at *
  have gd : IntKind.i64.wrap ((d.files.length : Int) + 2) = (d.files.length : Int) + 2 := wrap64 ⟨by omega, by omega⟩
  have gt : IntKind.i64.wrap (t + 1) = t + 1 := wrap64 ⟨by omega, by omega⟩
  refine ACallsF.intro ok95 follows fun X c0 => ?_
  simp only [go_sem]
  refine callC hC rfl rfl rfl rfl ?_
  by_cases k1 : t ≥ 999999
  · have e : cl d.files.length t s = none := if_neg fun h => by omega
    rw [e]
    simp only [go_sem, k1]
    rfl
  by_cases k2 : (s.plan.parts.length : Int) ≥ 40
  · have e : cl d.files.length t s = none := if_neg fun h => by omega
    rw [e]
    simp only [go_sem, k1, k2]
    rfl
  by_cases k3 : (d.files.length : Int) + 2 > 64
  · have e : cl d.files.length t s = none := if_neg fun h => by omega
    rw [e]
    simp only [go_sem, k1, k2, gd, k3]
    rfl
  have e : cl d.files.length t s = some (clL t s) := if_pos ⟨by omega, by omega, by omega⟩
  rw [e]
  have hpo := nxP_ok hg he ⟨ht.1, by omega⟩ (by omega)
  have hpw : planW (nxP s t) = planT (nxP s t) := if_pos hpo
  have hW := planWS_ok (nxP s t) (by rw [nxP, List.length_append, List.length_singleton]; omega)
  rw [hpw] at hW
  have f1 := fits1 115 (t + 1) ⟨by omega, by omega⟩
  have f2 := fits1 109 (t + 1) ⟨by omega, by omega⟩
  have f3 := fits1 109 s.num ⟨by have := hg.num; omega, by have := hg.num; omega⟩
  have q1 : (s.plan.parts.length + 1) * 32 ≤ 140737488355328 := by omega
  have q2 : s.plan.parts.length + 1 ≤ 9223372036854775807 := by omega
  have q3 : s.plan.parts.length * 32 ≤ 140737488355328 := by omega
  have q4 : s.plan.parts.length ≤ 9223372036854775807 := by omega
  have hT : List.take s.plan.parts.length (en eP s.plan.parts) = en eP s.plan.parts := en_take eP _
  have hen : en eP s.plan.parts ++ [[.s (.int .i64 s.plan.opn), .s (.int .i64 s.plan.first), .s (.int .i64 s.next), .s (.int .i64 s.size)]] = en eP (nxP s t).parts := (en_snoc eP s.plan.parts ⟨s.plan.opn, s.plan.first, s.next, s.size⟩).symm
  have hnl : s.plan.parts.length + 1 = (nxP s t).parts.length := by rw [nxP, List.length_append, List.length_singleton]
  have a1 : (⟨#[115]⟩ : ByteArray) ++ dc (t + 1) = seg (t + 1) := rfl
  have a2 : (⟨#[109]⟩ : ByteArray) ++ dc (t + 1) = pln (t + 1) := rfl
  have a3 : (⟨#[109]⟩ : ByteArray) ++ dc s.num = pln s.num := rfl
  simp only [go_sem, k1, k2, gd, k3, gt]
  refine callC (decI (t + 1) ⟨by omega, by omega⟩) rfl rfl rfl rfl ?_
  simp only [go_sem, sStr, f1, gt, a1]
  refine callC (decI (t + 1) ⟨by omega, by omega⟩) rfl rfl rfl rfl ?_
  simp only [go_sem, sStr, f2, gt, a2, hT, q1, q2, q3, q4, hen, Nat.zero_add]
  refine callL (ws := [(42, .arr _ false 4 100 (en eP (nxP s t).parts))]) (ns := [42]) hW rfl (lendPlan1 (p := nxP s t) rfl hnl) rfl rfl ⟨?_, ?_⟩
  · simp only [go_sem, scalarT, scalarP, scalarC]
  simp only [go_sem, scalarT, scalarP, scalarC]
  refine callC (decI s.num ⟨by have := hg.num; omega, by have := hg.num; omega⟩) rfl rfl rfl rfl ?_
  simp only [go_sem, sStr, f3, a3]
  rfl
/-- The writes by which a log is made. -/
def goneL (ns : List ByteArray) : List DW := ns.map fun nm => ⟨4, nm, e0⟩
def bi (d : Dk) : Option (List DW) := if topN (nmsOf d) < 999999 ∧ d.files.length ≤ 62 then some (goneL (th d) ++ (⟨1, seg (topN (nmsOf d) + 1), e0⟩ :: plL (topN (nmsOf d) + 1) (planT ⟨[], topN (nmsOf d) + 1, 1⟩))) else none
theorem goneL_snoc {ns : List ByteArray} {i : Nat} {x : ByteArray} (h : ns[i]? = some x) : goneL (ns.take (i + 1)) = goneL (ns.take i) ++ [⟨4, x, e0⟩] := by
  rw [goneL, take_snoc h, List.map_append]; rfl
theorem goneL_len (ns : List ByteArray) : (goneL ns).length = ns.length := List.length_map ..
theorem DOk.nm {d : Dk} (hD : DOk d) : ∀ f ∈ d.files, f.name.size ≤ 1000000 := fun f hf => by
  obtain ⟨i, hi⟩ := List.mem_iff_getElem?.1 hf
  have h := nameOk_len (hD.files i f hi).name
  omega
def ok93 := okF.gu (P := Tryz.prog) tab Tryz.func93 Tryz.ntmps93 (by conv => lhs; cbv) (by kernel_rfl)
def inv93 (d : Dk) (t : Int) (i : Nat) (σ : St) : Prop := σ.t 4 = .i t ∧ σ.t 6 = tL (en eS (th d)) ∧ σ.t 7 = .i i ∧ ∃ v, σ.t 5 = .c (.own 22 v i) ∧ σ.H 22 = some (.arr v true 3 89 (en eW (goneL ((th d).take i))))
set_option maxHeartbeats 2000000 in
set_option maxRecDepth 20000 in
theorem birthS_ok (d : Dk) (hD : DOk d) : ACallsF Tryz.prog 93 [tDk d] [] (tWo (bi d)) := by
  have hdf := hD.f
  have hl := th_len hD
  have ht := topN_le (nmsOf d)
  have hC := topS_ok d (by omega) hD.nm
  unfold bi
  generalize topN (nmsOf d) = t at *
  have gd : IntKind.i64.wrap ((d.files.length : Int) + 2) = (d.files.length : Int) + 2 := wrap64 ⟨by omega, by omega⟩
  have gt : IntKind.i64.wrap (t + 1) = t + 1 := wrap64 ⟨by omega, by omega⟩
  refine ACallsF.intro ok93 follows fun X c0 => ?_
  simp only [go_sem]
  refine callC hC rfl rfl rfl rfl ?_
  by_cases k1 : t ≥ 999999
  · rw [if_neg fun h => by omega]
    simp only [go_sem, k1]
    rfl
  by_cases k3 : (d.files.length : Int) + 2 > 64
  · rw [if_neg fun h => by omega]
    simp only [go_sem, k1, gd, k3]
    rfl
  rw [if_pos ⟨by omega, by omega⟩]
  have f1 := fits1 115 (t + 1) ⟨by omega, by omega⟩
  have f2 := fits1 109 (t + 1) ⟨by omega, by omega⟩
  have a1 : (⟨#[115]⟩ : ByteArray) ++ dc (t + 1) = seg (t + 1) := rfl
  have a2 : (⟨#[109]⟩ : ByteArray) ++ dc (t + 1) = pln (t + 1) := rfl
  have hW := planWS_ok ⟨[], t + 1, 1⟩ (by simp)
  have hpo : planOk ⟨[], t + 1, 1⟩ = true := (planOk_iff _).2 ⟨by simp, ⟨by simp only; omega, by simp only; omega⟩, rfl⟩
  have hpw : planW ⟨[], t + 1, 1⟩ = planT ⟨[], t + 1, 1⟩ := if_pos hpo
  rw [hpw] at hW
  simp only [go_sem, k1, gd, k3]
  refine callC (thS_ok d hD) rfl rfl rfl rfl ?_
  simp only [go_sem]
  refine AW.upto (th d).length (inv93 d t) ⟨rfl, rfl, rfl, _, rfl, rfl⟩ fun i t' H c hi h => ?_
  obtain ⟨e4, e6, e7, v, e5, eH⟩ := h
  simp only [T.c, T.i, tL] at e4 e6 e7 e5 eH
  have hlen : (en eW (goneL ((th d).take i))).length = i := by rw [en_len, goneL_len, List.length_take]; omega
  have hT : List.take i (en eW (goneL ((th d).take i))) = en eW (goneL ((th d).take i)) := List.take_of_length_le (by rw [hlen]; exact Nat.le_refl _)
  have q1 : (i + 1) * 40 ≤ 140737488355328 := by omega
  have q2 : i + 1 ≤ 9223372036854775807 := by omega
  by_cases hlt : i < (th d).length
  · obtain ⟨x, hx⟩ : ∃ x, (th d)[i]? = some x := ⟨_, List.getElem?_eq_getElem hlt⟩
    have ex := en_at eS hx
    have gx : (0 : Int) ≤ i := by omega
    have k5 : (i : Int) < (th d).length := by omega
    have gw : IntKind.i64.wrap ((i : Int) + 1) = ((i + 1 : Nat) : Int) := wrap64 (x := (i : Int) + 1) ⟨by omega, by omega⟩
    simp only [go_sem, e4, e6, e7, e5, eH, k5, gx, ex, eS, hT, hlen, q1, q2, gw]
    unfold inv93
    rw [goneL_snoc hx, en_snoc]
    exact ⟨hlt, e4, e6, rfl, _, rfl, rfl⟩
  · have hi2 : i = (th d).length := by omega
    subst hi2
    have k5 : ¬ ((th d).length : Int) < (th d).length := by omega
    have htl : List.take ((th d).length + 5) (en eW (goneL (th d)) ++ [eW ⟨1, seg (t + 1), e0⟩, eW ⟨1, pln (t + 1), e0⟩, eW ⟨2, pln (t + 1), planT ⟨[], t + 1, 1⟩⟩, eW ⟨3, pln (t + 1), e0⟩, eW ⟨5, e0, e0⟩]) = en eW (goneL (th d) ++ (⟨1, seg (t + 1), e0⟩ :: plL (t + 1) (planT ⟨[], t + 1, 1⟩))) := by
      rw [List.take_of_length_le (by rw [List.length_append, en_len, goneL_len]; exact Nat.le_refl _)]
      simp only [en, List.map_append]; rfl
    have q3 : ((th d).length + 5) * 40 ≤ 140737488355328 := by omega
    have q4 : (th d).length + 5 ≤ 9223372036854775807 := by omega
    rw [List.take_length] at eH hlen hT
    simp only [go_sem, e4, e6, e7, k5, gt]
    refine callC (decI (t + 1) ⟨by omega, by omega⟩) rfl rfl rfl rfl ?_
    simp only [go_sem, e4, sStr, f1, gt, a1]
    refine callC (decI (t + 1) ⟨by omega, by omega⟩) rfl rfl rfl rfl ?_
    simp only [go_sem, e4, sStr, f2, gt, a2, e5, eH]
    refine callL (ws := []) (ns := []) hW rfl ?_ rfl rfl ⟨?_, ?_⟩
    · simp only [go_sem, lendTs, lendT]
      rfl
    · simp only [go_sem, scalarT, scalarP, scalarC]
    simp only [go_sem, scalarT, scalarP, scalarC, e5, eH, hT, hlen, q3, q4, List.mem_cons, forall_eq_or_imp, List.not_mem_nil, false_implies, implies_true]
    exact congrArg (fun l => T.tup [P1.one (C.v (V.sl l)), P1.one (C.v (V.s (Value.int IntKind.i64 0)))]) htl
def ok128 := okF.gu (P := Tryz.prog) tab Tryz.func128 Tryz.ntmps128 (by conv => lhs; cbv) (by kernel_rfl)
def inv128 (d : Dk) (t : Int) (i : Nat) (σ : St) : Prop := σ.t 7 = .i t ∧ σ.t 21 = tL (en eS (th d)) ∧ σ.t 22 = .i (th d).length ∧ σ.t 23 = .i i ∧ ∃ u v, σ.t 6 = .c (.ptr 16 u 0) ∧ σ.H 16 = some (.var u 170 [.own 2016 v (goneL ((th d).take i)).length]) ∧ σ.H 2016 = some (.arr v true 3 89 (en eW (goneL ((th d).take i))))
set_option maxHeartbeats 2000000 in
set_option maxRecDepth 20000 in
theorem begin_ok (d : Dk) (hD : DOk d) : ACallsF Tryz.prog 128 [tDk d] [] (tWII ((bi d).getD []) 0 (if (bi d).isSome = true then 0 else 4)) := by
  have hdf := hD.f
  have hl := th_len hD
  have ht := topN_le (nmsOf d)
  have hnl : (nmsOf d).length = d.files.length := List.length_map ..
  have hnn : ∀ x ∈ nmsOf d, x.size ≤ 1000000 := fun x hx => by
    obtain ⟨f, h1, rfl⟩ := List.mem_map.1 hx
    exact hD.nm f h1
  have hR := room_ok (nmsOf d) (by omega) hnn
  have hC := topI_ok (nmsOf d) (by omega) hnn
  unfold bi
  generalize topN (nmsOf d) = t at *
  have gt : IntKind.i64.wrap (t + 1) = t + 1 := wrap64 ⟨by omega, by omega⟩
  refine ACallsF.intro ok128 follows fun X c0 => ?_
  simp only [go_sem]
  refine callC (fnames_ok d (by omega)) rfl rfl rfl rfl ?_
  simp only [go_sem]
  refine callC hR rfl rfl rfl rfl ?_
  by_cases k1 : t < 999999
  rotate_left
  · rw [if_neg fun h => by omega]
    simp only [go_sem, k1]
    rfl
  by_cases k3 : ((nmsOf d).length : Int) ≤ 62
  rotate_left
  · rw [if_neg fun h => by omega]
    simp only [go_sem, k1, k3]
    rfl
  rw [if_pos ⟨by omega, by omega⟩]
  simp only [go_sem, k1, k3]
  refine callC hC rfl rfl rfl rfl ?_
  simp only [go_sem, gt]
  refine callC (thI_ok d hD) rfl rfl rfl rfl ?_
  simp only [go_sem]
  refine AW.reify 16 0 2016 3 89 rfl rfl rfl (by decide) ?_
  refine AW.upto (th d).length (inv128 d (t + 1)) ⟨rfl, rfl, rfl, rfl, _, _, rfl, rfl, rfl⟩ fun i t' H c hi h => ?_
  obtain ⟨e7, e21, e22, e23, u, v, e6, eH, eA⟩ := h
  simp only [T.c, T.i, tL] at e7 e21 e22 e23 e6 eH eA
  have hlen : (goneL ((th d).take i)).length = i := by rw [goneL_len, List.length_take]; omega
  by_cases hlt : i < (th d).length
  · obtain ⟨x, hx⟩ : ∃ x, (th d)[i]? = some x := ⟨_, List.getElem?_eq_getElem hlt⟩
    have ex := en_at eS hx
    have gx : (0 : Int) ≤ i := by omega
    have k5 : (i : Int) < (th d).length := by omega
    have gw : IntKind.i64.wrap ((i : Int) + 1) = ((i + 1 : Nat) : Int) := wrap64 (x := (i : Int) + 1) ⟨by omega, by omega⟩
    simp only [go_sem, e7, e21, e22, e23, k5, gx, ex, eS, e6]
    refine callWc (m0 := 16) (m1 := 2016) (add_ok (goneL ((th d).take i)) (by omega) 4 x e0 16 2016 _ _) rfl (by simp only [go_sem, e6]; rfl) rfl rfl (by decide) (by exact eH) (by simp) (by exact eA) ⟨?_, ?_⟩
    · simp only [go_sem]
    simp only [go_sem, e7, e21, e22, e23, e6, gw]
    unfold inv128
    rw [goneL_snoc hx]
    exact ⟨hlt, e7, e21, e22, rfl, _, _, e6, by rw [List.length_append]; rfl, rfl⟩
  · have hi2 : i = (th d).length := by omega
    subst hi2
    have k5 : ¬ ((th d).length : Int) < (th d).length := by omega
    rw [List.take_length] at eH eA hlen
    have hpl : okPl ⟨[], t + 1, 1⟩ := ⟨by simp, fun x hx => (by cases hx), ⟨by simp only; omega, by simp only; omega⟩, ⟨by simp only; omega, by simp only; omega⟩⟩
    simp only [go_sem, e7, e21, e22, e23, k5, e6]
    refine callC (seg_ok _ ⟨by omega, by omega⟩) rfl rfl rfl rfl ?_
    simp only [go_sem]
    refine callWc (m0 := 16) (m1 := 2016) (add_ok (goneL (th d)) (by omega) 1 (seg (t + 1)) e0 16 2016 _ _) rfl (by simp only [go_sem, e6]; rfl) rfl rfl (by decide) (by exact eH) (by simp) (by exact eA) ⟨?_, ?_⟩
    · simp only [go_sem]
    simp only [go_sem, e6, e7]
    refine callWl (m0 := 16) (m1 := 2016) (lw := []) (ns := []) (plan_ok (goneL (th d) ++ [⟨1, seg (t + 1), e0⟩]) (by rw [List.length_append, List.length_singleton]; omega) (t + 1) ⟨by omega, by omega⟩ ⟨[], t + 1, 1⟩ hpl 16 2016 _ _) rfl (by simp only [go_sem, e6, e7]; rfl) ?_ rfl rfl (by decide) rfl (by simp) rfl ⟨?_, ?_⟩
    · simp only [go_sem, lendTs, lendT]
      rfl
    · simp only [go_sem]
    have htg : List.take ((goneL (th d)).length + 5) (en eW (goneL (th d) ++ (⟨1, seg (t + 1), e0⟩ :: plL (t + 1) (planT ⟨[], t + 1, 1⟩)))) = en eW (goneL (th d) ++ (⟨1, seg (t + 1), e0⟩ :: plL (t + 1) (planT ⟨[], t + 1, 1⟩))) := List.take_of_length_le (by rw [en_len, List.length_append]; exact Nat.le_refl _)
    simp only [go_sem, e6, List.append_assoc, htg, Option.isSome_some]
end Go.V
set_option linter.unusedSimpArgs false
set_option maxRecDepth 20000
namespace Go.V
open Go.Proofs
/-! A log is mended. -/
/-- The files that are the log's. -/
def ours (s : Ls) : List ByteArray := pln s.num :: seg s.plan.opn :: s.plan.parts.map fun p => seg p.num
theorem ours_len (s : Ls) : (ours s).length = s.plan.parts.length + 2 := by simp [ours]
def notOurs (s : Ls) (ns : List ByteArray) : List ByteArray := ns.filter fun x => !has (ours s) x
def areOurs (s : Ls) (ns : List ByteArray) : List ByteArray := ns.filter fun x => has (ours s) x
theorem notOurs_snoc {s : Ls} {ns : List ByteArray} {i : Nat} {x : ByteArray} (h : ns[i]? = some x) : notOurs s (ns.take (i + 1)) = if has (ours s) x = true then notOurs s (ns.take i) else notOurs s (ns.take i) ++ [x] := by
  rw [notOurs, take_snoc h, List.filter_append, notOurs]
  cases hx : has (ours s) x <;> simp [hx]
theorem areOurs_snoc {s : Ls} {ns : List ByteArray} {i : Nat} {x : ByteArray} (h : ns[i]? = some x) : areOurs s (ns.take (i + 1)) = if has (ours s) x = true then areOurs s (ns.take i) ++ [x] else areOurs s (ns.take i) := by
  rw [areOurs, take_snoc h, List.filter_append, areOurs]
  cases hx : has (ours s) x <;> simp [hx]
theorem notOurs_len (s : Ls) (ns : List ByteArray) : (notOurs s ns).length ≤ ns.length := List.length_filter_le _ _
theorem areOurs_len (s : Ls) (ns : List ByteArray) : (areOurs s ns).length ≤ ns.length := List.length_filter_le _ _
def mdL (s : Ls) (ns : List ByteArray) : List DW := ⟨3, seg s.plan.opn, e0⟩ :: goneL (notOurs s ns)
def md (d : Dk) (s : Ls) : Option (List DW) := if s.torn = true then (cl (ours s).length (topN (ours s)) s).map ((mdL s (th d) ++ [⟨5, e0, e0⟩]) ++ ·) else some (mdL s (th d) ++ [⟨5, e0, e0⟩])
theorem mdL_len (s : Ls) (ns : List ByteArray) : (mdL s ns).length ≤ ns.length + 1 := by
  have := notOurs_len s ns
  rw [mdL, List.length_cons, goneL_len]; omega
theorem th_nodup {d : Dk} (hD : DOk d) : (th d).Nodup := by
  have h := nmI_aft (made_nodup hD.l fun i f hf => ⟨(hD.files i f hf).made, (hD.files i f hf).one⟩) d.moves.length (Nat.le_refl _)
  rw [List.take_length, List.drop_length] at h
  have h2 := h.2
  simp only [mades, List.filter_nil, List.map_nil, List.append_nil] at h2
  exact h2
theorem sub_len {α : Type} : ∀ (l m : List α), l.Nodup → (∀ x ∈ l, x ∈ m) → l.length ≤ m.length
  | [], m, _, _ => Nat.zero_le _
  | x :: l, m, hn, hs => by
    obtain ⟨h1, h2⟩ := List.nodup_cons.1 hn
    obtain ⟨a, b, rfl⟩ := List.append_of_mem (hs x (by simp))
    have := sub_len l (a ++ b) h2 fun y hy => by
      have hm := hs y (by simp [hy])
      rcases List.mem_append.1 hm with h | h
      · exact List.mem_append.2 (.inl h)
      · rcases List.mem_cons.1 h with h | h
        · subst h; exact absurd hy h1
        · exact List.mem_append.2 (.inr h)
    simp only [List.length_append, List.length_cons] at this ⊢
    omega
/-- What is kept is just what is the log's. -/
theorem keep_same {d : Dk} (hD : DOk d) {s : Ls} (hg : Gs s) (ho : ∀ x ∈ ours s, x ∈ th d) :
    nmsOf (keepD d (areOurs s (th d))) = areOurs s (th d) ∧ topN (areOurs s (th d)) = topN (ours s) ∧ cl (keepD d (areOurs s (th d))).files.length (topN (nmsOf (keepD d (areOurs s (th d))))) s = cl (ours s).length (topN (ours s)) s := by
  obtain ⟨h5, h6, h7, h8, h9⟩ := planOk_ok hg.plan
  have hm : ∀ x, x ∈ areOurs s (th d) ↔ x ∈ ours s := fun x => by
    rw [areOurs, List.mem_filter, has_true]
    exact ⟨fun h => h.2, fun h => ⟨ho x h, h⟩⟩
  have e1 : nmsOf (keepD d (areOurs s (th d))) = areOurs s (th d) := by
    rw [nmsOf, keepD, List.map_map]
    refine (List.map_congr_left fun x hx => ?_).trans (List.map_id _)
    obtain ⟨i, k1, k2, k3⟩ := lk_file hD ((List.mem_filter.1 hx).1)
    exact k3
  have e2 : topN (areOurs s (th d)) = topN (ours s) := Int.le_antisymm (topN_mono fun x hx => (hm x).1 hx) (topN_mono fun x hx => (hm x).2 hx)
  have hl1 : (areOurs s (th d)).length ≤ (ours s).length := sub_len _ _ ((th_nodup hD).filter _) fun x hx => (hm x).1 hx
  have hl2 := ours_len s
  refine ⟨e1, e2, ?_⟩
  rw [e1, e2]
  have hk : (keepD d (areOurs s (th d))).files.length = (areOurs s (th d)).length := List.length_map ..
  unfold cl
  rw [hk]
  have c1 : (areOurs s (th d)).length ≤ 62 := by omega
  have c2 : (ours s).length ≤ 62 := by omega
  simp only [c1, c2, true_and]
theorem ours_ge {s : Ls} (hg : Gs s) : Ge s (topN (ours s)) := by
  obtain ⟨h5, h6, h7, h8, h9⟩ := planOk_ok hg.plan
  refine ⟨?_, fun p hp => ?_⟩
  · have := topN_ge (ns := ours s) (nm := seg s.plan.opn) (by simp [ours])
    rw [vN_seg h7] at this
    exact this
  · have := topN_ge (ns := ours s) (nm := seg p.num) (by simp only [ours, List.mem_cons, List.mem_map]; exact .inr (.inr ⟨p, hp, rfl⟩))
    rw [vN_seg (h6 p hp).num] at this
    exact this
theorem ours_size {s : Ls} (hg : Gs s) : ∀ x ∈ ours s, x.size ≤ 1000000 := fun x hx => by
  obtain ⟨h5, h6, h7, h8, h9⟩ := planOk_ok hg.plan
  have hh : ∀ (c : UInt8) (n : Int), 0 ≤ n ∧ n ≤ 1000000 → ((⟨#[c]⟩ : ByteArray) ++ dc n).size ≤ 1000000 := fun c n hn => by
    have h1 := dc_le7 n hn
    have h2 : (⟨#[c]⟩ : ByteArray).size = 1 := rfl
    rw [ByteArray.size_append, h2]; omega
  have hnum := hg.num
  simp only [ours, List.mem_cons, List.mem_map] at hx
  rcases hx with rfl | rfl | ⟨p, hp, rfl⟩
  · exact hh _ _ ⟨by omega, by omega⟩
  · exact hh _ _ ⟨by omega, by omega⟩
  · have := (h6 p hp).num
    exact hh _ _ ⟨by omega, by omega⟩
def ok126 := okF.gu (P := Tryz.prog) tab Tryz.func126 Tryz.ntmps126 (by conv => lhs; cbv) (by kernel_rfl)
def inv126 (s : Ls) (nm : ByteArray) (i : Nat) (σ : St) : Prop := (∀ (j : Nat) (p : LP), j < i → s.plan.parts[j]? = some p → seg p.num ≠ nm) ∧ (∃ u, σ.t 2 = .c (.ptr 2 u 0) ∧ σ.H 2 = some (.var u 41 (cLs s))) ∧ σ.t 1 = tS nm ∧ σ.t 5 = .i i
set_option maxHeartbeats 2000000 in
theorem ours_ok (s : Ls) (hg : Gs s) (nm : ByteArray) : ACallsF Tryz.prog 126 [tLs s, tS nm] [] (.b (has (ours s) nm)) := by
  obtain ⟨h5, h6, h7, h8, h9⟩ := planOk_ok hg.plan
  have hnum := hg.num
  have f1 := fits1 109 s.num ⟨by omega, by omega⟩
  have f2 := fits1 115 s.plan.opn ⟨by omega, by omega⟩
  have a1 : (⟨#[109]⟩ : ByteArray) ++ dc s.num = pln s.num := rfl
  have a2 : (⟨#[115]⟩ : ByteArray) ++ dc s.plan.opn = seg s.plan.opn := rfl
  refine ACallsF.intro ok126 follows fun X c0 => ?_
  simp only [go_sem]
  refine callC (decI s.num ⟨by omega, by omega⟩) rfl rfl rfl rfl ?_
  by_cases k1 : nm = pln s.num
  · have e : has (ours s) nm = true := has_true.2 (by simp [ours, k1])
    rw [e]
    simp only [go_sem, sStr, f1, a1, str_beq, k1, decide_true]
  simp only [go_sem, sStr, f1, a1, str_beq, k1]
  refine callC (decI s.plan.opn ⟨by omega, by omega⟩) rfl rfl rfl rfl ?_
  by_cases k2 : nm = seg s.plan.opn
  · have e : has (ours s) nm = true := has_true.2 (by simp [ours, k2])
    rw [e]
    simp only [go_sem, sStr, f2, a2, str_beq, k2, decide_true]
  simp only [go_sem, sStr, f2, a2, str_beq, k2]
  refine AW.upto s.plan.parts.length (inv126 s nm) ⟨fun j p hj => absurd hj (Nat.not_lt_zero j), ⟨_, rfl, rfl⟩, rfl, rfl⟩ fun i t H c hi h => ?_
  obtain ⟨g, ⟨u2, e2, eH2⟩, e1, e5⟩ := h
  simp only [T.c, T.i, T.s] at e2 eH2 e1 e5
  by_cases hlt : i < s.plan.parts.length
  · obtain ⟨p, hp⟩ : ∃ p, s.plan.parts[i]? = some p := ⟨_, List.getElem?_eq_getElem hlt⟩
    have ep := en_at eP hp
    have gx : (0 : Int) ≤ i := by omega
    have k5 : (i : Int) < s.plan.parts.length := by omega
    have gw : IntKind.i64.wrap ((i : Int) + 1) = ((i + 1 : Nat) : Int) := wrap64 (x := (i : Int) + 1) ⟨by omega, by omega⟩
    have hpn := (h6 p (List.mem_of_getElem? hp)).num
    have f3 := fits1 115 p.num ⟨by omega, by omega⟩
    have a3 : (⟨#[115]⟩ : ByteArray) ++ dc p.num = seg p.num := rfl
    simp only [go_sem, e2, eH2, e1, e5, k5, gx, ep, eP]
    refine callC (decI p.num ⟨by omega, by omega⟩) rfl rfl rfl rfl ?_
    by_cases k3 : nm = seg p.num
    · have e : has (ours s) nm = true := has_true.2 (by simp only [ours, List.mem_cons, List.mem_map]; exact .inr (.inr ⟨p, List.mem_of_getElem? hp, k3.symm⟩))
      rw [e]
      simp only [go_sem, sStr, f3, a3, str_beq, k3, decide_true, e1]
    · simp only [go_sem, sStr, f3, a3, str_beq, k3, e1, e5, gw]
      exact ⟨hlt, fun j q hj hq => (by rcases Nat.lt_succ_iff_lt_or_eq.1 hj with hj | rfl; exact g j q hj hq; rw [hp] at hq; cases hq; exact fun e => k3 e.symm), ⟨u2, e2, eH2⟩, e1, rfl⟩
  · have hi2 : i = s.plan.parts.length := by omega
    subst hi2
    have k5 : ¬ (s.plan.parts.length : Int) < s.plan.parts.length := by omega
    have e : has (ours s) nm = false := has_false.2 fun hm => by
      simp only [ours, List.mem_cons, List.mem_map] at hm
      rcases hm with h | h | ⟨p, hp, h⟩
      · exact k1 h
      · exact k2 h
      · obtain ⟨j, hj⟩ := List.mem_iff_getElem?.1 hp
        exact g j p (List.getElem?_eq_some_iff.1 hj).1 hj h
    rw [e]
    simp only [go_sem, e2, eH2, e1, e5, k5]
def ok94 := okF.gu (P := Tryz.prog) tab Tryz.func94 Tryz.ntmps94 (by conv => lhs; cbv) (by kernel_rfl)
def inv94 (d : Dk) (s : Ls) (i : Nat) (σ : St) : Prop := (∃ u, σ.t 2 = .c (.ptr 2 u 0) ∧ σ.H 2 = some (.var u 29 (cDk d))) ∧ (∃ u, σ.t 3 = .c (.ptr 3 u 0) ∧ σ.H 3 = some (.var u 41 (cLs s))) ∧ σ.t 7 = tL (en eS (th d)) ∧ σ.t 9 = .i i ∧
  (∃ v, σ.t 6 = .c (.own 18 v (mdL s ((th d).take i)).length) ∧ σ.H 18 = some (.arr v true 3 89 (en eW (mdL s ((th d).take i))))) ∧ ∃ v, σ.t 8 = .c (.own 21 v (areOurs s ((th d).take i)).length) ∧ σ.H 21 = some (.arr v true 1 9 (en eS (areOurs s ((th d).take i))))
set_option maxHeartbeats 4000000 in
set_option maxRecDepth 20000 in
theorem mendS_ok (d : Dk) (hD : DOk d) (s : Ls) (hg : Gs s) (ho : ∀ x ∈ ours s, x ∈ th d) : ACallsF Tryz.prog 94 [tDk d, tLs s] [] (tWo (md d s)) := by
  obtain ⟨h5, h6, h7, h8, h9⟩ := planOk_ok hg.plan
  have hl := th_len hD
  have f1 := fits1 115 s.plan.opn ⟨by omega, by omega⟩
  have a1 : (⟨#[115]⟩ : ByteArray) ++ dc s.plan.opn = seg s.plan.opn := rfl
  refine ACallsF.intro ok94 follows fun X c0 => ?_
  simp only [go_sem]
  refine callC (decI s.plan.opn ⟨by omega, by omega⟩) rfl rfl rfl rfl ?_
  simp only [go_sem, sStr, f1, a1]
  refine callC (thS_ok d hD) rfl rfl rfl rfl ?_
  simp only [go_sem]
  refine AW.upto (th d).length (inv94 d s) ⟨⟨_, rfl, rfl⟩, ⟨_, rfl, rfl⟩, rfl, rfl, ⟨_, rfl, rfl⟩, _, rfl, rfl⟩ fun i t H c hi h => ?_
  obtain ⟨⟨u2, e2, eH2⟩, ⟨u3, e3, eH3⟩, e7, e9, ⟨v6, e6, eA⟩, v8, e8, eB⟩ := h
  simp only [T.c, T.i, tL] at e2 eH2 e3 eH3 e7 e9 e6 eA e8 eB
  have tA := en_take eW (mdL s ((th d).take i))
  have tB := en_take eS (areOurs s ((th d).take i))
  have lA := mdL_len s ((th d).take i)
  have lB := areOurs_len s ((th d).take i)
  rw [List.length_take] at lA lB
  by_cases hlt : i < (th d).length
  · obtain ⟨x, hx⟩ : ∃ x, (th d)[i]? = some x := ⟨_, List.getElem?_eq_getElem hlt⟩
    have ex := en_at eS hx
    have gx : (0 : Int) ≤ i := by omega
    have k5 : (i : Int) < (th d).length := by omega
    have gw : IntKind.i64.wrap ((i : Int) + 1) = ((i + 1 : Nat) : Int) := wrap64 (x := (i : Int) + 1) ⟨by omega, by omega⟩
    have qA1 : ((mdL s ((th d).take i)).length + 1) * 40 ≤ 140737488355328 := by omega
    have qA2 : (mdL s ((th d).take i)).length + 1 ≤ 9223372036854775807 := by omega
    have qB1 : ((areOurs s ((th d).take i)).length + 1) * 16 ≤ 140737488355328 := by omega
    have qB2 : (areOurs s ((th d).take i)).length + 1 ≤ 9223372036854775807 := by omega
    have hO := ours_ok s hg x
    have hn := notOurs_snoc (s := s) hx
    have ha := areOurs_snoc (s := s) hx
    simp only [go_sem, e2, eH2, e3, eH3, e7, e9, k5, gx, ex, eS]
    refine callC hO rfl rfl rfl rfl ?_
    cases hb : has (ours s) x with
    | true =>
      rw [if_pos hb] at hn ha
      have hm : mdL s ((th d).take (i + 1)) = mdL s ((th d).take i) := by rw [mdL, hn]; rfl
      simp only [go_sem, e7, e9, gx, ex, eS, e8, eB, tB, qB1, qB2, gw]
      unfold inv94
      rw [hm, ha, List.length_append, en_snoc]
      exact ⟨hlt, ⟨u2, e2, eH2⟩, ⟨u3, e3, eH3⟩, e7, rfl, ⟨v6, e6, eA⟩, _, rfl, rfl⟩
    | false =>
      rw [if_neg (by rw [hb]; decide)] at hn ha
      have hm : mdL s ((th d).take (i + 1)) = mdL s ((th d).take i) ++ [⟨4, x, e0⟩] := by rw [mdL, hn, goneL, List.map_append]; rfl
      simp only [go_sem, e7, e9, gx, ex, eS, e6, eA, tA, qA1, qA2, gw]
      unfold inv94
      rw [hm, ha, List.length_append, en_snoc]
      exact ⟨hlt, ⟨u2, e2, eH2⟩, ⟨u3, e3, eH3⟩, e7, rfl, ⟨_, rfl, rfl⟩, v8, e8, eB⟩
  · have hi2 : i = (th d).length := by omega
    subst hi2
    have k5 : ¬ ((th d).length : Int) < (th d).length := by omega
    rw [List.take_length] at e6 eA e8 eB tA tB lA lB
    have qA1 : ((mdL s (th d)).length + 1) * 40 ≤ 140737488355328 := by omega
    have qA2 : (mdL s (th d)).length + 1 ≤ 9223372036854775807 := by omega
    have he2 : en eW (mdL s (th d) ++ [⟨5, e0, e0⟩]) = en eW (mdL s (th d)) ++ [[.s (.int .i64 5), .s (.string ⟨#[]⟩), .s (.string ⟨#[]⟩)]] := en_snoc eW _ _
    have ht2 : List.take ((mdL s (th d)).length + 1) (en eW (mdL s (th d)) ++ [[.s (.int .i64 5), .s (.string ⟨#[]⟩), .s (.string ⟨#[]⟩)]]) = en eW (mdL s (th d)) ++ [[.s (.int .i64 5), .s (.string ⟨#[]⟩), .s (.string ⟨#[]⟩)]] := List.take_of_length_le (by rw [List.length_append, en_len]; exact Nat.le_refl _)
    obtain ⟨w1, w2, w3⟩ := keep_same hD hg ho
    cases hto : s.torn with
    | false =>
      have e : md d s = some (mdL s (th d) ++ [⟨5, e0, e0⟩]) := if_neg (by rw [hto]; decide)
      rw [e]
      simp only [go_sem, e7, e9, k5, e6, eA, tA, qA1, qA2, e3, eH3, hto, he2, ht2, Option.isSome_some]
    | true =>
      have hKp := keep_ok d hD.fine hD (areOurs s (th d)) (by omega) (fun x hx => DOk.aft_made (n := d.moves.length) (by rw [List.take_length]; exact (List.mem_filter.1 hx).1))
      have hkl : (keepD d (areOurs s (th d))).files.length = (areOurs s (th d)).length := List.length_map ..
      have hK := closeS_ok (keepD d (areOurs s (th d))) (by omega) (fun f hf => (by
        obtain ⟨x, hx, rfl⟩ := List.mem_map.1 hf
        obtain ⟨i, k1, k2, k3⟩ := lk_file hD ((List.mem_filter.1 hx).1)
        have := th_size hD ((List.mem_filter.1 hx).1)
        rw [k3]; omega)) s hg (by rw [w1, w2]; exact ours_ge hg)
      rw [w3] at hK
      have e : md d s = (cl (ours s).length (topN (ours s)) s).map ((mdL s (th d) ++ [⟨5, e0, e0⟩]) ++ ·) := if_pos hto
      rw [e]
      simp only [go_sem, e7, e9, k5, e6, eA, tA, qA1, qA2, e3, eH3, hto, e2, eH2, e8, eB]
      refine callL (ws := [(21, .arr v8 false 1 9 (en eS (areOurs s (th d))))]) (ns := [21]) hKp rfl ?_ rfl rfl ⟨?_, ?_⟩
      · simp only [go_sem, lendTs, lendT, eB, tB]
      · simp only [go_sem, scalarT, scalarP, scalarC, List.all_cons, Bool.false_and]
      simp only [go_sem, scalarT, scalarP, scalarC, List.all_cons, Bool.false_and, e3, eH3]
      refine callC hK rfl rfl rfl rfl ?_
      cases hcl : cl (ours s).length (topN (ours s)) s with
      | none =>
        have n4 : ((4 : Int) != 0) = true := rfl
        simp only [go_sem, Option.isSome_none, n4]
      | some l =>
        have hl8 : l.length ≤ 8 := by
          unfold cl at hcl
          split at hcl
          · cases hcl; simp
          · cases hcl
        have q5 : ((mdL s (th d)).length + 1 + l.length) * 40 ≤ 140737488355328 := by omega
        have q6 : (mdL s (th d)).length + 1 + l.length ≤ 9223372036854775807 := by omega
        have he3 : en eW (mdL s (th d) ++ [⟨5, e0, e0⟩] ++ l) = en eW (mdL s (th d)) ++ [[.s (.int .i64 5), .s (.string ⟨#[]⟩), .s (.string ⟨#[]⟩)]] ++ en eW l := by simp only [en, List.map_append]; rfl
        have ht3 : List.take ((mdL s (th d)).length + 1 + l.length) (en eW (mdL s (th d)) ++ [[.s (.int .i64 5), .s (.string ⟨#[]⟩), .s (.string ⟨#[]⟩)]] ++ en eW l) = en eW (mdL s (th d)) ++ [[.s (.int .i64 5), .s (.string ⟨#[]⟩), .s (.string ⟨#[]⟩)]] ++ en eW l := List.take_of_length_le (by rw [List.length_append, List.length_append, en_len, en_len]; exact Nat.le_refl _)
        have n0 : ((0 : Int) != 0) = false := rfl
        simp only [go_sem, n0, e6, he3, ht2, ht3, q5, q6, en_len, Option.isSome_some]
end Go.V
set_option linter.unusedSimpArgs false
set_option maxRecDepth 20000
namespace Go.V
open Go.Proofs
/-! A log is mended by the program. -/
theorem ours_take (s : Ls) (i : Nat) {p : LP} (h : s.plan.parts[i]? = some p) : (ours s).take (i + 1 + 2) = (ours s).take (i + 2) ++ [seg p.num] := by
  refine take_snoc ?_
  show (s.plan.parts.map fun p => seg p.num)[i]? = _
  rw [List.getElem?_map, h]; rfl
def Hd129 (d : Dk) (s : Ls) (σ : St) : Prop := (∃ u, σ.t 2 = .c (.ptr 2 u 0) ∧ σ.H 2 = some (.var u 29 (cDk d))) ∧ (∃ u, σ.t 3 = .c (.ptr 3 u 0) ∧ σ.H 3 = some (.var u 41 (cLs s)))
def ok129 := okF.gu (P := Tryz.prog) tab Tryz.func129 Tryz.ntmps129 (by conv => lhs; cbv) (by kernel_rfl)
def inv129 (d : Dk) (s : Ls) (i : Nat) (σ : St) : Prop := Hd129 d s σ ∧ σ.t 25 = tL (en eP s.plan.parts) ∧ σ.t 26 = .i s.plan.parts.length ∧ σ.t 27 = .i i ∧
  (∃ u v, σ.t 7 = .c (.ptr 14 u 0) ∧ σ.H 14 = some (.var u 170 [.own 2014 v 0]) ∧ σ.H 2014 = some (.arr v true 3 89 [])) ∧ ∃ v, σ.t 8 = .c (.own 22 v (i + 2)) ∧ σ.H 22 = some (.arr v true 1 9 (en eS ((ours s).take (i + 2))))
def inv129b (d : Dk) (s : Ls) (i : Nat) (σ : St) : Prop := Hd129 d s σ ∧ σ.t 45 = tL (en eS (th d)) ∧ σ.t 46 = .i (th d).length ∧ σ.t 47 = .i i ∧
  (∃ u v, σ.t 7 = .c (.ptr 14 u 0) ∧ σ.H 14 = some (.var u 170 [.own 2014 v (mdL s ((th d).take i)).length]) ∧ σ.H 2014 = some (.arr v true 3 89 (en eW (mdL s ((th d).take i))))) ∧ ∃ v, σ.t 8 = .c (.own 22 v (ours s).length) ∧ σ.H 22 = some (.arr v true 1 9 (en eS (ours s)))
set_option maxHeartbeats 4000000 in
set_option maxRecDepth 20000 in
theorem mendI_ok (d : Dk) (hD : DOk d) (s : Ls) (hg : Gs s) : ACallsF Tryz.prog 129 [tDk d, tLs s] [] (tWII ((md d s).getD []) 0 (if (md d s).isSome = true then 0 else 4)) := by
  obtain ⟨h5, h6, h7, h8, h9⟩ := planOk_ok hg.plan
  have hl := th_len hD
  have hnum := hg.num
  have hol := ours_len s
  generalize hR : tWII ((md d s).getD []) 0 (if (md d s).isSome = true then 0 else 4) = R
  refine ACallsF.intro ok129 follows fun X c0 => ?_
  simp only [go_sem]
  refine callC (pln_ok s.num ⟨by omega, by omega⟩) rfl rfl rfl rfl ?_
  simp only [go_sem]
  refine callC (seg_ok s.plan.opn ⟨by omega, by omega⟩) rfl rfl rfl rfl ?_
  simp only [go_sem]
  refine AW.reify 14 0 2014 3 89 rfl rfl rfl (by decide) ?_
  refine AW.upto s.plan.parts.length (inv129 d s) ⟨⟨⟨_, rfl, rfl⟩, ⟨_, rfl, rfl⟩⟩, rfl, rfl, rfl, ⟨_, _, rfl, rfl, rfl⟩, _, rfl, rfl⟩ fun i t H c hi h => ?_
  obtain ⟨⟨⟨u2, e2, eH2⟩, u3, e3, eH3⟩, e25, e26, e27, ⟨u7, v7, e7, eW7, eA⟩, v8, e8, eB⟩ := h
  simp only [T.c, T.i, tL] at e2 eH2 e3 eH3 e25 e26 e27 e7 eW7 eA e8 eB
  have hlen : (en eS ((ours s).take (i + 2))).length = i + 2 := by rw [en_len, List.length_take]; omega
  have tB : List.take (i + 2) (en eS ((ours s).take (i + 2))) = en eS ((ours s).take (i + 2)) := List.take_of_length_le (by rw [hlen]; exact Nat.le_refl _)
  by_cases hlt : i < s.plan.parts.length
  · obtain ⟨p, hp⟩ : ∃ p, s.plan.parts[i]? = some p := ⟨_, List.getElem?_eq_getElem hlt⟩
    have ep := en_at eP hp
    have gx : (0 : Int) ≤ i := by omega
    have k5 : (i : Int) < s.plan.parts.length := by omega
    have gw : IntKind.i64.wrap ((i : Int) + 1) = ((i + 1 : Nat) : Int) := wrap64 (x := (i : Int) + 1) ⟨by omega, by omega⟩
    have hpn := (h6 p (List.mem_of_getElem? hp)).num
    have q1 : (i + 2 + 1) * 16 ≤ 140737488355328 := by omega
    have q2 : i + 2 + 1 ≤ 9223372036854775807 := by omega
    simp only [go_sem, e25, e26, e27, k5, gx, ep, eP]
    refine callC (seg_ok p.num ⟨by omega, by omega⟩) rfl rfl rfl rfl ?_
    simp only [go_sem, e8, eB, tB, hlen, q1, q2, e27, gw]
    unfold inv129
    rw [ours_take s i hp, en_snoc, show i + 1 + 2 = i + 2 + 1 from by omega]
    exact ⟨hlt, ⟨⟨u2, e2, eH2⟩, u3, e3, eH3⟩, e25, e26, rfl, ⟨u7, v7, e7, eW7, eA⟩, _, rfl, rfl⟩
  · have hi2 : i = s.plan.parts.length := by omega
    subst hi2
    have k5 : ¬ (s.plan.parts.length : Int) < s.plan.parts.length := by omega
    rw [← hol, List.take_length] at eB tB hlen
    rw [← hol] at e8
    simp only [go_sem, e25, e26, e27, k5, e7, e3, eH3]
    refine callC (seg_ok s.plan.opn ⟨by omega, by omega⟩) rfl rfl rfl rfl ?_
    simp only [go_sem]
    refine callWc (m0 := 14) (m1 := 2014) (add_ok [] (by simp) 3 (seg s.plan.opn) e0 14 2014 _ _) rfl (by simp only [go_sem, e7]; rfl) rfl rfl (by decide) (by exact eW7) (by simp) (by exact eA) ⟨?_, ?_⟩
    · simp only [go_sem]
    simp only [go_sem, e2, eH2]
    refine callC (thI_ok d hD) rfl rfl rfl rfl ?_
    simp only [go_sem]
    refine AW.upto (th d).length (inv129b d s) ⟨⟨⟨u2, e2, eH2⟩, u3, e3, eH3⟩, rfl, rfl, rfl, ⟨u7, _, e7, rfl, rfl⟩, v8, e8, eB⟩ fun i t H c hi h => ?_
    clear e2 eH2 e3 eH3 e25 e26 e27 e7 eW7 eA e8 eB u2 u3 u7 v7 v8
    obtain ⟨⟨⟨u2, e2, eH2⟩, u3, e3, eH3⟩, e45, e46, e47, ⟨u7, v7, e7, eW7, eA⟩, v8, e8, eB⟩ := h
    simp only [T.c, T.i, tL] at e2 eH2 e3 eH3 e45 e46 e47 e7 eW7 eA e8 eB
    have lA := mdL_len s ((th d).take i)
    rw [List.length_take] at lA
    have hle : (ours s).length ≤ (en eS (ours s)).length := by rw [en_len]; exact Nat.le_refl _
    have tO := en_take eS (ours s)
    by_cases hlt : i < (th d).length
    · obtain ⟨x, hx⟩ : ∃ x, (th d)[i]? = some x := ⟨_, List.getElem?_eq_getElem hlt⟩
      have ex := en_at eS hx
      have gx : (0 : Int) ≤ i := by omega
      have k5 : (i : Int) < (th d).length := by omega
      have gw : IntKind.i64.wrap ((i : Int) + 1) = ((i + 1 : Nat) : Int) := wrap64 (x := (i : Int) + 1) ⟨by omega, by omega⟩
      have hn := notOurs_snoc (s := s) hx
      simp only [go_sem, e45, e46, e47, k5, gx, ex, eS, e8]
      refine callL (ws := [(22, .arr v8 false 1 9 (en eS (ours s)))]) (ns := [22]) (contains_ok (ours s) x (by omega)) rfl ?_ rfl rfl ⟨?_, ?_⟩
      · simp only [go_sem, lendTs, lendT, eB, tO, en_len]
      · simp only [go_sem, scalarT, scalarP, scalarC]
      cases hb : has (ours s) x with
      | true =>
        rw [if_pos hb] at hn
        simp only [go_sem, scalarT, scalarP, scalarC, e47, gw]
        have hm : mdL s ((th d).take (i + 1)) = mdL s ((th d).take i) := by rw [mdL, hn]; rfl
        unfold inv129b
        rw [hm]
        exact ⟨hlt, ⟨⟨u2, e2, eH2⟩, u3, e3, eH3⟩, e45, e46, rfl, ⟨u7, v7, e7, eW7, eA⟩, v8, e8, eB⟩
      | false =>
        rw [if_neg (by rw [hb]; decide)] at hn
        have hm : mdL s ((th d).take (i + 1)) = mdL s ((th d).take i) ++ [⟨4, x, e0⟩] := by rw [mdL, hn, goneL, List.map_append]; rfl
        simp only [go_sem, scalarT, scalarP, scalarC, e7]
        refine callWc (m0 := 14) (m1 := 2014) (add_ok (mdL s ((th d).take i)) (by omega) 4 x e0 14 2014 _ _) rfl (by simp only [go_sem, e7]; rfl) rfl rfl (by decide) (by exact eW7) (by simp) (by exact eA) ⟨?_, ?_⟩
        · simp only [go_sem]
        simp only [go_sem, e47, gw]
        unfold inv129b
        rw [hm, List.length_append]
        exact ⟨hlt, ⟨⟨u2, e2, eH2⟩, u3, e3, eH3⟩, e45, e46, rfl, ⟨u7, _, e7, rfl, rfl⟩, v8, e8, eB⟩
    · have hi2 : i = (th d).length := by omega
      subst hi2
      have k5 : ¬ ((th d).length : Int) < (th d).length := by omega
      have lA := mdL_len s (th d)
      rw [List.take_length] at eW7 eA
      have htl : List.take ((mdL s (th d)).length + 1) (en eW (mdL s (th d) ++ [⟨5, e0, e0⟩])) = en eW (mdL s (th d) ++ [⟨5, e0, e0⟩]) := List.take_of_length_le (by rw [en_len, List.length_append]; exact Nat.le_refl _)
      simp only [go_sem, e45, e46, e47, k5, e7]
      refine callWc (m0 := 14) (m1 := 2014) (add_ok (mdL s (th d)) (by omega) 5 e0 e0 14 2014 _ _) rfl (by simp only [go_sem, e7]; rfl) rfl rfl (by decide) (by exact eW7) (by simp) (by exact eA) ⟨?_, ?_⟩
      · simp only [go_sem]
      cases hto : s.torn with
      | false =>
        have e : md d s = some (mdL s (th d) ++ [⟨5, e0, e0⟩]) := if_neg (by rw [hto]; decide)
        rw [e] at hR
        subst hR
        simp only [go_sem, e3, eH3, hto, e7, htl, Option.isSome_some]
      | true =>
        have e : md d s = (cl (ours s).length (topN (ours s)) s).map ((mdL s (th d) ++ [⟨5, e0, e0⟩]) ++ ·) := if_pos hto
        have hC := closeI_ok (ours s) (by omega) (ours_size hg) s hg (mdL s (th d) ++ [⟨5, e0, e0⟩]) (by rw [List.length_append, List.length_singleton]; omega) 14 2014
        rw [e] at hR
        simp only [go_sem, e3, eH3, hto, e7, e8]
        refine callWl (m0 := 14) (m1 := 2014) (lw := [(22, .arr v8 false 1 9 (en eS (ours s)))]) (ns := [22]) (hC _ _) rfl (by simp only [go_sem, e7]; rfl) ?_ rfl rfl (by decide) rfl (by simp) rfl ⟨?_, ?_⟩
        · simp only [go_sem, lendTs, lendT, eB, tO, en_len]
          rw [← hto]
        · simp only [go_sem]
        cases hcl : cl (ours s).length (topN (ours s)) s with
        | none =>
          rw [hcl] at hR
          subst hR
          simp only [go_sem, Option.isSome_none]
        | some l =>
          rw [hcl] at hR
          subst hR
          have htk : List.take ((mdL s (th d)).length + 1 + l.length) (en eW (mdL s (th d) ++ [⟨5, e0, e0⟩] ++ l)) = en eW (mdL s (th d) ++ [⟨5, e0, e0⟩] ++ l) := List.take_of_length_le (by rw [en_len, List.length_append, List.length_append]; exact Nat.le_refl _)
          simp only [go_sem, e7, htk, Option.isSome_some]
end Go.V
set_option linter.unusedSimpArgs false
set_option maxRecDepth 20000
namespace Go.V
open Go.Proofs
/-! What an act writes. -/
theorem numOf_name {l : UInt8} {s : ByteArray} (h : numOf l s ≠ 0) : s = (⟨#[l]⟩ : ByteArray) ++ dc (numOf l s) := by
  have h0 := numOf_head h
  unfold numOf at h ⊢
  split at h
  · rename_i g
    rw [if_pos g, g.2.2]
    apply ByteArray.ext
    rw [ByteArray.data_append, ByteArray.data_extract]
    apply Array.ext_getElem?
    intro i
    cases i with
    | zero => rw [h0, Array.getElem?_append_left (show 0 < (#[l] : Array UInt8).size from Nat.one_pos)]; rfl
    | succ i =>
      rw [Array.getElem?_append_right (by simp), Array.getElem?_extract]
      simp only [Array.size, List.length_cons, List.length_nil]
      rw [Nat.zero_add, Nat.add_sub_cancel, Nat.add_comm 1 i]
      split
      · rfl
      · rename_i hn
        refine Array.getElem?_eq_none ?_
        have : s.data.size = s.size := rfl
        simp only [Array.size] at this hn ⊢
        omega
  · exact absurd rfl h
/-- The number that was found is that of a plan's name that is there. -/
theorem np_there (d : Dk) : (np d).2 = 0 ∨ pln (np d).2 ∈ th d := by
  have key : ∀ (l : List ByteArray) (st : Pl × Int), (∀ x ∈ l, x ∈ th d) → (st.2 = 0 ∨ pln st.2 ∈ th d) → ((l.foldl (npStep d) st).2 = 0 ∨ pln (l.foldl (npStep d) st).2 ∈ th d) := by
    intro l
    induction l with
    | nil => intro st _ h; exact h
    | cons x l ih =>
      intro st hl h
      refine ih _ (fun y hy => hl y (by simp [hy])) ?_
      unfold npStep
      split
      · rename_i h1
        split
        · simp only
          by_cases h0 : numOf 109 x = 0
          · exact .inl h0
          · refine .inr ?_
            have := numOf_name h0
            have e : pln (numOf 109 x) = x := this.symm
            rw [e]
            exact hl x (by simp)
        · exact h
      · exact h
  exact key _ _ (fun x hx => hx) (.inl rfl)
theorem posRun_le : ∀ (ls : List LR) (lo : Int), posRun lo ls = true → (∀ r ∈ ls, r.pos ≤ 999999) → lo ≤ 1000000 → lo + ls.length ≤ 1000000
  | [], lo, _, _, h => by simpa using h
  | r :: ls, lo, h, hr, hl => by
    rw [posRun, Bool.and_eq_true, decide_eq_true_eq] at h
    have h1 := hr r (by simp)
    have := posRun_le ls (lo + 1) h.2 (fun x hx => hr x (by simp [hx])) (by omega)
    rw [List.length_cons]; omega
theorem prts_there {d : Dk} : ∀ (ps : List LP) {l : List LR}, prts d ps = some l → ∀ p ∈ ps, seg p.num ∈ th d
  | [], _, _, p, hp => by cases hp
  | q :: ps, l, h, p, hp => by
    rw [prts] at h
    split at h
    · cases h
    · rename_i x hx
      cases hq : prts d ps with
      | none => rw [hq] at h; cases h
      | some l2 =>
        rcases List.mem_cons.1 hp with rfl | hp
        · unfold prt lk at hx
          split at hx
          · cases hx
          · rename_i hy
            split at hy
            · rename_i hm; exact has_true.1 hm
            · cases hy
        · exact prts_there ps hq p hp
theorem opn_ok {d : Dk} (hD : DOk d) : ((opn d).code = 0 ∧ Gs (opn d) ∧ 1 ≤ (opn d).next ∧ Ge (opn d) (topN (nmsOf d)) ∧ ∀ x ∈ ours (opn d), x ∈ th d) ∨ opn d = zLs 1 ∨ opn d = zLs 2 := by
  unfold opn
  by_cases k0 : (np d).2 = 0
  · rw [if_pos k0]; exact .inr (.inl rfl)
  rw [if_neg k0]
  obtain ⟨ho, hn1, hn2⟩ : planOk (np d).1 = true ∧ 1 ≤ (np d).2 ∧ (np d).2 ≤ 999999 := by
    rcases np_ok d with ⟨_, h⟩ | h
    · exact absurd h k0
    · exact h
  obtain ⟨hl40, hparts, hopn, hfirst⟩ := planOk_ok ho
  split
  · exact .inr (.inr rfl)
  · rename_i recs hrecs
    split
    · exact .inr (.inr rfl)
    · rename_i x hlk
      split
      · rename_i hrun
        refine .inl ?_
        have hfl := frames_le x
        have hxs := lk_size hD hlk
        have hnx := posRun_le _ _ hrun (fun r hr => (hfl.2.2 r hr).2.1) hfirst.2
        have ht : ∀ y ∈ ours ⟨0, (np d).2, (np d).1, ((frames x).2 : Nat), decide (((frames x).2 : Int) < x.size), (np d).1.first + (frames x).1.length, recs ++ (frames x).1⟩, y ∈ th d := fun y hy => by
          simp only [ours, List.mem_cons, List.mem_map] at hy
          rcases hy with rfl | rfl | ⟨p, hp, rfl⟩
          · rcases np_there d with h | h
            · exact absurd h k0
            · exact h
          · unfold lk at hlk
            split at hlk
            · rename_i hm; exact has_true.1 hm
            · cases hlk
          · exact prts_there _ hrecs p hp
        have hnm : ∀ y ∈ th d, y ∈ nmsOf d := fun y hy => by
          obtain ⟨i, k1, k2, k3⟩ := lk_file hD hy
          exact List.mem_map.2 ⟨_, List.mem_of_getElem? k2, k3⟩
        refine ⟨rfl, ⟨ho, ⟨hn1, hn2⟩, ⟨by simp only; omega, hnx⟩, ⟨by simp only; omega, by simp only; omega⟩⟩, by simp only; omega, ⟨?_, fun p hp => ?_⟩, ht⟩
        · have := topN_ge (hnm _ (ht (seg (np d).1.opn) (by simp [ours])))
          rw [vN_seg hopn] at this
          exact this
        · have := topN_ge (hnm _ (ht (seg p.num) (by simp only [ours, List.mem_cons, List.mem_map]; exact .inr (.inr ⟨p, hp, rfl⟩))))
          rw [vN_seg (hparts p hp).num] at this
          exact this
      · exact .inr (.inr rfl)
/-- The writes of an act, a position, and a code. -/
def wr (d : Dk) (a : LA) : List DW × Int × Int :=
  if (opn d).code = 1 ∧ a.kind = 4 then ((bi d).getD [], 0, if (bi d).isSome = true then 0 else 4)
  else if (opn d).code ≠ 0 then ([], 0, (opn d).code)
  else if ¬ (1 ≤ a.kind ∧ a.kind ≤ 4) then ([], 0, 7)
  else if a.kind = 4 then ((md d (opn d)).getD [], 0, if (md d (opn d)).isSome = true then 0 else 4)
  else if (opn d).torn = true then ([], 0, 3)
  else if a.kind = 2 then ([⟨3, seg (opn d).plan.opn, e0⟩], 0, 0)
  else if a.kind = 3 then match cl d.files.length (topN (nmsOf d)) (opn d) with
    | none => ([], 0, 4)
    | some l => (⟨3, seg (opn d).plan.opn, e0⟩ :: l, 0, 0)
  else if 2000 < a.data.size then ([], 0, 5)
  else if (opn d).next > 999999 ∨ (opn d).size + 5 + a.data.size > 8000 then ([], 0, 4)
  else ([⟨2, seg (opn d).plan.opn, frB ⟨(opn d).next, a.data⟩⟩], (opn d).next, 0)
def ok44 := okF.gu (P := Tryz.prog) tab Tryz.func44 Tryz.ntmps44 (by conv => lhs; cbv) (by kernel_rfl)
set_option maxHeartbeats 4000000 in
set_option maxRecDepth 20000 in
theorem writesS_ok (d : Dk) (hD : DOk d) (a : LA) (ha : a.data.size ≤ 1048576) : ACallsF Tryz.prog 44 [tDk d, tLA a] [] (tWII (wr d a).1 (wr d a).2.1 (wr d a).2.2) := by
  have hO := opnS_ok d hD
  have hB := birthS_ok d hD
  have hl := hD.f
  have hS := fun hg he => closeS_ok d (by omega) hD.nm (opn d) hg he
  have hM := fun hg ho => mendS_ok d hD (opn d) hg ho
  have hok := opn_ok hD
  generalize hR : wr d a = R
  unfold wr at hR
  generalize opn d = s at *
  have n1 : ((1 : Int) != 0) = true := rfl
  have n2 : ((2 : Int) != 0) = true := rfl
  have n0 : ((0 : Int) != 0) = false := rfl
  have n4 : ((4 : Int) != 0) = true := rfl
  have n21 : ((2 : Int) == 1) = false := rfl
  refine ACallsF.intro ok44 follows fun X c0 => ?_
  simp only [go_sem]
  refine callC hO rfl rfl rfl rfl ?_
  rcases hok with ⟨hc, hg, hnx, he, ho⟩ | rfl | rfl
  rotate_left
  · by_cases k : a.kind = 4
    · have k' : (a.kind == 4) = true := by simp [k]
      rw [if_pos ⟨rfl, k⟩] at hR
      subst hR
      simp only [go_sem, zLs, k']
      refine callC hB rfl rfl rfl rfl ?_
      simp only [go_sem]
    · have k' : (a.kind == 4) = false := beq_eq_false_iff_ne.2 k
      rw [if_neg (fun h => k h.2), if_pos (by simp [zLs])] at hR
      subst hR
      simp only [go_sem, zLs, k']
      refine callC (decI 0 ⟨by omega, by omega⟩) rfl rfl rfl rfl ?_
      simp only [go_sem, sStr, fits1 115 0 ⟨by omega, by omega⟩, n1]
  · rw [if_neg (by simp [zLs]), if_pos (by simp [zLs])] at hR
    subst hR
    simp only [go_sem, zLs, n21]
    refine callC (decI 0 ⟨by omega, by omega⟩) rfl rfl rfl rfl ?_
    simp only [go_sem, sStr, fits1 115 0 ⟨by omega, by omega⟩, n2]
  rw [if_neg (by omega), if_neg (by omega)] at hR
  obtain ⟨h5, h6, h7, h8, h9⟩ := planOk_ok hg.plan
  have f1 := fits1 115 s.plan.opn ⟨by omega, by omega⟩
  have a1 : (⟨#[115]⟩ : ByteArray) ++ dc s.plan.opn = seg s.plan.opn := rfl
  have hc1 : (s.code == 1) = false := by rw [hc]; rfl
  have hc0 : (s.code != 0) = false := by rw [hc]; rfl
  simp only [go_sem, hc1, hc0]
  refine callC (decI s.plan.opn ⟨by omega, by omega⟩) rfl rfl rfl rfl ?_
  by_cases k4 : a.kind = 4
  · have k' : (a.kind == 4) = true := by simp [k4]
    rw [if_neg (by omega), if_pos k4] at hR
    subst hR
    simp only [go_sem, sStr, f1, hc0, k']
    refine callC (hM hg ho) rfl rfl rfl rfl ?_
    simp only [go_sem]
  have k4' : (a.kind == 4) = false := beq_eq_false_iff_ne.2 k4
  simp only [go_sem, sStr, f1, hc0, k4']
  refine callC (l6In_ok a.kind 1 4) rfl rfl rfl rfl ?_
  by_cases kr : 1 ≤ a.kind ∧ a.kind ≤ 4
  rotate_left
  · have kr' : (decide ((1 : Int) ≤ a.kind) && decide (a.kind ≤ 4)) = false := by
      rw [Bool.and_eq_false_iff, decide_eq_false_iff_not, decide_eq_false_iff_not]; omega
    rw [if_pos kr] at hR
    subst hR
    simp only [go_sem, kr']
  have kr' : (decide ((1 : Int) ≤ a.kind) && decide (a.kind ≤ 4)) = true := by
    rw [Bool.and_eq_true, decide_eq_true_eq, decide_eq_true_eq]; exact kr
  rw [if_neg (by omega), if_neg k4] at hR
  cases hto : s.torn with
  | true =>
    rw [if_pos hto] at hR
    subst hR
    simp only [go_sem, kr', hto]
  | false =>
  rw [if_neg (by rw [hto]; decide)] at hR
  by_cases k2 : a.kind = 2
  · have k' : (a.kind == 2) = true := by simp [k2]
    rw [if_pos k2] at hR
    subst hR
    simp only [go_sem, kr', hto, k', a1]
    rfl
  have k2' : (a.kind == 2) = false := beq_eq_false_iff_ne.2 k2
  rw [if_neg k2] at hR
  by_cases k3 : a.kind = 3
  · have k' : (a.kind == 3) = true := by simp [k3]
    rw [if_pos k3] at hR
    simp only [go_sem, kr', hto, k2', k']
    refine callC (hS hg he) rfl (by rw [← hto]; rfl) rfl rfl ?_
    cases hcl : cl d.files.length (topN (nmsOf d)) s with
    | none =>
      rw [hcl] at hR
      subst hR
      simp only [go_sem, Option.isSome_none, n4]
    | some l =>
      rw [hcl] at hR
      subst hR
      have hl8 : l.length ≤ 8 := by
        unfold cl at hcl
        split at hcl
        · cases hcl; simp
        · cases hcl
      have q5 : (1 + l.length) * 40 ≤ 140737488355328 := by omega
      have q6 : 1 + l.length ≤ 9223372036854775807 := by omega
      have q7 : 1 + l.length ≤ l.length + 1 := by omega
      have htk : ∀ x : List V, List.take (1 + l.length) (x :: en eW l) = x :: en eW l := fun x => List.take_of_length_le (by rw [List.length_cons, en_len]; omega)
      simp only [go_sem, Option.isSome_some, n0, a1, q5, q6, q7, htk, en_len]
      rfl
  have k3' : (a.kind == 3) = false := beq_eq_false_iff_ne.2 k3
  rw [if_neg k3] at hR
  by_cases kd : 2000 < a.data.size
  · have kd' : (a.data.size : Int) > 2000 := by omega
    rw [if_pos kd] at hR
    subst hR
    simp only [go_sem, kr', hto, k2', k3', kd']
  have kd' : ¬ (a.data.size : Int) > 2000 := by omega
  rw [if_neg kd] at hR
  have hsz := hg.size
  have g5 : IntKind.i64.wrap (s.size + 5) = s.size + 5 := wrap64 ⟨by omega, by omega⟩
  have g6 : IntKind.i64.wrap (s.size + 5 + (a.data.size : Int)) = s.size + 5 + a.data.size := wrap64 ⟨by omega, by omega⟩
  by_cases kn : s.next > 999999
  · rw [if_pos (.inl kn)] at hR
    subst hR
    simp only [go_sem, kr', hto, k2', k3', kd', kn]
  by_cases ks : s.size + 5 + (a.data.size : Int) > 8000
  · rw [if_pos (.inr ks)] at hR
    subst hR
    simp only [go_sem, kr', hto, k2', k3', kd', kn, g5, g6, ks]
  rw [if_neg (by omega)] at hR
  subst hR
  have hF := frameS_ok ⟨s.next, a.data⟩
  have hrec : recOk ⟨s.next, a.data⟩ = true := by
    simp only [recOk, Bool.and_eq_true, decide_eq_true_eq]
    omega
  rw [if_pos hrec] at hF
  simp only [go_sem, kr', hto, k2', k3', kd', kn, g5, g6, ks]
  refine callC hF rfl rfl rfl rfl ?_
  simp only [go_sem, a1]
  rfl
end Go.V
set_option linter.unusedSimpArgs false
set_option maxRecDepth 20000
namespace Go.V
open Go.Proofs
def ok99 := okF.gu (P := Tryz.prog) tab Tryz.func99 Tryz.ntmps99 (by conv => lhs; cbv) (by kernel_rfl)
set_option maxHeartbeats 4000000 in
set_option maxRecDepth 20000 in
theorem writesI_ok (d : Dk) (hD : DOk d) (a : LA) (ha : a.data.size ≤ 1048576) : ACallsF Tryz.prog 99 [tDk d, tLA a] [] (tWII (wr d a).1 (wr d a).2.1 (wr d a).2.2) := by
  have hO := opnI_ok d hD
  have hB := begin_ok d hD
  have hl := hD.f
  have hnn : ∀ x ∈ nmsOf d, x.size ≤ 1000000 := fun x hx => by
    obtain ⟨f, h1, rfl⟩ := List.mem_map.1 hx
    exact hD.nm f h1
  have hnl : (nmsOf d).length = d.files.length := List.length_map ..
  have hS := fun hg => closeI_ok (nmsOf d) (by omega) hnn (opn d) hg [⟨3, seg (opn d).plan.opn, e0⟩] (by simp) 55 2055
  rw [hnl] at hS
  have hM := fun hg => mendI_ok d hD (opn d) hg
  have hok := opn_ok hD
  generalize hR : wr d a = R
  unfold wr at hR
  generalize opn d = s at *
  have n1 : ((1 : Int) != 0) = true := rfl
  have n2 : ((2 : Int) != 0) = true := rfl
  have n21 : ((2 : Int) == 1) = false := rfl
  refine ACallsF.intro ok99 follows fun X c0 => ?_
  simp only [go_sem]
  refine callC hO rfl rfl rfl rfl ?_
  rcases hok with ⟨hc, hg, hnx, he, ho⟩ | rfl | rfl
  rotate_left
  · by_cases k : a.kind = 4
    · have k' : (a.kind == 4) = true := by simp [k]
      rw [if_pos ⟨rfl, k⟩] at hR
      subst hR
      simp only [go_sem, zLs]
      refine callC (seg_ok 0 ⟨by omega, by omega⟩) rfl rfl rfl rfl ?_
      simp only [go_sem, k']
      refine callC hB rfl rfl rfl rfl ?_
      simp only [go_sem]
    · have k' : (a.kind == 4) = false := beq_eq_false_iff_ne.2 k
      rw [if_neg (fun h => k h.2), if_pos (by simp [zLs])] at hR
      subst hR
      simp only [go_sem, zLs]
      refine callC (seg_ok 0 ⟨by omega, by omega⟩) rfl rfl rfl rfl ?_
      simp only [go_sem, k', n1]
  · rw [if_neg (by simp [zLs]), if_pos (by simp [zLs])] at hR
    subst hR
    simp only [go_sem, zLs]
    refine callC (seg_ok 0 ⟨by omega, by omega⟩) rfl rfl rfl rfl ?_
    simp only [go_sem, n21, n2]
  rw [if_neg (by omega), if_neg (by omega)] at hR
  obtain ⟨h5, h6, h7, h8, h9⟩ := planOk_ok hg.plan
  have hc1 : (s.code == 1) = false := by rw [hc]; rfl
  have hc0 : (s.code != 0) = false := by rw [hc]; rfl
  simp only [go_sem]
  refine callC (seg_ok s.plan.opn ⟨by omega, by omega⟩) rfl rfl rfl rfl ?_
  simp only [go_sem, hc1, hc0]
  refine callC (inRange_ok a.kind 1 4) rfl rfl rfl rfl ?_
  by_cases kr : 1 ≤ a.kind ∧ a.kind ≤ 4
  rotate_left
  · have kr' : (decide ((1 : Int) ≤ a.kind) && decide (a.kind ≤ 4)) = false := by
      rw [Bool.and_eq_false_iff, decide_eq_false_iff_not, decide_eq_false_iff_not]; omega
    rw [if_pos kr] at hR
    subst hR
    simp only [go_sem, kr']
  have kr' : (decide ((1 : Int) ≤ a.kind) && decide (a.kind ≤ 4)) = true := by
    rw [Bool.and_eq_true, decide_eq_true_eq, decide_eq_true_eq]; exact kr
  rw [if_neg (by omega)] at hR
  by_cases k4 : a.kind = 4
  · have k' : (a.kind == 4) = true := by simp [k4]
    rw [if_pos k4] at hR
    subst hR
    simp only [go_sem, kr', k']
    refine callC (hM hg) rfl rfl rfl rfl ?_
    simp only [go_sem]
  have k4' : (a.kind == 4) = false := beq_eq_false_iff_ne.2 k4
  rw [if_neg k4] at hR
  cases hto : s.torn with
  | true =>
    rw [if_pos hto] at hR
    subst hR
    simp only [go_sem, kr', k4', hto]
  | false =>
  rw [if_neg (by rw [hto]; decide)] at hR
  by_cases k2 : a.kind = 2
  · have k1' : (a.kind == 1) = false := by rw [k2]; rfl
    have k3' : (a.kind == 3) = false := by rw [k2]; rfl
    rw [if_pos k2] at hR
    subst hR
    simp only [go_sem, kr', k4', hto, k1', k3']
    refine callWz (m0 := 55) (m1 := 2055) (add0_ok 3 (seg s.plan.opn) e0 55 2055 _) rfl rfl rfl rfl (by decide) rfl ⟨rfl, ?_⟩
    simp only [go_sem]
    rfl
  rw [if_neg k2] at hR
  by_cases k3 : a.kind = 3
  · have k1' : (a.kind == 1) = false := by rw [k3]; rfl
    have k3' : (a.kind == 3) = true := by rw [k3]; rfl
    rw [if_pos k3] at hR
    simp only [go_sem, kr', k4', hto, k1', k3']
    refine callWz (m0 := 55) (m1 := 2055) (add0_ok 3 (seg s.plan.opn) e0 55 2055 _) rfl rfl rfl rfl (by decide) rfl ⟨rfl, ?_⟩
    simp only [go_sem]
    refine callC (fnames_ok d (by omega)) rfl rfl rfl rfl ?_
    simp only [go_sem]
    refine callWc (m0 := 55) (m1 := 2055) (hS hg _ _) rfl rfl rfl rfl (by decide) rfl (by simp) rfl ⟨?_, ?_⟩
    · simp only [go_sem]
    cases hcl : cl d.files.length (topN (nmsOf d)) s with
    | none =>
      rw [hcl] at hR
      subst hR
      simp only [go_sem, Option.isSome_none]
    | some l =>
      rw [hcl] at hR
      subst hR
      have htk : List.take (l.length + 1) (en eW (⟨3, seg s.plan.opn, e0⟩ :: l)) = en eW (⟨3, seg s.plan.opn, e0⟩ :: l) := List.take_of_length_le (by rw [en_len, List.length_cons]; exact Nat.le_refl _)
      simp only [go_sem, Option.isSome_some, htk, en_len]
  have k1 : a.kind = 1 := by omega
  have k1' : (a.kind == 1) = true := by rw [k1]; rfl
  rw [if_neg k3] at hR
  by_cases kd : 2000 < a.data.size
  · have kd' : (a.data.size : Int) > 2000 := by omega
    rw [if_pos kd] at hR
    subst hR
    simp only [go_sem, kr', k4', hto, k1', kd']
  have kd' : ¬ (a.data.size : Int) > 2000 := by omega
  rw [if_neg kd] at hR
  have hsz := hg.size
  have g5 : IntKind.i64.wrap (s.size + 5) = s.size + 5 := wrap64 ⟨by omega, by omega⟩
  have g6 : IntKind.i64.wrap (s.size + 5 + (a.data.size : Int)) = s.size + 5 + a.data.size := wrap64 ⟨by omega, by omega⟩
  by_cases kn : s.next > 999999
  · rw [if_pos (.inl kn)] at hR
    subst hR
    simp only [go_sem, kr', k4', hto, k1', kd', kn]
  by_cases ks : s.size + 5 + (a.data.size : Int) > 8000
  · rw [if_pos (.inr ks)] at hR
    subst hR
    simp only [go_sem, kr', k4', hto, k1', kd', kn, g5, g6, ks]
  rw [if_neg (by omega)] at hR
  subst hR
  simp only [go_sem, kr', k4', hto, k1', kd', kn, g5, g6, ks]
  refine callC (frameI_ok ⟨s.next, a.data⟩ ⟨by simp only; omega, by simp only; omega, by simp only; omega⟩) rfl rfl rfl rfl ?_
  simp only [go_sem]
  refine callWz (m0 := 55) (m1 := 2055) (add0_ok 2 (seg s.plan.opn) (frB ⟨s.next, a.data⟩) 55 2055 _) rfl rfl rfl rfl (by decide) rfl ⟨rfl, ?_⟩
  simp only [go_sem]
  rfl
end Go.V
set_option linter.unusedSimpArgs false
set_option maxRecDepth 20000
namespace Go.V
open Go.Proofs
/-! An act. -/
theorem linesL_le : ∀ (xs : List LP), (∀ x ∈ xs, i64 x.num ∧ i64 x.first ∧ i64 x.next ∧ i64 x.size) → (linesL xs).length ≤ 89 * xs.length
  | [], _ => Nat.le_refl _
  | x :: xs, h => by
    obtain ⟨h1, h2, h3, h4⟩ := h x (by simp)
    have ih := linesL_le xs fun y hy => h y (by simp [hy])
    have hj := joinB_le [x.num, x.first, x.next, x.size] wSeal (by simp; exact ⟨h1, h2, h3, h4⟩)
    have hs : wSeal.size = 4 := rfl
    have hn : (⟨#[10]⟩ : ByteArray).size = 1 := rfl
    have hl : (lineB x).data.toList.length ≤ 89 := by
      rw [Array.length_toList]
      show (lineB x).size ≤ 89
      rw [lineB, ByteArray.size_append, hn]
      simp only [List.length_cons, List.length_nil] at hj
      omega
    have e : linesL (x :: xs) = (lineB x).data.toList ++ linesL xs := rfl
    rw [e, List.length_append, List.length_cons]; omega
theorem planT_le {p : Pl} (hp : okPl p) : (planT p).size ≤ 89 * p.parts.length + 51 := by
  have h1 := linesL_le p.parts hp.part
  have hj := joinB_le [p.opn, p.first] wOpen (by simp; exact ⟨hp.opn, hp.first⟩)
  have hs : wOpen.size = 4 := rfl
  have hn : (⟨#[10, 101, 110, 100, 10]⟩ : ByteArray).size = 5 := rfl
  have hl : (endB p).data.toList.length ≤ 51 := by
    rw [Array.length_toList]
    show (endB p).size ≤ 51
    rw [endB, ByteArray.size_append, hn]
    simp only [List.length_cons, List.length_nil] at hj
    omega
  rw [planT, ofL_size, List.length_append]; omega
theorem name_fine (c : UInt8) {n : Int} (hn : 0 ≤ n ∧ n ≤ 1000000) : ((⟨#[c]⟩ : ByteArray) ++ dc n).size ≤ 1048576 := by
  have h1 := dc_le7 n hn
  have h2 : (⟨#[c]⟩ : ByteArray).size = 1 := rfl
  rw [ByteArray.size_append, h2]; omega
theorem e0_fine : e0.size ≤ 1048576 := by decide
theorem plL_fine {n : Int} (hn : 0 ≤ n ∧ n ≤ 1000000) {t : ByteArray} (ht : t.size ≤ 1048576) : ∀ w ∈ plL n t, fineDW w := fun w hw => by
  have h1 : (pln n).size ≤ 1048576 := name_fine 109 hn
  simp only [List.mem_cons, List.not_mem_nil, or_false] at hw
  rcases hw with rfl | rfl | rfl | rfl
  · exact ⟨h1, e0_fine⟩
  · exact ⟨h1, ht⟩
  · exact ⟨h1, e0_fine⟩
  · exact ⟨e0_fine, e0_fine⟩
theorem goneL_fine {d : Dk} (hD : DOk d) {ns : List ByteArray} (h : ∀ x ∈ ns, x ∈ th d) : ∀ w ∈ goneL ns, fineDW w := fun w hw => by
  obtain ⟨x, hx, rfl⟩ := List.mem_map.1 hw
  have := th_size hD (h x hx)
  exact ⟨by simp only; omega, e0_fine⟩
theorem cl_fine {n : Nat} {t : Int} {s : Ls} (hg : Gs s) (ht : 0 ≤ t) {l : List DW} (h : cl n t s = some l) : (∀ w ∈ l, fineDW w) ∧ l.length ≤ 8 := by
  unfold cl at h
  split at h
  · rename_i hc
    cases h
    have hp := planT_le (nxP_pl hg ⟨ht, hc.1⟩)
    have hl : (nxP s t).parts.length = s.plan.parts.length + 1 := by rw [nxP, List.length_append, List.length_singleton]
    have hnum := hg.num
    refine ⟨fun w hw => ?_, by simp⟩
    rcases List.mem_cons.1 hw with rfl | hw
    · exact ⟨name_fine 115 ⟨by omega, by omega⟩, e0_fine⟩
    · rcases List.mem_append.1 hw with hw | hw
      · exact plL_fine ⟨by omega, by omega⟩ (by omega) w hw
      · simp only [List.mem_cons, List.not_mem_nil, or_false] at hw
        rcases hw with rfl | rfl
        · exact ⟨name_fine 109 ⟨by omega, by omega⟩, e0_fine⟩
        · exact ⟨e0_fine, e0_fine⟩
  · cases h
theorem bi_fine {d : Dk} (hD : DOk d) : (∀ w ∈ (bi d).getD [], fineDW w) ∧ ((bi d).getD []).length ≤ 1100 := by
  have hl := th_len hD
  have ht := topN_le (nmsOf d)
  unfold bi
  split
  · rename_i hc
    have hp := planT_le (p := ⟨[], topN (nmsOf d) + 1, 1⟩) ⟨by simp, fun x hx => (by cases hx), ⟨by simp only; omega, by simp only; omega⟩, ⟨by simp only; omega, by simp only; omega⟩⟩
    simp only [List.length_nil] at hp
    refine ⟨fun w hw => ?_, by rw [Option.getD_some, List.length_append, goneL_len]; simp; omega⟩
    rcases List.mem_append.1 hw with hw | hw
    · exact goneL_fine hD (fun x hx => hx) w hw
    · rcases List.mem_cons.1 hw with rfl | hw
      · exact ⟨name_fine 115 ⟨by omega, by omega⟩, e0_fine⟩
      · exact plL_fine ⟨by omega, by omega⟩ (by omega) w hw
  · exact ⟨fun w hw => (by cases hw), by simp⟩
theorem md_fine {d : Dk} (hD : DOk d) {s : Ls} (hg : Gs s) : (∀ w ∈ (md d s).getD [], fineDW w) ∧ ((md d s).getD []).length ≤ 1100 := by
  obtain ⟨h5, h6, h7, h8, h9⟩ := planOk_ok hg.plan
  have hl := th_len hD
  have hm := mdL_len s (th d)
  have ht := topN_le (ours s)
  have base : ∀ w ∈ mdL s (th d) ++ [(⟨5, e0, e0⟩ : DW)], fineDW w := fun w hw => by
    rcases List.mem_append.1 hw with hw | hw
    · rcases List.mem_cons.1 hw with rfl | hw
      · exact ⟨name_fine 115 ⟨by omega, by omega⟩, e0_fine⟩
      · exact goneL_fine hD (fun x hx => (List.mem_filter.1 hx).1) w hw
    · simp only [List.mem_cons, List.not_mem_nil, or_false] at hw
      subst hw
      exact ⟨e0_fine, e0_fine⟩
  unfold md
  split
  · cases hc : cl (ours s).length (topN (ours s)) s with
    | none => exact ⟨fun w hw => (by cases hw), by simp⟩
    | some l =>
      obtain ⟨f1, f2⟩ := cl_fine hg ht.1 hc
      refine ⟨fun w hw => ?_, ?_⟩
      · rcases List.mem_append.1 hw with hw | hw
        · exact base w hw
        · exact f1 w hw
      · show ((mdL s (th d) ++ [(⟨5, e0, e0⟩ : DW)]) ++ l).length ≤ 1100
        rw [List.length_append, List.length_append, List.length_singleton]; omega
  · exact ⟨base, by rw [Option.getD_some, List.length_append, List.length_singleton]; omega⟩
theorem one_fine {w : DW} (h : fineDW w) : (∀ x ∈ [w], fineDW x) ∧ [w].length ≤ 1100 := ⟨fun x hx => (by rw [List.mem_singleton.1 hx]; exact h), by simp⟩
theorem nil_fine : (∀ x ∈ ([] : List DW), fineDW x) ∧ ([] : List DW).length ≤ 1100 := ⟨fun x hx => (by cases hx), by simp⟩
theorem wr_fine {d : Dk} (hD : DOk d) (a : LA) : (∀ w ∈ (wr d a).1, fineDW w) ∧ (wr d a).1.length ≤ 1100 := by
  unfold wr
  split
  · exact bi_fine hD
  split
  · exact nil_fine
  rename_i hc
  have hc0 : (opn d).code = 0 := Classical.byContradiction hc
  obtain ⟨hg, hnx⟩ : Gs (opn d) ∧ 1 ≤ (opn d).next := by
    rcases opn_ok hD with ⟨_, h, h2, _⟩ | h | h
    · exact ⟨h, h2⟩
    · rw [h] at hc0; cases hc0
    · rw [h] at hc0; cases hc0
  obtain ⟨h5, h6, h7, h8, h9⟩ := planOk_ok hg.plan
  have hseg : (seg (opn d).plan.opn).size ≤ 1048576 := name_fine 115 ⟨by omega, by omega⟩
  split
  · exact nil_fine
  split
  · exact md_fine hD hg
  split
  · exact nil_fine
  split
  · exact one_fine ⟨hseg, e0_fine⟩
  split
  · split
    · exact nil_fine
    · rename_i l hl
      obtain ⟨f1, f2⟩ := cl_fine hg (topN_le _).1 hl
      refine ⟨fun w hw => ?_, by rw [List.length_cons]; omega⟩
      rcases List.mem_cons.1 hw with rfl | hw
      · exact ⟨hseg, e0_fine⟩
      · exact f1 w hw
  split
  · exact nil_fine
  split
  · exact nil_fine
  rename_i hd _
  refine one_fine ⟨hseg, ?_⟩
  have h1 : ∀ p q r s t : Int, (pushB [p, q, r, s, t]).size = 5 := fun _ _ _ _ _ => rfl
  show (frB ⟨(opn d).next, a.data⟩).size ≤ 1048576
  rw [frB, ByteArray.size_append, h1]
  simp only; omega
def stepR (d : Dk) (a : LA) : Dk × Int × Int := if (wr d a).2.2 ≠ 0 then (d, 0, (wr d a).2.2) else ((goS a 0 d (wr d a).1).1, if (goS a 0 d (wr d a).1).2 = 0 then (wr d a).2.1 else 0, (goS a 0 d (wr d a).1).2)
abbrev StpR (d : Dk) (a : LA) (r : Dk × Int × Int) : Prop := (DOk d ∧ r = stepR d a) ∨ (¬ DOk d ∧ r = (⟨[], [], []⟩, 0, 7))
abbrev tDkII (r : Dk × Int × Int) : T := .tup [.agg [.v (.sl (en eF r.1.files)), .v (.sl (en eS r.1.names)), .v (.sl (en eM r.1.moves))], .one (.v (.s (.int .i64 r.2.1))), .one (.v (.s (.int .i64 r.2.2)))]
def ok10 := okF.gu (P := Tryz.prog) tab Tryz.func10 Tryz.ntmps10 (by conv => lhs; cbv) (by kernel_rfl)
def inv10 (r : Dk × Int) (p : Int) (ws : List DW) (a : LA) (i : Nat) (σ : St) : Prop := ∃ d, DOk d ∧ r = goS a i d (ws.drop i) ∧ (∃ u, σ.t 2 = .c (.ptr 2 u 0) ∧ σ.H 2 = some (.var u 29 (cDk d))) ∧ σ.t 7 = tL (en eW ws) ∧ σ.t 8 = .i p ∧
  (∃ u, σ.t 3 = .c (.ptr 3 u 0) ∧ σ.H 3 = some (.var u 32 [.v (.s (.int .i64 a.kind)), .v (.s (.string a.data)), .v (.s (.bool a.cuts)), .v (.s (.int .i64 a.after)), .v (.s (.int .i64 a.moves)), .v (.sl (en eI a.keep))])) ∧ (∃ u, σ.t 4 = .c (.ptr 4 u 0) ∧ σ.H 4 = some (.var u 29 [.nil0, .nil0, .nil0])) ∧ σ.t 10 = .i i
set_option maxRecDepth 20000 in
set_option maxHeartbeats 2000000 in
theorem stepS_ok (d : Dk) (a : LA) (hd : fineDk d) (ha : a.data.size ≤ 1048576) : ∃ r, StpR d a r ∧ ACallsF Tryz.prog 10 [tDk d, tLA a] [] (tDkII r) := by
  obtain ⟨b, hb, hC⟩ := okS_ok d hd
  by_cases hD : DOk d
  rotate_left
  · have hbf : b = false := by cases hq : b with | false => rfl | true => exact absurd (hb.1 hq) hD
    rw [hbf] at hC
    refine ⟨_, .inr ⟨hD, rfl⟩, ACallsF.intro ok10 follows fun X c0 => ?_⟩
    simp only [go_sem]
    refine callC hC rfl rfl rfl rfl ?_
    simp only [go_sem]
  rw [hb.2 hD] at hC
  refine ⟨_, .inl ⟨hD, rfl⟩, ?_⟩
  have hW := writesS_ok d hD a ha
  obtain ⟨hw, hwl⟩ := wr_fine hD a
  unfold stepR
  generalize wr d a = W at *
  obtain ⟨ws, p, wc⟩ := W
  simp only at hw hwl ⊢
  by_cases k : wc = 0
  rotate_left
  · have k' : (wc != 0) = true := bne_iff_ne.2 k
    rw [if_pos k]
    refine ACallsF.intro ok10 follows fun X c0 => ?_
    simp only [go_sem]
    refine callC hC rfl rfl rfl rfl ?_
    simp only [go_sem]
    refine callC hW rfl rfl rfl rfl ?_
    simp only [go_sem, k']
    refine callDk (ws := []) (ns := []) (copyDk_ok d hd.s 1001 1002 1003) rfl rfl rfl (by decide) ⟨rfl, ?_⟩
    simp only [go_sem]
  subst k
  rw [if_neg (by omega)]
  have n0 : ((0 : Int) != 0) = false := rfl
  generalize hrr : goS a 0 d ws = r
  refine ACallsF.intro ok10 follows fun X c0 => ?_
  simp only [go_sem]
  refine callC hC rfl rfl rfl rfl ?_
  simp only [go_sem]
  refine callC hW rfl rfl rfl rfl ?_
  simp only [go_sem, n0]
  refine AW.upto ws.length (inv10 r p ws a) ⟨d, hD, hrr.symm, ⟨_, rfl, rfl⟩, rfl, rfl, ⟨_, rfl, rfl⟩, ⟨_, rfl, rfl⟩, rfl⟩ fun i t H c hi h => ?_
  obtain ⟨d, hD, hg, ⟨u3, e3, eH3⟩, e1, e8p, ⟨u5, e5, eH5⟩, ⟨u6, e6, eH6⟩, e8⟩ := h
  simp only [T.c, T.i, tL] at e3 eH3 e1 e5 eH5 e6 eH6 e8 e8p
  have hd := hD.fine
  have eH5o := eH5
  by_cases hlt : i < ws.length
  · obtain ⟨w, hw1⟩ : ∃ w, ws[i]? = some w := ⟨_, List.getElem?_eq_getElem hlt⟩
    have ew := en_at eW hw1
    have k1 : (i : Int) < ws.length := by omega
    have gz : (0 : Int) ≤ i := by omega
    have gw : IntKind.i64.wrap ((i : Int) + 1) = ((i + 1 : Nat) : Int) := wrap64 (x := (i : Int) + 1) ⟨by omega, by omega⟩
    rw [drop_at hw1] at hg
    obtain ⟨q, hq, hCD⟩ := doS_ok d w hd (hw w (List.mem_of_getElem? hw1))
    have hq : q = doS d w := by
      rcases hq with ⟨_, h⟩ | ⟨h, _⟩
      · exact h
      · exact absurd hD h
    by_cases hcut : a.cuts = true ∧ (i : Int) ≥ a.after
    · have p1 := hcut.1
      have p2 := hcut.2
      have hg' : r = (cutD d a.moves a.keep, 6) := by rw [hg, goS, if_pos hcut]
      have n6 : ¬ (6 : Int) = 0 := by decide
      rw [hg']
      simp only [n6, if_false]
      simp only [go_sem, e3, eH3, e1, e5, eH5, e6, eH6, e8, en_len, k1, p1, p2]
      refine callC (cutS_ok d hD a.moves a.keep) rfl rfl rfl rfl ?_
      simp only [go_sem, e6, eH6]
    · have hg' : r = if q.2 = 0 then goS a (i + 1) q.1 (ws.drop (i + 1)) else (q.1, 4) := by rw [hg, goS, if_neg hcut, hq]
      have hDq : DOk q.1 := by rw [hq]; exact hD.step w
      obtain ⟨qd, qc⟩ := q
      by_cases h0 : qc = 0
      · subst h0
        rw [if_pos rfl] at hg'
        cases p1 : a.cuts with
        | false =>
          rw [p1] at eH5
          simp only [go_sem, e3, eH3, e1, e5, eH5, e6, eH6, e8, en_len, k1, gz, ew, eW]
          refine callC hCD rfl rfl rfl rfl ?_
          simp only [go_sem, e3, eH3, e1, e5, eH5, e6, eH6, e8, gw, n0]
          exact ⟨hlt, qd, hDq, hg', ⟨u3, e3, rfl⟩, e1, e8p, ⟨u5, e5, eH5o⟩, ⟨u6, e6, eH6⟩, rfl⟩
        | true =>
          have p2 : ¬ (i : Int) ≥ a.after := fun h => hcut ⟨p1, h⟩
          rw [p1] at eH5
          simp only [go_sem, e3, eH3, e1, e5, eH5, e6, eH6, e8, en_len, k1, gz, ew, eW, p2]
          refine callC hCD rfl rfl rfl rfl ?_
          simp only [go_sem, e3, eH3, e1, e5, eH5, e6, eH6, e8, gw, n0]
          exact ⟨hlt, qd, hDq, hg', ⟨u3, e3, rfl⟩, e1, e8p, ⟨u5, e5, eH5o⟩, ⟨u6, e6, eH6⟩, rfl⟩
      · rw [if_neg h0] at hg'
        have n0' : (qc != 0) = true := by simpa using h0
        have n4 : ¬ (4 : Int) = 0 := by decide
        rw [hg']
        simp only [n4, if_false]
        cases p1 : a.cuts with
        | false =>
          rw [p1] at eH5
          simp only [go_sem, e3, eH3, e1, e5, eH5, e6, eH6, e8, en_len, k1, gz, ew, eW]
          refine callC hCD rfl rfl rfl rfl ?_
          simp only [go_sem, e3, eH3, e1, e5, eH5, e6, eH6, e8, n0']
        | true =>
          have p2 : ¬ (i : Int) ≥ a.after := fun h => hcut ⟨p1, h⟩
          rw [p1] at eH5
          simp only [go_sem, e3, eH3, e1, e5, eH5, e6, eH6, e8, en_len, k1, gz, ew, eW, p2]
          refine callC hCD rfl rfl rfl rfl ?_
          simp only [go_sem, e3, eH3, e1, e5, eH5, e6, eH6, e8, n0']
  · have hi2 : i = ws.length := by omega
    subst hi2
    have k1 : ¬ (ws.length : Int) < ws.length := by omega
    rw [List.drop_length] at hg
    cases p1 : a.cuts with
    | true =>
      have hg' : r = (cutD d a.moves a.keep, 6) := by rw [hg, goS, if_pos p1]
      have n6 : ¬ (6 : Int) = 0 := by decide
      rw [hg']
      simp only [n6, if_false]
      rw [p1] at eH5
      simp only [go_sem, e3, eH3, e1, e5, eH5, e6, eH6, e8, en_len, k1]
      refine callC (cutS_ok d hD a.moves a.keep) rfl rfl rfl rfl ?_
      simp only [go_sem, e6, eH6]
    | false =>
      have hg' : r = (d, 0) := by rw [hg, goS, if_neg (by rw [p1]; decide)]
      rw [hg']
      simp only [if_true]
      rw [p1] at eH5
      simp only [go_sem, e3, eH3, e1, e5, eH5, e6, eH6, e8, en_len, k1]
      refine callDk (ws := []) (ns := []) (copyDk_ok d hd.s 1001 1002 1003) rfl rfl rfl (by decide) ⟨rfl, ?_⟩
      simp only [go_sem, e6, eH6, e8p]
end Go.V
set_option linter.unusedSimpArgs false
set_option maxRecDepth 20000
namespace Go.V
open Go.Proofs
abbrev oDkII (c1 v1 c2 v2 c3 v3 : Nat) (r : Dk × Int × Int) : T := .tup [oDk c1 v1 c2 v2 c3 v3 r.1, .one (.v (.s (.int .i64 r.2.1))), .one (.v (.s (.int .i64 r.2.2)))]
section
variable {P : Program} {t : Nat → T} {H : HMap} {c : Nat} {f : Opd} {args : List Opd} {fid : FuncId} {argsC : List T} {ws : List (Nat × Blk)} {ns : List Nat} {k : Nat} {d : Option Nat} {un : List Nat} {l : List AOper} {prev : List (Nat × List Nat × List Nat)} {K : St → Prop}
/-- A call that makes a disk's three arrays, and a number. -/
theorem callDkII {c1 c2 c3 m1 m2 m3 : Nat} {r : Dk × Int × Int} (hC : ACallsF P fid argsC (dkH c1 c2 c3 m1 m2 m3 r.1) (oDkII c1 0 c2 0 c3 0 r)) (hf : ev t f = .pt (.one (.fn fid []))) (hl : lendTs H argsC (args.map (ev t)) = some (argsC, ws, ns)) (ha : argsC.all closedA = true)
    (hcs : (c1 ≠ c2 ∧ c1 ≠ c3 ∧ c2 ≠ c3) ∧ m1 ≠ m2 ∧ m1 ≠ m3 ∧ m2 ≠ m3)
    (hk : chk prev un ⟨oDkII m1 (c + k) m2 (c + k) m3 (c + k) r, [(m1, .arr (c + k) true 3 92 (en eF r.1.files)), (m2, .arr (c + k) true 1 9 (en eS r.1.names)), (m3, .arr (c + k) true 2 94 (en eM r.1.moves))], ns ++ [m1, m2, m3], [m1, m2, m3]⟩ = true ∧
      DRun P l ((k, ns ++ [m1, m2, m3], [m1, m2, m3]) :: prev) K ⟨updD t d (oDkII m1 (c + k) m2 (c + k) m3 (c + k) r), upd (upd (upd H m1 (some (.arr (c + k) true 3 92 (en eF r.1.files)))) m2 (some (.arr (c + k) true 1 9 (en eS r.1.names)))) m3 (some (.arr (c + k) true 2 94 (en eM r.1.moves))), c⟩) :
    step P k d un (.call f args) l prev K t H c := by
  obtain ⟨⟨h1, h2, h3⟩, g1, g2, g3⟩ := hcs
  have N1 : renN (dkH c1 c2 c3 m1 m2 m3 r.1) c1 = some (newH c1 m1 3 92 (en eF r.1.files)) := by simp [renN]
  have N2 : renN (dkH c1 c2 c3 m1 m2 m3 r.1) c2 = some (newH c2 m2 1 9 (en eS r.1.names)) := by simp [renN, h1]
  have N3 : renN (dkH c1 c2 c3 m1 m2 m3 r.1) c3 = some (newH c3 m3 2 94 (en eM r.1.moves)) := by simp [renN, h2, h3]
  refine callF (r' := oDkII m1 (c + k) m2 (c + k) m3 (c + k) r) (ob := [(m1, .arr (c + k) true 3 92 (en eF r.1.files)), (m2, .arr (c + k) true 1 9 (en eS r.1.names)), (m3, .arr (c + k) true 2 94 (en eM r.1.moves))]) _ hC hf hl ha (by simp) (by simp [g1, g2, g3]) (by simp [h1, h2, h3]) ?_ ?_ ?_ ?_
  · simp only [quiet, List.all_cons, List.all_nil, flatB, en_flat eF eF_flat, en_flat eS eS_flat, en_flat eM eM_flat]; rfl
  · simp only [renOT, renOPs, renOP, renOs, renO, N1, N2, N3, Option.map_some, verOf]; rfl
  · simp only [renOBs, renOB, verOf]; rfl
  · simpa [updH] using hk
end
theorem stepR_len {d : Dk} (hD : DOk d) (a : LA) : (stepR d a).1.files.length ≤ 1000 ∧ (stepR d a).1.names.length ≤ 1000 ∧ (stepR d a).1.moves.length ≤ 1000 := by
  have l1 := hD.f
  have l2 := hD.n
  have l3 := hD.m
  unfold stepR
  split
  · exact ⟨by simp only; omega, by simp only; omega, by simp only; omega⟩
  · exact goS_len a _ 0 d hD
def ok48 := okF.gu (P := Tryz.prog) tab Tryz.func48 Tryz.ntmps48 (by conv => lhs; cbv) (by kernel_rfl)
set_option maxRecDepth 20000 in
set_option maxHeartbeats 1000000 in
theorem istep_ok (d : Dk) (a : LA) (hD : DOk d) (ha : a.data.size ≤ 1048576) (m1 m2 m3 : Nat) : ACallsF Tryz.prog 48 [tDk d, tLA a] (dkH 2101 2102 2103 m1 m2 m3 (stepR d a).1) (oDkII 2101 0 2102 0 2103 0 (stepR d a)) := by
  have hd := hD.fine
  obtain ⟨s1, s2, s3⟩ := stepR_len hD a
  have hcl := cloneDk_ok (stepR d a).1 ⟨by omega, by omega, by omega⟩ 2101 2102 2103
  have hW := writesI_ok d hD a ha
  obtain ⟨hw, hwl⟩ := wr_fine hD a
  have hG := writes_ok d (wr d a).1 a hD (by omega) hw
  unfold stepR at hcl ⊢
  generalize wr d a = W at *
  obtain ⟨ws, p, wc⟩ := W
  simp only at hw hwl hG hcl ⊢
  by_cases k : wc = 0
  rotate_left
  · have k' : (wc != 0) = true := bne_iff_ne.2 k
    rw [if_pos k] at hcl ⊢
    refine ACallsF.intro ok48 follows fun X c0 => ?_
    simp only [go_sem]
    refine callC hW rfl rfl rfl rfl ?_
    simp only [go_sem, k']
    refine callDk (ws := []) (ns := []) hcl rfl rfl rfl (by decide) ⟨rfl, ?_⟩
    simp only [go_sem, false_implies, and_self, imp_self]
  subst k
  rw [if_neg (by omega)] at hcl ⊢
  have n0 : ((0 : Int) != 0) = false := rfl
  generalize goS a 0 d ws = r at *
  obtain ⟨rd, rc⟩ := r
  simp only at hcl ⊢
  by_cases k : rc = 0
  · subst k
    rw [if_pos rfl]
    refine ACallsF.intro ok48 follows fun X c0 => ?_
    simp only [go_sem]
    refine callC hW rfl rfl rfl rfl ?_
    simp only [go_sem, n0]
    refine callC hG rfl rfl rfl rfl ?_
    simp only [go_sem, n0]
    refine callDk (ws := []) (ns := []) hcl rfl rfl rfl (by decide) ⟨rfl, ?_⟩
    simp only [go_sem, false_implies, and_self, imp_self]
  · have k' : (rc != 0) = true := bne_iff_ne.2 k
    rw [if_neg k]
    refine ACallsF.intro ok48 follows fun X c0 => ?_
    simp only [go_sem]
    refine callC hW rfl rfl rfl rfl ?_
    simp only [go_sem, n0]
    refine callC hG rfl rfl rfl rfl ?_
    simp only [go_sem, k']
    refine callDk (ws := []) (ns := []) hcl rfl rfl rfl (by decide) ⟨rfl, ?_⟩
    simp only [go_sem, false_implies, and_self, imp_self]
def ok11 := okF.gu (P := Tryz.prog) tab Tryz.func11 Tryz.ntmps11 (by conv => lhs; cbv) (by kernel_rfl)
end Go.V
